/- Contracts of the program's functions, proved by the framework (text MdTy), without conditions but those that each theorem states. -/
import Derived.Test.YtlmcdgbjbamdnaaMdTx
set_option linter.unusedVariables false
set_option linter.unusedSimpArgs false
set_option maxRecDepth 10000
namespace Go.Sym.Md
open Go Go.Sym Go.Sym.Sh

/-! ### Tokens as bytes -/
def putP (b : List UInt8) (t : TkS) : Nat → List UInt8
  | 0 => b
  | 1 => b ++ nn t.l
  | 2 => b ++ nn t.l ++ nn t.i
  | _ => b ++ nn t.l ++ nn t.i ++ nn t.e
def putT (b : List UInt8) (t : TkS) : List UInt8 := if okT t then putP b t 3 ++ codeC t.cs ++ numF t.tag.length ++ t.tag else b
theorem putP_len (b : List UInt8) (t : TkS) (k : Nat) : b.length ≤ (putP b t k).length ∧ (putP b t k).length ≤ b.length + 27 := by
  have h1 := nn_len t.l
  have h2 := nn_len t.i
  have h3 := nn_len t.e
  unfold putP
  split <;> (try simp only [List.length_append]) <;> (constructor <;> omega)
theorem codeC_len' (cs : List CV) : (codeC cs).length ≤ 10 + 50 * cs.length := by
  have hcl := codeC_length cs cs.length (Nat.le_refl _)
  rw [List.take_length] at hcl
  unfold codeC; exact hcl.2
theorem okT_facts {t : TkS} (h : okT t = true) : t.cs.length ≤ 8 ∧ t.tag.length = 32 ∧ headF t.l t.i t.e = true := by
  have h1 := okT_head h
  unfold okT at h
  simp only [Bool.and_eq_true, decide_eq_true_eq] at h
  exact ⟨h.2.1, h.2.2.2, h1⟩
theorem putT_len (b : List UInt8) (t : TkS) : (putT b t).length ≤ b.length + 600 := by
  unfold putT
  split
  · rename_i h
    obtain ⟨h1, h2, _⟩ := okT_facts h
    have h3 := putP_len b t 3
    have h4 := codeC_len' t.cs
    have h5 := numF_length t.tag.length
    have h6 := sz_le t.tag.length
    simp only [List.length_append]
    omega
  · omega

attribute [local irreducible] numF checkF hasF okC boundF numR textR readC putC codeC parseC tagF nn headF firstF chainF

theorem checkT_bad {t : TkS} (h : okT t = false) : checkT t = 1 := by unfold checkT; rw [h]; rfl
theorem checkT_good {t : TkS} (h : okT t = true) : checkT t = 0 := by unfold checkT; rw [h]; rfl

/-- token.Put, behind nothing -/
theorem c119n (b : List UInt8) (t : TkS) (hb : b.length ≤ 1000000) (hl : t.cs.length ≤ maxLen) (hn : b = []) : SCalls Proofs.Try.prog 119 [.s (.lf (.sl0)), vT t] [] (.s (.lf (.rob false false (putT b t)))) [] := by
  have hm : maxLen = 9223372036854775807 := rfl
  refine SCalls.intro tok Proofs.Try.func119 ?_
  conv => whnf
  refine CallK.mk' _ _ (c136n.free _ ⟨trivial, trivial⟩ trivial) ?_
  conv => whnf
  cases ho : okT t with
  | false =>
    refine CallK.mk' _ _ ((c160 t hl).free [some (obT t)] ⟨vT_free t, trivial⟩ trivial) ?_
    conv => whnf
    refine CaseB.of_true (by rw [checkT_bad ho]; rfl) ?_
    conv => whnf
    rw [show putT b t = b by unfold putT; rw [ho]; rfl]
    rw [hn]
    exact RetK.empty (WV.lf WL.sl0rob')
  | true =>
    obtain ⟨f1, f2, f3⟩ := okT_facts ho
    obtain ⟨h1, h2, h3, h4, h5, h6⟩ := headF_facts f3
    have hT : putT b t = putP b t 3 ++ codeC t.cs ++ numF t.tag.length ++ t.tag := by unfold putT; rw [ho]; rfl
    refine CallK.mk' _ _ ((c160 t hl).free [some (obT t)] ⟨vT_free t, trivial⟩ trivial) ?_
    conv => whnf
    refine CaseB.of_false (by rw [checkT_good ho]; rfl) ?_
    conv => whnf
    refine Or.inr ?_
    conv => whnf
    obtain ⟨zs, hzs⟩ : ∃ zs : List Int, [t.l, t.i, t.e] = zs := ⟨_, rfl⟩
    obtain ⟨P, hP⟩ : ∃ P, putP b t = P := ⟨_, rfl⟩
    have hP0 : P 0 = b := by rw [← hP]; rfl
    have hPs : ∀ k, k < 3 → P (k + 1) = P k ++ nn (zs.getD k 0) := fun k hk => by
      have : k = 0 ∨ k = 1 ∨ k = 2 := by omega
      rw [← hP, ← hzs]
      rcases this with rfl | rfl | rfl <;> rfl
    have hPl : ∀ k, (P k).length ≤ b.length + 27 := fun k => by rw [← hP]; exact (putP_len b t k).2
    have hz : ∀ k, k < 3 → zs.getD k 0 ≤ 9223372036854775807 := fun k hk => by
      have : k = 0 ∨ k = 1 ∨ k = 2 := by omega
      rw [← hzs]
      rcases this with rfl | rfl | rfl
      · show t.l ≤ _; omega
      · show t.i ≤ _; omega
      · show t.e ≤ _; omega
    rw [hP] at hT
    have hrow : ∀ (H : Hp), okF H (.s (.lf (.ro true true 1 3 fun (i_1 : Nat) (_ : Nat) => LV.int IntKind.i64 (zs.getD i_1 0)))) := fun H i hi j hj => trivial
    have hrowf : freeF (.s (.lf (.ro true true 1 3 fun (i_1 : Nat) (_ : Nat) => LV.int IntKind.i64 (zs.getD i_1 0)))) := fun i hi j hj => trivial
    rw [hzs]
    refine LoopK.mk2 (fun (k : Nat) (e : Bool) => match e with
        | true => [(21, vI k), (20, vI 3), (19, .s (.lf (.ro true true 1 3 fun (i_1 : Nat) (_ : Nat) => LV.int IntKind.i64 (zs.getD i_1 0)))), (0, .s (.lf .sl0)), (3, .s (.lf (.ptr 0 0)))]
        | false => [(21, vI k), (20, vI 3), (19, .s (.lf (.ro true true 1 3 fun (i_1 : Nat) (_ : Nat) => LV.int IntKind.i64 (zs.getD i_1 0)))), (0, .s (.lf (.own 1 0 1 0 (P k).length))), (3, .s (.lf (.ptr 0 0)))])
      (fun k e => match e with
        | true => [some (obT t)]
        | false => [some (obT t), some ⟨5, [.bytes (P k).length (P k)]⟩]) (fun k e => k ≤ 3 ∧ (e = true → k = 0)) (fun k e => 3 - k) 0 true ⟨by omega, fun _ => rfl⟩ ?_ ?_
    · exact Weak.of ⟨rfl, obT_ws t, trivial⟩ (by simp) ⟨okF.wv trivial, okF.wv trivial, okF.wv (hrow _), okF.wv trivial, okF.wv rfl, trivial⟩
    rintro k e ⟨hk, he⟩
    cases e with
    | true =>
      conv => whnf
      obtain hk0' := he rfl
      have hl' : k < 3 := by omega
      refine CaseB.of_true (decide_eq_true (by omega)) ?_
      conv => whnf
      refine And.intro (by omega) ?_
      conv => whnf
      have hk0 : zs.getD (Int.toNat (k : Int)) 0 = zs.getD k 0 := by rw [Int.toNat_natCast]
      rw [hk0]
      have hps := hPs k hl'
      have hpl := hPl k
      have hzk := hz k hl'
      obtain ⟨z, hz'⟩ : ∃ z, zs.getD k 0 = z := ⟨_, rfl⟩
      rw [hz'] at hps hzk ⊢
      obtain rfl := he rfl
      refine CallK.mk' (.s (.lf (.own 1 0 1 0 (P (0 + 1)).length))) _ ((c137z [] z hzk (by simp)).madeL (cs := [.s (.lf .sl0), vI z]) (fun _ => False) [some (obT t)] (Hn := [some ⟨5, [.bytes (P (0 + 1)).length (P (0 + 1))]⟩]) ⟨WV.lf WL.sl0rob', freeF.wv trivial, trivial⟩ (WV.lf (WL.uown rfl rfl (by rw [hps, hP0, hn]))) ⟨rfl, ⟨.bytes (by rw [hps, hP0, hn]) fun _ _ => by rw [hps, hP0, hn], trivial⟩, trivial⟩) ?_
      conv => whnf
      refine ⟨(0 + 1, false), ⟨by show 0 + 1 ≤ 3; omega, fun h => by simp at h⟩, by show 3 - (0 + 1) < 3 - 0; omega, ?_⟩
      exact Weak.of ⟨rfl, obT_ws t, rfl, ⟨.bytes rfl fun _ _ => rfl, trivial⟩, trivial⟩ (by simp) ⟨WV.lf (WL.int (by rw [wrap_i64 (by omega) (by omega)]; rfl)), okF.wv trivial, okF.wv (hrow _), WV.lf (WL.own rfl rfl rfl rfl), okF.wv rfl, trivial⟩
    | false =>
      conv => whnf
      by_cases hl' : k < 3
      · refine CaseB.of_true (decide_eq_true (by omega)) ?_
        conv => whnf
        refine And.intro (by omega) ?_
        conv => whnf
        have hk0 : zs.getD (Int.toNat (k : Int)) 0 = zs.getD k 0 := by rw [Int.toNat_natCast]
        rw [hk0]
        have hps := hPs k hl'
        have hpl := hPl k
        have hzk := hz k hl'
        obtain ⟨z, hz'⟩ : ∃ z, zs.getD k 0 = z := ⟨_, rfl⟩
        rw [hz'] at hps hzk ⊢
        refine CallK.mk' (.s (.lf (.own 2 0 1 0 (P (k + 1)).length))) _ ((c137z (P k) z hzk (by omega)).madeL (cs := [.s (.lf (.own 1 0 1 0 (P k).length)), vI z]) (fun _ => False) [some (obT t), some ⟨5, [.bytes (P k).length (P k)]⟩] (Hn := [some ⟨5, [.bytes (P (k + 1)).length (P (k + 1))]⟩]) ⟨WV.lf (WL.lent (ty := 5) rfl rfl ⟨fun h => h, fun i ob h => by simp at h⟩), freeF.wv trivial, trivial⟩ (WV.lf (WL.uown rfl rfl (by rw [hps]))) ⟨rfl, ⟨.bytes (by rw [hps]) fun _ _ => by rw [hps], trivial⟩, trivial⟩) ?_
        conv => whnf
        refine ⟨(k + 1, false), ⟨by show k + 1 ≤ 3; omega, fun h => by simp at h⟩, by show 3 - (k + 1) < 3 - k; omega, ?_⟩
        exact Weak.perm [0, 2] ⟨⟨rfl, obT_ws t⟩, ⟨rfl, .bytes rfl fun _ _ => rfl, trivial⟩, trivial⟩ ⟨WV.lf (WL.int (by rw [wrap_i64 (by omega) (by omega)]; show (k : Int) + 1 = ((k + 1 : Nat) : Int); omega)), freeF.wv trivial, freeF.wv hrowf, WV.lf (WL.own rfl rfl rfl rfl), WV.lf (WL.ptr rfl rfl), trivial⟩ rfl (by simp) rfl (by simp)
      · refine CaseB.of_false (decide_eq_false (by omega)) ?_
        conv => whnf
        obtain rfl : k = 3 := by omega
        have hpl := hPl 3
        have hcl := codeC_len' t.cs
        refine CallK.mk' _ _ ((c60 t.cs (by omega)).pure [some (obT t), some ⟨5, [.bytes (P 3).length (P 3)]⟩] (rc := .s (.lf (.rob true false (codeC t.cs)))) (freeFs.wvs ⟨rowC_free, trivial⟩) (WV.lf (WL.rob rfl (by simp) (by simp)))) ?_
        conv => whnf
        refine And.intro ⟨rfl, rfl, by rw [List.length_append]; omega⟩ ?_
        conv => whnf
        refine CallK.mk' (.s (.lf (.own 3 0 1 0 (P 3 ++ codeC t.cs ++ numF t.tag.length ++ t.tag).length))) _ ((c138 (P 3 ++ codeC t.cs) t.tag (by omega) (by rw [List.length_append]; omega)).madeL (cs := [.s (.lf (.own 2 0 1 0 (P 3 ++ codeC t.cs).length)), .s (.lf (.str t.tag))]) (fun _ => False) [some (obT t), none, some ⟨5, [.bytes (P 3 ++ codeC t.cs).length (P 3 ++ codeC t.cs)]⟩] (Hn := [some ⟨5, [.bytes (P 3 ++ codeC t.cs ++ numF t.tag.length ++ t.tag).length (P 3 ++ codeC t.cs ++ numF t.tag.length ++ t.tag)]⟩]) ⟨WV.lf (WL.lent (ty := 5) rfl rfl ⟨fun h => h, fun i ob h => by simp at h⟩), freeF.wv trivial, trivial⟩ (WV.lf (WL.uown rfl rfl rfl)) ⟨rfl, ⟨.bytes rfl fun _ _ => rfl, trivial⟩, trivial⟩) ?_
        conv => whnf
        rw [hT]
        exact RetK.empty (WV.lf (WL.lent (ty := 5) rfl rfl (gone_none fun h => h)))

/-- token.Put -/
theorem c119 (b : List UInt8) (t : TkS) (hb : b.length ≤ 1000000) (hl : t.cs.length ≤ maxLen) : SCalls Proofs.Try.prog 119 [.s (.lf (.rob true false b)), vT t] [] (.s (.lf (.rob false false (putT b t)))) [] := by
  have hm : maxLen = 9223372036854775807 := rfl
  refine SCalls.intro tok Proofs.Try.func119 ?_
  conv => whnf
  refine CallK.mk' (.s (.lf (.own 1 0 1 0 b.length))) _ ((c136 b (by omega)).made [some (obT t)] (Hn := [some ⟨5, [.bytes b.length b]⟩]) ⟨freeF.wv trivial, trivial⟩ (WV.lf (WL.uown rfl rfl rfl)) ⟨rfl, ⟨.bytes rfl fun _ _ => rfl, trivial⟩, trivial⟩) ?_
  conv => whnf
  cases ho : okT t with
  | false =>
    refine CallK.mk' _ _ ((c160 t hl).free [some (obT t), some ⟨5, [.bytes b.length b]⟩] ⟨vT_free t, trivial⟩ trivial) ?_
    conv => whnf
    refine CaseB.of_true (by rw [checkT_bad ho]; rfl) ?_
    conv => whnf
    rw [show putT b t = b by unfold putT; rw [ho]; rfl]
    exact RetK.empty (WV.lf (WL.lent (ty := 5) rfl rfl (gone_none fun h => h)))
  | true =>
    obtain ⟨f1, f2, f3⟩ := okT_facts ho
    obtain ⟨h1, h2, h3, h4, h5, h6⟩ := headF_facts f3
    have hT : putT b t = putP b t 3 ++ codeC t.cs ++ numF t.tag.length ++ t.tag := by unfold putT; rw [ho]; rfl
    refine CallK.mk' _ _ ((c160 t hl).free [some (obT t), some ⟨5, [.bytes b.length b]⟩] ⟨vT_free t, trivial⟩ trivial) ?_
    conv => whnf
    refine CaseB.of_false (by rw [checkT_good ho]; rfl) ?_
    conv => whnf
    refine Or.inr ?_
    conv => whnf
    obtain ⟨zs, hzs⟩ : ∃ zs : List Int, [t.l, t.i, t.e] = zs := ⟨_, rfl⟩
    obtain ⟨P, hP⟩ : ∃ P, putP b t = P := ⟨_, rfl⟩
    have hP0 : P 0 = b := by rw [← hP]; rfl
    have hPs : ∀ k, k < 3 → P (k + 1) = P k ++ nn (zs.getD k 0) := fun k hk => by
      have : k = 0 ∨ k = 1 ∨ k = 2 := by omega
      rw [← hP, ← hzs]
      rcases this with rfl | rfl | rfl <;> rfl
    have hPl : ∀ k, (P k).length ≤ b.length + 27 := fun k => by rw [← hP]; exact (putP_len b t k).2
    have hz : ∀ k, k < 3 → zs.getD k 0 ≤ 9223372036854775807 := fun k hk => by
      have : k = 0 ∨ k = 1 ∨ k = 2 := by omega
      rw [← hzs]
      rcases this with rfl | rfl | rfl
      · show t.l ≤ _; omega
      · show t.i ≤ _; omega
      · show t.e ≤ _; omega
    rw [hP] at hT
    have hrow : ∀ (H : Hp), okF H (.s (.lf (.ro true true 1 3 fun (i_1 : Nat) (_ : Nat) => LV.int IntKind.i64 (zs.getD i_1 0)))) := fun H i hi j hj => trivial
    have hrowf : freeF (.s (.lf (.ro true true 1 3 fun (i_1 : Nat) (_ : Nat) => LV.int IntKind.i64 (zs.getD i_1 0)))) := fun i hi j hj => trivial
    rw [hzs]
    refine LoopK.mk2 (fun (k : Nat) (e : Bool) => [(21, vI k), (20, vI 3), (19, .s (.lf (.ro true true 1 3 fun (i_1 : Nat) (_ : Nat) => LV.int IntKind.i64 (zs.getD i_1 0)))), (0, .s (.lf (.own 1 0 1 0 (P k).length))), (3, .s (.lf (.ptr 0 0)))])
      (fun k e => [some (obT t), some ⟨5, [.bytes (P k).length (P k)]⟩]) (fun k e => k ≤ 3 ∧ e = false) (fun k e => 3 - k) 0 false ⟨by omega, rfl⟩ ?_ ?_
    · exact Weak.of ⟨rfl, obT_ws t, rfl, ⟨.bytes (by rw [hP0]) fun _ _ => by rw [hP0], trivial⟩, trivial⟩ (by simp) ⟨okF.wv trivial, okF.wv trivial, okF.wv (hrow _), WV.lf (WL.own rfl rfl rfl (by rw [hP0])), okF.wv rfl, trivial⟩
    rintro k e ⟨hk, rfl⟩
    conv => whnf
    by_cases hl' : k < 3
    · refine CaseB.of_true (decide_eq_true (by omega)) ?_
      conv => whnf
      refine And.intro (by omega) ?_
      conv => whnf
      have hk0 : zs.getD (Int.toNat (k : Int)) 0 = zs.getD k 0 := by rw [Int.toNat_natCast]
      rw [hk0]
      have hps := hPs k hl'
      have hpl := hPl k
      have hzk := hz k hl'
      obtain ⟨z, hz'⟩ : ∃ z, zs.getD k 0 = z := ⟨_, rfl⟩
      rw [hz'] at hps hzk ⊢
      refine CallK.mk' (.s (.lf (.own 2 0 1 0 (P (k + 1)).length))) _ ((c137z (P k) z hzk (by omega)).madeL (cs := [.s (.lf (.own 1 0 1 0 (P k).length)), vI z]) (fun _ => False) [some (obT t), some ⟨5, [.bytes (P k).length (P k)]⟩] (Hn := [some ⟨5, [.bytes (P (k + 1)).length (P (k + 1))]⟩]) ⟨WV.lf (WL.lent (ty := 5) rfl rfl ⟨fun h => h, fun i ob h => by simp at h⟩), freeF.wv trivial, trivial⟩ (WV.lf (WL.uown rfl rfl (by rw [hps]))) ⟨rfl, ⟨.bytes (by rw [hps]) fun _ _ => by rw [hps], trivial⟩, trivial⟩) ?_
      conv => whnf
      refine ⟨(k + 1, false), ⟨by show k + 1 ≤ 3; omega, rfl⟩, by show 3 - (k + 1) < 3 - k; omega, ?_⟩
      exact Weak.perm [0, 2] ⟨⟨rfl, obT_ws t⟩, ⟨rfl, .bytes rfl fun _ _ => rfl, trivial⟩, trivial⟩ ⟨WV.lf (WL.int (by rw [wrap_i64 (by omega) (by omega)]; show (k : Int) + 1 = ((k + 1 : Nat) : Int); omega)), freeF.wv trivial, freeF.wv hrowf, WV.lf (WL.own rfl rfl rfl rfl), WV.lf (WL.ptr rfl rfl), trivial⟩ rfl (by simp) rfl (by simp)
    · refine CaseB.of_false (decide_eq_false (by omega)) ?_
      conv => whnf
      obtain rfl : k = 3 := by omega
      have hpl := hPl 3
      have hcl := codeC_len' t.cs
      refine CallK.mk' _ _ ((c60 t.cs (by omega)).pure [some (obT t), some ⟨5, [.bytes (P 3).length (P 3)]⟩] (rc := .s (.lf (.rob true false (codeC t.cs)))) (freeFs.wvs ⟨rowC_free, trivial⟩) (WV.lf (WL.rob rfl (by simp) (by simp)))) ?_
      conv => whnf
      refine And.intro ⟨rfl, rfl, by rw [List.length_append]; omega⟩ ?_
      conv => whnf
      refine CallK.mk' (.s (.lf (.own 3 0 1 0 (P 3 ++ codeC t.cs ++ numF t.tag.length ++ t.tag).length))) _ ((c138 (P 3 ++ codeC t.cs) t.tag (by omega) (by rw [List.length_append]; omega)).madeL (cs := [.s (.lf (.own 2 0 1 0 (P 3 ++ codeC t.cs).length)), .s (.lf (.str t.tag))]) (fun _ => False) [some (obT t), none, some ⟨5, [.bytes (P 3 ++ codeC t.cs).length (P 3 ++ codeC t.cs)]⟩] (Hn := [some ⟨5, [.bytes (P 3 ++ codeC t.cs ++ numF t.tag.length ++ t.tag).length (P 3 ++ codeC t.cs ++ numF t.tag.length ++ t.tag)]⟩]) ⟨WV.lf (WL.lent (ty := 5) rfl rfl ⟨fun h => h, fun i ob h => by simp at h⟩), freeF.wv trivial, trivial⟩ (WV.lf (WL.uown rfl rfl rfl)) ⟨rfl, ⟨.bytes rfl fun _ _ => rfl, trivial⟩, trivial⟩) ?_
      conv => whnf
      rw [hT]
      exact RetK.empty (WV.lf (WL.lent (ty := 5) rfl rfl (gone_none fun h => h)))


/-- baileyref08.Put -/
theorem c120 (b : List UInt8) (t : TkS) (hb : b.length ≤ 1000000) (hl : t.cs.length ≤ maxLen) : SCalls Proofs.Try.prog 120 [.s (.lf (.rob false false b)), vT t] [] (.s (.lf (.rob false false (putT b t)))) [] := by
  have hm : maxLen = 9223372036854775807 := rfl
  refine SCalls.intro tok Proofs.Try.func120 ?_
  conv => whnf
  refine CallK.mk' _ _ ((c167 t hl).free [some (obT t)] ⟨vT_free t, trivial⟩ trivial) ?_
  conv => whnf
  cases ho : okT t with
  | false =>
    refine CaseB.of_true (by rw [checkT_bad ho]; rfl) ?_
    conv => whnf
    rw [show putT b t = b by unfold putT; rw [ho]; rfl]
    cases b with
    | nil =>
      conv => whnf
      exact RetK.empty (WV.lf WL.sl0rob')
    | cons x b =>
      conv => whnf
      refine And.intro (by omega) ?_
      conv => whnf
      exact RetK.empty (WV.lf (WL.lent (ty := 5) rfl rfl (gone_none fun h => h)))
  | true =>
    obtain ⟨f1, f2, f3⟩ := okT_facts ho
    obtain ⟨h1, h2, h3, h4, h5, h6⟩ := headF_facts f3
    have hT : putT b t = b ++ nn t.l ++ nn t.i ++ nn t.e ++ codeC t.cs ++ numF t.tag.length ++ t.tag := by unfold putT; rw [ho]; rfl
    have q1 := (putP_len b t 1).2
    have q2 := (putP_len b t 2).2
    have q3 := (putP_len b t 3).2
    change (b ++ nn t.l).length ≤ _ at q1
    change (b ++ nn t.l ++ nn t.i).length ≤ _ at q2
    change (b ++ nn t.l ++ nn t.i ++ nn t.e).length ≤ _ at q3
    have hcl := codeC_len' t.cs
    obtain ⟨b1, hb1⟩ : ∃ b1, b ++ nn t.l = b1 := ⟨_, rfl⟩
    obtain ⟨b2, hb2⟩ : ∃ b2, b1 ++ nn t.i = b2 := ⟨_, rfl⟩
    obtain ⟨b3, hb3⟩ : ∃ b3, b2 ++ nn t.e = b3 := ⟨_, rfl⟩
    have k1 := c133z b t.l (by omega) (by omega)
    rw [hb1] at k1 q1 q2 q3 hT
    rw [hb2] at q2 q3 hT
    rw [hb3] at q3 hT
    have k2 := c133z b1 t.i (by omega) (by omega)
    have k3 := c133z b2 t.e (by omega) (by omega)
    rw [hb2] at k2
    rw [hb3] at k3
    have l1 := k1.made [some (obT t)] (Hn := [some ⟨5, [.bytes b1.length b1]⟩]) (rc := .s (.lf (.own 1 0 1 0 b1.length))) (freeFs.wvs ⟨trivial, trivial, trivial⟩) (WV.lf (WL.uown rfl rfl rfl)) ⟨rfl, ⟨.bytes rfl fun _ _ => rfl, trivial⟩, trivial⟩
    have l2 := k2.madeL (cs := [.s (.lf (.own 1 0 1 0 b1.length)), vI t.i]) (fun _ => False) [some (obT t), some ⟨5, [.bytes b1.length b1]⟩] (Hn := [some ⟨5, [.bytes b2.length b2]⟩]) (rc := .s (.lf (.own 2 0 1 0 b2.length))) ⟨WV.lf (WL.lent (ty := 5) rfl rfl ⟨fun h => h, fun i ob h => by simp at h⟩), freeF.wv trivial, trivial⟩ (WV.lf (WL.uown rfl rfl rfl)) ⟨rfl, ⟨.bytes rfl fun _ _ => rfl, trivial⟩, trivial⟩
    have l3 := k3.madeL (cs := [.s (.lf (.own 2 0 1 0 b2.length)), vI t.e]) (fun _ => False) [some (obT t), some ⟨5, [.bytes b1.length b1]⟩, some ⟨5, [.bytes b2.length b2]⟩] (Hn := [some ⟨5, [.bytes b3.length b3]⟩]) (rc := .s (.lf (.own 3 0 1 0 b3.length))) ⟨WV.lf (WL.lent (ty := 5) rfl rfl ⟨fun h => h, fun i ob h => by simp at h⟩), freeF.wv trivial, trivial⟩ (WV.lf (WL.uown rfl rfl rfl)) ⟨rfl, ⟨.bytes rfl fun _ _ => rfl, trivial⟩, trivial⟩
    have l4 := (c61 t.cs (by omega)).pure [some (obT t), some ⟨5, [.bytes b1.length b1]⟩, some ⟨5, [.bytes b2.length b2]⟩, some ⟨5, [.bytes b3.length b3]⟩] (rc := .s (.lf (.rob true false (codeC t.cs)))) (freeFs.wvs ⟨rowC_free, trivial⟩) (WV.lf (WL.rob rfl (by simp) (by simp)))
    have l5 := (c139 (b3 ++ codeC t.cs) t.tag (by omega) (by rw [List.length_append]; omega)).madeL (cs := [.s (.lf (.own 4 0 1 0 (b3 ++ codeC t.cs).length)), .s (.lf (.str t.tag))]) (fun _ => False) [some (obT t), some ⟨5, [.bytes b1.length b1]⟩, some ⟨5, [.bytes b2.length b2]⟩, none, some ⟨5, [.bytes (b3 ++ codeC t.cs).length (b3 ++ codeC t.cs)]⟩] (Hn := [some ⟨5, [.bytes (b3 ++ codeC t.cs ++ numF t.tag.length ++ t.tag).length (b3 ++ codeC t.cs ++ numF t.tag.length ++ t.tag)]⟩]) (rc := .s (.lf (.own 5 0 1 0 (b3 ++ codeC t.cs ++ numF t.tag.length ++ t.tag).length))) ⟨WV.lf (WL.lent (ty := 5) rfl rfl ⟨fun h => h, fun i ob h => by simp at h⟩), freeF.wv trivial, trivial⟩ (WV.lf (WL.uown rfl rfl rfl)) ⟨rfl, ⟨.bytes rfl fun _ _ => rfl, trivial⟩, trivial⟩
    refine CaseB.of_false (by rw [checkT_good ho]; rfl) ?_
    conv => whnf
    refine DrawK.mk1 tok mixed [0, 0, 2, 7, 0, 16, 63, 0, 128, 511, 1023] [(0, 0, []), (1, 1, [0]), (2, 1, [0]), (3, 2, []), (4, 1, [0, 1]), (5, 1, [0, 1]), (6, 2, []), (7, 1, [0, 1, 2]), (8, 1, [0, 1, 2]), (9, 2, []), (10, 0, [])] (by kernel_rfl) ?_
    conv => whnf
    repeat ((first | refine CallK.mk' _ _ l1 ?_ | refine CallK.mk' _ _ l2 ?_ | refine CallK.mk' _ _ l3 ?_ | refine And.intro rfl ?_); conv => whnf)
    refine DrawK.mk1 tok mixed [0, 0, 2, 6, 15, 0, 32, 127, 255] [(0, 0, []), (1, 1, [0]), (2, 1, [0]), (3, 1, [0]), (4, 2, []), (5, 1, [0, 1]), (6, 1, [0, 1]), (7, 2, []), (8, 0, [])] (by kernel_rfl) ?_
    conv => whnf
    repeat ((first | refine CallR.mk' _ l4 ?_ | refine And.intro rfl ?_); conv => whnf)
    refine And.intro ⟨rfl, rfl, by rw [List.length_append]; omega⟩ ?_
    conv => whnf
    repeat ((first | refine CallK.mk' _ _ l5 ?_ | refine And.intro rfl ?_); conv => whnf)
    rw [hT]
    exact RetK.empty (WV.lf (WL.lent (ty := 5) rfl rfl (gone_none fun h => h)))
end Go.Sym.Md

set_option linter.unusedVariables false
set_option linter.unusedSimpArgs false
set_option maxRecDepth 10000
namespace Go.Sym.Md
open Go Go.Sym Go.Sym.Sh

/-! ### Tokens are read -/
def tailT (t : TkS) (r : Rd) : TkS × Rd := if r.e ≠ 0 then (tk0, r) else if okT t then (t, r) else (tk0, ⟨[], 3⟩)
def readT (r : Rd) : TkS × Rd :=
  let r1 := (numR r 4).2
  let r2 := (numR r1 2147483648).2
  let r3 := (numR r2 2147483648).2
  let r4 := (allC r3).2
  tailT ⟨(numR r 4).1, (numR r1 2147483648).1, (numR r2 2147483648).1, keptC (allC r3), (textR r4 32).1⟩ (textR r4 32).2

theorem readT_ok {r : Rd} (h : r.ok) : (readT r).2.ok := by
  have h5 := textR_ok (allC_ok (numR_ok (numR_ok (numR_ok h 4) 2147483648) 2147483648)) 32
  unfold readT tailT
  simp only []
  split
  · exact h5
  · split
    · exact h5
    · exact ⟨fun _ => rfl, by show IntKind.i64.min ≤ 3; decide, by show (3 : Int) ≤ IntKind.i64.max; decide, by simp⟩
theorem keptC_len {r : Rd} (h : r.ok) : (keptC (allC r)).length ≤ 8 := by
  have := allC_len h
  unfold keptC
  split
  · simp
  · exact this

attribute [local irreducible] numF checkF hasF okC boundF numR textR readC putC codeC parseC tagF nn headF firstF chainF

theorem frRT {f : FuncId} {l : List FV} {a b : Rd} {ret : FV} (T : Hp) (h : SCalls Proofs.Try.prog f (.s (.lf (.ptr 0 0)) :: l) [some (obR a)] ret [some (obR b)]) (hl : freeFs l) (hr : freeF ret) : SCalls Proofs.Try.prog f (.s (.lf (.ptr 0 0)) :: l) (some (obR a) :: T) ret (some (obR b) :: T) := frR T h hl hr

/-- token.caveats -/
theorem c182 (r : Rd) (hr : r.ok) : SCalls Proofs.Try.prog 182 [.s (.lf (.ptr 0 0))] [some (obR r)] (.s (.lf (vRl (keptC (allC r))))) [some (obR (allC r).2)] := by
  have hn8 := numR_range hr 8
  have hno := numR_ok hr 8
  have h140 := c140 r 8 hr
  obtain ⟨n, hn⟩ : ∃ n : Nat, (numR r 8).1 = n := ⟨(numR r 8).1.toNat, by omega⟩
  obtain ⟨r1, hr1⟩ : ∃ r1, (numR r 8).2 = r1 := ⟨_, rfl⟩
  have hA : allC r = readsC n r1 := by unfold allC; rw [hn, hr1, Int.toNat_natCast]
  have hz1 := numR_err (r := r) (m := 8)
  rw [hr1, hn] at hz1
  rw [hn, hr1] at h140
  rw [hr1] at hno
  rw [hn] at hn8
  rw [hA]
  refine SCalls.intro tok Proofs.Try.func182 ?_
  conv => whnf
  refine CallK.mk' _ _ h140 ?_
  conv => whnf
  refine And.intro ⟨by omega, by omega, by show (n : Int) * 32 ≤ _; omega⟩ ?_
  conv => whnf
  refine LoopK.mk3 (fun (m : Nat) (q : Rd) (acc : List CV) => [(11, vI ((n - m : Nat) : Int)), (10, vI n), (4, .s (.lf (.own 1 0 3 0 acc.length))), (2, .s (.lf .sl0)), (0, .s (.lf (.ptr 0 0)))]) (fun m q acc => [some (obR q), some ⟨23, [.recs 3 acc.length (rowC acc)]⟩])
    (fun m q acc => q.ok ∧ (q.e ≠ 0 → n = 0) ∧ acc ++ (readsC m q).1 = (readsC n r1).1 ∧ (readsC m q).2 = (readsC n r1).2 ∧ acc.length + m = n) (fun m q acc => m) n r1 [] ⟨hno, fun h => by have := hz1 h; omega, rfl, rfl, by simp⟩ ?_ ?_
  · exact Weak.of ⟨rfl, okGs.ws (by exact ⟨trivial, trivial, trivial, trivial⟩), rfl, ⟨.recs rfl fun i hi j hj => by have hi : i < 0 := hi; omega, trivial⟩, trivial⟩ (by simp) ⟨WV.lf (WL.int (by omega)), okF.wv trivial, WV.lf (WL.own rfl rfl rfl rfl), okF.wv trivial, okF.wv rfl, trivial⟩
  rintro m q acc ⟨hq, hqe, ha, hb', hl⟩
  conv => whnf
  cases m with
  | zero =>
    refine CaseB.of_false (decide_eq_false (show ¬ ((n - 0 : Nat) : Int) < (n : Int) by omega)) ?_
    conv => whnf
    have hS : readsC 0 q = ([], q) := rfl
    rw [hS, List.append_nil] at ha
    rw [hS] at hb'
    have hK : keptC (readsC n r1) = if q.e ≠ 0 then [] else acc := by unfold keptC; rw [← hb', ← ha]
    have hW : (readsC n r1).2 = q := hb'.symm
    rw [hW, hK]
    have hk : (if q.e ≠ 0 then [] else acc) = acc := by
      by_cases h : q.e = 0
      · rw [if_neg (fun k => k h)]
      · have hn0 := hqe h
        rw [if_pos h]
        exact (List.length_eq_zero_iff.1 (by omega)).symm
    rw [hk]
    exact RetK.of ⟨rfl, okGs.ws (by exact ⟨trivial, trivial, trivial, trivial⟩), trivial⟩ (by simp) (WV.lf (WL.lentC (ty := 23) rfl rfl rfl (fun _ _ _ _ => rfl) (gone_one (by decide))))
  | succ m =>
    refine CaseB.of_true (decide_eq_true (show ((n - (m + 1) : Nat) : Int) < (n : Int) by omega)) ?_
    conv => whnf
    have he : q.e = 0 := by
      by_cases h : q.e = 0
      · exact h
      · have := hqe h; omega
    have hS : readsC (m + 1) q = ((readC q).1 :: (readsC m (readC q).2).1, (readsC m (readC q).2).2) := by conv => lhs; unfold readsC; rw [if_neg (fun h => h he)]
    rw [hS] at ha hb'
    have hq2 := readC_ok hq
    have h66 := c66 q hq
    obtain ⟨c, hc⟩ : ∃ c, (readC q).1 = c := ⟨_, rfl⟩
    obtain ⟨q2, hq2'⟩ : ∃ q2, (readC q).2 = q2 := ⟨_, rfl⟩
    rw [hc, hq2'] at ha h66
    rw [hq2'] at hb' hq2
    have ha' : acc ++ [c] ++ (readsC m q2).1 = (readsC n r1).1 := by rw [← ha]; simp
    refine CallK.mk' _ _ (frR _ h66 trivial ⟨trivial, trivial, trivial, trivial⟩) ?_
    conv => whnf
    refine CallK.mk' _ _ (frR _ (c68 q2) trivial trivial) ?_
    conv => whnf
    by_cases he2 : q2.e = 0
    · refine CaseB.of_false (decide_eq_false (fun h => h he2)) ?_
      conv => whnf
      refine Or.inr ?_
      conv => whnf
      refine And.intro (by omega) ?_
      conv => whnf
      refine And.intro ⟨rfl, by show (acc.length + 1) * 32 ≤ _; omega⟩ ?_
      conv => whnf
      refine ⟨(m, q2, acc ++ [c]), ⟨hq2, fun h => absurd he2 h, ha', hb', by show (acc ++ [c]).length + m = n; rw [List.length_append]; simp only [List.length_cons, List.length_nil]; omega⟩, by show m < m + 1; omega, ?_⟩
      have hlc : acc.length + 1 = (acc ++ [c]).length := by simp
      exact Weak.perm [0, 3] ⟨⟨rfl, obR_ws _⟩, ⟨rfl, .recs hlc fun i hi j hj => wl_of_eq (rowC_snoc acc c i j hi hj) (rowC_wl hj), trivial⟩, trivial⟩
        ⟨WV.lf (WL.int (by rw [wrap_i64 (by omega) (by omega)]; show ((n - (m + 1) : Nat) : Int) + 1 = ((n - m : Nat) : Int); omega)), freeF.wv trivial, WV.lf (WL.own rfl rfl rfl hlc), freeF.wv trivial, WV.lf (WL.ptr rfl rfl), trivial⟩ rfl (by show 2 ≤ 2; omega) rfl (by show 1 ≤ 2; omega)
    · refine CaseB.of_true (decide_eq_true he2) ?_
      conv => whnf
      have hS2 := readsC_err m he2
      rw [hS2] at hb'
      have hW : (readsC n r1).2 = q2 := hb'.symm
      have hK : keptC (readsC n r1) = [] := by unfold keptC; rw [hW, if_pos he2]
      rw [hW, hK]
      exact RetK.of ⟨rfl, okGs.ws (by exact ⟨trivial, trivial, trivial, trivial⟩), trivial⟩ (by simp) (WV.lf WL.sl0ro)

/-- token.Read -/
theorem c117 (r : Rd) (h : r.ok) : SCalls Proofs.Try.prog 117 [.s (.lf (.ptr 0 0))] [some (obR r)] (vT (readT r).1) [some (obR (readT r).2)] := by
  have hR : readT r = readT r := rfl
  conv at hR => rhs; unfold readT
  simp only [] at hR
  have o1 := numR_ok h 4
  have k1 := c140 r 4 h
  obtain ⟨l, hl⟩ : ∃ l, (numR r 4).1 = l := ⟨_, rfl⟩
  obtain ⟨r1, hr1⟩ : ∃ r1, (numR r 4).2 = r1 := ⟨_, rfl⟩
  rw [hl, hr1] at k1 hR
  rw [hr1] at o1
  have o2 := numR_ok o1 2147483648
  have k2 := c140 r1 2147483648 o1
  obtain ⟨i, hi⟩ : ∃ i, (numR r1 2147483648).1 = i := ⟨_, rfl⟩
  obtain ⟨r2, hr2⟩ : ∃ r2, (numR r1 2147483648).2 = r2 := ⟨_, rfl⟩
  rw [hi, hr2] at k2 hR
  rw [hr2] at o2
  have o3 := numR_ok o2 2147483648
  have k3 := c140 r2 2147483648 o2
  obtain ⟨e, he⟩ : ∃ e, (numR r2 2147483648).1 = e := ⟨_, rfl⟩
  obtain ⟨r3, hr3⟩ : ∃ r3, (numR r2 2147483648).2 = r3 := ⟨_, rfl⟩
  rw [he, hr3] at k3 hR
  rw [hr3] at o3
  have o4 := allC_ok o3
  have k4 := c182 r3 o3
  have hcl := keptC_len o3
  obtain ⟨cs, hcs⟩ : ∃ cs, keptC (allC r3) = cs := ⟨_, rfl⟩
  obtain ⟨r4, hr4⟩ : ∃ r4, (allC r3).2 = r4 := ⟨_, rfl⟩
  rw [hcs, hr4] at k4 hR
  rw [hr4] at o4
  rw [hcs] at hcl
  have o5 := textR_ok o4 32
  have k5 := c145 r4 32 o4
  obtain ⟨g, hg⟩ : ∃ g, (textR r4 32).1 = g := ⟨_, rfl⟩
  obtain ⟨r5, hr5⟩ : ∃ r5, (textR r4 32).2 = r5 := ⟨_, rfl⟩
  rw [hg, hr5] at k5 hR
  rw [hr5] at o5
  obtain ⟨t, ht⟩ : ∃ t : TkS, t = ⟨l, i, e, cs, g⟩ := ⟨_, rfl⟩
  rw [← ht] at hR
  have hm : maxLen = 9223372036854775807 := rfl
  have k160 := c160 t (by rw [ht]; show cs.length ≤ _; omega)
  rw [hR]
  unfold tailT
  refine SCalls.intro tok Proofs.Try.func117 ?_
  conv => whnf
  refine CallK.mk' _ _ (frR _ k1 ⟨trivial, trivial⟩ trivial) ?_
  conv => whnf
  refine CallK.mk' _ _ (frR _ k2 ⟨trivial, trivial⟩ trivial) ?_
  conv => whnf
  refine CallK.mk' _ _ (frR _ k3 ⟨trivial, trivial⟩ trivial) ?_
  conv => whnf
  refine CallK.mk' _ _ (frR _ k4 trivial (rowC_free (cs := cs))) ?_
  conv => whnf
  refine CallK.mk' _ _ (frR _ k5 ⟨trivial, trivial⟩ trivial) ?_
  conv => whnf
  subst ht
  refine CallK.mk' _ _ (k160.free _ ⟨vT_free _, trivial⟩ trivial) ?_
  conv => whnf
  by_cases he5 : r5.e = 0
  · rw [if_neg (fun h => h he5)]
    cases ho : okT ⟨l, i, e, cs, g⟩ with
    | true =>
      rw [if_pos rfl]
      refine CaseB.of_false (by rw [checkT_good ho]; rfl) ?_
      conv => whnf
      refine CallK.mk' _ _ (frR _ (c68 r5) trivial trivial) ?_
      conv => whnf
      refine CaseB.of_false (decide_eq_false (fun h => h he5)) ?_
      conv => whnf
      exact RetK.of ⟨rfl, okGs.ws (by exact ⟨trivial, trivial, trivial, trivial⟩), trivial⟩ (by simp) (WV.agg (obT_ws ⟨l, i, e, cs, g⟩))
    | false =>
      rw [if_neg (by simp)]
      refine CaseB.of_true (by rw [checkT_bad ho]; rfl) ?_
      conv => whnf
      refine CallK.mk' _ _ (frR _ (c146 r5 3) ⟨trivial, trivial⟩ trivial) ?_
      conv => whnf
      rw [failR_new he5]
      refine CallK.mk' _ _ (frR _ (c68 ⟨[], 3⟩) trivial trivial) ?_
      conv => whnf
      refine CaseB.of_true (decide_eq_true (show (3 : Int) ≠ 0 by decide)) ?_
      conv => whnf
      exact RetK.of ⟨rfl, okGs.ws (by exact ⟨trivial, trivial, trivial, trivial⟩), trivial⟩ (by simp) (WV.agg ⟨.one (WL.int rfl), .one (WL.int rfl), .one (WL.int rfl), .one WL.sl0ro, .one (WL.str rfl), trivial⟩)
  · rw [if_pos he5]
    cases ho : okT ⟨l, i, e, cs, g⟩ with
    | true =>
      refine CaseB.of_false (by rw [checkT_good ho]; rfl) ?_
      conv => whnf
      refine CallK.mk' _ _ (frR _ (c68 r5) trivial trivial) ?_
      conv => whnf
      refine CaseB.of_true (decide_eq_true he5) ?_
      conv => whnf
      exact RetK.of ⟨rfl, okGs.ws (by exact ⟨trivial, trivial, trivial, trivial⟩), trivial⟩ (by simp) (WV.agg ⟨.one (WL.int rfl), .one (WL.int rfl), .one (WL.int rfl), .one WL.sl0ro, .one (WL.str rfl), trivial⟩)
    | false =>
      refine CaseB.of_true (by rw [checkT_bad ho]; rfl) ?_
      conv => whnf
      refine CallK.mk' _ _ (frR _ (c146 r5 3) ⟨trivial, trivial⟩ trivial) ?_
      conv => whnf
      rw [failR_err he5]
      refine CallK.mk' _ _ (frR _ (c68 r5) trivial trivial) ?_
      conv => whnf
      refine CaseB.of_true (decide_eq_true he5) ?_
      conv => whnf
      exact RetK.of ⟨rfl, okGs.ws (by exact ⟨trivial, trivial, trivial, trivial⟩), trivial⟩ (by simp) (WV.agg ⟨.one (WL.int rfl), .one (WL.int rfl), .one (WL.int rfl), .one WL.sl0ro, .one (WL.str rfl), trivial⟩)

/-- baileyref08.Read -/
theorem c118 (r : Rd) (h : r.ok) : SCalls Proofs.Try.prog 118 [.s (.lf (.ptr 0 0))] [some (obQ r)] (vT (readT r).1) [some (obQ (readT r).2)] := by
  have hR : readT r = readT r := rfl
  conv at hR => rhs; unfold readT
  simp only [] at hR
  have o1 := numR_ok h 4
  have k1 := c147 r 4 h
  obtain ⟨l, hl⟩ : ∃ l, (numR r 4).1 = l := ⟨_, rfl⟩
  obtain ⟨r1, hr1⟩ : ∃ r1, (numR r 4).2 = r1 := ⟨_, rfl⟩
  rw [hl, hr1] at k1 hR
  rw [hr1] at o1
  have o2 := numR_ok o1 2147483648
  have k2 := c147 r1 2147483648 o1
  obtain ⟨i, hi⟩ : ∃ i, (numR r1 2147483648).1 = i := ⟨_, rfl⟩
  obtain ⟨r2, hr2⟩ : ∃ r2, (numR r1 2147483648).2 = r2 := ⟨_, rfl⟩
  rw [hi, hr2] at k2 hR
  rw [hr2] at o2
  have o3 := numR_ok o2 2147483648
  have k3 := c147 r2 2147483648 o2
  obtain ⟨e, he⟩ : ∃ e, (numR r2 2147483648).1 = e := ⟨_, rfl⟩
  obtain ⟨r3, hr3⟩ : ∃ r3, (numR r2 2147483648).2 = r3 := ⟨_, rfl⟩
  rw [he, hr3] at k3 hR
  rw [hr3] at o3
  have o4 := allC_ok o3
  have k4 := c141 r3 o3
  have hcl := keptC_len o3
  obtain ⟨cs, hcs⟩ : ∃ cs, keptC (allC r3) = cs := ⟨_, rfl⟩
  obtain ⟨r4, hr4⟩ : ∃ r4, (allC r3).2 = r4 := ⟨_, rfl⟩
  rw [hcs, hr4] at k4 hR
  rw [hr4] at o4
  rw [hcs] at hcl
  have o5 := textR_ok o4 32
  have k5 := c149 r4 32 o4
  obtain ⟨g, hg⟩ : ∃ g, (textR r4 32).1 = g := ⟨_, rfl⟩
  obtain ⟨r5, hr5⟩ : ∃ r5, (textR r4 32).2 = r5 := ⟨_, rfl⟩
  rw [hg, hr5] at k5 hR
  rw [hr5] at o5
  obtain ⟨t, ht⟩ : ∃ t : TkS, t = ⟨l, i, e, cs, g⟩ := ⟨_, rfl⟩
  rw [← ht] at hR
  have hm : maxLen = 9223372036854775807 := rfl
  have k167 := c167 t (by rw [ht]; show cs.length ≤ _; omega)
  rw [hR]
  unfold tailT
  refine SCalls.intro tok Proofs.Try.func118 ?_
  conv => whnf
  refine CallK.mk' _ _ (frQ _ k1 ⟨trivial, trivial⟩ trivial) ?_
  conv => whnf
  refine CallK.mk' _ _ (frQ _ k2 ⟨trivial, trivial⟩ trivial) ?_
  conv => whnf
  refine CallK.mk' _ _ (frQ _ k3 ⟨trivial, trivial⟩ trivial) ?_
  conv => whnf
  refine CallK.mk' _ _ (frQ _ k4 trivial (rowC_free (cs := cs))) ?_
  conv => whnf
  refine CallK.mk' _ _ (frQ _ k5 ⟨trivial, trivial⟩ trivial) ?_
  conv => whnf
  subst ht
  refine CallK.mk' _ _ (frQ _ (c69 r5) trivial trivial) ?_
  conv => whnf
  by_cases he5 : r5.e = 0
  · rw [if_neg (fun h => h he5)]
    repeat ((first | refine CaseB.of_true (decide_eq_true he5) ?_ | refine CallK.mk' _ _ (k167.free _ ⟨vT_free _, trivial⟩ trivial) ?_); conv => whnf)
    cases ho : okT ⟨l, i, e, cs, g⟩ with
    | true =>
      rw [if_pos rfl]
      refine CaseB.of_false (by rw [checkT_good ho]; rfl) ?_
      conv => whnf
      refine CallK.mk' _ _ (frQ _ (c69 r5) trivial trivial) ?_
      conv => whnf
      refine CaseB.of_false (decide_eq_false (fun h => h he5)) ?_
      conv => whnf
      exact RetK.of ⟨rfl, okGs.ws (by exact ⟨trivial, trivial, trivial⟩), trivial⟩ (by simp) (WV.agg (obT_ws ⟨l, i, e, cs, g⟩))
    | false =>
      rw [if_neg (by simp)]
      refine CaseB.of_true (by rw [checkT_bad ho]; rfl) ?_
      conv => whnf
      refine CallK.mk' _ _ (frQ _ (c148 r5 o5 3) ⟨trivial, trivial⟩ trivial) ?_
      conv => whnf
      rw [failR_new he5]
      refine CallK.mk' _ _ (frQ _ (c69 ⟨[], 3⟩) trivial trivial) ?_
      conv => whnf
      refine CaseB.of_true (decide_eq_true (show (3 : Int) ≠ 0 by decide)) ?_
      conv => whnf
      exact RetK.of ⟨rfl, okGs.ws (by exact ⟨trivial, trivial, trivial⟩), trivial⟩ (by simp) (WV.agg ⟨.one (WL.int rfl), .one (WL.int rfl), .one (WL.int rfl), .one WL.sl0ro, .one (WL.str rfl), trivial⟩)
  · rw [if_pos he5]
    repeat (refine CaseB.of_false (decide_eq_false he5) ?_; conv => whnf)
    refine CallK.mk' _ _ (frQ _ (c69 r5) trivial trivial) ?_
    conv => whnf
    refine CaseB.of_true (decide_eq_true he5) ?_
    conv => whnf
    exact RetK.of ⟨rfl, okGs.ws (by exact ⟨trivial, trivial, trivial⟩), trivial⟩ (by simp) (WV.agg ⟨.one (WL.int rfl), .one (WL.int rfl), .one (WL.int rfl), .one WL.sl0ro, .one (WL.str rfl), trivial⟩)
end Go.Sym.Md

set_option linter.unusedVariables false
set_option linter.unusedSimpArgs false
set_option maxRecDepth 10000
namespace Go.Sym.Md
open Go Go.Sym Go.Sym.Sh
theorem readT_len {r : Rd} (h : r.ok) : (readT r).1.cs.length ≤ 8 := by
  have o3 := numR_ok (numR_ok (numR_ok h 4) 2147483648) 2147483648
  have := keptC_len o3
  unfold readT tailT
  simp only []
  split
  · simp [tk0]
  · split
    · exact this
    · simp [tk0]
attribute [local irreducible] numF checkF hasF okC boundF numR textR readC putC codeC parseC tagF nn headF firstF chainF putT readT fewT


/-- baileylaw08.TokenCodes -/
theorem c24n (t : TkS) (b : List UInt8) (hl : t.cs.length ≤ maxLen) (hbl : b.length ≤ maxLen) (hn : b = []) : SCalls Proofs.Try.prog 24 [vT t, .s (.lf (.sl0))] [] (.s (.lf .tt)) [] := by
  have hm : maxLen = 9223372036854775807 := rfl
  have k98 := c98.free [some (obT t)] trivial trivial
  have k102 := (c102 t hl).free [some (obT t)] ⟨vT_free t, trivial⟩ trivial
  cases hf : fewT t with
  | false =>
    rw [hf] at k102
    refine SCalls.intro tok Proofs.Try.func24 ?_
    conv => whnf
    refine CallK.mk' _ _ k102 ?_
    conv => whnf
    repeat (refine CaseB.of_true rfl ?_; conv => whnf)
    refine CallK.mk' _ _ k98 ?_
    conv => whnf
    exact RetK.empty (okF.wv trivial)
  | true =>
  rw [hf] at k102
  by_cases h2 : 2000 < (b.length : Int)
  · rw [hn] at h2; simp at h2
  have h0 : (⟨b, 0⟩ : Rd).ok := ⟨fun h => absurd rfl h, by show IntKind.i64.min ≤ 0; decide, by show (0 : Int) ≤ IntKind.i64.max; decide, by show b.length ≤ _; omega⟩
  have hqo := readT_ok h0
  have k117 := c117 ⟨b, 0⟩ h0
  have k118 := c118 ⟨b, 0⟩ h0
  obtain ⟨p, hp⟩ : ∃ p, readT ⟨b, 0⟩ = p := ⟨_, rfl⟩
  have hxl : p.1.cs.length ≤ 8 := by rw [← hp]; exact readT_len h0
  rw [hp] at k117 k118 hqo
  obtain ⟨x, q⟩ := p
  have k64 := (c64 b (by omega)).made [some (obT t)] (Hn := [some (obR ⟨b, 0⟩)]) (cs := [.s (.lf (.sl0))]) (rc := .s (.lf (.ptr 1 0))) ⟨WV.lf (by rw [hn]; exact WL.sl0rob'), trivial⟩ (WV.lf (WL.uptr rfl)) ⟨rfl, obR_ws _, trivial⟩
  have k65 := (c65 b (by omega)).made [some (obT t), some (obR ⟨b, 0⟩)] (Hn := [some (obQ ⟨b, 0⟩)]) (cs := [.s (.lf (.sl0))]) (rc := .s (.lf (.ptr 2 0))) ⟨WV.lf (by rw [hn]; exact WL.sl0rob'), trivial⟩ (WV.lf (WL.uptr rfl)) ⟨rfl, obQ_ws _, trivial⟩
  obtain ⟨H5, hH5⟩ : ∃ H5, H5 = [some (obT t), some (obR q), some (obQ q), some (obT x), some (obT x)] := ⟨_, rfl⟩
  have k68 := frRi H5 1 (c68 q) (by rw [hH5]; rfl) trivial trivial
  have k70 := frRi H5 1 (c70 q hqo) (by rw [hH5]; rfl) trivial trivial
  have k69 := frQi H5 2 (c69 q) (by rw [hH5]; rfl) trivial trivial
  have k71 := frQi H5 2 (c71 q) (by rw [hH5]; rfl) trivial trivial
  have k98' := c98.free H5 trivial trivial
  have k104 := (c104 x x (by show x.cs.length ≤ _; have : x.cs.length ≤ 8 := hxl; omega)).free H5 ⟨vT_free x, vT_free x, trivial⟩ trivial
  rw [show sameT x x = true by simp [sameT]] at k104
  have k119 := (c119n b t (by omega) hl hn).pure H5 (cs := [.s (.lf (.sl0)), vT t]) (rc := .s (.lf (.rob false false (putT b t)))) ⟨WV.lf (WL.sl0), WV.agg (obT_ws t), trivial⟩ (WV.lf (WL.rob rfl (by simp) (by simp)))
  have k120 := (c120 b t (by omega) hl).pure H5 (cs := [.s (.lf (.sl0)), vT t]) (rc := .s (.lf (.rob false false (putT b t)))) ⟨WV.lf (by rw [hn]; exact WL.sl0rob'), WV.agg (obT_ws t), trivial⟩ (WV.lf (WL.rob rfl (by simp) (by simp)))
  have hpl := putT_len b t
  have k57 := (c57 (putT b t) (putT b t) (by omega)).free H5 ⟨trivial, trivial, trivial⟩ trivial
  rw [show decide (putT b t = putT b t) = true from decide_eq_true rfl] at k57
  subst hH5
  refine SCalls.intro tok Proofs.Try.func24 ?_
  conv => whnf
  refine CallK.mk' _ _ k102 ?_
  conv => whnf
  repeat ((first | refine CaseB.of_false rfl ?_ | refine CaseB.of_false (decide_eq_false h2) ?_ | refine CaseB.of_false (by decide) ?_); conv => whnf)
  refine CallK.mk' _ _ k64 ?_
  conv => whnf
  refine CallK.mk' _ _ k65 ?_
  conv => whnf
  refine CallK.mk' _ _ (frRi _ 1 k117 rfl trivial (vT_free x)) ?_
  conv => whnf
  refine CallK.mk' _ _ (frQi _ 2 k118 rfl trivial (vT_free x)) ?_
  conv => whnf
  refine DrawK.mk1 tok mixed [0, 0, 3, 0, 0, 31, 63, 127, 255, 255, 1023, 2047, 4095, 8191, 16383, 8191, 65535, 131071, 262143, 524287, 1048575, 2097151, 1048575, 8388607, 16777215, 33554431, 67108863, 134217727, 268435455, 536870911] [(0, 0, []), (3, 0, []), (1, 1, [0]), (2, 1, [0]), (4, 1, [0]), (5, 1, [0]), (6, 1, [0]), (7, 0, []), (8, 1, [0]), (9, 1, [0]), (10, 1, [0]), (11, 0, []), (12, 0, []), (13, 0, []), (14, 2, []), (15, 0, []), (16, 2, []), (17, 0, []), (18, 0, []), (19, 0, []), (20, 0, []), (21, 2, []), (22, 0, []), (23, 2, []), (24, 0, []), (25, 0, []), (26, 0, []), (27, 1, [0]), (28, 0, []), (29, 0, [])] (by kernel_rfl) ?_
  conv => whnf
  repeat ((first | refine CallR.mk' _ k119 ?_ | refine CallR.mk' _ k120 ?_ | refine CallR.mk' _ k57 ?_ | refine CallR.mk' _ k104 ?_ | refine CallK.mk' _ _ k68 ?_ | refine CallK.mk' _ _ k69 ?_ | refine CallK.mk' _ _ k70 ?_ | refine CallK.mk' _ _ k71 ?_ | refine CallR.mk' _ k98' ?_ | refine CaseB.of_true rfl ?_ | refine CaseB.of_true (decide_eq_true rfl) ?_ | refine And.intro rfl ?_); conv => whnf)
  exact RetK.empty (okF.wv trivial)

/-- baileylaw08.TokenCodes -/
theorem c24 (t : TkS) (b : List UInt8) (hl : t.cs.length ≤ maxLen) (hbl : b.length ≤ maxLen) : SCalls Proofs.Try.prog 24 [vT t, .s (.lf (.rob true false b))] [] (.s (.lf .tt)) [] := by
  have hm : maxLen = 9223372036854775807 := rfl
  have k98 := c98.free [some (obT t)] trivial trivial
  have k102 := (c102 t hl).free [some (obT t)] ⟨vT_free t, trivial⟩ trivial
  cases hf : fewT t with
  | false =>
    rw [hf] at k102
    refine SCalls.intro tok Proofs.Try.func24 ?_
    conv => whnf
    refine CallK.mk' _ _ k102 ?_
    conv => whnf
    repeat (refine CaseB.of_true rfl ?_; conv => whnf)
    refine CallK.mk' _ _ k98 ?_
    conv => whnf
    exact RetK.empty (okF.wv trivial)
  | true =>
  rw [hf] at k102
  by_cases h2 : 2000 < (b.length : Int)
  · refine SCalls.intro tok Proofs.Try.func24 ?_
    conv => whnf
    refine CallK.mk' _ _ k102 ?_
    conv => whnf
    repeat ((first | refine CaseB.of_false rfl ?_ | refine CaseB.of_true (decide_eq_true h2) ?_); conv => whnf)
    refine CallK.mk' _ _ k98 ?_
    conv => whnf
    exact RetK.empty (okF.wv trivial)
  have h0 : (⟨b, 0⟩ : Rd).ok := ⟨fun h => absurd rfl h, by show IntKind.i64.min ≤ 0; decide, by show (0 : Int) ≤ IntKind.i64.max; decide, by show b.length ≤ _; omega⟩
  have hqo := readT_ok h0
  have k117 := c117 ⟨b, 0⟩ h0
  have k118 := c118 ⟨b, 0⟩ h0
  obtain ⟨p, hp⟩ : ∃ p, readT ⟨b, 0⟩ = p := ⟨_, rfl⟩
  have hxl : p.1.cs.length ≤ 8 := by rw [← hp]; exact readT_len h0
  rw [hp] at k117 k118 hqo
  obtain ⟨x, q⟩ := p
  have k64 := (c64 b (by omega)).made [some (obT t)] (Hn := [some (obR ⟨b, 0⟩)]) (cs := [.s (.lf (.rob true false b))]) (rc := .s (.lf (.ptr 1 0))) ⟨WV.lf (toRob), trivial⟩ (WV.lf (WL.uptr rfl)) ⟨rfl, obR_ws _, trivial⟩
  have k65 := (c65 b (by omega)).made [some (obT t), some (obR ⟨b, 0⟩)] (Hn := [some (obQ ⟨b, 0⟩)]) (cs := [.s (.lf (.rob true false b))]) (rc := .s (.lf (.ptr 2 0))) ⟨WV.lf (toRob), trivial⟩ (WV.lf (WL.uptr rfl)) ⟨rfl, obQ_ws _, trivial⟩
  obtain ⟨H5, hH5⟩ : ∃ H5, H5 = [some (obT t), some (obR q), some (obQ q), some (obT x), some (obT x)] := ⟨_, rfl⟩
  have k68 := frRi H5 1 (c68 q) (by rw [hH5]; rfl) trivial trivial
  have k70 := frRi H5 1 (c70 q hqo) (by rw [hH5]; rfl) trivial trivial
  have k69 := frQi H5 2 (c69 q) (by rw [hH5]; rfl) trivial trivial
  have k71 := frQi H5 2 (c71 q) (by rw [hH5]; rfl) trivial trivial
  have k98' := c98.free H5 trivial trivial
  have k104 := (c104 x x (by show x.cs.length ≤ _; have : x.cs.length ≤ 8 := hxl; omega)).free H5 ⟨vT_free x, vT_free x, trivial⟩ trivial
  rw [show sameT x x = true by simp [sameT]] at k104
  have k119 := (c119 b t (by omega) hl).pure H5 (cs := [.s (.lf (.rob true false b)), vT t]) (rc := .s (.lf (.rob false false (putT b t)))) ⟨WV.lf (WL.rob rfl (by simp) (by simp)), WV.agg (obT_ws t), trivial⟩ (WV.lf (WL.rob rfl (by simp) (by simp)))
  have k120 := (c120 b t (by omega) hl).pure H5 (cs := [.s (.lf (.rob true false b)), vT t]) (rc := .s (.lf (.rob false false (putT b t)))) ⟨WV.lf (toRob), WV.agg (obT_ws t), trivial⟩ (WV.lf (WL.rob rfl (by simp) (by simp)))
  have hpl := putT_len b t
  have k57 := (c57 (putT b t) (putT b t) (by omega)).free H5 ⟨trivial, trivial, trivial⟩ trivial
  rw [show decide (putT b t = putT b t) = true from decide_eq_true rfl] at k57
  subst hH5
  refine SCalls.intro tok Proofs.Try.func24 ?_
  conv => whnf
  refine CallK.mk' _ _ k102 ?_
  conv => whnf
  repeat ((first | refine CaseB.of_false rfl ?_ | refine CaseB.of_false (decide_eq_false h2) ?_ | refine CaseB.of_false (by decide) ?_); conv => whnf)
  refine CallK.mk' _ _ k64 ?_
  conv => whnf
  refine CallK.mk' _ _ k65 ?_
  conv => whnf
  refine CallK.mk' _ _ (frRi _ 1 k117 rfl trivial (vT_free x)) ?_
  conv => whnf
  refine CallK.mk' _ _ (frQi _ 2 k118 rfl trivial (vT_free x)) ?_
  conv => whnf
  refine DrawK.mk1 tok mixed [0, 0, 3, 0, 0, 31, 63, 127, 255, 255, 1023, 2047, 4095, 8191, 16383, 8191, 65535, 131071, 262143, 524287, 1048575, 2097151, 1048575, 8388607, 16777215, 33554431, 67108863, 134217727, 268435455, 536870911] [(0, 0, []), (3, 0, []), (1, 1, [0]), (2, 1, [0]), (4, 1, [0]), (5, 1, [0]), (6, 1, [0]), (7, 0, []), (8, 1, [0]), (9, 1, [0]), (10, 1, [0]), (11, 0, []), (12, 0, []), (13, 0, []), (14, 2, []), (15, 0, []), (16, 2, []), (17, 0, []), (18, 0, []), (19, 0, []), (20, 0, []), (21, 2, []), (22, 0, []), (23, 2, []), (24, 0, []), (25, 0, []), (26, 0, []), (27, 1, [0]), (28, 0, []), (29, 0, [])] (by kernel_rfl) ?_
  conv => whnf
  repeat ((first | refine CallR.mk' _ k119 ?_ | refine CallR.mk' _ k120 ?_ | refine CallR.mk' _ k57 ?_ | refine CallR.mk' _ k104 ?_ | refine CallK.mk' _ _ k68 ?_ | refine CallK.mk' _ _ k69 ?_ | refine CallK.mk' _ _ k70 ?_ | refine CallK.mk' _ _ k71 ?_ | refine CallR.mk' _ k98' ?_ | refine CaseB.of_true rfl ?_ | refine CaseB.of_true (decide_eq_true rfl) ?_ | refine And.intro rfl ?_); conv => whnf)
  exact RetK.empty (okF.wv trivial)
end Go.Sym.Md

