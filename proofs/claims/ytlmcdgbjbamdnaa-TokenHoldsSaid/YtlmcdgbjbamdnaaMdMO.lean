/- Contracts of the program's functions, proved by the framework (text MdMO), without conditions but those that each theorem states. -/
import Derived.Test.YtlmcdgbjbamdnaaMdGJ
import Derived.Test.YtlmcdgbjbamdnaaMdUW
import Derived.Test.YtlmcdgbjbamdnaaFw7
set_option linter.unusedVariables false
set_option linter.unusedSimpArgs false
set_option maxRecDepth 10000
namespace Go.Sym.Md
open Go Go.Sym

theorem WL.lentT {H H' : Hp} {μ : Nat → Nat} {hid : Nat → Prop} {nm len : Nat} {xs : List UInt8} {ty : TypeId} (hob : hget H nm = some ⟨ty, [.bytes len xs]⟩) (hl : len = xs.length) (hg : gone H' μ hid nm) : WL (Down H H' μ hid) (.own nm 0 1 0 len) (.rob true false xs) := by
  intro w L L' x h hx
  exact WL.freezeB (ob := ⟨ty, [.bytes len xs]⟩) (p := []) (q := []) hob rfl rfl (by omega) (by omega) (by rw [List.drop_zero, hl, List.take_length]) hg w L L' x h hx

/-! ### Caveats' bytes -/
def putC (b : List UInt8) (c : CV) : List UInt8 := if okC c.k c.n c.s then putF b c.k c.n c.s else b
def codeC (cs : List CV) : List UInt8 := cs.foldl putC (numF cs.length)
abbrev vCc (c : CV) : FV := vC c.k c.n c.s
abbrev obC (c : CV) : OB := ⟨23, [.one (.int .i64 c.k), .one (.int .i64 c.n), .one (.str c.s)]⟩

theorem putF_length (b : List UInt8) (k n : Int) (s : List UInt8) (h : okC k n s = true) : b.length ≤ (putF b k n s).length ∧ (putF b k n s).length ≤ b.length + 50 := by
  obtain ⟨_, _, _, _, hs⟩ := okC_facts h
  have h1 := numF_length k.toNat
  have h2 := numF_length s.length
  have h3 := numF_length n.toNat
  have a1 := sz_le k.toNat
  have a2 := sz_le s.length
  have a3 := sz_le n.toNat
  unfold putF
  split <;> simp only [List.length_append] <;> omega
theorem putC_length (b : List UInt8) (c : CV) : b.length ≤ (putC b c).length ∧ (putC b c).length ≤ b.length + 50 := by
  unfold putC
  split
  · rename_i h; exact putF_length b c.k c.n c.s h
  · omega

theorem hasF_one (k : Int) : hasF k = 1 ↔ k = 2 ∨ k = 3 := by
  unfold hasF
  split
  · simp [*]
  · split <;> simp [*]

attribute [local irreducible] numF checkF hasF okC boundF

theorem checkF_bad {k n : Int} {s : List UInt8} (h : okC k n s = false) : checkF k n s = 1 := by unfold checkF; rw [h]; rfl
theorem checkF_good {k n : Int} {s : List UInt8} (h : okC k n s = true) : checkF k n s = 0 := by unfold checkF; rw [h]; rfl

/-- caveat.Put, of what may not be, behind nothing -/
theorem c58x (c : CV) (h : okC c.k c.n c.s = false) : SCalls Proofs.Try.prog 58 [.s (.lf .sl0), vCc c] [] (.s (.lf .sl0)) [] := by
  refine SCalls.intro tok Proofs.Try.func58 ?_
  conv => whnf
  refine CallK.mk' _ _ ((c26 c.k c.n c.s).free _ ⟨⟨trivial, trivial, trivial, trivial⟩, trivial⟩ trivial) ?_
  conv => whnf
  refine CaseB.of_true (by rw [checkF_bad h]; rfl) ?_
  conv => whnf
  refine CallK.mk' _ _ (c136n.free _ ⟨trivial, trivial⟩ trivial) ?_
  conv => whnf
  exact RetK.empty (okF.wv trivial)

/-- caveat.Put, of what may not be -/
theorem c58w (b : List UInt8) (c : CV) (h : okC c.k c.n c.s = false) (hb : b.length ≤ 1000000000000) : SCalls Proofs.Try.prog 58 [.s (.lf (.rob true false b)), vCc c] [] (.s (.lf (.own 0 0 1 0 b.length))) [some ⟨5, [.bytes b.length b]⟩] := by
  refine SCalls.intro tok Proofs.Try.func58 ?_
  conv => whnf
  refine CallK.mk' _ _ ((c26 c.k c.n c.s).free _ ⟨⟨trivial, trivial, trivial, trivial⟩, trivial⟩ trivial) ?_
  conv => whnf
  refine CaseB.of_true (by rw [checkF_bad h]; rfl) ?_
  conv => whnf
  refine CallK.mk' (.s (.lf (.own 1 0 1 0 b.length))) _ ((c136 b (by omega)).made [some (obC c)] (Hn := [some ⟨5, [.bytes b.length b]⟩]) ⟨freeF.wv trivial, trivial⟩ (WV.lf (WL.uown rfl rfl rfl)) ⟨rfl, ⟨.bytes rfl fun _ _ => rfl, trivial⟩, trivial⟩) ?_
  conv => whnf
  exact RetK.perm [1] ⟨⟨rfl, .bytes rfl fun _ _ => rfl, trivial⟩, trivial⟩ (WV.lf (WL.own rfl rfl rfl rfl)) rfl (by simp) rfl (by simp)

/-- caveat.Put, behind bytes that are there -/
theorem c58t (b : List UInt8) (c : CV) (hb : b.length ≤ 100000000000) : SCalls Proofs.Try.prog 58 [.s (.lf (.rob true false b)), vCc c] [] (.s (.lf (.own 0 0 1 0 (putC b c).length))) [some ⟨5, [.bytes (putC b c).length (putC b c)]⟩] := by
  cases h : okC c.k c.n c.s with
  | false => rw [show putC b c = b by unfold putC; rw [h]; rfl]; exact c58w b c h (by omega)
  | true =>
    rw [show putC b c = putF b c.k c.n c.s by unfold putC; rw [h]; rfl]
    have hu := (c58 b c.k c.n c.s h (by omega)).madeL (cs := [.s (.lf (.rob true false b)), vCc c]) (fun _ => True) [] (Hn := [some ⟨5, [.bytes (putF b c.k c.n c.s).length (putF b c.k c.n c.s)]⟩]) (rc := .s (.lf (.own 0 0 1 0 (putF b c.k c.n c.s).length)))
      ⟨WV.lf (WL.rob rfl (by simp) (by simp)), freeF.wv ⟨trivial, trivial, trivial, trivial⟩, trivial⟩ (WV.lf (WL.uown rfl rfl rfl)) ⟨rfl, ⟨.bytes rfl fun _ _ => rfl, trivial⟩, trivial⟩
    exact hu

/-- baileyref06.Put, of what may be -/
theorem c59k (b : List UInt8) (k n : Int) (s : List UInt8) (hok : okC k n s = true) (hb : b.length ≤ 1000000000000) : SCalls Proofs.Try.prog 59 [.s (.lf (.rob false false b)), vC k n s] [] (.s (.lf (.own 0 0 1 0 (putF b k n s).length))) [some ⟨5, [.bytes (putF b k n s).length (putF b k n s)]⟩] := by
  obtain ⟨hk1, hk6, hn0, hn1, hsl⟩ := okC_facts hok
  have hl := numF_length k.toNat
  have h9 := sz_le k.toNat
  refine SCalls.intro tok Proofs.Try.func59 ?_
  conv => whnf
  refine CallK.mk' _ _ ((c27 k n s).free _ ⟨⟨trivial, trivial, trivial, trivial⟩, trivial⟩ trivial) ?_
  conv => whnf
  refine CaseB.of_false (by rw [checkF_good hok]; rfl) ?_
  conv => whnf
  refine CallK.mk' (.s (.lf (.own 1 0 1 0 (b ++ numF k.toNat).length))) _ ((c133 b k k.toNat (by omega) (by omega) (by omega)).made [some (obC ⟨k, n, s⟩)] (Hn := [some ⟨5, [.bytes (b ++ numF k.toNat).length (b ++ numF k.toNat)]⟩]) ⟨freeF.wv trivial, freeF.wv trivial, trivial⟩ (WV.lf (WL.uown rfl rfl rfl)) ⟨rfl, ⟨.bytes rfl fun _ _ => rfl, trivial⟩, trivial⟩) ?_
  conv => whnf
  refine CallK.mk' _ _ ((c124 k).free _ ⟨trivial, trivial⟩ trivial) ?_
  conv => whnf
  have hbl : (b ++ numF k.toNat).length ≤ 140737000000000 := by rw [List.length_append]; omega
  by_cases h1 : hasF k = 1
  · refine CaseB.of_true (decide_eq_true ((hasF_one k).1 h1)) ?_
    conv => whnf
    refine CallK.mk' (.s (.lf (.own 2 0 1 0 (b ++ numF k.toNat ++ numF s.length ++ s).length))) _ ((c139 (b ++ numF k.toNat) s (by omega) hbl).madeL (cs := [.s (.lf (.own 1 0 1 0 (b ++ numF k.toNat).length)), .s (.lf (.str s))]) (fun _ => False) [some (obC ⟨k, n, s⟩), some ⟨5, [.bytes (b ++ numF k.toNat).length (b ++ numF k.toNat)]⟩] (Hn := [some ⟨5, [.bytes (b ++ numF k.toNat ++ numF s.length ++ s).length (b ++ numF k.toNat ++ numF s.length ++ s)]⟩]) ⟨WV.lf (WL.lent (ty := 5) rfl rfl ⟨fun h => h, fun i ob h => by simp at h⟩), freeF.wv trivial, trivial⟩ (WV.lf (WL.uown rfl rfl rfl)) ⟨rfl, ⟨.bytes rfl fun _ _ => rfl, trivial⟩, trivial⟩) ?_
    conv => whnf
    have e : putF b k n s = b ++ numF k.toNat ++ numF s.length ++ s := by unfold putF; rw [if_pos h1]
    rw [e]
    exact RetK.perm [2] ⟨⟨rfl, .bytes rfl fun _ _ => rfl, trivial⟩, trivial⟩ (WV.lf (WL.own rfl rfl rfl rfl)) rfl (by simp) rfl (by simp)
  · refine CaseB.of_false (decide_eq_false (fun h => h1 ((hasF_one k).2 h))) ?_
    conv => whnf
    refine CallK.mk' (.s (.lf (.own 2 0 1 0 (b ++ numF k.toNat ++ numF n.toNat).length))) _ ((c133 (b ++ numF k.toNat) n n.toNat (by omega) (by omega) (by omega)).madeL (cs := [.s (.lf (.own 1 0 1 0 (b ++ numF k.toNat).length)), vI n]) (fun _ => False) [some (obC ⟨k, n, s⟩), some ⟨5, [.bytes (b ++ numF k.toNat).length (b ++ numF k.toNat)]⟩] (Hn := [some ⟨5, [.bytes (b ++ numF k.toNat ++ numF n.toNat).length (b ++ numF k.toNat ++ numF n.toNat)]⟩]) ⟨WV.lf (WL.lent (ty := 5) rfl rfl ⟨fun h => h, fun i ob h => by simp at h⟩), freeF.wv trivial, trivial⟩ (WV.lf (WL.uown rfl rfl rfl)) ⟨rfl, ⟨.bytes rfl fun _ _ => rfl, trivial⟩, trivial⟩) ?_
    conv => whnf
    have e : putF b k n s = b ++ numF k.toNat ++ numF n.toNat := by unfold putF; rw [if_neg h1]
    rw [e]
    exact RetK.perm [2] ⟨⟨rfl, .bytes rfl fun _ _ => rfl, trivial⟩, trivial⟩ (WV.lf (WL.own rfl rfl rfl rfl)) rfl (by simp) rfl (by simp)

/-- baileyref06.Put, of what may not be, behind nothing -/
theorem c59x (c : CV) (h : okC c.k c.n c.s = false) : SCalls Proofs.Try.prog 59 [.s (.lf (.rob false false [])), vCc c] [] (.s (.lf .sl0)) [] := by
  refine SCalls.intro tok Proofs.Try.func59 ?_
  conv => whnf
  refine CallK.mk' _ _ ((c27 c.k c.n c.s).free _ ⟨⟨trivial, trivial, trivial, trivial⟩, trivial⟩ trivial) ?_
  conv => whnf
  refine CaseB.of_true (by rw [checkF_bad h]; rfl) ?_
  conv => whnf
  exact RetK.empty (okF.wv trivial)

/-- baileyref06.Put, of what may not be -/
theorem c59w (x : UInt8) (b : List UInt8) (c : CV) (h : okC c.k c.n c.s = false) (hb : b.length ≤ 100000000000) : SCalls Proofs.Try.prog 59 [.s (.lf (.rob false false (x :: b))), vCc c] [] (.s (.lf (.own 0 0 1 0 (x :: b).length))) [some ⟨5, [.bytes (x :: b).length (x :: b)]⟩] := by
  refine SCalls.intro tok Proofs.Try.func59 ?_
  conv => whnf
  refine CallK.mk' _ _ ((c27 c.k c.n c.s).free _ ⟨⟨trivial, trivial, trivial, trivial⟩, trivial⟩ trivial) ?_
  conv => whnf
  refine CaseB.of_true (by rw [checkF_bad h]; rfl) ?_
  conv => whnf
  refine And.intro (by rw [List.length_cons]; omega) ?_
  conv => whnf
  exact RetK.perm [1] ⟨⟨rfl, .bytes rfl fun _ _ => rfl, trivial⟩, trivial⟩ (WV.lf (WL.own rfl rfl rfl rfl)) rfl (by simp) rfl (by simp)

/-- baileyref06.Put, behind bytes that are there -/
theorem c59t (b : List UInt8) (c : CV) (hb : b.length ≤ 10000000000) (hne : b ≠ []) : SCalls Proofs.Try.prog 59 [.s (.lf (.rob false false b)), vCc c] [] (.s (.lf (.own 0 0 1 0 (putC b c).length))) [some ⟨5, [.bytes (putC b c).length (putC b c)]⟩] := by
  cases h : okC c.k c.n c.s with
  | false =>
    rw [show putC b c = b by unfold putC; rw [h]; rfl]
    cases b with
    | nil => exact absurd rfl hne
    | cons x b => rw [List.length_cons] at hb; exact c59w x b c h (by omega)
  | true =>
    rw [show putC b c = putF b c.k c.n c.s by unfold putC; rw [h]; rfl]
    exact c59k b c.k c.n c.s h (by omega)

theorem codeC_take (cs : List CV) (i : Nat) (hi : i < cs.length) : (cs.take (i + 1)).foldl putC (numF cs.length) = putC ((cs.take i).foldl putC (numF cs.length)) (cs.getD i cv0) := by
  rw [List.take_add_one, List.foldl_append, List.getElem?_eq_getElem hi, List.getD_eq_getElem?_getD, List.getElem?_eq_getElem hi]
  rfl
theorem codeC_length (cs : List CV) : ∀ i, i ≤ cs.length → 1 ≤ ((cs.take i).foldl putC (numF cs.length)).length ∧ ((cs.take i).foldl putC (numF cs.length)).length ≤ 10 + 50 * i := by
  intro i hi
  induction i with
  | zero =>
    have h1 := numF_length cs.length
    have h2 := sz_le cs.length
    have h3 := sz_pos cs.length
    simp only [List.take_zero, List.foldl_nil]
    omega
  | succ i ih =>
    rw [codeC_take cs i (by omega)]
    have := putC_length ((cs.take i).foldl putC (numF cs.length)) (cs.getD i cv0)
    have := ih (by omega)
    omega

/-- caveat.Code -/
theorem c60 (cs : List CV) (hl : cs.length ≤ 1000000) : SCalls Proofs.Try.prog 60 [vR cs] [] (.s (.lf (.rob true false (codeC cs)))) [] := by
  refine SCalls.intro tok Proofs.Try.func60 ?_
  conv => whnf
  refine CallK.mk' (.s (.lf (.own 0 0 1 0 (numF cs.length).length))) _ ((c137 [] cs.length cs.length (by omega) (by omega) (by simp)).made [] (Hn := [some ⟨5, [.bytes (numF cs.length).length (numF cs.length)]⟩]) ⟨WV.lf WL.sl0rob', freeF.wv trivial, trivial⟩ (WV.lf (WL.uown rfl rfl rfl)) ⟨rfl, ⟨.bytes rfl fun _ _ => rfl, trivial⟩, trivial⟩) ?_
  conv => whnf
  obtain ⟨P, hP⟩ : ∃ P : Nat → List UInt8, P = fun i => (cs.take i).foldl putC (numF cs.length) := ⟨_, rfl⟩
  have hP0 : P 0 = numF cs.length := by rw [hP]; rfl
  have hPs : ∀ i, i < cs.length → P (i + 1) = putC (P i) (cs.getD i cv0) := fun i hi => by rw [hP]; exact codeC_take cs i hi
  have hPn : P cs.length = codeC cs := by rw [hP]; show (cs.take cs.length).foldl putC _ = _; rw [List.take_length]; rfl
  have hPl : ∀ i, i ≤ cs.length → 1 ≤ (P i).length ∧ (P i).length ≤ 10 + 50 * i := fun i hi => by rw [hP]; exact codeC_length cs i hi
  clear hP
  refine LoopK.mk1 (fun i : Nat => [(11, vI i), (10, vI cs.length), (9, vR cs), (3, .s (.lf (.own 0 0 1 0 (P i).length))), (2, .s (.lf .sl0))]) (fun i => [some ⟨5, [.bytes (P i).length (P i)]⟩]) (fun i => i ≤ cs.length) (fun i => cs.length - i) 0 (by omega) ?_ ?_
  · exact Weak.of ⟨rfl, ⟨.bytes (by rw [hP0]) fun _ _ => by rw [hP0], trivial⟩, trivial⟩ (by simp) ⟨okF.wv trivial, okF.wv trivial, okF.wv rowC_ok, WV.lf (WL.own rfl rfl rfl (by rw [hP0])), okF.wv trivial, trivial⟩
  intro i hi
  conv => whnf
  by_cases hl' : i < cs.length
  · refine CaseB.of_true (decide_eq_true (by omega)) ?_
    conv => whnf
    refine And.intro (by omega) ?_
    conv => whnf
    have hpl := hPl i (by omega)
    have hps := hPs i hl'
    obtain ⟨c, hc⟩ : ∃ c, cs.getD i cv0 = c := ⟨_, rfl⟩
    rw [hc] at hps
    have hi0 : cs.getD (Int.toNat (i : Int)) cv0 = c := by rw [Int.toNat_natCast]; exact hc
    rw [hi0]
    refine CallK.mk' (.s (.lf (.own 2 0 1 0 (P (i + 1)).length))) _ ((c58t (P i) c (by omega)).madeL (cs := [.s (.lf (.own 0 0 1 0 (P i).length)), vCc c]) (fun _ => False) [some ⟨5, [.bytes (P i).length (P i)]⟩, some (obC c)] (Hn := [some ⟨5, [.bytes (P (i + 1)).length (P (i + 1))]⟩]) ⟨WV.lf (WL.lentT (ty := 5) rfl rfl ⟨fun h => h, fun i ob h => by simp at h⟩), freeF.wv ⟨trivial, trivial, trivial, trivial⟩, trivial⟩ (WV.lf (WL.uown rfl rfl (by rw [hps]))) ⟨rfl, ⟨.bytes (by rw [hps]) fun _ _ => by rw [hps], trivial⟩, trivial⟩) ?_
    conv => whnf
    refine ⟨i + 1, by omega, by omega, ?_⟩
    exact Weak.perm [2] ⟨⟨rfl, .bytes rfl fun _ _ => rfl, trivial⟩, trivial⟩ ⟨WV.lf (WL.int (by rw [wrap_i64 (by omega) (by omega)]; omega)), freeF.wv trivial, freeF.wv rowC_free, WV.lf (WL.own rfl rfl rfl rfl), freeF.wv trivial, trivial⟩ rfl (by simp) rfl (by simp)
  · refine CaseB.of_false (decide_eq_false (by omega)) ?_
    conv => whnf
    obtain rfl : i = cs.length := by omega
    rw [hPn]
    exact RetK.empty (WV.lf (WL.lentT (ty := 5) rfl rfl (gone_none fun h => h)))

/-- baileyref06.Code -/
theorem c61 (cs : List CV) (hl : cs.length ≤ 1000000) : SCalls Proofs.Try.prog 61 [vR cs] [] (.s (.lf (.rob true false (codeC cs)))) [] := by
  refine SCalls.intro tok Proofs.Try.func61 ?_
  conv => whnf
  refine CallK.mk' (.s (.lf (.own 0 0 1 0 (numF cs.length).length))) _ ((c133 [] cs.length cs.length (by omega) (by omega) (by simp)).made [] (Hn := [some ⟨5, [.bytes (numF cs.length).length (numF cs.length)]⟩]) ⟨WV.lf WL.sl0rob', freeF.wv trivial, trivial⟩ (WV.lf (WL.uown rfl rfl rfl)) ⟨rfl, ⟨.bytes rfl fun _ _ => rfl, trivial⟩, trivial⟩) ?_
  conv => whnf
  obtain ⟨P, hP⟩ : ∃ P : Nat → List UInt8, P = fun i => (cs.take i).foldl putC (numF cs.length) := ⟨_, rfl⟩
  have hP0 : P 0 = numF cs.length := by rw [hP]; rfl
  have hPs : ∀ i, i < cs.length → P (i + 1) = putC (P i) (cs.getD i cv0) := fun i hi => by rw [hP]; exact codeC_take cs i hi
  have hPn : P cs.length = codeC cs := by rw [hP]; show (cs.take cs.length).foldl putC _ = _; rw [List.take_length]; rfl
  have hPl : ∀ i, i ≤ cs.length → 1 ≤ (P i).length ∧ (P i).length ≤ 10 + 50 * i := fun i hi => by rw [hP]; exact codeC_length cs i hi
  clear hP
  refine LoopK.mk1 (fun i : Nat => [(4, vI i), (0, vR cs), (3, .s (.lf (.own 0 0 1 0 (P i).length))), (2, .s (.lf .sl0))]) (fun i => [some ⟨5, [.bytes (P i).length (P i)]⟩]) (fun i => i ≤ cs.length) (fun i => cs.length - i) 0 (by omega) ?_ ?_
  · exact Weak.of ⟨rfl, ⟨.bytes (by rw [hP0]) fun _ _ => by rw [hP0], trivial⟩, trivial⟩ (by simp) ⟨okF.wv trivial, okF.wv rowC_ok, WV.lf (WL.own rfl rfl rfl (by rw [hP0])), okF.wv trivial, trivial⟩
  intro i hi
  conv => whnf
  by_cases hl' : i < cs.length
  · refine CaseB.of_true (decide_eq_true (by omega)) ?_
    conv => whnf
    refine And.intro (by omega) ?_
    conv => whnf
    have hpl := hPl i (by omega)
    have hps := hPs i hl'
    obtain ⟨c, hc⟩ : ∃ c, cs.getD i cv0 = c := ⟨_, rfl⟩
    rw [hc] at hps
    have hi0 : cs.getD (Int.toNat (i : Int)) cv0 = c := by rw [Int.toNat_natCast]; exact hc
    rw [hi0]
    refine CallK.mk' (.s (.lf (.own 1 0 1 0 (P (i + 1)).length))) _ ((c59t (P i) c (by omega) (fun h => by rw [h] at hpl; simp at hpl)).madeL (cs := [.s (.lf (.own 0 0 1 0 (P i).length)), vCc c]) (fun _ => False) [some ⟨5, [.bytes (P i).length (P i)]⟩] (Hn := [some ⟨5, [.bytes (P (i + 1)).length (P (i + 1))]⟩]) ⟨WV.lf (WL.lent (ty := 5) rfl rfl ⟨fun h => h, fun i ob h => by simp at h⟩), freeF.wv ⟨trivial, trivial, trivial, trivial⟩, trivial⟩ (WV.lf (WL.uown rfl rfl (by rw [hps]))) ⟨rfl, ⟨.bytes (by rw [hps]) fun _ _ => by rw [hps], trivial⟩, trivial⟩) ?_
    conv => whnf
    refine ⟨i + 1, by omega, by omega, ?_⟩
    exact Weak.perm [1] ⟨⟨rfl, .bytes rfl fun _ _ => rfl, trivial⟩, trivial⟩ ⟨WV.lf (WL.int (by rw [wrap_i64 (by omega) (by omega)]; omega)), freeF.wv rowC_free, WV.lf (WL.own rfl rfl rfl rfl), freeF.wv trivial, trivial⟩ rfl (by simp) rfl (by simp)
  · refine CaseB.of_false (decide_eq_false (by omega)) ?_
    conv => whnf
    obtain rfl : i = cs.length := by omega
    rw [hPn]
    exact RetK.empty (WV.lf (WL.lentT (ty := 5) rfl rfl (gone_none fun h => h)))
end Go.Sym.Md

set_option linter.unusedVariables false
set_option linter.unusedSimpArgs false
set_option maxRecDepth 10000
namespace Go.Sym.Md
open Go Go.Sym

/-! ### A caveat is read -/
def bodyC (k : Int) (r1 : Rd) : CV × Rd :=
  if k = 0 then (cv0, ⟨[], 3⟩) else
  if k = 2 ∨ k = 3 then
    (if (textR r1 16).2.e ≠ 0 then (cv0, (textR r1 16).2) else if okC k 0 (textR r1 16).1 then (⟨k, 0, (textR r1 16).1⟩, (textR r1 16).2) else (cv0, ⟨[], 3⟩))
  else
    (if (numR r1 (boundF k)).2.e ≠ 0 then (cv0, (numR r1 (boundF k)).2) else (⟨k, (numR r1 (boundF k)).1, []⟩, (numR r1 (boundF k)).2))
def readC (r : Rd) : CV × Rd := if (numR r 6).2.e ≠ 0 then (cv0, (numR r 6).2) else bodyC (numR r 6).1 (numR r 6).2

theorem okC_zero : okC 0 0 [] = false := by decide
theorem hasF_two {k : Int} (h0 : 0 ≤ k) (h6 : k ≤ 6) (hk : k ≠ 0) (h : ¬ (k = 2 ∨ k = 3)) : hasF k = 2 := by
  unfold hasF
  rw [if_neg h, if_pos (by omega)]
theorem okC_noname : okC 2 0 [] = false ∧ okC 3 0 [] = false := by decide
theorem hasF_zero : hasF 0 = 0 := by decide
theorem boundF_nn (k : Int) : 0 ≤ boundF k := by
  unfold boundF; split
  · omega
  · split <;> omega
theorem okC_num {k n : Int} (h0 : 0 ≤ k) (h6 : k ≤ 6) (hk : k ≠ 0) (h : ¬ (k = 2 ∨ k = 3)) (hn : 0 ≤ n) (hb : n ≤ boundF k) : okC k n [] = true := by
  have h2 := hasF_two h0 h6 hk h
  unfold okC
  rw [if_neg (by omega), if_pos h2]
  simp [hn, hb]

theorem bodyC_ok {k : Int} {r : Rd} (h : r.ok) : (bodyC k r).2.ok := by
  have ho : (⟨[], 3⟩ : Rd).ok := ⟨fun _ => rfl, by show IntKind.i64.min ≤ 3; decide, by show (3 : Int) ≤ IntKind.i64.max; decide, by simp⟩
  unfold bodyC
  split
  · exact ho
  · split
    · split
      · exact textR_ok h 16
      · split
        · exact textR_ok h 16
        · exact ho
    · split
      · exact numR_ok h _
      · exact numR_ok h _
theorem readC_ok {r : Rd} (h : r.ok) : (readC r).2.ok := by
  unfold readC
  split
  · exact numR_ok h 6
  · exact bodyC_ok (numR_ok h 6)

theorem numR_of_err {r : Rd} {m : Int} (h : r.e ≠ 0) : numR r m = (0, r) := by unfold numR; rw [if_pos h]
theorem numR_err {r : Rd} {m : Int} (h : (numR r m).2.e ≠ 0) : (numR r m).1 = 0 := by
  unfold numR at h ⊢
  split
  · rfl
  · rename_i h1
    rw [if_neg h1] at h
    split
    · rfl
    · rename_i h2
      rw [if_neg h2] at h
      split
      · rfl
      · rename_i h3
        rw [if_neg h3] at h
        exact absurd rfl h
theorem textR_err {r : Rd} {m : Int} (h : (textR r m).2.e ≠ 0) : (textR r m).1 = [] := by
  unfold textR at h ⊢
  split
  · rfl
  · rename_i h1
    rw [if_neg h1] at h
    split
    · rfl
    · rename_i h2
      rw [if_neg h2] at h
      exact absurd rfl h

attribute [local irreducible] numF checkF hasF okC boundF numR textR

theorem failR_err {r : Rd} (h : r.e ≠ 0) (e : Int) : failR r e = r := by unfold failR; rw [if_neg (fun k => h k.1)]
theorem failR_new {r : Rd} (h : r.e = 0) : failR r 3 = ⟨[], 3⟩ := by unfold failR; rw [if_pos ⟨h, by decide⟩]

/-- A reader's contract, in a larger heap. -/
theorem frR {f : FuncId} {l : List FV} {a b : Rd} {ret : FV} (T : Hp) (h : SCalls Proofs.Try.prog f (.s (.lf (.ptr 0 0)) :: l) [some (obR a)] ret [some (obR b)]) (hl : freeFs l) (hr : freeF ret) : SCalls Proofs.Try.prog f (.s (.lf (.ptr 0 0)) :: l) (some (obR a) :: T) ret (some (obR b) :: T) :=
  h.frame1 (H := some (obR a) :: T) (nm := 0) (ob2 := obR b) rfl rfl (obR_ws _) ⟨WV.lf (WL.ptr rfl rfl), hl.wvs⟩ rfl (obR_ws _) hr.wv
theorem frQ {f : FuncId} {l : List FV} {a b : Rd} {ret : FV} (T : Hp) (h : SCalls Proofs.Try.prog f (.s (.lf (.ptr 0 0)) :: l) [some (obQ a)] ret [some (obQ b)]) (hl : freeFs l) (hr : freeF ret) : SCalls Proofs.Try.prog f (.s (.lf (.ptr 0 0)) :: l) (some (obQ a) :: T) ret (some (obQ b) :: T) :=
  h.frame1 (H := some (obQ a) :: T) (nm := 0) (ob2 := obQ b) rfl rfl (obQ_ws _) ⟨WV.lf (WL.ptr rfl rfl), hl.wvs⟩ rfl (obQ_ws _) hr.wv

/-- caveat.Read -/
theorem c66 (r : Rd) (h : r.ok) : SCalls Proofs.Try.prog 66 [.s (.lf (.ptr 0 0))] [some (obR r)] (vCc (readC r).1) [some (obR (readC r).2)] := by
  have hk := numR_range h 6
  have hn := numR_ok h 6
  have h140 := c140 r 6 h
  obtain ⟨k, hkk⟩ : ∃ k, (numR r 6).1 = k := ⟨_, rfl⟩
  obtain ⟨r1, hr1⟩ : ∃ r1, (numR r 6).2 = r1 := ⟨_, rfl⟩
  have hR : readC r = if r1.e ≠ 0 then (cv0, r1) else bodyC k r1 := by unfold readC; rw [hr1, hkk]
  rw [hkk, hr1] at h140
  rw [hkk] at hk
  rw [hr1] at hn
  refine SCalls.intro tok Proofs.Try.func66 ?_
  conv => whnf
  refine CallK.mk' _ _ (frR _ h140 ⟨trivial, trivial⟩ trivial) ?_
  conv => whnf
  refine CallK.mk' _ _ ((c121 k).free _ ⟨trivial, trivial⟩ trivial) ?_
  conv => whnf
  by_cases he : r1.e = 0
  · rw [if_neg (by omega)] at hR
    unfold bodyC at hR
    by_cases hk0 : k = 0
    · rw [if_pos hk0] at hR
      subst hk0
      refine CaseB.of_false (decide_eq_false (by rw [hasF_zero]; decide)) ?_
      conv => whnf
      refine CaseB.of_false (decide_eq_false (by rw [hasF_zero]; decide)) ?_
      conv => whnf
      refine CallK.mk' _ _ (frR _ (c146 r1 3) ⟨trivial, trivial⟩ trivial) ?_
      conv => whnf
      rw [failR_new he]
      refine CallK.mk' _ _ ((c26 (0) (0) ([])).free _ ⟨⟨trivial, trivial, trivial, trivial⟩, trivial⟩ trivial) ?_
      conv => whnf
      refine CaseB.of_true (by rw [checkF_bad (okC_zero)]; rfl) ?_
      conv => whnf
      refine CallK.mk' _ _ (frR _ (c146 ⟨[], 3⟩ 3) ⟨trivial, trivial⟩ trivial) ?_
      conv => whnf
      rw [failR_err (show (3 : Int) ≠ 0 by decide)]
      refine CallK.mk' _ _ (frR _ (c68 ⟨[], 3⟩) trivial trivial) ?_
      conv => whnf
      refine CaseB.of_true (decide_eq_true ((show (3 : Int) ≠ 0 by decide))) ?_
      conv => whnf
      rw [hR]
      exact RetK.of ⟨rfl, okGs.ws (by exact ⟨trivial, trivial, trivial, trivial⟩), trivial⟩ (by simp) (okF.wv ⟨trivial, trivial, trivial, trivial⟩)
    · rw [if_neg hk0] at hR
      by_cases hk2 : k = 2 ∨ k = 3
      · rw [if_pos hk2] at hR
        refine CaseB.of_true (decide_eq_true ((hasF_one k).2 hk2)) ?_
        conv => whnf
        have hx := textR_ok hn 16
        have hxl := textR_len hn 16 (by omega)
        have h145 := c145 r1 16 hn
        obtain ⟨s, hs⟩ : ∃ s, (textR r1 16).1 = s := ⟨_, rfl⟩
        obtain ⟨r2, hr2⟩ : ∃ r2, (textR r1 16).2 = r2 := ⟨_, rfl⟩
        have hze := textR_err (r := r1) (m := 16)
        rw [hs, hr2] at h145 hR hze
        rw [hr2] at hx
        rw [hs] at hxl
        refine CallK.mk' _ _ (frR _ h145 ⟨trivial, trivial⟩ trivial) ?_
        conv => whnf
        refine CallK.mk' _ _ ((c26 (k) (0) (s)).free _ ⟨⟨trivial, trivial, trivial, trivial⟩, trivial⟩ trivial) ?_
        conv => whnf
        by_cases he2 : r2.e = 0
        · rw [if_neg (fun h => h he2)] at hR
          cases ho : okC k 0 s with
          | true =>
            rw [ho, if_pos rfl] at hR
            refine CaseB.of_false (by rw [checkF_good ho]; rfl) ?_
            conv => whnf
            refine CallK.mk' _ _ (frR _ (c68 r2) trivial trivial) ?_
            conv => whnf
            refine CaseB.of_false (decide_eq_false (fun h => h he2)) ?_
            conv => whnf
            rw [hR]
            exact RetK.of ⟨rfl, okGs.ws (by exact ⟨trivial, trivial, trivial, trivial⟩), trivial⟩ (by simp) (okF.wv ⟨trivial, trivial, trivial, trivial⟩)
          | false =>
            rw [ho, if_neg (by simp)] at hR
            refine CaseB.of_true (by rw [checkF_bad (ho)]; rfl) ?_
            conv => whnf
            refine CallK.mk' _ _ (frR _ (c146 r2 3) ⟨trivial, trivial⟩ trivial) ?_
            conv => whnf
            rw [failR_new he2]
            refine CallK.mk' _ _ (frR _ (c68 ⟨[], 3⟩) trivial trivial) ?_
            conv => whnf
            refine CaseB.of_true (decide_eq_true ((show (3 : Int) ≠ 0 by decide))) ?_
            conv => whnf
            rw [hR]
            exact RetK.of ⟨rfl, okGs.ws (by exact ⟨trivial, trivial, trivial, trivial⟩), trivial⟩ (by simp) (okF.wv ⟨trivial, trivial, trivial, trivial⟩)
        · rw [if_pos he2] at hR
          have hsn := hze he2
          subst hsn
          have ho : okC k 0 [] = false := by
            rcases hk2 with rfl | rfl
            · exact okC_noname.1
            · exact okC_noname.2
          refine CaseB.of_true (by rw [checkF_bad (ho)]; rfl) ?_
          conv => whnf
          refine CallK.mk' _ _ (frR _ (c146 r2 3) ⟨trivial, trivial⟩ trivial) ?_
          conv => whnf
          rw [failR_err he2]
          refine CallK.mk' _ _ (frR _ (c68 r2) trivial trivial) ?_
          conv => whnf
          refine CaseB.of_true (decide_eq_true (he2)) ?_
          conv => whnf
          rw [hR]
          exact RetK.of ⟨rfl, okGs.ws (by exact ⟨trivial, trivial, trivial, trivial⟩), trivial⟩ (by simp) (okF.wv ⟨trivial, trivial, trivial, trivial⟩)
      · rw [if_neg hk2] at hR
        have h2 := hasF_two (by omega) (by omega) hk0 hk2
        refine CaseB.of_false (decide_eq_false (by omega)) ?_
        conv => whnf
        refine CaseB.of_true (decide_eq_true h2) ?_
        conv => whnf
        refine CallK.mk' _ _ ((c123 k).free _ ⟨trivial, trivial⟩ trivial) ?_
        conv => whnf
        have hx := numR_ok hn (boundF k)
        have hxl := numR_range hn (boundF k)
        have hbn := boundF_nn k
        have h140' := c140 r1 (boundF k) hn
        obtain ⟨n, hs⟩ : ∃ n, (numR r1 (boundF k)).1 = n := ⟨_, rfl⟩
        obtain ⟨r2, hr2⟩ : ∃ r2, (numR r1 (boundF k)).2 = r2 := ⟨_, rfl⟩
        rw [hs, hr2] at h140' hR
        rw [hr2] at hx
        rw [hs] at hxl
        refine CallK.mk' _ _ (frR _ h140' ⟨trivial, trivial⟩ trivial) ?_
        conv => whnf
        have ho := okC_num (k := k) (n := n) (by omega) (by omega) hk0 hk2 (by omega) (by omega)
        refine CallK.mk' _ _ ((c26 (k) (n) ([])).free _ ⟨⟨trivial, trivial, trivial, trivial⟩, trivial⟩ trivial) ?_
        conv => whnf
        refine CaseB.of_false (by rw [checkF_good ho]; rfl) ?_
        conv => whnf
        refine CallK.mk' _ _ (frR _ (c68 r2) trivial trivial) ?_
        conv => whnf
        by_cases he2 : r2.e = 0
        · rw [if_neg (fun h => h he2)] at hR
          refine CaseB.of_false (decide_eq_false (fun h => h he2)) ?_
          conv => whnf
          rw [hR]
          exact RetK.of ⟨rfl, okGs.ws (by exact ⟨trivial, trivial, trivial, trivial⟩), trivial⟩ (by simp) (okF.wv ⟨trivial, trivial, trivial, trivial⟩)
        · rw [if_pos he2] at hR
          refine CaseB.of_true (decide_eq_true he2) ?_
          conv => whnf
          rw [hR]
          exact RetK.of ⟨rfl, okGs.ws (by exact ⟨trivial, trivial, trivial, trivial⟩), trivial⟩ (by simp) (okF.wv ⟨trivial, trivial, trivial, trivial⟩)
  · rw [if_pos he] at hR
    have hk0 := numR_err (r := r) (m := 6)
    rw [hr1, hkk] at hk0
    obtain rfl := hk0 he
    refine CaseB.of_false (decide_eq_false (by rw [hasF_zero]; decide)) ?_
    conv => whnf
    refine CaseB.of_false (decide_eq_false (by rw [hasF_zero]; decide)) ?_
    conv => whnf
    refine CallK.mk' _ _ (frR _ (c146 r1 3) ⟨trivial, trivial⟩ trivial) ?_
    conv => whnf
    rw [failR_err he]
    refine CallK.mk' _ _ ((c26 (0) (0) ([])).free _ ⟨⟨trivial, trivial, trivial, trivial⟩, trivial⟩ trivial) ?_
    conv => whnf
    refine CaseB.of_true (by rw [checkF_bad (okC_zero)]; rfl) ?_
    conv => whnf
    refine CallK.mk' _ _ (frR _ (c146 r1 3) ⟨trivial, trivial⟩ trivial) ?_
    conv => whnf
    rw [failR_err he]
    refine CallK.mk' _ _ (frR _ (c68 r1) trivial trivial) ?_
    conv => whnf
    refine CaseB.of_true (decide_eq_true (he)) ?_
    conv => whnf
    rw [hR]
    exact RetK.of ⟨rfl, okGs.ws (by exact ⟨trivial, trivial, trivial, trivial⟩), trivial⟩ (by simp) (okF.wv ⟨trivial, trivial, trivial, trivial⟩)

/-- baileyref06.Read -/
theorem c67 (r : Rd) (h : r.ok) : SCalls Proofs.Try.prog 67 [.s (.lf (.ptr 0 0))] [some (obQ r)] (vCc (readC r).1) [some (obQ (readC r).2)] := by
  have hk := numR_range h 6
  have hn := numR_ok h 6
  have h140 := c147 r 6 h
  obtain ⟨k, hkk⟩ : ∃ k, (numR r 6).1 = k := ⟨_, rfl⟩
  obtain ⟨r1, hr1⟩ : ∃ r1, (numR r 6).2 = r1 := ⟨_, rfl⟩
  have hR : readC r = if r1.e ≠ 0 then (cv0, r1) else bodyC k r1 := by unfold readC; rw [hr1, hkk]
  rw [hkk, hr1] at h140
  rw [hkk] at hk
  rw [hr1] at hn
  have ok3 : (⟨[], 3⟩ : Rd).ok := ⟨fun _ => rfl, by show IntKind.i64.min ≤ 3; decide, by show (3 : Int) ≤ IntKind.i64.max; decide, by simp⟩
  refine SCalls.intro tok Proofs.Try.func67 ?_
  conv => whnf
  refine CallK.mk' _ _ (frQ _ h140 ⟨trivial, trivial⟩ trivial) ?_
  conv => whnf
  refine CallK.mk' _ _ (frQ _ (c69 r1) trivial trivial) ?_
  conv => whnf
  by_cases he : r1.e = 0
  · rw [if_neg (by omega)] at hR
    unfold bodyC at hR
    refine CaseB.of_true (decide_eq_true he) ?_
    conv => whnf
    by_cases hk0 : k = 0
    · rw [if_pos hk0] at hR
      subst hk0
      repeat (refine CaseB.of_true (by decide) ?_; conv => whnf)
      refine CallK.mk' _ _ (frQ _ (c148 r1 hn 3) ⟨trivial, trivial⟩ trivial) ?_
      conv => whnf
      rw [failR_new he]
      refine CallK.mk' _ _ ((c124 0).free _ ⟨trivial, trivial⟩ trivial) ?_
      conv => whnf
      refine CaseB.of_false (by decide) ?_
      conv => whnf
      refine CallK.mk' _ _ ((c125 0).free _ ⟨trivial, trivial⟩ trivial) ?_
      conv => whnf
      have h0 := c147 ⟨[], 3⟩ (boundF 0) ok3
      rw [numR_of_err (show (3 : Int) ≠ 0 by decide)] at h0
      refine CallK.mk' _ _ (frQ _ h0 ⟨trivial, trivial⟩ trivial) ?_
      conv => whnf
      refine CallK.mk' _ _ (frQ _ (c69 ⟨[], 3⟩) trivial trivial) ?_
      conv => whnf
      repeat (refine CaseB.of_false (decide_eq_false ((show (3 : Int) ≠ 0 by decide))) ?_; conv => whnf)
      refine CallK.mk' _ _ (frQ _ (c69 ⟨[], 3⟩) trivial trivial) ?_
      conv => whnf
      refine CaseB.of_true (decide_eq_true ((show (3 : Int) ≠ 0 by decide))) ?_
      conv => whnf
      rw [hR]
      exact RetK.of ⟨rfl, okGs.ws (by exact ⟨trivial, trivial, trivial⟩), trivial⟩ (by simp) (okF.wv ⟨trivial, trivial, trivial, trivial⟩)
    · rw [if_neg hk0] at hR
      refine CaseB.of_false (decide_eq_false hk0) ?_
      conv => whnf
      refine CallK.mk' _ _ ((c124 k).free _ ⟨trivial, trivial⟩ trivial) ?_
      conv => whnf
      by_cases hk2 : k = 2 ∨ k = 3
      · rw [if_pos hk2] at hR
        refine CaseB.of_true (decide_eq_true hk2) ?_
        conv => whnf
        have hx := textR_ok hn 16
        have hxl := textR_len hn 16 (by omega)
        have h145 := c149 r1 16 hn
        obtain ⟨s, hs⟩ : ∃ s, (textR r1 16).1 = s := ⟨_, rfl⟩
        obtain ⟨r2, hr2⟩ : ∃ r2, (textR r1 16).2 = r2 := ⟨_, rfl⟩
        have hze := textR_err (r := r1) (m := 16)
        rw [hs, hr2] at h145 hR hze
        rw [hr2] at hx
        rw [hs] at hxl
        refine CallK.mk' _ _ (frQ _ h145 ⟨trivial, trivial⟩ trivial) ?_
        conv => whnf
        by_cases he2 : r2.e = 0
        · rw [if_neg (fun h => h he2)] at hR
          cases ho : okC k 0 s with
          | true =>
            rw [ho, if_pos rfl] at hR
            refine CallK.mk' _ _ (frQ _ (c69 r2) trivial trivial) ?_
            conv => whnf
            repeat (refine CaseB.of_true (decide_eq_true he2) ?_; conv => whnf)
            refine CallK.mk' _ _ ((c27 (k) (0) (s)).free _ ⟨⟨trivial, trivial, trivial, trivial⟩, trivial⟩ trivial) ?_
            conv => whnf
            repeat (refine CaseB.of_true (decide_eq_true he2) ?_; conv => whnf)
            refine CaseB.of_false (by rw [checkF_good ho]; rfl) ?_
            conv => whnf
            refine CallK.mk' _ _ (frQ _ (c69 r2) trivial trivial) ?_
            conv => whnf
            refine CaseB.of_false (decide_eq_false (fun h => h he2)) ?_
            conv => whnf
            rw [hR]
            exact RetK.of ⟨rfl, okGs.ws (by exact ⟨trivial, trivial, trivial⟩), trivial⟩ (by simp) (okF.wv ⟨trivial, trivial, trivial, trivial⟩)
          | false =>
            rw [ho, if_neg (by simp)] at hR
            refine CallK.mk' _ _ (frQ _ (c69 r2) trivial trivial) ?_
            conv => whnf
            repeat (refine CaseB.of_true (decide_eq_true he2) ?_; conv => whnf)
            refine CallK.mk' _ _ ((c27 (k) (0) (s)).free _ ⟨⟨trivial, trivial, trivial, trivial⟩, trivial⟩ trivial) ?_
            conv => whnf
            repeat (refine CaseB.of_true (decide_eq_true he2) ?_; conv => whnf)
            refine CaseB.of_true (by rw [checkF_bad ho]; rfl) ?_
            conv => whnf
            refine CallK.mk' _ _ (frQ _ (c148 r2 hx 3) ⟨trivial, trivial⟩ trivial) ?_
            conv => whnf
            rw [failR_new he2]
            refine CallK.mk' _ _ (frQ _ (c69 ⟨[], 3⟩) trivial trivial) ?_
            conv => whnf
            refine CaseB.of_true (decide_eq_true (show (3 : Int) ≠ 0 by decide)) ?_
            conv => whnf
            rw [hR]
            exact RetK.of ⟨rfl, okGs.ws (by exact ⟨trivial, trivial, trivial⟩), trivial⟩ (by simp) (okF.wv ⟨trivial, trivial, trivial, trivial⟩)
        · rw [if_pos he2] at hR
          refine CallK.mk' _ _ (frQ _ (c69 r2) trivial trivial) ?_
          conv => whnf
          repeat (refine CaseB.of_false (decide_eq_false (he2)) ?_; conv => whnf)
          refine CallK.mk' _ _ (frQ _ (c69 r2) trivial trivial) ?_
          conv => whnf
          refine CaseB.of_true (decide_eq_true (he2)) ?_
          conv => whnf
          rw [hR]
          exact RetK.of ⟨rfl, okGs.ws (by exact ⟨trivial, trivial, trivial⟩), trivial⟩ (by simp) (okF.wv ⟨trivial, trivial, trivial, trivial⟩)
      · rw [if_neg hk2] at hR
        refine CaseB.of_false (decide_eq_false hk2) ?_
        conv => whnf
        refine CallK.mk' _ _ ((c125 k).free _ ⟨trivial, trivial⟩ trivial) ?_
        conv => whnf
        have hx := numR_ok hn (boundF k)
        have hxl := numR_range hn (boundF k)
        have hbn := boundF_nn k
        have h140' := c147 r1 (boundF k) hn
        obtain ⟨n, hs⟩ : ∃ n, (numR r1 (boundF k)).1 = n := ⟨_, rfl⟩
        obtain ⟨r2, hr2⟩ : ∃ r2, (numR r1 (boundF k)).2 = r2 := ⟨_, rfl⟩
        rw [hs, hr2] at h140' hR
        rw [hr2] at hx
        rw [hs] at hxl
        refine CallK.mk' _ _ (frQ _ h140' ⟨trivial, trivial⟩ trivial) ?_
        conv => whnf
        have ho := okC_num (k := k) (n := n) (by omega) (by omega) hk0 hk2 (by omega) (by omega)
        by_cases he2 : r2.e = 0
        · rw [if_neg (fun h => h he2)] at hR
          refine CallK.mk' _ _ (frQ _ (c69 r2) trivial trivial) ?_
          conv => whnf
          repeat (refine CaseB.of_true (decide_eq_true he2) ?_; conv => whnf)
          refine CallK.mk' _ _ ((c27 (k) (n) ([])).free _ ⟨⟨trivial, trivial, trivial, trivial⟩, trivial⟩ trivial) ?_
          conv => whnf
          repeat (refine CaseB.of_true (decide_eq_true he2) ?_; conv => whnf)
          refine CaseB.of_false (by rw [checkF_good ho]; rfl) ?_
          conv => whnf
          refine CallK.mk' _ _ (frQ _ (c69 r2) trivial trivial) ?_
          conv => whnf
          refine CaseB.of_false (decide_eq_false (fun h => h he2)) ?_
          conv => whnf
          rw [hR]
          exact RetK.of ⟨rfl, okGs.ws (by exact ⟨trivial, trivial, trivial⟩), trivial⟩ (by simp) (okF.wv ⟨trivial, trivial, trivial, trivial⟩)
        · rw [if_pos he2] at hR
          refine CallK.mk' _ _ (frQ _ (c69 r2) trivial trivial) ?_
          conv => whnf
          repeat (refine CaseB.of_false (decide_eq_false (he2)) ?_; conv => whnf)
          refine CallK.mk' _ _ (frQ _ (c69 r2) trivial trivial) ?_
          conv => whnf
          refine CaseB.of_true (decide_eq_true (he2)) ?_
          conv => whnf
          rw [hR]
          exact RetK.of ⟨rfl, okGs.ws (by exact ⟨trivial, trivial, trivial⟩), trivial⟩ (by simp) (okF.wv ⟨trivial, trivial, trivial, trivial⟩)
  · rw [if_pos he] at hR
    refine CaseB.of_false (decide_eq_false he) ?_
    conv => whnf
    have hk0 := numR_err (r := r) (m := 6)
    rw [hr1, hkk] at hk0
    obtain rfl := hk0 he
    repeat (refine CaseB.of_false (decide_eq_false he) ?_; conv => whnf)
    refine CallK.mk' _ _ ((c124 0).free _ ⟨trivial, trivial⟩ trivial) ?_
    conv => whnf
    refine CaseB.of_false (by decide) ?_
    conv => whnf
    refine CallK.mk' _ _ ((c125 0).free _ ⟨trivial, trivial⟩ trivial) ?_
    conv => whnf
    have h0 := c147 r1 (boundF 0) hn
    rw [numR_of_err he] at h0
    refine CallK.mk' _ _ (frQ _ h0 ⟨trivial, trivial⟩ trivial) ?_
    conv => whnf
    refine CallK.mk' _ _ (frQ _ (c69 r1) trivial trivial) ?_
    conv => whnf
    repeat (refine CaseB.of_false (decide_eq_false (he)) ?_; conv => whnf)
    refine CallK.mk' _ _ (frQ _ (c69 r1) trivial trivial) ?_
    conv => whnf
    refine CaseB.of_true (decide_eq_true (he)) ?_
    conv => whnf
    rw [hR]
    exact RetK.of ⟨rfl, okGs.ws (by exact ⟨trivial, trivial, trivial⟩), trivial⟩ (by simp) (okF.wv ⟨trivial, trivial, trivial, trivial⟩)
end Go.Sym.Md

set_option linter.unusedVariables false
set_option linter.unusedSimpArgs false
set_option maxRecDepth 10000
namespace Go.Sym.Md
open Go Go.Sym

/-! ### Lists of caveats are read -/
def readsC : Nat → Rd → List CV × Rd
  | 0, r => ([], r)
  | n + 1, r => if r.e ≠ 0 then ([], r) else ((readC r).1 :: (readsC n (readC r).2).1, (readsC n (readC r).2).2)
def allC (r : Rd) : List CV × Rd := readsC (numR r 8).1.toNat (numR r 8).2
def endF (r : Rd) : Int := if 0 < r.l.length then 3 else r.e
def parseC (b : List UInt8) : List CV × Int := if endF (allC ⟨b, 0⟩).2 = 0 then ((allC ⟨b, 0⟩).1, 0) else ([], endF (allC ⟨b, 0⟩).2)

theorem readsC_ok : ∀ (n : Nat) {r : Rd}, r.ok → (readsC n r).2.ok
  | 0, r, h => h
  | n + 1, r, h => by
    unfold readsC
    split
    · exact h
    · exact readsC_ok n (readC_ok h)
theorem allC_ok {r : Rd} (h : r.ok) : (allC r).2.ok := readsC_ok _ (numR_ok h 8)
theorem readsC_err (n : Nat) {r : Rd} (h : r.e ≠ 0) : readsC n r = ([], r) := by
  cases n with
  | zero => rfl
  | succ n => unfold readsC; rw [if_pos h]
theorem readsC_len : ∀ (n : Nat) (r : Rd), (readsC n r).1.length ≤ n
  | 0, r => by simp [readsC]
  | n + 1, r => by
    unfold readsC
    split
    · simp
    · simp only [List.length_cons]
      have := readsC_len n (readC r).2
      omega

theorem rowC_snoc (cs : List CV) (c : CV) (i j : Nat) (hi : i < cs.length + 1) (hj : j < 3) : catRow 3 cs.length (fun i j => rowC cs (0 + i) j) (fun i j => cellD ([] ++ ([Seg.one (LV.int IntKind.i64 c.k), Seg.one (LV.int IntKind.i64 c.n), Seg.one (LV.str c.s)] ++ [])) (i * 3 + j)) i j = rowC (cs ++ [c]) i j := by
  unfold catRow
  by_cases h : i < cs.length
  · rw [show Nat.blt i cs.length = true by simp [Nat.blt, Nat.ble_eq]; omega]
    show rowC cs (0 + i) j = _
    unfold rowC
    rw [Nat.zero_add, show (cs ++ [c]).getD i cv0 = cs.getD i cv0 by rw [List.getD_eq_getElem?_getD, List.getD_eq_getElem?_getD, List.getElem?_append_left h]]
  · have e : i = cs.length := by omega
    subst e
    rw [show Nat.blt cs.length cs.length = false by cases hb : Nat.blt cs.length cs.length <;> first | rfl | (have := blt_true hb; omega)]
    show cellD _ ((cs.length - cs.length) * 3 + j) = _
    unfold rowC
    rw [Nat.sub_self, show (cs ++ [c]).getD cs.length cv0 = c by rw [List.getD_eq_getElem?_getD, List.getElem?_append_right (Nat.le_refl _), Nat.sub_self]; rfl]
    have : j = 0 ∨ j = 1 ∨ j = 2 := by omega
    rcases this with rfl | rfl | rfl <;> rfl

attribute [local irreducible] numF checkF hasF okC boundF numR textR readC

theorem wl_of_eq {D : Rel} {u v : LV} (h : u = v) (hv : WL D v v) : WL D u v := by subst h; exact hv

def accV (nm : Nat) : List CV → FV
  | [] => .s (.lf .sl0)
  | a :: l => .s (.lf (.own nm 0 3 0 (a :: l).length))
def accH : List CV → Hp
  | [] => []
  | a :: l => [some ⟨23, [.recs 3 (a :: l).length (rowC (a :: l))]⟩]

/-- caveat.Parse -/
theorem c62 (b : List UInt8) (hb : b.length ≤ 1000000000) : SCalls Proofs.Try.prog 62 [.s (.lf (.rob false false b))] [] (.tup [.lf (.ro false false 3 (parseC b).1.length (rowC (parseC b).1)), .lf (.int .i64 (parseC b).2)]) [] := by
  have h0 : (⟨b, 0⟩ : Rd).ok := ⟨fun h => absurd rfl h, by show IntKind.i64.min ≤ 0; decide, by show (0 : Int) ≤ IntKind.i64.max; decide, by show b.length ≤ _; omega⟩
  refine SCalls.intro tok Proofs.Try.func62 ?_
  conv => whnf
  refine CallK.mk' _ _ (c64 b (by omega)) ?_
  conv => whnf
  refine CallK.mk' _ _ (c140 ⟨b, 0⟩ 8 h0) ?_
  conv => whnf
  have hn8 := numR_range h0 8
  have hno := numR_ok h0 8
  obtain ⟨n, hn⟩ : ∃ n : Nat, (numR ⟨b, 0⟩ 8).1 = n := ⟨(numR ⟨b, 0⟩ 8).1.toNat, by omega⟩
  obtain ⟨r1, hr1⟩ : ∃ r1, (numR ⟨b, 0⟩ 8).2 = r1 := ⟨_, rfl⟩
  have hA : allC ⟨b, 0⟩ = readsC n r1 := by unfold allC; rw [hn, hr1, Int.toNat_natCast]
  have hE : parseC b = if endF (readsC n r1).2 = 0 then ((readsC n r1).1, 0) else ([], endF (readsC n r1).2) := by unfold parseC; rw [hA]
  rw [hn, hr1]
  rw [hr1] at hno
  rw [hn] at hn8
  refine LoopK.mk3 (fun (m : Nat) (q : Rd) (acc : List CV) => [(6, vI m), (5, accV 1 acc), (4, .s (.lf (.ptr 0 0))), (3, vI 0), (2, .s (.lf .sl0))]) (fun m q acc => some (obR q) :: accH acc)
    (fun m q acc => q.ok ∧ acc ++ (readsC m q).1 = (readsC n r1).1 ∧ (readsC m q).2 = (readsC n r1).2 ∧ acc.length + m = n) (fun m q acc => m) n r1 [] ⟨hno, rfl, rfl, by simp⟩ ?_ ?_
  · exact Weak.of ⟨rfl, okGs.ws (by exact ⟨trivial, trivial, trivial, trivial⟩), trivial⟩ (by simp) ⟨okF.wv trivial, okF.wv trivial, okF.wv rfl, okF.wv trivial, okF.wv trivial, trivial⟩
  rintro m q acc ⟨hq, ha, hb', hl⟩
  conv => whnf
  cases m with
  | zero =>
    repeat (refine CaseB.of_false (decide_eq_false (show ¬ (0 : Int) < ((0 : Nat) : Int) by omega)) ?_; conv => whnf)
    have hS : readsC 0 q = ([], q) := rfl
    rw [hS, List.append_nil] at ha
    rw [hS] at hb'
    refine CallK.mk' _ _ (frR _ (c85 q hq) trivial trivial) ?_
    conv => whnf
    rw [show (if 0 < q.l.length then 3 else q.e) = endF q from rfl]
    rw [← hb', ← ha] at hE
    by_cases hz : endF q = 0
    · refine CaseB.of_false (decide_eq_false (fun h => h hz)) ?_
      conv => whnf
      rw [if_pos hz] at hE
      rw [hE]
      cases acc with
      | nil => exact RetK.empty (WV.tup ⟨WL.sl0ro, WL.int rfl, trivial⟩)
      | cons a l => exact RetK.empty (WV.tup ⟨WL.lentC (ty := 23) rfl rfl rfl (fun _ _ _ _ => rfl) (gone_none fun h => h), WL.int rfl, trivial⟩)
    · refine CaseB.of_true (decide_eq_true hz) ?_
      conv => whnf
      rw [if_neg hz] at hE
      rw [hE]
      exact RetK.empty (WV.tup ⟨WL.sl0ro, WL.int rfl, trivial⟩)
  | succ m =>
    repeat (refine CaseB.of_true (decide_eq_true (show (0 : Int) < ((m + 1 : Nat) : Int) by omega)) ?_; conv => whnf)
    refine CallK.mk' _ _ (frR _ (c68 q) trivial trivial) ?_
    conv => whnf
    by_cases he : q.e = 0
    · repeat ((first | refine CaseB.of_true (decide_eq_true he) ?_ | refine CaseB.of_true (decide_eq_true (show (0 : Int) < ((m + 1 : Nat) : Int) by omega)) ?_); conv => whnf)
      have hS : readsC (m + 1) q = ((readC q).1 :: (readsC m (readC q).2).1, (readsC m (readC q).2).2) := by conv => lhs; unfold readsC; rw [if_neg (fun h => h he)]
      rw [hS] at ha hb'
      have hq2 := readC_ok hq
      have h66 := c66 q hq
      obtain ⟨c, hc⟩ : ∃ c, (readC q).1 = c := ⟨_, rfl⟩
      obtain ⟨q2, hq2'⟩ : ∃ q2, (readC q).2 = q2 := ⟨_, rfl⟩
      rw [hc, hq2'] at ha h66
      rw [hq2'] at hb' hq2
      have ha' : acc ++ [c] ++ (readsC m q2).1 = (readsC n r1).1 := by rw [← ha]; simp
      cases acc with
      | nil =>
        conv => whnf
        refine CallK.mk' _ _ (frR _ h66 trivial ⟨trivial, trivial, trivial, trivial⟩) ?_
        conv => whnf
        refine Or.inr ?_
        conv => whnf
        refine And.intro (by show (0 + 1) * 32 ≤ _; omega) ?_
        conv => whnf
        refine ⟨(m, q2, [c]), ⟨hq2, ha', hb', by simp only [List.length_nil, List.length_cons] at hl ⊢; omega⟩, by show m < m + 1; omega, ?_⟩
        exact Weak.of ⟨rfl, okGs.ws (by exact ⟨trivial, trivial, trivial, trivial⟩), rfl, ⟨.recs rfl fun i hi j hj => by
            have hi : i < 0 + 1 := hi
            obtain rfl : i = 0 := by omega
            have : j = 0 ∨ j = 1 ∨ j = 2 := by have : j < 3 := hj; omega
            rcases this with rfl | rfl | rfl
            · exact plainL.wl (v := .int .i64 c.k) trivial
            · exact plainL.wl (v := .int .i64 c.n) trivial
            · exact plainL.wl (v := .str c.s) trivial, trivial⟩, trivial⟩ (by simp)
          ⟨WV.lf (WL.int (by rw [wrap_i64 (by omega) (by omega)]; show ((m + 1 : Nat) : Int) - 1 = (m : Int); omega)), WV.lf (WL.own rfl rfl rfl rfl), okF.wv rfl, okF.wv trivial, okF.wv trivial, trivial⟩
      | cons a l =>
        conv => whnf
        refine CallK.mk' _ _ (frR _ h66 trivial ⟨trivial, trivial, trivial, trivial⟩) ?_
        conv => whnf
        refine Or.inr ?_
        conv => whnf
        refine And.intro (by omega) ?_
        conv => whnf
        refine And.intro ⟨rfl, by show ((a :: l).length + 1) * 32 ≤ _; omega⟩ ?_
        conv => whnf
        refine ⟨(m, q2, a :: l ++ [c]), ⟨hq2, ha', hb', by show (a :: l ++ [c]).length + m = n; rw [List.length_append]; simp only [List.length_cons, List.length_nil] at hl ⊢; omega⟩, by show m < m + 1; omega, ?_⟩
        have hlc : (a :: l).length + 1 = (a :: (l ++ [c])).length := by simp
        exact Weak.perm [0, 2] ⟨⟨rfl, obR_ws _⟩, ⟨rfl, .recs hlc fun i hi j hj => wl_of_eq (rowC_snoc (a :: l) c i j hi hj) (rowC_wl hj), trivial⟩, trivial⟩
          ⟨WV.lf (WL.int (by rw [wrap_i64 (by omega) (by omega)]; show ((m + 1 : Nat) : Int) - 1 = (m : Int); omega)), WV.lf (WL.own rfl rfl rfl hlc), WV.lf (WL.ptr rfl rfl), freeF.wv trivial, freeF.wv trivial, trivial⟩ rfl (by show 2 ≤ 2; omega) rfl (Nat.zero_le _)
    · repeat ((first | refine CaseB.of_false (decide_eq_false he) ?_ | refine CaseB.of_true (decide_eq_true (show (0 : Int) < ((m + 1 : Nat) : Int) by omega)) ?_); conv => whnf)
      have hS := readsC_err (m + 1) he
      rw [hS, List.append_nil] at ha
      rw [hS] at hb'
      refine CallK.mk' _ _ (frR _ (c85 q hq) trivial trivial) ?_
      conv => whnf
      rw [show (if 0 < q.l.length then 3 else q.e) = endF q from rfl]
      rw [← hb', ← ha] at hE
      by_cases hz : endF q = 0
      · refine CaseB.of_false (decide_eq_false (fun h => h hz)) ?_
        conv => whnf
        rw [if_pos hz] at hE
        rw [hE]
        cases acc with
        | nil => exact RetK.empty (WV.tup ⟨WL.sl0ro, WL.int rfl, trivial⟩)
        | cons a l => exact RetK.empty (WV.tup ⟨WL.lentC (ty := 23) rfl rfl rfl (fun _ _ _ _ => rfl) (gone_none fun h => h), WL.int rfl, trivial⟩)
      · refine CaseB.of_true (decide_eq_true hz) ?_
        conv => whnf
        rw [if_neg hz] at hE
        rw [hE]
        exact RetK.empty (WV.tup ⟨WL.sl0ro, WL.int rfl, trivial⟩)

/-- What ReadAll gives. -/
def keptC (x : List CV × Rd) : List CV := if x.2.e ≠ 0 then [] else x.1

/-- baileyref06.ReadAll -/
theorem c141 (r : Rd) (hr : r.ok) : SCalls Proofs.Try.prog 141 [.s (.lf (.ptr 0 0))] [some (obQ r)] (.s (.lf (.ro false false 3 (keptC (allC r)).length (rowC (keptC (allC r)))))) [some (obQ (allC r).2)] := by
  have hn8 := numR_range hr 8
  have hno := numR_ok hr 8
  have h147 := c147 r 8 hr
  obtain ⟨n, hn⟩ : ∃ n : Nat, (numR r 8).1 = n := ⟨(numR r 8).1.toNat, by omega⟩
  obtain ⟨r1, hr1⟩ : ∃ r1, (numR r 8).2 = r1 := ⟨_, rfl⟩
  have hA : allC r = readsC n r1 := by unfold allC; rw [hn, hr1, Int.toNat_natCast]
  rw [hn, hr1] at h147
  rw [hr1] at hno
  rw [hn] at hn8
  rw [hA]
  refine SCalls.intro tok Proofs.Try.func141 ?_
  conv => whnf
  refine CallK.mk' _ _ h147 ?_
  conv => whnf
  refine LoopK.mk3 (fun (m : Nat) (q : Rd) (acc : List CV) => [(5, vI ((n - m : Nat) : Int)), (4, vI n), (3, accV 1 acc), (2, .s (.lf .sl0)), (0, .s (.lf (.ptr 0 0)))]) (fun m q acc => some (obQ q) :: accH acc)
    (fun m q acc => q.ok ∧ acc ++ (readsC m q).1 = (readsC n r1).1 ∧ (readsC m q).2 = (readsC n r1).2 ∧ acc.length + m = n) (fun m q acc => m) n r1 [] ⟨hno, rfl, rfl, by simp⟩ ?_ ?_
  · exact Weak.of ⟨rfl, okGs.ws (by exact ⟨trivial, trivial, trivial⟩), trivial⟩ (by simp) ⟨WV.lf (WL.int (by omega)), okF.wv trivial, okF.wv trivial, okF.wv trivial, okF.wv rfl, trivial⟩
  rintro m q acc ⟨hq, ha, hb', hl⟩
  conv => whnf
  cases m with
  | zero =>
    repeat (refine CaseB.of_false (decide_eq_false (show ¬ ((n - 0 : Nat) : Int) < (n : Int) by omega)) ?_; conv => whnf)
    have hS : readsC 0 q = ([], q) := rfl
    rw [hS, List.append_nil] at ha
    rw [hS] at hb'
    refine CallK.mk' _ _ (frQ _ (c69 q) trivial trivial) ?_
    conv => whnf
    have hK : keptC (readsC n r1) = if q.e ≠ 0 then [] else acc := by unfold keptC; rw [← hb', ← ha]
    have hW : (readsC n r1).2 = q := hb'.symm
    rw [hW, hK]
    by_cases hz : q.e = 0
    · refine CaseB.of_false (decide_eq_false (fun h => h hz)) ?_
      conv => whnf
      rw [if_neg (fun h => h hz)]
      cases acc with
      | nil => exact RetK.of ⟨rfl, okGs.ws (by exact ⟨trivial, trivial, trivial⟩), trivial⟩ (by simp) (WV.lf WL.sl0ro)
      | cons a l => exact RetK.of ⟨rfl, okGs.ws (by exact ⟨trivial, trivial, trivial⟩), trivial⟩ (by simp) (WV.lf (WL.lentC (ty := 23) rfl rfl rfl (fun _ _ _ _ => rfl) (gone_one (by decide))))
    · refine CaseB.of_true (decide_eq_true hz) ?_
      conv => whnf
      rw [if_pos hz]
      cases acc with
      | nil => exact RetK.of ⟨rfl, okGs.ws (by exact ⟨trivial, trivial, trivial⟩), trivial⟩ (by simp) (WV.lf WL.sl0ro)
      | cons a l => exact RetK.of ⟨rfl, okGs.ws (by exact ⟨trivial, trivial, trivial⟩), trivial⟩ (by simp) (WV.lf WL.sl0ro)
  | succ m =>
    repeat (refine CaseB.of_true (decide_eq_true (show ((n - (m + 1) : Nat) : Int) < (n : Int) by omega)) ?_; conv => whnf)
    refine CallK.mk' _ _ (frQ _ (c69 q) trivial trivial) ?_
    conv => whnf
    by_cases he : q.e = 0
    · repeat ((first | refine CaseB.of_true (decide_eq_true he) ?_ | refine CaseB.of_true (decide_eq_true (show ((n - (m + 1) : Nat) : Int) < (n : Int) by omega)) ?_); conv => whnf)
      have hS : readsC (m + 1) q = ((readC q).1 :: (readsC m (readC q).2).1, (readsC m (readC q).2).2) := by conv => lhs; unfold readsC; rw [if_neg (fun h => h he)]
      rw [hS] at ha hb'
      have hq2 := readC_ok hq
      have h66 := c67 q hq
      obtain ⟨c, hc⟩ : ∃ c, (readC q).1 = c := ⟨_, rfl⟩
      obtain ⟨q2, hq2'⟩ : ∃ q2, (readC q).2 = q2 := ⟨_, rfl⟩
      rw [hc, hq2'] at ha h66
      rw [hq2'] at hb' hq2
      have ha' : acc ++ [c] ++ (readsC m q2).1 = (readsC n r1).1 := by rw [← ha]; simp
      cases acc with
      | nil =>
        conv => whnf
        refine CallK.mk' _ _ (frQ _ h66 trivial ⟨trivial, trivial, trivial, trivial⟩) ?_
        conv => whnf
        refine Or.inr ?_
        conv => whnf
        refine And.intro (by show (0 + 1) * 32 ≤ _; omega) ?_
        conv => whnf
        refine ⟨(m, q2, [c]), ⟨hq2, ha', hb', by simp only [List.length_nil, List.length_cons] at hl ⊢; omega⟩, by show m < m + 1; omega, ?_⟩
        exact Weak.of ⟨rfl, okGs.ws (by exact ⟨trivial, trivial, trivial⟩), rfl, ⟨.recs rfl fun i hi j hj => by
            have hi : i < 0 + 1 := hi
            obtain rfl : i = 0 := by omega
            have : j = 0 ∨ j = 1 ∨ j = 2 := by have : j < 3 := hj; omega
            rcases this with rfl | rfl | rfl
            · exact plainL.wl (v := .int .i64 c.k) trivial
            · exact plainL.wl (v := .int .i64 c.n) trivial
            · exact plainL.wl (v := .str c.s) trivial, trivial⟩, trivial⟩ (by simp)
          ⟨WV.lf (WL.int (by rw [wrap_i64 (by omega) (by omega)]; show ((n - (m + 1) : Nat) : Int) + 1 = ((n - m : Nat) : Int); omega)), okF.wv trivial, WV.lf (WL.own rfl rfl rfl rfl), okF.wv trivial, okF.wv rfl, trivial⟩
      | cons a l =>
        conv => whnf
        refine CallK.mk' _ _ (frQ _ h66 trivial ⟨trivial, trivial, trivial, trivial⟩) ?_
        conv => whnf
        refine Or.inr ?_
        conv => whnf
        refine And.intro (by omega) ?_
        conv => whnf
        refine And.intro ⟨rfl, by show ((a :: l).length + 1) * 32 ≤ _; omega⟩ ?_
        conv => whnf
        refine ⟨(m, q2, a :: l ++ [c]), ⟨hq2, ha', hb', by show (a :: l ++ [c]).length + m = n; rw [List.length_append]; simp only [List.length_cons, List.length_nil] at hl ⊢; omega⟩, by show m < m + 1; omega, ?_⟩
        have hlc : (a :: l).length + 1 = (a :: (l ++ [c])).length := by simp
        exact Weak.perm [0, 2] ⟨⟨rfl, obQ_ws _⟩, ⟨rfl, .recs hlc fun i hi j hj => wl_of_eq (rowC_snoc (a :: l) c i j hi hj) (rowC_wl hj), trivial⟩, trivial⟩
          ⟨WV.lf (WL.int (by rw [wrap_i64 (by omega) (by omega)]; show ((n - (m + 1) : Nat) : Int) + 1 = ((n - m : Nat) : Int); omega)), freeF.wv trivial, WV.lf (WL.own rfl rfl rfl hlc), freeF.wv trivial, WV.lf (WL.ptr rfl rfl), trivial⟩ rfl (by show 2 ≤ 2; omega) rfl (by show 1 ≤ 2; omega)
    · repeat ((first | refine CaseB.of_false (decide_eq_false he) ?_ | refine CaseB.of_true (decide_eq_true (show ((n - (m + 1) : Nat) : Int) < (n : Int) by omega)) ?_); conv => whnf)
      have hS := readsC_err (m + 1) he
      rw [hS, List.append_nil] at ha
      rw [hS] at hb'
      refine CallK.mk' _ _ (frQ _ (c69 q) trivial trivial) ?_
      conv => whnf
      have hK : keptC (readsC n r1) = if q.e ≠ 0 then [] else acc := by unfold keptC; rw [← hb', ← ha]
      have hW : (readsC n r1).2 = q := hb'.symm
      rw [hW, hK]
      by_cases hz : q.e = 0
      · refine CaseB.of_false (decide_eq_false (fun h => h hz)) ?_
        conv => whnf
        rw [if_neg (fun h => h hz)]
        cases acc with
        | nil => exact RetK.of ⟨rfl, okGs.ws (by exact ⟨trivial, trivial, trivial⟩), trivial⟩ (by simp) (WV.lf WL.sl0ro)
        | cons a l => exact RetK.of ⟨rfl, okGs.ws (by exact ⟨trivial, trivial, trivial⟩), trivial⟩ (by simp) (WV.lf (WL.lentC (ty := 23) rfl rfl rfl (fun _ _ _ _ => rfl) (gone_one (by decide))))
      · refine CaseB.of_true (decide_eq_true hz) ?_
        conv => whnf
        rw [if_pos hz]
        cases acc with
        | nil => exact RetK.of ⟨rfl, okGs.ws (by exact ⟨trivial, trivial, trivial⟩), trivial⟩ (by simp) (WV.lf WL.sl0ro)
        | cons a l => exact RetK.of ⟨rfl, okGs.ws (by exact ⟨trivial, trivial, trivial⟩), trivial⟩ (by simp) (WV.lf WL.sl0ro)

theorem endF_err {q : Rd} (hq : q.ok) (h : q.e ≠ 0) : endF q = q.e := by unfold endF; rw [if_neg (by rw [hq.nil h]; simp)]

/-- baileyref06.Parse -/
theorem c63 (b : List UInt8) (hb : b.length ≤ 1000000000) : SCalls Proofs.Try.prog 63 [.s (.lf (.rob false false b))] [] (.tup [.lf (.ro false false 3 (parseC b).1.length (rowC (parseC b).1)), .lf (.int .i64 (parseC b).2)]) [] := by
  have h0 : (⟨b, 0⟩ : Rd).ok := ⟨fun h => absurd rfl h, by show IntKind.i64.min ≤ 0; decide, by show (0 : Int) ≤ IntKind.i64.max; decide, by show b.length ≤ _; omega⟩
  have hk := allC_ok h0
  refine SCalls.intro tok Proofs.Try.func63 ?_
  conv => whnf
  refine CallK.mk' _ _ (c65 b (by omega)) ?_
  conv => whnf
  refine CallK.mk' _ _ (c141 ⟨b, 0⟩ h0) ?_
  conv => whnf
  refine CallK.mk' _ _ (c142 _ hk) ?_
  conv => whnf
  rw [show (if 0 < (allC ⟨b, 0⟩).2.l.length then 3 else (allC ⟨b, 0⟩).2.e) = endF (allC ⟨b, 0⟩).2 from rfl]
  by_cases hz : endF (allC ⟨b, 0⟩).2 = 0
  · refine CaseB.of_false (decide_eq_false (fun h => h hz)) ?_
    conv => whnf
    have hE : parseC b = ((allC ⟨b, 0⟩).1, 0) := by unfold parseC; rw [if_pos hz]
    have he : (allC ⟨b, 0⟩).2.e = 0 := by
      by_cases h : (allC ⟨b, 0⟩).2.e = 0
      · exact h
      · rw [endF_err hk h] at hz; exact hz
    have hK : keptC (allC ⟨b, 0⟩) = (allC ⟨b, 0⟩).1 := by unfold keptC; rw [if_neg (fun h => h he)]
    rw [hE, hK]
    exact RetK.empty (WV.tup ⟨WL.ro rfl (by simp) (by simp) fun i hi j hj => rowC_wl hj, WL.int rfl, trivial⟩)
  · refine CaseB.of_true (decide_eq_true hz) ?_
    conv => whnf
    have hE : parseC b = ([], endF (allC ⟨b, 0⟩).2) := by unfold parseC; rw [if_neg hz]
    rw [hE]
    exact RetK.empty (WV.tup ⟨WL.sl0ro, WL.int rfl, trivial⟩)
end Go.Sym.Md

set_option linter.unusedVariables false
set_option linter.unusedSimpArgs false
set_option maxRecDepth 10000
namespace Go.Sym.Md
open Go Go.Sym
theorem allC_len {r : Rd} (h : r.ok) : (allC r).1.length ≤ 8 := by
  have h1 := readsC_len (numR r 8).1.toNat (numR r 8).2
  have h2 := numR_range h 8
  unfold allC
  omega
theorem parseC_len (b : List UInt8) (hb : b.length ≤ 140737488355328) : (parseC b).1.length ≤ 8 := by
  have h0 : (⟨b, 0⟩ : Rd).ok := ⟨fun h => absurd rfl h, by show IntKind.i64.min ≤ 0; decide, by show (0 : Int) ≤ IntKind.i64.max; decide, hb⟩
  unfold parseC
  split
  · exact allC_len h0
  · simp

attribute [local irreducible] numF checkF hasF okC boundF numR textR readC putC codeC parseC

/-- Bytes that an argument holds: nil, or some. -/
def isB (u : LV) (b : List UInt8) : Prop := (u = .sl0 ∧ b = []) ∨ u = .rob true false b
theorem isB.wl {D : Rel} [ROk D] {u : LV} {b : List UInt8} (h : isB u b) : WL D u (.rob false false b) := by
  rcases h with ⟨rfl, rfl⟩ | rfl
  · exact WL.sl0rob'
  · exact WL.rob rfl (by simp) (by simp)
theorem isB.self {D : Rel} [ROk D] {u : LV} {b : List UInt8} (h : isB u b) : WL D u u := by
  rcases h with ⟨rfl, rfl⟩ | rfl
  · exact WL.sl0
  · exact WL.rob rfl (by simp) (by simp)

theorem toRob {xs : List UInt8} {D : Rel} [ROk D] : WL D (.rob true false xs) (.rob false false xs) := WL.rob rfl (by simp) (by simp)

/-- caveat.Put, its bytes handed on -/
theorem c58f {u : LV} {b : List UInt8} (hu : isB u b) (c : CV) (hb : b.length ≤ 1000000000) : SCalls Proofs.Try.prog 58 [.s (.lf u), vCc c] [] (.s (.lf (.rob false false (putC b c)))) [] := by
  rcases hu with ⟨rfl, rfl⟩ | rfl
  · cases h : okC c.k c.n c.s with
    | false =>
      rw [show putC [] c = [] by unfold putC; rw [h]; rfl]
      exact (c58x c h).after (RetK.empty (WV.lf WL.sl0rob'))
    | true =>
      rw [show putC [] c = putF [] c.k c.n c.s by unfold putC; rw [h]; rfl]
      have h1 := (c58 [] c.k c.n c.s h (by simp)).frozen rfl
      exact h1.pure [] (cs := [.s (.lf .sl0), vCc c]) ⟨WV.lf WL.sl0rob', freeF.wv ⟨trivial, trivial, trivial, trivial⟩, trivial⟩ (WV.lf toRob)
  · exact ((c58t b c (by omega)).frozen rfl).after (RetK.empty (WV.lf toRob))

/-- baileyref06.Put, its bytes handed on -/
theorem c59f (b : List UInt8) (c : CV) (hb : b.length ≤ 1000000000) : SCalls Proofs.Try.prog 59 [.s (.lf (.rob false false b)), vCc c] [] (.s (.lf (.rob false false (putC b c)))) [] := by
  cases b with
  | nil =>
    cases h : okC c.k c.n c.s with
    | false =>
      rw [show putC [] c = [] by unfold putC; rw [h]; rfl]
      exact (c59x c h).after (RetK.empty (WV.lf WL.sl0rob'))
    | true =>
      rw [show putC [] c = putF [] c.k c.n c.s by unfold putC; rw [h]; rfl]
      exact ((c59k [] c.k c.n c.s h (by simp)).frozen rfl).after (RetK.empty (WV.lf toRob))
  | cons x b => exact ((c59t (x :: b) c (by omega) (by simp)).frozen rfl).after (RetK.empty (WV.lf toRob))

theorem frRi {f : FuncId} {l : List FV} {a b : Rd} {ret : FV} (H : Hp) (nm : Nat) (h : SCalls Proofs.Try.prog f (.s (.lf (.ptr 0 0)) :: l) [some (obR a)] ret [some (obR b)]) (hn : H[nm]? = some (some (obR a))) (hl : freeFs l) (hr : freeF ret) : SCalls Proofs.Try.prog f (.s (.lf (.ptr nm 0)) :: l) H ret (H.set nm (some (obR b))) :=
  h.frame1 (H := H) (nm := nm) (ob2 := obR b) hn rfl (obR_ws _) ⟨WV.lf (WL.ptr rfl rfl), hl.wvs⟩ rfl (obR_ws _) hr.wv
theorem frQi {f : FuncId} {l : List FV} {a b : Rd} {ret : FV} (H : Hp) (nm : Nat) (h : SCalls Proofs.Try.prog f (.s (.lf (.ptr 0 0)) :: l) [some (obQ a)] ret [some (obQ b)]) (hn : H[nm]? = some (some (obQ a))) (hl : freeFs l) (hr : freeF ret) : SCalls Proofs.Try.prog f (.s (.lf (.ptr nm 0)) :: l) H ret (H.set nm (some (obQ b))) :=
  h.frame1 (H := H) (nm := nm) (ob2 := obQ b) hn rfl (obQ_ws _) ⟨WV.lf (WL.ptr rfl rfl), hl.wvs⟩ rfl (obQ_ws _) hr.wv

theorem cvEq_t {x y : CV} (h : x = y) : (decide (x.k = y.k) && (decide (x.n = y.n) && (decide (x.s = y.s) && true))) = true := by subst h; simp

/-- baileylaw06.CaveatCodes -/
theorem c10 (c : CV) (cs : List CV) (hl : cs.length ≤ maxLen) {u : LV} {b : List UInt8} (hu : isB u b) (hbl : b.length ≤ maxLen) : SCalls Proofs.Try.prog 10 [vCc c, vR cs, .s (.lf u)] [] (.s (.lf .tt)) [] := by
  have hm : maxLen = 9223372036854775807 := rfl
  have k30 := (c30L cs hl).free [some (obC c)] ⟨rowC_free, trivial⟩ trivial
  have k25 := c25.free [some (obC c)] trivial trivial
  cases fa : fewL cs with
  | false =>
    rw [fa] at k30
    rcases hu with ⟨rfl, rfl⟩ | rfl
    all_goals
      refine SCalls.intro tok Proofs.Try.func10 ?_
      conv => whnf
      refine CallK.mk' _ _ k30 ?_
      conv => whnf
      repeat (refine CaseB.of_true rfl ?_; conv => whnf)
      refine CallK.mk' _ _ k25 ?_
      conv => whnf
      exact RetK.empty (okF.wv trivial)
  | true =>
    rw [fa] at k30
    have hfew : cs.length ≤ 30 := by unfold fewL at fa; simp at fa; omega
    by_cases h2 : 200 < (c.s.length : Int)
    · rcases hu with ⟨rfl, rfl⟩ | rfl
      all_goals
        refine SCalls.intro tok Proofs.Try.func10 ?_
        conv => whnf
        refine CallK.mk' _ _ k30 ?_
        conv => whnf
        repeat ((first | refine CaseB.of_false rfl ?_ | refine CaseB.of_true (decide_eq_true h2) ?_); conv => whnf)
        refine CallK.mk' _ _ k25 ?_
        conv => whnf
        exact RetK.empty (okF.wv trivial)
    by_cases h3 : 2000 < (b.length : Int)
    · rcases hu with ⟨rfl, rfl⟩ | rfl
      · simp at h3
      refine SCalls.intro tok Proofs.Try.func10 ?_
      conv => whnf
      refine CallK.mk' _ _ k30 ?_
      conv => whnf
      repeat ((first | refine CaseB.of_false rfl ?_ | refine CaseB.of_false (decide_eq_false h2) ?_ | refine CaseB.of_true (decide_eq_true h3) ?_); conv => whnf)
      refine CallK.mk' _ _ k25 ?_
      conv => whnf
      exact RetK.empty (okF.wv trivial)
    have hb : b.length ≤ 2000 := by omega
    have h0 : (⟨b, 0⟩ : Rd).ok := ⟨fun h => absurd rfl h, by show IntKind.i64.min ≤ 0; decide, by show (0 : Int) ≤ IntKind.i64.max; decide, by show b.length ≤ _; omega⟩
    obtain ⟨P, hP⟩ : ∃ P, parseC b = P := ⟨_, rfl⟩
    obtain ⟨one, h1⟩ : ∃ one, (readC ⟨b, 0⟩).1 = one := ⟨_, rfl⟩
    obtain ⟨q, hq⟩ : ∃ q, (readC ⟨b, 0⟩).2 = q := ⟨_, rfl⟩
    have hqo := readC_ok h0
    have k66 := c66 ⟨b, 0⟩ h0
    have k67 := c67 ⟨b, 0⟩ h0
    rw [hq] at hqo
    rw [h1, hq] at k66 k67
    have k58 := (c58f hu c (by omega)).pure [some (obC c)] (cs := [.s (.lf u), vCc c]) ⟨WV.lf hu.self, freeF.wv ⟨trivial, trivial, trivial, trivial⟩, trivial⟩ (WV.lf (WL.rob rfl (by simp) (by simp))) (rc := .s (.lf (.rob false false (putC b c))))
    have k59 := (c59f b c (by omega)).pure [some (obC c)] (cs := [.s (.lf u), vCc c]) ⟨WV.lf hu.wl, freeF.wv ⟨trivial, trivial, trivial, trivial⟩, trivial⟩ (WV.lf (WL.rob rfl (by simp) (by simp))) (rc := .s (.lf (.rob false false (putC b c))))
    have hpl := putC_length b c
    have k57 := (c57 (putC b c) (putC b c) (by omega)).free [some (obC c)] ⟨trivial, trivial, trivial⟩ trivial
    rw [show decide (putC b c = putC b c) = true from decide_eq_true rfl] at k57
    have k60 := (c60 cs (by omega)).free [some (obC c)] ⟨rowC_free, trivial⟩ trivial
    have k61 := (c61 cs (by omega)).free [some (obC c)] ⟨rowC_free, trivial⟩ trivial
    have hcl := codeC_length cs cs.length (Nat.le_refl _)
    rw [List.take_length] at hcl
    have hcl' : (codeC cs).length ≤ 10 + 50 * cs.length := by unfold codeC; exact hcl.2
    have k57' := (c57 (codeC cs) (codeC cs) (by omega)).pure [some (obC c)] (cs := [.s (.lf (.rob true false (codeC cs))), .s (.lf (.rob true false (codeC cs)))]) ⟨WV.lf toRob, WV.lf toRob, trivial⟩ (freeF.wv trivial)
    rw [show decide (codeC cs = codeC cs) = true from decide_eq_true rfl] at k57'
    have k62 := (c62 b (by omega)).pure [some (obC c)] (cs := [.s (.lf u)]) (rc := .tup [.lf (.ro false false 3 (parseC b).1.length (rowC (parseC b).1)), .lf (.int .i64 (parseC b).2)]) ⟨WV.lf hu.wl, trivial⟩ (WV.tup ⟨WL.ro rfl (by simp) (by simp) fun i hi j hj => rowC_wl hj, WL.int rfl, trivial⟩)
    have k63 := (c63 b (by omega)).pure [some (obC c)] (cs := [.s (.lf u)]) (rc := .tup [.lf (.ro false false 3 (parseC b).1.length (rowC (parseC b).1)), .lf (.int .i64 (parseC b).2)]) ⟨WV.lf hu.wl, trivial⟩ (WV.tup ⟨WL.ro rfl (by simp) (by simp) fun i hi j hj => rowC_wl hj, WL.int rfl, trivial⟩)
    have hPl := parseC_len b (by omega)
    rw [hP] at k62 k63 hPl
    have k64 := (c64 b (by omega)).made [some (obC c)] (Hn := [some (obR ⟨b, 0⟩)]) (cs := [.s (.lf u)]) (rc := .s (.lf (.ptr 1 0))) ⟨WV.lf hu.wl, trivial⟩ (WV.lf (WL.uptr rfl)) ⟨rfl, obR_ws _, trivial⟩
    have k65 := (c65 b (by omega)).made [some (obC c), some (obR ⟨b, 0⟩)] (Hn := [some (obQ ⟨b, 0⟩)]) (cs := [.s (.lf u)]) (rc := .s (.lf (.ptr 2 0))) ⟨WV.lf hu.wl, trivial⟩ (WV.lf (WL.uptr rfl)) ⟨rfl, obQ_ws _, trivial⟩
    obtain ⟨H5, hH5⟩ : ∃ H5, H5 = [some (obC c), some (obR q), some (obQ q), some (obC one), some (obC one)] := ⟨_, rfl⟩
    have k32 := (c32 P.1 P.1 (by omega)).free H5 ⟨rowC_free, rowC_free, trivial⟩ trivial
    rw [show decide (P.1 = P.1) = true from decide_eq_true rfl] at k32
    have k68 := frRi H5 1 (c68 q) (by rw [hH5]; rfl) trivial trivial
    have k70 := frRi H5 1 (c70 q hqo) (by rw [hH5]; rfl) trivial trivial
    have k69 := frQi H5 2 (c69 q) (by rw [hH5]; rfl) trivial trivial
    have k71 := frQi H5 2 (c71 q) (by rw [hH5]; rfl) trivial trivial
    have k25' := c25.free H5 trivial trivial
    subst hH5
    rcases hu with ⟨rfl, rfl⟩ | rfl
    all_goals
      refine SCalls.intro tok Proofs.Try.func10 ?_
      conv => whnf
      refine CallK.mk' _ _ k30 ?_
      conv => whnf
      repeat ((first | refine CaseB.of_false rfl ?_ | refine CaseB.of_false (decide_eq_false h2) ?_ | refine CaseB.of_false (decide_eq_false h3) ?_ | refine CaseB.of_false (by decide) ?_); conv => whnf)
      refine DrawK.mk1 tok mixed [0, 0, 3, 0, 0, 31, 63, 127, 255, 511, 1023, 511, 4095, 8191, 16383, 32767] [(0, 0, []), (3, 0, []), (1, 1, [0]), (2, 1, [0]), (4, 1, [0]), (5, 1, [0]), (6, 1, [0]), (7, 0, []), (8, 0, []), (9, 0, []), (11, 0, []), (10, 1, [0]), (12, 1, [0]), (13, 1, [0]), (14, 0, []), (15, 0, [])] (by kernel_rfl) ?_
      conv => whnf
      repeat ((first | refine CallR.mk' _ k58 ?_ | refine CallR.mk' _ k59 ?_ | refine CallR.mk' _ k57 ?_ | refine CallR.mk' _ k60 ?_ | refine CallR.mk' _ k61 ?_ | refine CallR.mk' _ k57' ?_ | refine CaseB.of_false rfl ?_); conv => whnf)
      refine CallK.mk' _ _ k62 ?_
      conv => whnf
      refine CallK.mk' _ _ k63 ?_
      conv => whnf
      refine CallK.mk' _ _ k64 ?_
      conv => whnf
      refine CallK.mk' _ _ k65 ?_
      conv => whnf
      refine CallK.mk' _ _ (frRi _ 1 k66 rfl trivial ⟨trivial, trivial, trivial, trivial⟩) ?_
      conv => whnf
      refine CallK.mk' _ _ (frQi _ 2 k67 rfl trivial ⟨trivial, trivial, trivial, trivial⟩) ?_
      conv => whnf
      repeat ((first | refine CallK.mk' _ _ k32 ?_ | refine CallK.mk' _ _ k68 ?_ | refine CallK.mk' _ _ k69 ?_ | refine CallK.mk' _ _ k70 ?_ | refine CallK.mk' _ _ k71 ?_ | refine CallK.mk' _ _ k25' ?_ | refine CaseB.of_true (cvEq_t rfl) ?_ | refine CaseB.of_true (decide_eq_true rfl) ?_ | refine CaseB.of_true rfl ?_); conv => whnf)
      exact RetK.empty (okF.wv trivial)
end Go.Sym.Md

set_option linter.unusedVariables false
set_option linter.unusedSimpArgs false
set_option maxRecDepth 10000
namespace Go.Sym.Md
open Go Go.Sym

/-! ### What was written is read again, and what was read was so written -/
theorem sz_lt {n : Nat} (hn : n < 9223372036854775808) : n < 128 ^ sz n := by
  unfold sz
  repeat' split
  all_goals (simp; omega)
theorem sz_ge {n : Nat} : sz n = 1 ∨ 128 ^ (sz n - 1) ≤ n := by
  unfold sz
  repeat' split
  all_goals first | (left; rfl) | (right; simp; omega)

theorem numF_at (n i : Nat) (t : List UInt8) (h : i < sz n) : (numF n ++ t).getD i 0 = gB n (sz n - 1 - i) := by
  rw [List.getD_eq_getElem?_getD, List.getElem?_append_left (by rw [numF_length]; exact h)]
  simp [numF, nF, h]

theorem gB_val (n i : Nat) : (gB n i).toNat % 128 = n / 128 ^ i % 128 ∧ (i ≠ 0 → 128 ≤ (gB n i).toNat ∧ ((gB n i).toNat = 128 → n / 128 ^ i % 128 = 0)) ∧ (i = 0 → (gB n i).toNat < 128) := by
  unfold gB
  by_cases h : i = 0
  · subst h
    rw [if_pos rfl, UInt8.toNat_ofNat']
    have : n % 128 % 2 ^ 8 = n % 128 := Nat.mod_eq_of_lt (by omega)
    rw [this, Nat.pow_zero, Nat.div_one]
    omega
  · rw [if_neg h, UInt8.toNat_ofNat']
    have : (n / 128 ^ i % 128 + 128) % 2 ^ 8 = n / 128 ^ i % 128 + 128 := Nat.mod_eq_of_lt (by omega)
    rw [this]
    omega

theorem valF_num (n : Nat) (t : List UInt8) (hn : n < 9223372036854775808) : ∀ i, i ≤ sz n → valF (numF n ++ t) i = n / 128 ^ (sz n - i) := by
  intro i hi
  induction i with
  | zero => rw [valF_zero, Nat.sub_zero, Nat.div_eq_of_lt (sz_lt hn)]
  | succ i ih =>
    rw [valF_succ _ _ (by rw [List.length_append, numF_length]; omega), ih (by omega), numF_at n i t (by omega), (gB_val n _).1]
    rw [show sz n - i = (sz n - (i + 1)) + 1 by omega, Nat.pow_succ, ← Nat.div_div_eq_div_mul, show sz n - 1 - i = sz n - (i + 1) by omega]
    omega

theorem wF_num (n : Nat) (t : List UInt8) (hn : n < 9223372036854775808) : ∀ d i, d = sz n - 1 - i → i < sz n → wF ((numF n ++ t).drop i) i = (sz n, 0) := by
  intro d
  have h9 := sz_le n
  induction d with
  | zero =>
    intro i hd hi
    have hb := gB_val n (sz n - 1 - i)
    have h0 : sz n - 1 - i = 0 := by omega
    rw [wF_step _ _ (by rw [List.length_append, numF_length]; omega), numF_at n i t hi, h0]
    rw [h0] at hb
    have := hb.2.2 rfl
    rw [if_neg (by omega), if_pos this]
    congr 1
    omega
  | succ d ih =>
    intro i hd hi
    have hb := gB_val n (sz n - 1 - i)
    have h1 := hb.2.1 (by omega)
    rw [wF_step _ _ (by rw [List.length_append, numF_length]; omega), numF_at n i t hi]
    have hne : ¬ ((i = 0 ∧ (gB n (sz n - 1 - i)).toNat = 128) ∨ (i = 8 ∧ 128 ≤ (gB n (sz n - 1 - i)).toNat)) := by
      rintro (⟨rfl, h⟩ | ⟨rfl, h⟩)
      · have hz := h1.2 h
        rw [Nat.sub_zero] at hz
        rcases sz_ge (n := n) with hs | hs
        · omega
        · have hlt := sz_lt hn
          rw [show sz n = (sz n - 1) + 1 by omega, Nat.pow_succ] at hlt
          have : 1 ≤ n / 128 ^ (sz n - 1) := (Nat.le_div_iff_mul_le (Nat.pow_pos (by omega))).2 (by omega)
          have : n / 128 ^ (sz n - 1) < 128 := (Nat.div_lt_iff_lt_mul (Nat.pow_pos (by omega))).2 (by omega)
          omega
      · omega
    rw [if_neg hne, if_neg (by omega)]
    exact ih (i + 1) (by omega) (by omega)

theorem numR_num (n : Nat) (t : List UInt8) (most : Int) (hn : n < 9223372036854775808) (hm : (n : Int) ≤ most) : numR ⟨numF n ++ t, 0⟩ most = ((n : Int), ⟨t, 0⟩) := by
  have h1 := sz_pos n
  have hw := wF_num n t hn (sz n - 1) 0 (by omega) (by omega)
  rw [List.drop_zero] at hw
  have hv := valF_num n t hn (sz n) (Nat.le_refl _)
  rw [Nat.sub_self, Nat.pow_zero, Nat.div_one] at hv
  unfold numR
  rw [if_neg (fun h => h rfl)]
  simp only [hw, hv]
  rw [if_neg (fun h => h rfl), if_neg (by omega), List.drop_left' (numF_length n)]

theorem textR_text (s t : List UInt8) (most : Int) (hn : s.length < 9223372036854775808) (hm : (s.length : Int) ≤ most) : textR ⟨numF s.length ++ s ++ t, 0⟩ most = (s, ⟨t, 0⟩) := by
  unfold textR
  rw [List.append_assoc, numR_num _ _ _ hn hm]
  simp

theorem wF_inv (l : List UInt8) (w : Nat) : ∀ d i, d = l.length - i → i ≤ l.length → i ≤ 8 → wF (l.drop i) i = (w, 0) → i < w ∧ w ≤ l.length ∧ w ≤ 9 ∧ (∀ j, i ≤ j → j + 1 < w → 128 ≤ (l.getD j 0).toNat) ∧ (l.getD (w - 1) 0).toNat < 128 ∧ (i = 0 → (l.getD 0 0).toNat ≠ 128) := by
  intro d
  induction d with
  | zero =>
    intro i hd hi h8 hw
    rw [show i = l.length by omega, List.drop_length] at hw
    simp [wF] at hw
  | succ d ih =>
    intro i hd hi h8 hw
    rw [wF_step l i (by omega)] at hw
    by_cases hc : (i = 0 ∧ (l.getD i 0).toNat = 128) ∨ (i = 8 ∧ 128 ≤ (l.getD i 0).toNat)
    · rw [if_pos hc] at hw; simp at hw
    · rw [if_neg hc] at hw
      by_cases hx : (l.getD i 0).toNat < 128
      · rw [if_pos hx] at hw
        simp only [Prod.mk.injEq, and_true] at hw
        subst hw
        refine ⟨by omega, by omega, by omega, fun j h1 h2 => by omega, by rw [Nat.add_sub_cancel]; exact hx, fun h => ?_⟩
        subst h; omega
      · rw [if_neg hx] at hw
        obtain ⟨g1, g2, g3, g4, g5, g6⟩ := ih (i + 1) (by omega) (by omega) (by omega) hw
        refine ⟨by omega, g2, g3, fun j h1 h2 => ?_, g5, fun h => ?_⟩
        · by_cases hj : j = i
          · subst hj; omega
          · exact g4 j (by omega) h2
        · subst h; omega

theorem valF_up (l : List UInt8) (w : Nat) (hw : w ≤ l.length) : ∀ d j, d = w - j → j ≤ w → valF l j = valF l w / 128 ^ (w - j) := by
  intro d
  induction d with
  | zero => intro j hd hj; rw [show j = w by omega, Nat.sub_self, Nat.pow_zero, Nat.div_one]
  | succ d ih =>
    intro j hd hj
    have := ih (j + 1) (by omega) (by omega)
    rw [valF_succ l j (by omega)] at this
    rw [show w - j = (w - (j + 1)) + 1 by omega, Nat.pow_succ, ← Nat.div_div_eq_div_mul, ← this]
    omega

theorem valF_first (l : List UInt8) : ∀ j, 1 ≤ j → j ≤ l.length → (l.getD 0 0).toNat % 128 * 128 ^ (j - 1) ≤ valF l j := by
  intro j hj hl
  induction j with
  | zero => omega
  | succ j ih =>
    rw [valF_succ l j (by omega)]
    by_cases h0 : j = 0
    · subst h0; simp
    · have := ih (by omega) (by omega)
      rw [show j + 1 - 1 = (j - 1) + 1 by omega, Nat.pow_succ, ← Nat.mul_assoc]
      omega

theorem wF_num_back (l : List UInt8) (w : Nat) (h : wF l 0 = (w, 0)) : valF l w < 9223372036854775808 ∧ l = numF (valF l w) ++ l.drop w := by
  obtain ⟨g1, g2, g3, g4, g5, g6⟩ := wF_inv l w l.length 0 (by omega) (by omega) (by omega) (by rw [List.drop_zero]; exact h)
  have hlt := valF_lt l w g2
  have hsm := valF_small l w g2 g3
  have hs : sz (valF l w) = w := by
    by_cases h1 : w = 1
    · subst h1
      rw [valF_succ l 0 (by omega), valF_zero]
      exact sz_small (by omega)
    · have hf := valF_first l w (by omega) g2
      have hx := g4 0 (by omega) (by omega)
      have hne := g6 rfl
      have hb : (l.getD 0 0).toNat < 256 := UInt8.toNat_lt _
      have : 128 ^ (w - 1) ≤ valF l w := by
        have h2 : 1 * 128 ^ (w - 1) ≤ (l.getD 0 0).toNat % 128 * 128 ^ (w - 1) := Nat.mul_le_mul_right _ (by omega)
        omega
      have := sz_of (n := valF l w) (k := w - 1) (by omega) (.inr this) (by rw [show w - 1 + 1 = w by omega]; exact hlt)
      omega
  refine ⟨hsm, ?_⟩
  have hlen : (numF (valF l w)).length = w := by rw [numF_length, hs]
  have key : numF (valF l w) = l.take w := by
    apply List.ext_getElem
    · rw [hlen, List.length_take]; omega
    · intro i h1 h2
      have hi : i < w := by omega
      have e1 : (numF (valF l w))[i] = gB (valF l w) (w - 1 - i) := by
        have := numF_at (valF l w) i [] (by omega)
        rw [List.append_nil, List.getD_eq_getElem?_getD, List.getElem?_eq_getElem h1, hs] at this
        simpa using this
      have e2 : (l.take w)[i] = l.getD i 0 := by
        rw [List.getElem_take, List.getD_eq_getElem?_getD, List.getElem?_eq_getElem (by omega)]
        rfl
      rw [e1, e2]
      have hu := valF_up l w g2 (w - (i + 1)) (i + 1) (by omega) (by omega)
      rw [valF_succ l i (by omega), show w - (i + 1) = w - 1 - i by omega] at hu
      have hb : (l.getD i 0).toNat < 256 := UInt8.toNat_lt _
      apply UInt8.toNat_inj.1
      have hg := gB_val (valF l w) (w - 1 - i)
      have hgb : (gB (valF l w) (w - 1 - i)).toNat < 256 := UInt8.toNat_lt _
      rw [← hu] at hg
      by_cases hl : w - 1 - i = 0
      · have h3 := hg.2.2 hl
        rw [show w - 1 = i by omega] at g5
        omega
      · have h3 := hg.2.1 hl
        have h4 := g4 i (by omega) (by omega)
        omega
  rw [key, List.take_append_drop]

theorem numR_back {l : List UInt8} {most z : Int} {t : List UInt8} (h : numR ⟨l, 0⟩ most = (z, ⟨t, 0⟩)) : 0 ≤ z ∧ z ≤ most ∧ z < 9223372036854775808 ∧ l = numF z.toNat ++ t := by
  unfold numR at h
  rw [if_neg (fun h => h rfl)] at h
  by_cases he : (wF l 0).2 = 0
  · rw [if_neg (fun h => h he)] at h
    obtain ⟨w, hw⟩ : ∃ w, wF l 0 = (w, 0) := ⟨(wF l 0).1, by rw [← he]⟩
    obtain ⟨h1, h2⟩ := wF_num_back l w hw
    simp only [hw] at h
    by_cases hm : most < (valF l w : Int)
    · rw [if_pos hm] at h; simp at h
    · rw [if_neg hm] at h
      simp only [Prod.mk.injEq, Rd.mk.injEq, and_true] at h
      obtain ⟨rfl, rfl⟩ := h
      rw [Int.toNat_natCast]
      exact ⟨by omega, by omega, by omega, h2⟩
  · rw [if_pos he] at h
    simp only [Prod.mk.injEq, Rd.mk.injEq] at h
    exact absurd h.2.2 he

theorem textR_back {l s t : List UInt8} {most : Int} (h : textR ⟨l, 0⟩ most = (s, ⟨t, 0⟩)) : (s.length : Int) ≤ most ∧ l = numF s.length ++ s ++ t := by
  unfold textR at h
  obtain ⟨p, hp⟩ : ∃ p, numR ⟨l, 0⟩ most = p := ⟨_, rfl⟩
  obtain ⟨z, r⟩ := p
  rw [hp] at h
  simp only [] at h
  by_cases he : r.e = 0
  · rw [if_neg (fun h => h he)] at h
    obtain ⟨rl, re⟩ := r
    simp only [] at he h
    subst he
    obtain ⟨h1, h2, h3, h4⟩ := numR_back hp
    by_cases hl : rl.length < z.toNat
    · rw [if_pos hl] at h; simp at h
    · rw [if_neg hl] at h
      simp only [Prod.mk.injEq, Rd.mk.injEq, and_true] at h
      obtain ⟨rfl, rfl⟩ := h
      have : (rl.take z.toNat).length = z.toNat := by rw [List.length_take]; omega
      rw [this, List.append_assoc, List.take_append_drop]
      exact ⟨by omega, h4⟩
  · rw [if_pos he] at h
    simp only [Prod.mk.injEq] at h
    rw [h.2] at he
    exact absurd rfl he
end Go.Sym.Md

