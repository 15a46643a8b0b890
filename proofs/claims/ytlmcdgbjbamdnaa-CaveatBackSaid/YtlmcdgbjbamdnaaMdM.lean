/- Contracts of the program's functions, proved by the framework (text MdM), without conditions but those that each theorem states. -/
import Derived.Test.YtlmcdgbjbamdnaaMdJ
import Derived.Test.YtlmcdgbjbamdnaaMdW
import Derived.Test.YtlmcdgbjbamdnaaFw7
set_option linter.unusedVariables false
set_option linter.unusedSimpArgs false
set_option maxRecDepth 10000
namespace Go.Sym.Md
open Go Go.Sym

theorem WL.lentT {H H' : Hp} {μ : Nat → Nat} {hid : Nat → Prop} {nm len : Nat} {xs : List UInt8} {ty : TypeId} (hob : hget H nm = some ⟨ty, [.bytes len xs]⟩) (hl : len = xs.length) (hg : gone H' μ hid nm) : WL (Down H H' μ hid) (.own nm 0 1 0 len) (.rob true false xs) := by
  intro w L L' x h hx
  exact WL.freezeB (ob := ⟨ty, [.bytes len xs]⟩) (p := []) (q := []) hob rfl rfl (by omega) (by omega) (by rw [List.drop_zero, hl, List.take_length]) hg w L L' x h hx

/-! ### Caveats' bytes -/
def putC (b : List UInt8) (c : CV) : List UInt8 := if okC c.k c.n c.s then putF b c.k c.n c.s else b
def codeC (cs : List CV) : List UInt8 := cs.foldl putC (numF cs.length)
abbrev vCc (c : CV) : FV := vC c.k c.n c.s
abbrev obC (c : CV) : OB := ⟨23, [.one (.int .i64 c.k), .one (.int .i64 c.n), .one (.str c.s)]⟩

theorem putF_length (b : List UInt8) (k n : Int) (s : List UInt8) (h : okC k n s = true) : b.length ≤ (putF b k n s).length ∧ (putF b k n s).length ≤ b.length + 50 := by
  obtain ⟨_, _, _, _, hs⟩ := okC_facts h
  have h1 := numF_length k.toNat
  have h2 := numF_length s.length
  have h3 := numF_length n.toNat
  have a1 := sz_le k.toNat
  have a2 := sz_le s.length
  have a3 := sz_le n.toNat
  unfold putF
  split <;> simp only [List.length_append] <;> omega
theorem putC_length (b : List UInt8) (c : CV) : b.length ≤ (putC b c).length ∧ (putC b c).length ≤ b.length + 50 := by
  unfold putC
  split
  · rename_i h; exact putF_length b c.k c.n c.s h
  · omega

theorem hasF_one (k : Int) : hasF k = 1 ↔ k = 2 ∨ k = 3 := by
  unfold hasF
  split
  · simp [*]
  · split <;> simp [*]

attribute [local irreducible] numF checkF hasF okC boundF

theorem checkF_bad {k n : Int} {s : List UInt8} (h : okC k n s = false) : checkF k n s = 1 := by unfold checkF; rw [h]; rfl
theorem checkF_good {k n : Int} {s : List UInt8} (h : okC k n s = true) : checkF k n s = 0 := by unfold checkF; rw [h]; rfl

/-- caveat.Put, of what may not be, behind nothing -/
theorem c58x (c : CV) (h : okC c.k c.n c.s = false) : SCalls Proofs.Try.prog 58 [.s (.lf .sl0), vCc c] [] (.s (.lf .sl0)) [] := by
  refine SCalls.intro tok Proofs.Try.func58 ?_
  conv => whnf
  refine CallK.mk' _ _ ((c26 c.k c.n c.s).free _ ⟨⟨trivial, trivial, trivial, trivial⟩, trivial⟩ trivial) ?_
  conv => whnf
  refine CaseB.of_true (by rw [checkF_bad h]; rfl) ?_
  conv => whnf
  refine CallK.mk' _ _ (c136n.free _ ⟨trivial, trivial⟩ trivial) ?_
  conv => whnf
  exact RetK.empty (okF.wv trivial)

/-- caveat.Put, of what may not be -/
theorem c58w (b : List UInt8) (c : CV) (h : okC c.k c.n c.s = false) (hb : b.length ≤ 1000000000000) : SCalls Proofs.Try.prog 58 [.s (.lf (.rob true false b)), vCc c] [] (.s (.lf (.own 0 0 1 0 b.length))) [some ⟨5, [.bytes b.length b]⟩] := by
  refine SCalls.intro tok Proofs.Try.func58 ?_
  conv => whnf
  refine CallK.mk' _ _ ((c26 c.k c.n c.s).free _ ⟨⟨trivial, trivial, trivial, trivial⟩, trivial⟩ trivial) ?_
  conv => whnf
  refine CaseB.of_true (by rw [checkF_bad h]; rfl) ?_
  conv => whnf
  refine CallK.mk' (.s (.lf (.own 1 0 1 0 b.length))) _ ((c136 b (by omega)).made [some (obC c)] (Hn := [some ⟨5, [.bytes b.length b]⟩]) ⟨freeF.wv trivial, trivial⟩ (WV.lf (WL.uown rfl rfl rfl)) ⟨rfl, ⟨.bytes rfl fun _ _ => rfl, trivial⟩, trivial⟩) ?_
  conv => whnf
  exact RetK.perm [1] ⟨⟨rfl, .bytes rfl fun _ _ => rfl, trivial⟩, trivial⟩ (WV.lf (WL.own rfl rfl rfl rfl)) rfl (by simp) rfl (by simp)

/-- caveat.Put, behind bytes that are there -/
theorem c58t (b : List UInt8) (c : CV) (hb : b.length ≤ 100000000000) : SCalls Proofs.Try.prog 58 [.s (.lf (.rob true false b)), vCc c] [] (.s (.lf (.own 0 0 1 0 (putC b c).length))) [some ⟨5, [.bytes (putC b c).length (putC b c)]⟩] := by
  cases h : okC c.k c.n c.s with
  | false => rw [show putC b c = b by unfold putC; rw [h]; rfl]; exact c58w b c h (by omega)
  | true =>
    rw [show putC b c = putF b c.k c.n c.s by unfold putC; rw [h]; rfl]
    have hu := (c58 b c.k c.n c.s h (by omega)).madeL (cs := [.s (.lf (.rob true false b)), vCc c]) (fun _ => True) [] (Hn := [some ⟨5, [.bytes (putF b c.k c.n c.s).length (putF b c.k c.n c.s)]⟩]) (rc := .s (.lf (.own 0 0 1 0 (putF b c.k c.n c.s).length)))
      ⟨WV.lf (WL.rob rfl (by simp) (by simp)), freeF.wv ⟨trivial, trivial, trivial, trivial⟩, trivial⟩ (WV.lf (WL.uown rfl rfl rfl)) ⟨rfl, ⟨.bytes rfl fun _ _ => rfl, trivial⟩, trivial⟩
    exact hu

/-- baileyref06.Put, of what may be -/
theorem c59k (b : List UInt8) (k n : Int) (s : List UInt8) (hok : okC k n s = true) (hb : b.length ≤ 1000000000000) : SCalls Proofs.Try.prog 59 [.s (.lf (.rob false false b)), vC k n s] [] (.s (.lf (.own 0 0 1 0 (putF b k n s).length))) [some ⟨5, [.bytes (putF b k n s).length (putF b k n s)]⟩] := by
  obtain ⟨hk1, hk6, hn0, hn1, hsl⟩ := okC_facts hok
  have hl := numF_length k.toNat
  have h9 := sz_le k.toNat
  refine SCalls.intro tok Proofs.Try.func59 ?_
  conv => whnf
  refine CallK.mk' _ _ ((c27 k n s).free _ ⟨⟨trivial, trivial, trivial, trivial⟩, trivial⟩ trivial) ?_
  conv => whnf
  refine CaseB.of_false (by rw [checkF_good hok]; rfl) ?_
  conv => whnf
  refine CallK.mk' (.s (.lf (.own 1 0 1 0 (b ++ numF k.toNat).length))) _ ((c133 b k k.toNat (by omega) (by omega) (by omega)).made [some (obC ⟨k, n, s⟩)] (Hn := [some ⟨5, [.bytes (b ++ numF k.toNat).length (b ++ numF k.toNat)]⟩]) ⟨freeF.wv trivial, freeF.wv trivial, trivial⟩ (WV.lf (WL.uown rfl rfl rfl)) ⟨rfl, ⟨.bytes rfl fun _ _ => rfl, trivial⟩, trivial⟩) ?_
  conv => whnf
  refine CallK.mk' _ _ ((c124 k).free _ ⟨trivial, trivial⟩ trivial) ?_
  conv => whnf
  have hbl : (b ++ numF k.toNat).length ≤ 140737000000000 := by rw [List.length_append]; omega
  by_cases h1 : hasF k = 1
  · refine CaseB.of_true (decide_eq_true ((hasF_one k).1 h1)) ?_
    conv => whnf
    refine CallK.mk' (.s (.lf (.own 2 0 1 0 (b ++ numF k.toNat ++ numF s.length ++ s).length))) _ ((c139 (b ++ numF k.toNat) s (by omega) hbl).madeL (cs := [.s (.lf (.own 1 0 1 0 (b ++ numF k.toNat).length)), .s (.lf (.str s))]) (fun _ => False) [some (obC ⟨k, n, s⟩), some ⟨5, [.bytes (b ++ numF k.toNat).length (b ++ numF k.toNat)]⟩] (Hn := [some ⟨5, [.bytes (b ++ numF k.toNat ++ numF s.length ++ s).length (b ++ numF k.toNat ++ numF s.length ++ s)]⟩]) ⟨WV.lf (WL.lent (ty := 5) rfl rfl ⟨fun h => h, fun i ob h => by simp at h⟩), freeF.wv trivial, trivial⟩ (WV.lf (WL.uown rfl rfl rfl)) ⟨rfl, ⟨.bytes rfl fun _ _ => rfl, trivial⟩, trivial⟩) ?_
    conv => whnf
    have e : putF b k n s = b ++ numF k.toNat ++ numF s.length ++ s := by unfold putF; rw [if_pos h1]
    rw [e]
    exact RetK.perm [2] ⟨⟨rfl, .bytes rfl fun _ _ => rfl, trivial⟩, trivial⟩ (WV.lf (WL.own rfl rfl rfl rfl)) rfl (by simp) rfl (by simp)
  · refine CaseB.of_false (decide_eq_false (fun h => h1 ((hasF_one k).2 h))) ?_
    conv => whnf
    refine CallK.mk' (.s (.lf (.own 2 0 1 0 (b ++ numF k.toNat ++ numF n.toNat).length))) _ ((c133 (b ++ numF k.toNat) n n.toNat (by omega) (by omega) (by omega)).madeL (cs := [.s (.lf (.own 1 0 1 0 (b ++ numF k.toNat).length)), vI n]) (fun _ => False) [some (obC ⟨k, n, s⟩), some ⟨5, [.bytes (b ++ numF k.toNat).length (b ++ numF k.toNat)]⟩] (Hn := [some ⟨5, [.bytes (b ++ numF k.toNat ++ numF n.toNat).length (b ++ numF k.toNat ++ numF n.toNat)]⟩]) ⟨WV.lf (WL.lent (ty := 5) rfl rfl ⟨fun h => h, fun i ob h => by simp at h⟩), freeF.wv trivial, trivial⟩ (WV.lf (WL.uown rfl rfl rfl)) ⟨rfl, ⟨.bytes rfl fun _ _ => rfl, trivial⟩, trivial⟩) ?_
    conv => whnf
    have e : putF b k n s = b ++ numF k.toNat ++ numF n.toNat := by unfold putF; rw [if_neg h1]
    rw [e]
    exact RetK.perm [2] ⟨⟨rfl, .bytes rfl fun _ _ => rfl, trivial⟩, trivial⟩ (WV.lf (WL.own rfl rfl rfl rfl)) rfl (by simp) rfl (by simp)

/-- baileyref06.Put, of what may not be, behind nothing -/
theorem c59x (c : CV) (h : okC c.k c.n c.s = false) : SCalls Proofs.Try.prog 59 [.s (.lf (.rob false false [])), vCc c] [] (.s (.lf .sl0)) [] := by
  refine SCalls.intro tok Proofs.Try.func59 ?_
  conv => whnf
  refine CallK.mk' _ _ ((c27 c.k c.n c.s).free _ ⟨⟨trivial, trivial, trivial, trivial⟩, trivial⟩ trivial) ?_
  conv => whnf
  refine CaseB.of_true (by rw [checkF_bad h]; rfl) ?_
  conv => whnf
  exact RetK.empty (okF.wv trivial)

/-- baileyref06.Put, of what may not be -/
theorem c59w (x : UInt8) (b : List UInt8) (c : CV) (h : okC c.k c.n c.s = false) (hb : b.length ≤ 100000000000) : SCalls Proofs.Try.prog 59 [.s (.lf (.rob false false (x :: b))), vCc c] [] (.s (.lf (.own 0 0 1 0 (x :: b).length))) [some ⟨5, [.bytes (x :: b).length (x :: b)]⟩] := by
  refine SCalls.intro tok Proofs.Try.func59 ?_
  conv => whnf
  refine CallK.mk' _ _ ((c27 c.k c.n c.s).free _ ⟨⟨trivial, trivial, trivial, trivial⟩, trivial⟩ trivial) ?_
  conv => whnf
  refine CaseB.of_true (by rw [checkF_bad h]; rfl) ?_
  conv => whnf
  refine And.intro (by rw [List.length_cons]; omega) ?_
  conv => whnf
  exact RetK.perm [1] ⟨⟨rfl, .bytes rfl fun _ _ => rfl, trivial⟩, trivial⟩ (WV.lf (WL.own rfl rfl rfl rfl)) rfl (by simp) rfl (by simp)

/-- baileyref06.Put, behind bytes that are there -/
theorem c59t (b : List UInt8) (c : CV) (hb : b.length ≤ 10000000000) (hne : b ≠ []) : SCalls Proofs.Try.prog 59 [.s (.lf (.rob false false b)), vCc c] [] (.s (.lf (.own 0 0 1 0 (putC b c).length))) [some ⟨5, [.bytes (putC b c).length (putC b c)]⟩] := by
  cases h : okC c.k c.n c.s with
  | false =>
    rw [show putC b c = b by unfold putC; rw [h]; rfl]
    cases b with
    | nil => exact absurd rfl hne
    | cons x b => rw [List.length_cons] at hb; exact c59w x b c h (by omega)
  | true =>
    rw [show putC b c = putF b c.k c.n c.s by unfold putC; rw [h]; rfl]
    exact c59k b c.k c.n c.s h (by omega)

theorem codeC_take (cs : List CV) (i : Nat) (hi : i < cs.length) : (cs.take (i + 1)).foldl putC (numF cs.length) = putC ((cs.take i).foldl putC (numF cs.length)) (cs.getD i cv0) := by
  rw [List.take_add_one, List.foldl_append, List.getElem?_eq_getElem hi, List.getD_eq_getElem?_getD, List.getElem?_eq_getElem hi]
  rfl
theorem codeC_length (cs : List CV) : ∀ i, i ≤ cs.length → 1 ≤ ((cs.take i).foldl putC (numF cs.length)).length ∧ ((cs.take i).foldl putC (numF cs.length)).length ≤ 10 + 50 * i := by
  intro i hi
  induction i with
  | zero =>
    have h1 := numF_length cs.length
    have h2 := sz_le cs.length
    have h3 := sz_pos cs.length
    simp only [List.take_zero, List.foldl_nil]
    omega
  | succ i ih =>
    rw [codeC_take cs i (by omega)]
    have := putC_length ((cs.take i).foldl putC (numF cs.length)) (cs.getD i cv0)
    have := ih (by omega)
    omega

/-- caveat.Code -/
theorem c60 (cs : List CV) (hl : cs.length ≤ 1000000) : SCalls Proofs.Try.prog 60 [vR cs] [] (.s (.lf (.rob true false (codeC cs)))) [] := by
  refine SCalls.intro tok Proofs.Try.func60 ?_
  conv => whnf
  refine CallK.mk' (.s (.lf (.own 0 0 1 0 (numF cs.length).length))) _ ((c137 [] cs.length cs.length (by omega) (by omega) (by simp)).made [] (Hn := [some ⟨5, [.bytes (numF cs.length).length (numF cs.length)]⟩]) ⟨WV.lf WL.sl0rob', freeF.wv trivial, trivial⟩ (WV.lf (WL.uown rfl rfl rfl)) ⟨rfl, ⟨.bytes rfl fun _ _ => rfl, trivial⟩, trivial⟩) ?_
  conv => whnf
  obtain ⟨P, hP⟩ : ∃ P : Nat → List UInt8, P = fun i => (cs.take i).foldl putC (numF cs.length) := ⟨_, rfl⟩
  have hP0 : P 0 = numF cs.length := by rw [hP]; rfl
  have hPs : ∀ i, i < cs.length → P (i + 1) = putC (P i) (cs.getD i cv0) := fun i hi => by rw [hP]; exact codeC_take cs i hi
  have hPn : P cs.length = codeC cs := by rw [hP]; show (cs.take cs.length).foldl putC _ = _; rw [List.take_length]; rfl
  have hPl : ∀ i, i ≤ cs.length → 1 ≤ (P i).length ∧ (P i).length ≤ 10 + 50 * i := fun i hi => by rw [hP]; exact codeC_length cs i hi
  clear hP
  refine LoopK.mk1 (fun i : Nat => [(11, vI i), (10, vI cs.length), (9, vR cs), (3, .s (.lf (.own 0 0 1 0 (P i).length))), (2, .s (.lf .sl0))]) (fun i => [some ⟨5, [.bytes (P i).length (P i)]⟩]) (fun i => i ≤ cs.length) (fun i => cs.length - i) 0 (by omega) ?_ ?_
  · exact Weak.of ⟨rfl, ⟨.bytes (by rw [hP0]) fun _ _ => by rw [hP0], trivial⟩, trivial⟩ (by simp) ⟨okF.wv trivial, okF.wv trivial, okF.wv rowC_ok, WV.lf (WL.own rfl rfl rfl (by rw [hP0])), okF.wv trivial, trivial⟩
  intro i hi
  conv => whnf
  by_cases hl' : i < cs.length
  · refine CaseB.of_true (decide_eq_true (by omega)) ?_
    conv => whnf
    refine And.intro (by omega) ?_
    conv => whnf
    have hpl := hPl i (by omega)
    have hps := hPs i hl'
    obtain ⟨c, hc⟩ : ∃ c, cs.getD i cv0 = c := ⟨_, rfl⟩
    rw [hc] at hps
    have hi0 : cs.getD (Int.toNat (i : Int)) cv0 = c := by rw [Int.toNat_natCast]; exact hc
    rw [hi0]
    refine CallK.mk' (.s (.lf (.own 2 0 1 0 (P (i + 1)).length))) _ ((c58t (P i) c (by omega)).madeL (cs := [.s (.lf (.own 0 0 1 0 (P i).length)), vCc c]) (fun _ => False) [some ⟨5, [.bytes (P i).length (P i)]⟩, some (obC c)] (Hn := [some ⟨5, [.bytes (P (i + 1)).length (P (i + 1))]⟩]) ⟨WV.lf (WL.lentT (ty := 5) rfl rfl ⟨fun h => h, fun i ob h => by simp at h⟩), freeF.wv ⟨trivial, trivial, trivial, trivial⟩, trivial⟩ (WV.lf (WL.uown rfl rfl (by rw [hps]))) ⟨rfl, ⟨.bytes (by rw [hps]) fun _ _ => by rw [hps], trivial⟩, trivial⟩) ?_
    conv => whnf
    refine ⟨i + 1, by omega, by omega, ?_⟩
    exact Weak.perm [2] ⟨⟨rfl, .bytes rfl fun _ _ => rfl, trivial⟩, trivial⟩ ⟨WV.lf (WL.int (by rw [wrap_i64 (by omega) (by omega)]; omega)), freeF.wv trivial, freeF.wv rowC_free, WV.lf (WL.own rfl rfl rfl rfl), freeF.wv trivial, trivial⟩ rfl (by simp) rfl (by simp)
  · refine CaseB.of_false (decide_eq_false (by omega)) ?_
    conv => whnf
    obtain rfl : i = cs.length := by omega
    rw [hPn]
    exact RetK.empty (WV.lf (WL.lentT (ty := 5) rfl rfl (gone_none fun h => h)))

/-- baileyref06.Code -/
theorem c61 (cs : List CV) (hl : cs.length ≤ 1000000) : SCalls Proofs.Try.prog 61 [vR cs] [] (.s (.lf (.rob true false (codeC cs)))) [] := by
  refine SCalls.intro tok Proofs.Try.func61 ?_
  conv => whnf
  refine CallK.mk' (.s (.lf (.own 0 0 1 0 (numF cs.length).length))) _ ((c133 [] cs.length cs.length (by omega) (by omega) (by simp)).made [] (Hn := [some ⟨5, [.bytes (numF cs.length).length (numF cs.length)]⟩]) ⟨WV.lf WL.sl0rob', freeF.wv trivial, trivial⟩ (WV.lf (WL.uown rfl rfl rfl)) ⟨rfl, ⟨.bytes rfl fun _ _ => rfl, trivial⟩, trivial⟩) ?_
  conv => whnf
  obtain ⟨P, hP⟩ : ∃ P : Nat → List UInt8, P = fun i => (cs.take i).foldl putC (numF cs.length) := ⟨_, rfl⟩
  have hP0 : P 0 = numF cs.length := by rw [hP]; rfl
  have hPs : ∀ i, i < cs.length → P (i + 1) = putC (P i) (cs.getD i cv0) := fun i hi => by rw [hP]; exact codeC_take cs i hi
  have hPn : P cs.length = codeC cs := by rw [hP]; show (cs.take cs.length).foldl putC _ = _; rw [List.take_length]; rfl
  have hPl : ∀ i, i ≤ cs.length → 1 ≤ (P i).length ∧ (P i).length ≤ 10 + 50 * i := fun i hi => by rw [hP]; exact codeC_length cs i hi
  clear hP
  refine LoopK.mk1 (fun i : Nat => [(4, vI i), (0, vR cs), (3, .s (.lf (.own 0 0 1 0 (P i).length))), (2, .s (.lf .sl0))]) (fun i => [some ⟨5, [.bytes (P i).length (P i)]⟩]) (fun i => i ≤ cs.length) (fun i => cs.length - i) 0 (by omega) ?_ ?_
  · exact Weak.of ⟨rfl, ⟨.bytes (by rw [hP0]) fun _ _ => by rw [hP0], trivial⟩, trivial⟩ (by simp) ⟨okF.wv trivial, okF.wv rowC_ok, WV.lf (WL.own rfl rfl rfl (by rw [hP0])), okF.wv trivial, trivial⟩
  intro i hi
  conv => whnf
  by_cases hl' : i < cs.length
  · refine CaseB.of_true (decide_eq_true (by omega)) ?_
    conv => whnf
    refine And.intro (by omega) ?_
    conv => whnf
    have hpl := hPl i (by omega)
    have hps := hPs i hl'
    obtain ⟨c, hc⟩ : ∃ c, cs.getD i cv0 = c := ⟨_, rfl⟩
    rw [hc] at hps
    have hi0 : cs.getD (Int.toNat (i : Int)) cv0 = c := by rw [Int.toNat_natCast]; exact hc
    rw [hi0]
    refine CallK.mk' (.s (.lf (.own 1 0 1 0 (P (i + 1)).length))) _ ((c59t (P i) c (by omega) (fun h => by rw [h] at hpl; simp at hpl)).madeL (cs := [.s (.lf (.own 0 0 1 0 (P i).length)), vCc c]) (fun _ => False) [some ⟨5, [.bytes (P i).length (P i)]⟩] (Hn := [some ⟨5, [.bytes (P (i + 1)).length (P (i + 1))]⟩]) ⟨WV.lf (WL.lent (ty := 5) rfl rfl ⟨fun h => h, fun i ob h => by simp at h⟩), freeF.wv ⟨trivial, trivial, trivial, trivial⟩, trivial⟩ (WV.lf (WL.uown rfl rfl (by rw [hps]))) ⟨rfl, ⟨.bytes (by rw [hps]) fun _ _ => by rw [hps], trivial⟩, trivial⟩) ?_
    conv => whnf
    refine ⟨i + 1, by omega, by omega, ?_⟩
    exact Weak.perm [1] ⟨⟨rfl, .bytes rfl fun _ _ => rfl, trivial⟩, trivial⟩ ⟨WV.lf (WL.int (by rw [wrap_i64 (by omega) (by omega)]; omega)), freeF.wv rowC_free, WV.lf (WL.own rfl rfl rfl rfl), freeF.wv trivial, trivial⟩ rfl (by simp) rfl (by simp)
  · refine CaseB.of_false (decide_eq_false (by omega)) ?_
    conv => whnf
    obtain rfl : i = cs.length := by omega
    rw [hPn]
    exact RetK.empty (WV.lf (WL.lentT (ty := 5) rfl rfl (gone_none fun h => h)))
end Go.Sym.Md
