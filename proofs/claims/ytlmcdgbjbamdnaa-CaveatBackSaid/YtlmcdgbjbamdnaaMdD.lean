/- Contracts of the program's functions, proved by the framework (text MdD), without conditions but those that each theorem states. -/
import Derived.Test.YtlmcdgbjbamdnaaMdC
set_option linter.unusedVariables false
set_option linter.unusedSimpArgs false
set_option maxRecDepth 10000
namespace Go.Sym.Md
open Go Go.Sym
attribute [local irreducible] nameF hasF boundF

/-- caveat.Check -/
theorem c26 (k n : Int) (s : List UInt8) : SCalls Proofs.Try.prog 26 [vC k n s] [] (vI (checkF k n s)) [] := by
  refine SCalls.intro tok Proofs.Try.func26 ?_
  conv => whnf
  refine CallK.mk' _ _ ((c121 k).free _ ⟨trivial, trivial⟩ trivial) ?_
  conv => whnf
  by_cases h1 : hasF k = 1
  · refine CaseB.of_true (decide_eq_true h1) ?_
    conv => whnf
    refine CallK.mk' _ _ ((c28 s).free _ ⟨trivial, trivial⟩ trivial) ?_
    conv => whnf
    have e : okC k n s = (nameF s && decide (n = 0)) := by unfold okC; rw [if_pos h1]
    cases hn : nameF s with
    | true =>
      refine CaseB.of_true rfl ?_
      conv => whnf
      by_cases h0 : n = 0
      · refine CaseB.of_false (by simp [h0]) ?_
        conv => whnf
        exact RetK.empty (WV.lf (WL.int (by unfold checkF; rw [e, hn, decide_eq_true h0]; rfl)))
      · refine CaseB.of_true (by simp [h0]) ?_
        conv => whnf
        exact RetK.empty (WV.lf (WL.int (by unfold checkF; rw [e, hn, decide_eq_false h0]; rfl)))
    | false =>
      refine CaseB.of_false rfl ?_
      conv => whnf
      exact RetK.empty (WV.lf (WL.int (by unfold checkF; rw [e, hn]; rfl)))
  refine CaseB.of_false (decide_eq_false h1) ?_
  conv => whnf
  by_cases h2 : hasF k = 2
  · refine CaseB.of_true (decide_eq_true h2) ?_
    conv => whnf
    have e : okC k n s = (decide (s = []) && decide (0 ≤ n ∧ n ≤ boundF k)) := by unfold okC; rw [if_neg h1, if_pos h2]
    refine DrawK.mk1 tok mixed [0, 1, 3, 7, 15, 31, 15, 79, 207, 511, 1023, 2047] [(0, 1, [0]), (1, 1, [0]), (2, 0, []), (3, 0, []), (4, 1, [0]), (5, 1, [0]), (6, 1, [0]), (7, 1, [0]), (8, 1, [0]), (9, 1, [0]), (10, 0, []), (11, 0, [])] (by kernel_rfl) ?_
    conv => whnf
    by_cases hs : s = []
    · repeat (first
        | (refine CaseB.of_true (decide_eq_true hs) ?_; conv => whnf)
        | (refine CallR.mk' _ ((c123 k).free _ ⟨trivial, trivial⟩ trivial) ?_; conv => whnf)
        | (refine CallR.mk' _ ((c122 n 0 (boundF k)).free _ ⟨trivial, trivial, trivial, trivial⟩ trivial) ?_; conv => whnf))
      by_cases h0 : 0 ≤ n ∧ n ≤ boundF k
      · refine CaseB.of_false (by simp [h0]) ?_
        conv => whnf
        exact RetK.empty (WV.lf (WL.int (by unfold checkF; rw [e, decide_eq_true hs, decide_eq_true h0]; rfl)))
      · refine CaseB.of_true (by rw [decide_eq_false h0]; rfl) ?_
        conv => whnf
        exact RetK.empty (WV.lf (WL.int (by unfold checkF; rw [e, decide_eq_false h0, Bool.and_false]; rfl)))
    · repeat (first
        | (refine CaseB.of_false (decide_eq_false hs) ?_; conv => whnf))
      exact RetK.empty (WV.lf (WL.int (by unfold checkF; rw [e, decide_eq_false hs]; rfl)))
  refine CaseB.of_false (decide_eq_false h2) ?_
  conv => whnf
  exact RetK.empty (WV.lf (WL.int (by unfold checkF okC; rw [if_neg h1, if_neg h2]; rfl)))

theorem not_true {p : Prop} [Decidable p] (h : p) : (!decide p) = false := by rw [decide_eq_true h]; rfl
theorem not_false {p : Prop} [Decidable p] (h : ¬ p) : (!decide p) = true := by rw [decide_eq_false h]; rfl
theorem nnot {b c : Bool} (h : b = c) : (!b) = (!c) := by rw [h]

theorem hasF_named {k : Int} (h : k = 2 ∨ k = 3) : hasF k = 1 := by unfold hasF; rw [if_pos h]
theorem hasF_num {k : Int} (h : ¬ (k = 2 ∨ k = 3)) (h1 : ¬ k < 1) (h6 : ¬ 6 < k) : hasF k = 2 := by unfold hasF; rw [if_neg h, if_pos (by omega)]
theorem hasF_none {k : Int} (h : k < 1 ∨ 6 < k) : hasF k = 0 := by unfold hasF; rw [if_neg (by omega), if_neg (by omega)]

/-- baileyref06.Check -/
theorem c27 (k n : Int) (s : List UInt8) : SCalls Proofs.Try.prog 27 [vC k n s] [] (vI (checkF k n s)) [] := by
  refine SCalls.intro tok Proofs.Try.func27 ?_
  conv => whnf
  have bad : k < 1 ∨ 6 < k → (1 : Int) = checkF k n s := fun h => by unfold checkF okC; rw [hasF_none h]; rfl
  by_cases hk1 : k < 1
  · refine CaseB.of_true (decide_eq_true hk1) ?_
    conv => whnf
    exact RetK.empty (WV.lf (WL.int (bad (.inl hk1))))
  refine CaseB.of_false (decide_eq_false hk1) ?_
  conv => whnf
  by_cases hk6 : 6 < k
  · refine CaseB.of_true (decide_eq_true hk6) ?_
    conv => whnf
    exact RetK.empty (WV.lf (WL.int (bad (.inr hk6))))
  refine CaseB.of_false (decide_eq_false hk6) ?_
  conv => whnf
  refine DrawK.mk1 tok mixed [0, 1, 3, 7, 15, 31, 63, 127, 255, 511, 1023, 2047, 4095, 8191, 16383, 32767, 65535, 131071, 262143, 524287, 1048575, 2097151, 4194303, 8388607, 16777215, 33554431, 67108863, 134217727, 268435455, 536870911, 1073741823, 536870911, 2684354559, 6979321855, 17179869183, 34359738367, 68719476735, 137438953471] [(0, 1, [0]), (1, 1, [0]), (2, 1, [0]), (3, 0, []), (4, 1, [0]), (5, 1, [0]), (6, 0, []), (7, 0, []), (8, 1, [0]), (9, 1, [0]), (10, 1, [0]), (11, 0, []), (12, 0, []), (13, 0, []), (14, 0, []), (15, 1, [0]), (16, 1, [0]), (17, 1, [0]), (18, 0, []), (19, 0, []), (20, 1, [0]), (21, 1, [0]), (22, 0, []), (23, 0, []), (24, 1, [0]), (25, 1, [0]), (26, 0, []), (27, 0, []), (28, 0, []), (29, 1, [0]), (30, 1, [0]), (31, 1, [0]), (32, 1, [0]), (33, 1, [0]), (34, 0, []), (35, 0, []), (36, 0, []), (37, 0, [])] (by kernel_rfl) ?_
  conv => whnf
  by_cases hd : k = 2 ∨ k = 3
  · have e : okC k n s = (nameF s && decide (n = 0)) := by unfold okC; rw [if_pos (hasF_named hd)]
    by_cases h0 : n = 0
    · cases hn : nameF s with
      | true =>
        repeat (first
        | (refine CallR.mk' _ ((c124 k).free _ ⟨trivial, trivial⟩ trivial) ?_; conv => whnf)
        | (refine CallR.mk' _ ((c29 s).free _ ⟨trivial, trivial⟩ trivial) ?_; conv => whnf)
        | (refine CallR.mk' _ ((c125 k).free _ ⟨trivial, trivial⟩ trivial) ?_; conv => whnf)
        | (refine CaseB.of_true (decide_eq_true hd) ?_; conv => whnf)
        | (refine CaseB.of_false (decide_eq_false hd) ?_; conv => whnf)
        | (refine CaseB.of_false (not_true hd) ?_; conv => whnf)
        | (refine CaseB.of_true (not_false hd) ?_; conv => whnf)
        | (refine CaseB.of_true (hn) ?_; conv => whnf)
        | (refine CaseB.of_false (hn) ?_; conv => whnf)
        | (refine CaseB.of_true (nnot hn) ?_; conv => whnf)
        | (refine CaseB.of_false (nnot hn) ?_; conv => whnf)
        | (refine CaseB.of_true (decide_eq_true hs) ?_; conv => whnf)
        | (refine CaseB.of_false (decide_eq_false fun h => h hs) ?_; conv => whnf)
        | (refine CaseB.of_true (decide_eq_true (by omega)) ?_; conv => whnf)
        | (refine CaseB.of_false (decide_eq_false (by omega)) ?_; conv => whnf))
        exact RetK.empty (WV.lf (WL.int (by unfold checkF; rw [e, hn, decide_eq_true h0]; rfl)))
      | false =>
        repeat (first
        | (refine CallR.mk' _ ((c124 k).free _ ⟨trivial, trivial⟩ trivial) ?_; conv => whnf)
        | (refine CallR.mk' _ ((c29 s).free _ ⟨trivial, trivial⟩ trivial) ?_; conv => whnf)
        | (refine CallR.mk' _ ((c125 k).free _ ⟨trivial, trivial⟩ trivial) ?_; conv => whnf)
        | (refine CaseB.of_true (decide_eq_true hd) ?_; conv => whnf)
        | (refine CaseB.of_false (decide_eq_false hd) ?_; conv => whnf)
        | (refine CaseB.of_false (not_true hd) ?_; conv => whnf)
        | (refine CaseB.of_true (not_false hd) ?_; conv => whnf)
        | (refine CaseB.of_true (hn) ?_; conv => whnf)
        | (refine CaseB.of_false (hn) ?_; conv => whnf)
        | (refine CaseB.of_true (nnot hn) ?_; conv => whnf)
        | (refine CaseB.of_false (nnot hn) ?_; conv => whnf)
        | (refine CaseB.of_true (decide_eq_true hs) ?_; conv => whnf)
        | (refine CaseB.of_false (decide_eq_false fun h => h hs) ?_; conv => whnf)
        | (refine CaseB.of_true (decide_eq_true (by omega)) ?_; conv => whnf)
        | (refine CaseB.of_false (decide_eq_false (by omega)) ?_; conv => whnf))
        exact RetK.empty (WV.lf (WL.int (by unfold checkF; rw [e, hn, decide_eq_true h0]; rfl)))
    · have hn := hk1
      repeat (first
      | (refine CallR.mk' _ ((c124 k).free _ ⟨trivial, trivial⟩ trivial) ?_; conv => whnf)
      | (refine CallR.mk' _ ((c29 s).free _ ⟨trivial, trivial⟩ trivial) ?_; conv => whnf)
      | (refine CallR.mk' _ ((c125 k).free _ ⟨trivial, trivial⟩ trivial) ?_; conv => whnf)
      | (refine CaseB.of_true (decide_eq_true hd) ?_; conv => whnf)
      | (refine CaseB.of_false (decide_eq_false hd) ?_; conv => whnf)
      | (refine CaseB.of_false (not_true hd) ?_; conv => whnf)
      | (refine CaseB.of_true (not_false hd) ?_; conv => whnf)
      | (refine CaseB.of_true (hn) ?_; conv => whnf)
      | (refine CaseB.of_false (hn) ?_; conv => whnf)
      | (refine CaseB.of_true (nnot hn) ?_; conv => whnf)
      | (refine CaseB.of_false (nnot hn) ?_; conv => whnf)
      | (refine CaseB.of_true (decide_eq_true hs) ?_; conv => whnf)
      | (refine CaseB.of_false (decide_eq_false fun h => h hs) ?_; conv => whnf)
      | (refine CaseB.of_true (decide_eq_true (by omega)) ?_; conv => whnf)
      | (refine CaseB.of_false (decide_eq_false (by omega)) ?_; conv => whnf))
      exact RetK.empty (WV.lf (WL.int (by unfold checkF; rw [e, decide_eq_false h0, Bool.and_false]; rfl)))
  · have e : okC k n s = (decide (s = []) && decide (0 ≤ n ∧ n ≤ boundF k)) := by unfold okC; rw [hasF_num hd hk1 hk6]; rfl
    have hn := hk1
    by_cases hs : s = []
    · by_cases h0 : n < 0
      · repeat (first
        | (refine CallR.mk' _ ((c124 k).free _ ⟨trivial, trivial⟩ trivial) ?_; conv => whnf)
        | (refine CallR.mk' _ ((c29 s).free _ ⟨trivial, trivial⟩ trivial) ?_; conv => whnf)
        | (refine CallR.mk' _ ((c125 k).free _ ⟨trivial, trivial⟩ trivial) ?_; conv => whnf)
        | (refine CaseB.of_true (decide_eq_true hd) ?_; conv => whnf)
        | (refine CaseB.of_false (decide_eq_false hd) ?_; conv => whnf)
        | (refine CaseB.of_false (not_true hd) ?_; conv => whnf)
        | (refine CaseB.of_true (not_false hd) ?_; conv => whnf)
        | (refine CaseB.of_true (hn) ?_; conv => whnf)
        | (refine CaseB.of_false (hn) ?_; conv => whnf)
        | (refine CaseB.of_true (nnot hn) ?_; conv => whnf)
        | (refine CaseB.of_false (nnot hn) ?_; conv => whnf)
        | (refine CaseB.of_true (decide_eq_true hs) ?_; conv => whnf)
        | (refine CaseB.of_false (decide_eq_false fun h => h hs) ?_; conv => whnf)
        | (refine CaseB.of_true (decide_eq_true (by omega)) ?_; conv => whnf)
        | (refine CaseB.of_false (decide_eq_false (by omega)) ?_; conv => whnf))
        exact RetK.empty (WV.lf (WL.int (by unfold checkF; rw [e, decide_eq_false (p := 0 ≤ n ∧ n ≤ boundF k) (by omega), Bool.and_false]; rfl)))
      · by_cases hb : boundF k < n
        · repeat (first
          | (refine CallR.mk' _ ((c124 k).free _ ⟨trivial, trivial⟩ trivial) ?_; conv => whnf)
          | (refine CallR.mk' _ ((c29 s).free _ ⟨trivial, trivial⟩ trivial) ?_; conv => whnf)
          | (refine CallR.mk' _ ((c125 k).free _ ⟨trivial, trivial⟩ trivial) ?_; conv => whnf)
          | (refine CaseB.of_true (decide_eq_true hd) ?_; conv => whnf)
          | (refine CaseB.of_false (decide_eq_false hd) ?_; conv => whnf)
          | (refine CaseB.of_false (not_true hd) ?_; conv => whnf)
          | (refine CaseB.of_true (not_false hd) ?_; conv => whnf)
          | (refine CaseB.of_true (hn) ?_; conv => whnf)
          | (refine CaseB.of_false (hn) ?_; conv => whnf)
          | (refine CaseB.of_true (nnot hn) ?_; conv => whnf)
          | (refine CaseB.of_false (nnot hn) ?_; conv => whnf)
          | (refine CaseB.of_true (decide_eq_true hs) ?_; conv => whnf)
          | (refine CaseB.of_false (decide_eq_false fun h => h hs) ?_; conv => whnf)
          | (refine CaseB.of_true (decide_eq_true (by omega)) ?_; conv => whnf)
          | (refine CaseB.of_false (decide_eq_false (by omega)) ?_; conv => whnf))
          exact RetK.empty (WV.lf (WL.int (by unfold checkF; rw [e, decide_eq_false (p := 0 ≤ n ∧ n ≤ boundF k) (by omega), Bool.and_false]; rfl)))
        · repeat (first
          | (refine CallR.mk' _ ((c124 k).free _ ⟨trivial, trivial⟩ trivial) ?_; conv => whnf)
          | (refine CallR.mk' _ ((c29 s).free _ ⟨trivial, trivial⟩ trivial) ?_; conv => whnf)
          | (refine CallR.mk' _ ((c125 k).free _ ⟨trivial, trivial⟩ trivial) ?_; conv => whnf)
          | (refine CaseB.of_true (decide_eq_true hd) ?_; conv => whnf)
          | (refine CaseB.of_false (decide_eq_false hd) ?_; conv => whnf)
          | (refine CaseB.of_false (not_true hd) ?_; conv => whnf)
          | (refine CaseB.of_true (not_false hd) ?_; conv => whnf)
          | (refine CaseB.of_true (hn) ?_; conv => whnf)
          | (refine CaseB.of_false (hn) ?_; conv => whnf)
          | (refine CaseB.of_true (nnot hn) ?_; conv => whnf)
          | (refine CaseB.of_false (nnot hn) ?_; conv => whnf)
          | (refine CaseB.of_true (decide_eq_true hs) ?_; conv => whnf)
          | (refine CaseB.of_false (decide_eq_false fun h => h hs) ?_; conv => whnf)
          | (refine CaseB.of_true (decide_eq_true (by omega)) ?_; conv => whnf)
          | (refine CaseB.of_false (decide_eq_false (by omega)) ?_; conv => whnf))
          exact RetK.empty (WV.lf (WL.int (by unfold checkF; rw [e, decide_eq_true hs, decide_eq_true (p := 0 ≤ n ∧ n ≤ boundF k) (by omega)]; rfl)))
    · repeat (first
      | (refine CallR.mk' _ ((c124 k).free _ ⟨trivial, trivial⟩ trivial) ?_; conv => whnf)
      | (refine CallR.mk' _ ((c29 s).free _ ⟨trivial, trivial⟩ trivial) ?_; conv => whnf)
      | (refine CallR.mk' _ ((c125 k).free _ ⟨trivial, trivial⟩ trivial) ?_; conv => whnf)
      | (refine CaseB.of_true (decide_eq_true hd) ?_; conv => whnf)
      | (refine CaseB.of_false (decide_eq_false hd) ?_; conv => whnf)
      | (refine CaseB.of_false (not_true hd) ?_; conv => whnf)
      | (refine CaseB.of_true (not_false hd) ?_; conv => whnf)
      | (refine CaseB.of_true (hn) ?_; conv => whnf)
      | (refine CaseB.of_false (hn) ?_; conv => whnf)
      | (refine CaseB.of_true (nnot hn) ?_; conv => whnf)
      | (refine CaseB.of_false (nnot hn) ?_; conv => whnf)
      | (refine CaseB.of_true (decide_eq_true hs) ?_; conv => whnf)
      | (refine CaseB.of_false (decide_eq_false fun h => h hs) ?_; conv => whnf)
      | (refine CaseB.of_true (decide_eq_true (by omega)) ?_; conv => whnf)
      | (refine CaseB.of_false (decide_eq_false (by omega)) ?_; conv => whnf))
      exact RetK.empty (WV.lf (WL.int (by unfold checkF; rw [e, decide_eq_false hs]; rfl)))
end Go.Sym.Md
