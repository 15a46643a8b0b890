/- Contracts of the program's functions, proved by the framework (text MdS), without conditions but those that each theorem states. -/
import Derived.Test.YtlmcdgbjbamdnaaMdR
set_option linter.unusedVariables false
set_option linter.unusedSimpArgs false
set_option maxRecDepth 10000
namespace Go.Sym.Md
open Go Go.Sym Go.Lib
attribute [local irreducible] checkF boundF hasF

/-- A deed. -/
structure DeedS where
  a : Int
  t : Int
  c : Int
  b : Int
  sp : List UInt8
  sn : List UInt8

abbrev vD (d : DeedS) : FV := .s (.agg [.one (.int .i64 d.a), .one (.int .i64 d.t), .one (.int .i64 d.c), .one (.int .i64 d.b), .one (.str d.sp), .one (.str d.sn)])

/-- Whether a caveat holds. -/
def holdsF (k n : Int) (s : List UInt8) (d : DeedS) : Bool :=
  if okC k n s = false then false else
  if k = 1 then decide (1 ≤ d.a ∧ d.a ≤ 255) && decide (bitsI .andNot .i64 d.a n = 0) else if k = 2 then decide (s = d.sp) else if k = 3 then decide (s = d.sn) else
  if k = 4 then decide (d.t ≤ n) else if k = 5 then decide (d.c = n) else decide (d.b ≤ n)

theorem check_ok {k n : Int} {s : List UInt8} (h : okC k n s = true) : checkF k n s = 0 := by unfold checkF; rw [h]; rfl
theorem check_bad {k n : Int} {s : List UInt8} (h : okC k n s = false) : checkF k n s = 1 := by unfold checkF; rw [h]; rfl

/-- caveat.Holds -/
theorem c35 (k n : Int) (s : List UInt8) (d : DeedS) : SCalls Proofs.Try.prog 35 [vC k n s, vD d] [] (.s (.lf (.bool (holdsF k n s d)))) [] := by
  refine SCalls.intro tok Proofs.Try.func35 ?_
  conv => whnf
  refine CallK.mk' _ _ ((c26 k n s).free _ ⟨⟨trivial, trivial, trivial, trivial⟩, trivial⟩ trivial) ?_
  conv => whnf
  cases hok : okC k n s with
  | false =>
    refine CaseB.of_true (by rw [check_bad hok]; rfl) ?_
    conv => whnf
    exact RetK.empty (WV.lf (WL.ff (by unfold holdsF; rw [if_pos hok])))
  | true =>
    refine CaseB.of_false (by rw [check_ok hok]; rfl) ?_
    conv => whnf
    by_cases h1 : k = 1
    · refine CaseB.of_true (decide_eq_true h1) ?_
      conv => whnf
      refine DrawK.mk1 tok mixed [0, 1, 0, 7, 15, 31, 63, 31, 159, 511, 1023, 2047, 4095] [(0, 1, [0]), (1, 1, [0]), (2, 1, [0]), (3, 1, [0]), (4, 0, []), (5, 1, [0]), (6, 1, [0]), (7, 1, [0]), (8, 1, [0]), (9, 0, []), (10, 0, []), (11, 0, []), (12, 0, [])] (by kernel_rfl) ?_
      conv => whnf
      have hb1 : boundF 1 = 255 := by unfold boundF; rfl
      have e : holdsF k n s d = (decide (1 ≤ d.a ∧ d.a ≤ 255) && decide (bitsI .andNot .i64 d.a n = 0)) := by unfold holdsF; rw [if_neg (by rw [hok]; simp), if_pos h1]
      refine CallR.mk' _ ((c123 1).free _ ⟨trivial, trivial⟩ trivial) ?_
      conv => whnf
      refine CallR.mk' _ ((c122 d.a 1 (boundF 1)).free _ ⟨trivial, trivial, trivial, trivial⟩ trivial) ?_
      conv => whnf
      rw [hb1]
      by_cases ha : 1 ≤ d.a ∧ d.a ≤ 255
      · repeat (first | (refine CaseB.of_true (decide_eq_true ha) ?_; conv => whnf))
        exact RetK.empty (WV.lf (WL.bool (by rw [e, decide_eq_true ha, Bool.true_and])))
      · repeat (first | (refine CaseB.of_false (decide_eq_false ha) ?_; conv => whnf))
        exact RetK.empty (WV.lf (WL.bool (by rw [e, decide_eq_false ha, Bool.false_and])))
    refine CaseB.of_false (decide_eq_false h1) ?_
    conv => whnf
    by_cases h2 : k = 2
    · refine CaseB.of_true (decide_eq_true h2) ?_
      conv => whnf
      refine CallK.mk' _ _ ((c128 s d.sp).free _ ⟨trivial, trivial, trivial⟩ trivial) ?_
      conv => whnf
      exact RetK.empty (WV.lf (WL.bool (by unfold holdsF; rw [if_neg (by rw [hok]; simp), if_neg h1, if_pos h2, decide_eq_decide, cmp_zero])))
    refine CaseB.of_false (decide_eq_false h2) ?_
    conv => whnf
    by_cases h3 : k = 3
    · refine CaseB.of_true (decide_eq_true h3) ?_
      conv => whnf
      refine CallK.mk' _ _ ((c128 s d.sn).free _ ⟨trivial, trivial, trivial⟩ trivial) ?_
      conv => whnf
      exact RetK.empty (WV.lf (WL.bool (by unfold holdsF; rw [if_neg (by rw [hok]; simp), if_neg h1, if_neg h2, if_pos h3, decide_eq_decide, cmp_zero])))
    refine CaseB.of_false (decide_eq_false h3) ?_
    conv => whnf
    by_cases h4 : k = 4
    · refine CaseB.of_true (decide_eq_true h4) ?_
      conv => whnf
      exact RetK.empty (WV.lf (WL.bool (by unfold holdsF; rw [if_neg (by rw [hok]; simp), if_neg h1, if_neg h2, if_neg h3, if_pos h4])))
    refine CaseB.of_false (decide_eq_false h4) ?_
    conv => whnf
    by_cases h5 : k = 5
    · refine CaseB.of_true (decide_eq_true h5) ?_
      conv => whnf
      exact RetK.empty (WV.lf (WL.bool (by unfold holdsF; rw [if_neg (by rw [hok]; simp), if_neg h1, if_neg h2, if_neg h3, if_neg h4, if_pos h5])))
    refine CaseB.of_false (decide_eq_false h5) ?_
    conv => whnf
    exact RetK.empty (WV.lf (WL.bool (by unfold holdsF; rw [if_neg (by rw [hok]; simp), if_neg h1, if_neg h2, if_neg h3, if_neg h4, if_neg h5])))

theorem bv_and_iff (x y : BitVec 64) : x &&& ~~~y = 0#64 ↔ x &&& y = x := by
  constructor
  · intro h
    apply BitVec.eq_of_getLsbD_eq
    intro i hi
    have := congrArg (fun v => BitVec.getLsbD v i) h
    simp [hi] at this
    simp
    exact this
  · intro h
    apply BitVec.eq_of_getLsbD_eq
    intro i hi
    have := congrArg (fun v => BitVec.getLsbD v i) h
    simp [hi] at this
    simp [hi]
    exact this

theorem i64_mask {a n : Int} (h0 : 0 ≤ a) (h1 : a ≤ 255) : (bitsI .andNot .i64 a n = 0) ↔ (bitsI .and .i64 a n = a) := by
  obtain ⟨m, rfl⟩ : ∃ m : Nat, a = m := ⟨a.toNat, by omega⟩
  have hX : (BitVec.ofInt 64 (m : Int)).toNat = m := by rw [BitVec.ofInt_natCast, BitVec.toNat_ofNat]; omega
  have l1 : (BitVec.ofInt 64 (m : Int) &&& ~~~ BitVec.ofInt 64 n).toNat ≤ m := by
    rw [BitVec.toNat_and, hX]; exact Nat.and_le_left
  have l2 : (BitVec.ofInt 64 (m : Int) &&& BitVec.ofInt 64 n).toNat ≤ m := by
    rw [BitVec.toNat_and, hX]; exact Nat.and_le_left
  have e1 : bitsI .andNot .i64 (m : Int) n = (((BitVec.ofInt 64 (m : Int) &&& ~~~ BitVec.ofInt 64 n).toNat : Nat) : Int) := by
    show IntKind.i64.wrap (((BitVec.ofInt 64 (m : Int) &&& ~~~ BitVec.ofInt 64 n).toNat : Nat) : Int) = _
    rw [wrap_i64 (by omega) (by omega)]
  have e2 : bitsI .and .i64 (m : Int) n = (((BitVec.ofInt 64 (m : Int) &&& BitVec.ofInt 64 n).toNat : Nat) : Int) := by
    show IntKind.i64.wrap (((BitVec.ofInt 64 (m : Int) &&& BitVec.ofInt 64 n).toNat : Nat) : Int) = _
    rw [wrap_i64 (by omega) (by omega)]
  rw [e1, e2]
  have h := bv_and_iff (BitVec.ofInt 64 (m : Int)) (BitVec.ofInt 64 n)
  constructor
  · intro k
    have : BitVec.ofInt 64 (m : Int) &&& ~~~ BitVec.ofInt 64 n = 0#64 := by
      apply BitVec.eq_of_toNat_eq
      simp only [BitVec.toNat_ofNat, Nat.zero_mod]
      omega
    rw [h.1 this, hX]
  · intro k
    have : BitVec.ofInt 64 (m : Int) &&& BitVec.ofInt 64 n = BitVec.ofInt 64 (m : Int) := by
      apply BitVec.eq_of_toNat_eq
      rw [hX]
      omega
    rw [h.2 this]
    rfl

/-- baileyref06.Holds -/
theorem c36 (k n : Int) (s : List UInt8) (d : DeedS) : SCalls Proofs.Try.prog 36 [vC k n s, vD d] [] (.s (.lf (.bool (holdsF k n s d)))) [] := by
  refine SCalls.intro tok Proofs.Try.func36 ?_
  conv => whnf
  refine CallK.mk' _ _ ((c27 k n s).free _ ⟨⟨trivial, trivial, trivial, trivial⟩, trivial⟩ trivial) ?_
  conv => whnf
  cases hok : okC k n s with
  | false =>
    refine CaseB.of_true (by rw [check_bad hok]; rfl) ?_
    conv => whnf
    exact RetK.empty (WV.lf (WL.ff (by unfold holdsF; rw [if_pos hok])))
  | true =>
    refine CaseB.of_false (by rw [check_ok hok]; rfl) ?_
    conv => whnf
    by_cases h1 : k = 1
    · refine CaseB.of_true (decide_eq_true h1) ?_
      conv => whnf
      have e : holdsF k n s d = (decide (1 ≤ d.a ∧ d.a ≤ 255) && decide (bitsI .andNot .i64 d.a n = 0)) := by unfold holdsF; rw [if_neg (by rw [hok]; simp), if_pos h1]
      by_cases ha : 0 < d.a
      · refine CaseB.of_true (decide_eq_true ha) ?_
        conv => whnf
        by_cases hb : d.a ≤ 255
        · refine CaseB.of_true (decide_eq_true hb) ?_
          conv => whnf
          exact RetK.empty (WV.lf (WL.bool (by rw [e, decide_eq_true (p := 1 ≤ d.a ∧ d.a ≤ 255) (by omega), Bool.true_and, decide_eq_decide, i64_mask (by omega) hb])))
        · refine CaseB.of_false (decide_eq_false hb) ?_
          conv => whnf
          exact RetK.empty (WV.lf (WL.ff (by rw [e, decide_eq_false (p := 1 ≤ d.a ∧ d.a ≤ 255) (by omega), Bool.false_and])))
      · refine CaseB.of_false (decide_eq_false ha) ?_
        conv => whnf
        exact RetK.empty (WV.lf (WL.ff (by rw [e, decide_eq_false (p := 1 ≤ d.a ∧ d.a ≤ 255) (by omega), Bool.false_and])))
    refine CaseB.of_false (decide_eq_false h1) ?_
    conv => whnf
    by_cases h2 : k = 2
    · refine CaseB.of_true (decide_eq_true h2) ?_
      conv => whnf
      exact RetK.empty (WV.lf (WL.bool (by unfold holdsF; rw [if_neg (by rw [hok]; simp), if_neg h1, if_pos h2, decide_eq_decide]; exact ⟨fun h => h.symm, fun h => h.symm⟩)))
    refine CaseB.of_false (decide_eq_false h2) ?_
    conv => whnf
    by_cases h3 : k = 3
    · refine CaseB.of_true (decide_eq_true h3) ?_
      conv => whnf
      exact RetK.empty (WV.lf (WL.bool (by unfold holdsF; rw [if_neg (by rw [hok]; simp), if_neg h1, if_neg h2, if_pos h3, decide_eq_decide]; exact ⟨fun h => h.symm, fun h => h.symm⟩)))
    refine CaseB.of_false (decide_eq_false h3) ?_
    conv => whnf
    by_cases h4 : k = 4
    · refine CaseB.of_true (decide_eq_true h4) ?_
      conv => whnf
      exact RetK.empty (WV.lf (WL.bool (by unfold holdsF; rw [if_neg (by rw [hok]; simp), if_neg h1, if_neg h2, if_neg h3, if_pos h4])))
    refine CaseB.of_false (decide_eq_false h4) ?_
    conv => whnf
    by_cases h5 : k = 5
    · refine CaseB.of_true (decide_eq_true h5) ?_
      conv => whnf
      exact RetK.empty (WV.lf (WL.bool (by unfold holdsF; rw [if_neg (by rw [hok]; simp), if_neg h1, if_neg h2, if_neg h3, if_neg h4, if_pos h5])))
    refine CaseB.of_false (decide_eq_false h5) ?_
    conv => whnf
    exact RetK.empty (WV.lf (WL.bool (by unfold holdsF; rw [if_neg (by rw [hok]; simp), if_neg h1, if_neg h2, if_neg h3, if_neg h4, if_neg h5])))
end Go.Sym.Md
