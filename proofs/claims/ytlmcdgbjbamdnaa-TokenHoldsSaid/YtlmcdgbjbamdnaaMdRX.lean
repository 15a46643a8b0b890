/- Contracts of the program's functions, proved by the framework (text MdRX), without conditions but those that each theorem states. -/
import Derived.Test.YtlmcdgbjbamdnaaMdPQ
import Derived.Lib.Bytealg
set_option linter.unusedVariables false
set_option linter.unusedSimpArgs false
set_option maxRecDepth 10000
namespace Go.Sym.Md
open Go Go.Sym Go.Lib

theorem cmp_zero : ∀ (a b : List UInt8), compareBytes a b = 0 ↔ a = b
  | [], [] => by simp [compareBytes]
  | [], _ :: _ => by simp [compareBytes]
  | _ :: _, [] => by simp [compareBytes]
  | x :: a, y :: b => by
    unfold compareBytes
    by_cases h1 : x < y
    · simp only [h1, if_true]
      have : x ≠ y := fun e => by rw [e] at h1; exact UInt8.lt_irrefl _ h1
      simp [this]
    · by_cases h2 : y < x
      · simp only [h1, h2, if_true, if_false]
        have : x ≠ y := fun e => by rw [e] at h2; exact UInt8.lt_irrefl _ h2
        simp [this]
      · simp only [h1, h2, if_false]
        have : x = y := UInt8.le_antisymm (UInt8.not_lt.1 h2) (UInt8.not_lt.1 h1)
        rw [cmp_zero a b, this]
        simp

theorem cmp_range : ∀ (a b : List UInt8), -1 ≤ compareBytes a b ∧ compareBytes a b ≤ 1
  | [], [] => by simp [compareBytes]
  | [], _ :: _ => by simp [compareBytes]
  | _ :: _, [] => by simp [compareBytes]
  | x :: a, y :: b => by
    unfold compareBytes
    have := cmp_range a b
    split
    · omega
    · split
      · omega
      · exact this

/-- internal/bytealg's comparison of two strings. -/
theorem sem212 (a b : List UInt8) (H : Hp) : CallSem Proofs.Try.prog 212 [.s (.lf (.str a)), .s (.lf (.str b))] H (vI (compareBytes a b)) H := by
  intro w L vals hw ha o act next Q hn
  obtain ⟨hs, hv⟩ := ha
  obtain ⟨x, hx, hxr⟩ := hv 0 _ rfl
  obtain ⟨y, hy, hyr⟩ := hv 1 _ rfl
  have hx' : x = .string ⟨a.toArray⟩ := hxr.1
  have hy' : y = .string ⟨b.toArray⟩ := hyr.1
  have hvals : vals = #[.string ⟨a.toArray⟩, .string ⟨b.toArray⟩] := by
    subst hx'; subst hy'
    have hs' : vals.size = 2 := hs
    apply Array.ext
    · simpa using hs'
    · intro i h1 h2
      have : i = 0 ∨ i = 1 := by omega
      rcases this with rfl | rfl
      · have := (Array.getElem?_eq_some_iff.1 hx).2; simpa using this
      · have := (Array.getElem?_eq_some_iff.1 hy).2; simpa using this
  have hrun : (callFunc 212 vals).run Proofs.Try.prog w = .ok (.value (.int .i64 (compareBytes a b))) w := by
    have h1 : (Proofs.Try.f212.name == "runtime.NumGoroutine") = false := by kernel_rfl
    have h2 : Proofs.Try.f212.body.isNone = true := by kernel_rfl
    have h3 : Extern.findNext Proofs.Try.f212 = none := by kernel_rfl
    have h4 : Extern.find Proofs.Try.f212 = some Extern.BytealgCompare.compare := by kernel_rfl
    have h5 := Lib.run_compareString (P := Proofs.Try.prog) ⟨a.toArray⟩ ⟨b.toArray⟩ w
    simp only [callFunc, Sem.run_bind, run_program, Result.andThen_ok, Proofs.Try.func212, h1, h2, h3, h4, hvals, run_mark, Bool.false_eq_true, if_false, if_true, Sem.run_pure, h5]
  rw [hrun]
  have hr := cmp_range a b
  exact hn _ w L hw ⟨rfl, by simp [IntKind.min, IntKind.signed, IntKind.bits]; omega, by simp [IntKind.max, IntKind.signed, IntKind.bits]; omega⟩ (Ev.refl w L)

/-- internal/bytealg.CompareString -/
theorem c183 (a b : List UInt8) : SCalls Proofs.Try.prog 183 [.s (.lf (.str a)), .s (.lf (.str b))] [] (vI (compareBytes a b)) [] := by
  refine SCalls.intro tok Proofs.Try.func183 ?_
  conv => whnf
  refine ⟨⟨_, _, sem212 a b _, ?_⟩⟩
  conv => whnf
  exact RetK.empty (okF.wv trivial)

/-- strings.Compare -/
theorem c128 (a b : List UInt8) : SCalls Proofs.Try.prog 128 [.s (.lf (.str a)), .s (.lf (.str b))] [] (vI (compareBytes a b)) [] := by
  refine SCalls.intro tok Proofs.Try.func128 ?_
  conv => whnf
  refine CallK.mk' _ _ (c183 a b) ?_
  conv => whnf
  exact RetK.empty (okF.wv trivial)
end Go.Sym.Md

set_option linter.unusedVariables false
set_option linter.unusedSimpArgs false
set_option maxRecDepth 10000
namespace Go.Sym.Md
open Go Go.Sym Go.Lib
attribute [local irreducible] checkF boundF hasF

/-- A deed. -/
structure DeedS where
  a : Int
  t : Int
  c : Int
  b : Int
  sp : List UInt8
  sn : List UInt8

abbrev vD (d : DeedS) : FV := .s (.agg [.one (.int .i64 d.a), .one (.int .i64 d.t), .one (.int .i64 d.c), .one (.int .i64 d.b), .one (.str d.sp), .one (.str d.sn)])

/-- Whether a caveat holds. -/
def holdsF (k n : Int) (s : List UInt8) (d : DeedS) : Bool :=
  if okC k n s = false then false else
  if k = 1 then decide (1 ≤ d.a ∧ d.a ≤ 255) && decide (bitsI .andNot .i64 d.a n = 0) else if k = 2 then decide (s = d.sp) else if k = 3 then decide (s = d.sn) else
  if k = 4 then decide (d.t ≤ n) else if k = 5 then decide (d.c = n) else decide (d.b ≤ n)

theorem check_ok {k n : Int} {s : List UInt8} (h : okC k n s = true) : checkF k n s = 0 := by unfold checkF; rw [h]; rfl
theorem check_bad {k n : Int} {s : List UInt8} (h : okC k n s = false) : checkF k n s = 1 := by unfold checkF; rw [h]; rfl

/-- caveat.Holds -/
theorem c35 (k n : Int) (s : List UInt8) (d : DeedS) : SCalls Proofs.Try.prog 35 [vC k n s, vD d] [] (.s (.lf (.bool (holdsF k n s d)))) [] := by
  refine SCalls.intro tok Proofs.Try.func35 ?_
  conv => whnf
  refine CallK.mk' _ _ ((c26 k n s).free _ ⟨⟨trivial, trivial, trivial, trivial⟩, trivial⟩ trivial) ?_
  conv => whnf
  cases hok : okC k n s with
  | false =>
    refine CaseB.of_true (by rw [check_bad hok]; rfl) ?_
    conv => whnf
    exact RetK.empty (WV.lf (WL.ff (by unfold holdsF; rw [if_pos hok])))
  | true =>
    refine CaseB.of_false (by rw [check_ok hok]; rfl) ?_
    conv => whnf
    by_cases h1 : k = 1
    · refine CaseB.of_true (decide_eq_true h1) ?_
      conv => whnf
      refine DrawK.mk1 tok mixed [0, 1, 0, 7, 15, 31, 63, 31, 159, 511, 1023, 2047, 4095] [(0, 1, [0]), (1, 1, [0]), (2, 1, [0]), (3, 1, [0]), (4, 0, []), (5, 1, [0]), (6, 1, [0]), (7, 1, [0]), (8, 1, [0]), (9, 0, []), (10, 0, []), (11, 0, []), (12, 0, [])] (by kernel_rfl) ?_
      conv => whnf
      have hb1 : boundF 1 = 255 := by unfold boundF; rfl
      have e : holdsF k n s d = (decide (1 ≤ d.a ∧ d.a ≤ 255) && decide (bitsI .andNot .i64 d.a n = 0)) := by unfold holdsF; rw [if_neg (by rw [hok]; simp), if_pos h1]
      refine CallR.mk' _ ((c123 1).free _ ⟨trivial, trivial⟩ trivial) ?_
      conv => whnf
      refine CallR.mk' _ ((c122 d.a 1 (boundF 1)).free _ ⟨trivial, trivial, trivial, trivial⟩ trivial) ?_
      conv => whnf
      rw [hb1]
      by_cases ha : 1 ≤ d.a ∧ d.a ≤ 255
      · repeat (first | (refine CaseB.of_true (decide_eq_true ha) ?_; conv => whnf))
        exact RetK.empty (WV.lf (WL.bool (by rw [e, decide_eq_true ha, Bool.true_and])))
      · repeat (first | (refine CaseB.of_false (decide_eq_false ha) ?_; conv => whnf))
        exact RetK.empty (WV.lf (WL.bool (by rw [e, decide_eq_false ha, Bool.false_and])))
    refine CaseB.of_false (decide_eq_false h1) ?_
    conv => whnf
    by_cases h2 : k = 2
    · refine CaseB.of_true (decide_eq_true h2) ?_
      conv => whnf
      refine CallK.mk' _ _ ((c128 s d.sp).free _ ⟨trivial, trivial, trivial⟩ trivial) ?_
      conv => whnf
      exact RetK.empty (WV.lf (WL.bool (by unfold holdsF; rw [if_neg (by rw [hok]; simp), if_neg h1, if_pos h2, decide_eq_decide, cmp_zero])))
    refine CaseB.of_false (decide_eq_false h2) ?_
    conv => whnf
    by_cases h3 : k = 3
    · refine CaseB.of_true (decide_eq_true h3) ?_
      conv => whnf
      refine CallK.mk' _ _ ((c128 s d.sn).free _ ⟨trivial, trivial, trivial⟩ trivial) ?_
      conv => whnf
      exact RetK.empty (WV.lf (WL.bool (by unfold holdsF; rw [if_neg (by rw [hok]; simp), if_neg h1, if_neg h2, if_pos h3, decide_eq_decide, cmp_zero])))
    refine CaseB.of_false (decide_eq_false h3) ?_
    conv => whnf
    by_cases h4 : k = 4
    · refine CaseB.of_true (decide_eq_true h4) ?_
      conv => whnf
      exact RetK.empty (WV.lf (WL.bool (by unfold holdsF; rw [if_neg (by rw [hok]; simp), if_neg h1, if_neg h2, if_neg h3, if_pos h4])))
    refine CaseB.of_false (decide_eq_false h4) ?_
    conv => whnf
    by_cases h5 : k = 5
    · refine CaseB.of_true (decide_eq_true h5) ?_
      conv => whnf
      exact RetK.empty (WV.lf (WL.bool (by unfold holdsF; rw [if_neg (by rw [hok]; simp), if_neg h1, if_neg h2, if_neg h3, if_neg h4, if_pos h5])))
    refine CaseB.of_false (decide_eq_false h5) ?_
    conv => whnf
    exact RetK.empty (WV.lf (WL.bool (by unfold holdsF; rw [if_neg (by rw [hok]; simp), if_neg h1, if_neg h2, if_neg h3, if_neg h4, if_neg h5])))

theorem bv_and_iff (x y : BitVec 64) : x &&& ~~~y = 0#64 ↔ x &&& y = x := by
  constructor
  · intro h
    apply BitVec.eq_of_getLsbD_eq
    intro i hi
    have := congrArg (fun v => BitVec.getLsbD v i) h
    simp [hi] at this
    simp
    exact this
  · intro h
    apply BitVec.eq_of_getLsbD_eq
    intro i hi
    have := congrArg (fun v => BitVec.getLsbD v i) h
    simp [hi] at this
    simp [hi]
    exact this

theorem i64_mask {a n : Int} (h0 : 0 ≤ a) (h1 : a ≤ 255) : (bitsI .andNot .i64 a n = 0) ↔ (bitsI .and .i64 a n = a) := by
  obtain ⟨m, rfl⟩ : ∃ m : Nat, a = m := ⟨a.toNat, by omega⟩
  have hX : (BitVec.ofInt 64 (m : Int)).toNat = m := by rw [BitVec.ofInt_natCast, BitVec.toNat_ofNat]; omega
  have l1 : (BitVec.ofInt 64 (m : Int) &&& ~~~ BitVec.ofInt 64 n).toNat ≤ m := by
    rw [BitVec.toNat_and, hX]; exact Nat.and_le_left
  have l2 : (BitVec.ofInt 64 (m : Int) &&& BitVec.ofInt 64 n).toNat ≤ m := by
    rw [BitVec.toNat_and, hX]; exact Nat.and_le_left
  have e1 : bitsI .andNot .i64 (m : Int) n = (((BitVec.ofInt 64 (m : Int) &&& ~~~ BitVec.ofInt 64 n).toNat : Nat) : Int) := by
    show IntKind.i64.wrap (((BitVec.ofInt 64 (m : Int) &&& ~~~ BitVec.ofInt 64 n).toNat : Nat) : Int) = _
    rw [wrap_i64 (by omega) (by omega)]
  have e2 : bitsI .and .i64 (m : Int) n = (((BitVec.ofInt 64 (m : Int) &&& BitVec.ofInt 64 n).toNat : Nat) : Int) := by
    show IntKind.i64.wrap (((BitVec.ofInt 64 (m : Int) &&& BitVec.ofInt 64 n).toNat : Nat) : Int) = _
    rw [wrap_i64 (by omega) (by omega)]
  rw [e1, e2]
  have h := bv_and_iff (BitVec.ofInt 64 (m : Int)) (BitVec.ofInt 64 n)
  constructor
  · intro k
    have : BitVec.ofInt 64 (m : Int) &&& ~~~ BitVec.ofInt 64 n = 0#64 := by
      apply BitVec.eq_of_toNat_eq
      simp only [BitVec.toNat_ofNat, Nat.zero_mod]
      omega
    rw [h.1 this, hX]
  · intro k
    have : BitVec.ofInt 64 (m : Int) &&& BitVec.ofInt 64 n = BitVec.ofInt 64 (m : Int) := by
      apply BitVec.eq_of_toNat_eq
      rw [hX]
      omega
    rw [h.2 this]
    rfl

/-- baileyref06.Holds -/
theorem c36 (k n : Int) (s : List UInt8) (d : DeedS) : SCalls Proofs.Try.prog 36 [vC k n s, vD d] [] (.s (.lf (.bool (holdsF k n s d)))) [] := by
  refine SCalls.intro tok Proofs.Try.func36 ?_
  conv => whnf
  refine CallK.mk' _ _ ((c27 k n s).free _ ⟨⟨trivial, trivial, trivial, trivial⟩, trivial⟩ trivial) ?_
  conv => whnf
  cases hok : okC k n s with
  | false =>
    refine CaseB.of_true (by rw [check_bad hok]; rfl) ?_
    conv => whnf
    exact RetK.empty (WV.lf (WL.ff (by unfold holdsF; rw [if_pos hok])))
  | true =>
    refine CaseB.of_false (by rw [check_ok hok]; rfl) ?_
    conv => whnf
    by_cases h1 : k = 1
    · refine CaseB.of_true (decide_eq_true h1) ?_
      conv => whnf
      have e : holdsF k n s d = (decide (1 ≤ d.a ∧ d.a ≤ 255) && decide (bitsI .andNot .i64 d.a n = 0)) := by unfold holdsF; rw [if_neg (by rw [hok]; simp), if_pos h1]
      by_cases ha : 0 < d.a
      · refine CaseB.of_true (decide_eq_true ha) ?_
        conv => whnf
        by_cases hb : d.a ≤ 255
        · refine CaseB.of_true (decide_eq_true hb) ?_
          conv => whnf
          exact RetK.empty (WV.lf (WL.bool (by rw [e, decide_eq_true (p := 1 ≤ d.a ∧ d.a ≤ 255) (by omega), Bool.true_and, decide_eq_decide, i64_mask (by omega) hb])))
        · refine CaseB.of_false (decide_eq_false hb) ?_
          conv => whnf
          exact RetK.empty (WV.lf (WL.ff (by rw [e, decide_eq_false (p := 1 ≤ d.a ∧ d.a ≤ 255) (by omega), Bool.false_and])))
      · refine CaseB.of_false (decide_eq_false ha) ?_
        conv => whnf
        exact RetK.empty (WV.lf (WL.ff (by rw [e, decide_eq_false (p := 1 ≤ d.a ∧ d.a ≤ 255) (by omega), Bool.false_and])))
    refine CaseB.of_false (decide_eq_false h1) ?_
    conv => whnf
    by_cases h2 : k = 2
    · refine CaseB.of_true (decide_eq_true h2) ?_
      conv => whnf
      exact RetK.empty (WV.lf (WL.bool (by unfold holdsF; rw [if_neg (by rw [hok]; simp), if_neg h1, if_pos h2, decide_eq_decide]; exact ⟨fun h => h.symm, fun h => h.symm⟩)))
    refine CaseB.of_false (decide_eq_false h2) ?_
    conv => whnf
    by_cases h3 : k = 3
    · refine CaseB.of_true (decide_eq_true h3) ?_
      conv => whnf
      exact RetK.empty (WV.lf (WL.bool (by unfold holdsF; rw [if_neg (by rw [hok]; simp), if_neg h1, if_neg h2, if_pos h3, decide_eq_decide]; exact ⟨fun h => h.symm, fun h => h.symm⟩)))
    refine CaseB.of_false (decide_eq_false h3) ?_
    conv => whnf
    by_cases h4 : k = 4
    · refine CaseB.of_true (decide_eq_true h4) ?_
      conv => whnf
      exact RetK.empty (WV.lf (WL.bool (by unfold holdsF; rw [if_neg (by rw [hok]; simp), if_neg h1, if_neg h2, if_neg h3, if_pos h4])))
    refine CaseB.of_false (decide_eq_false h4) ?_
    conv => whnf
    by_cases h5 : k = 5
    · refine CaseB.of_true (decide_eq_true h5) ?_
      conv => whnf
      exact RetK.empty (WV.lf (WL.bool (by unfold holdsF; rw [if_neg (by rw [hok]; simp), if_neg h1, if_neg h2, if_neg h3, if_neg h4, if_pos h5])))
    refine CaseB.of_false (decide_eq_false h5) ?_
    conv => whnf
    exact RetK.empty (WV.lf (WL.bool (by unfold holdsF; rw [if_neg (by rw [hok]; simp), if_neg h1, if_neg h2, if_neg h3, if_neg h4, if_neg h5])))
end Go.Sym.Md

set_option linter.unusedVariables false
set_option linter.unusedSimpArgs false
set_option maxRecDepth 10000
namespace Go.Sym.Md
open Go Go.Sym Go.Lib

/-- slices.Equal, of bytes. -/
theorem c57 (xs ys : List UInt8) (hx : xs.length ≤ maxLen) : SCalls Proofs.Try.prog 57 [.s (.lf (.rob false false xs)), .s (.lf (.rob false false ys))] [] (.s (.lf (.bool (decide (xs = ys))))) [] := by
  have hm : maxLen = 9223372036854775807 := rfl
  refine SCalls.intro tok Proofs.Try.func57 ?_
  conv => whnf
  by_cases hl : xs.length = ys.length
  · refine CaseB.of_false (by simp [hl]) ?_
    conv => whnf
    refine LoopK.mk1 (fun i : Nat => [(0, .s (.lf (.rob false false xs))), (1, .s (.lf (.rob false false ys))), (12, vI xs.length), (13, vI i)]) (fun i => []) (fun i => i ≤ xs.length ∧ xs.take i = ys.take i) (fun i => xs.length - i) 0 ⟨by omega, rfl⟩ ?_ ?_
    · exact Weak.of ⟨⟩ (by simp) ⟨okF.wv trivial, okF.wv trivial, okF.wv trivial, okF.wv trivial, trivial⟩
    intro i hi
    obtain ⟨hi, ht⟩ := hi
    conv => whnf
    by_cases hi' : i < xs.length
    · refine CaseB.of_true (decide_eq_true (by omega)) ?_
      conv => whnf
      refine DrawK.mk1 tok mixed [0, 0, 3, 7, 0, 0, 48, 112, 255] [(0, 0, []), (1, 0, []), (4, 0, []), (5, 0, []), (2, 1, [0]), (3, 1, [0]), (6, 1, [0]), (7, 1, [0]), (8, 0, [])] (by kernel_rfl) ?_
      conv => whnf
      refine ⟨by omega, ?_⟩
      conv => whnf
      refine ⟨by omega, ?_⟩
      conv => whnf
      have hx0 : xs[i]? = some (xs.getD i 0) := by rw [List.getD_eq_getElem?_getD, List.getElem?_eq_getElem hi']; rfl
      have hy0 : ys[i]? = some (ys.getD i 0) := by rw [List.getD_eq_getElem?_getD, List.getElem?_eq_getElem (by omega)]; rfl
      by_cases he : xs.getD i 0 = ys.getD i 0
      · refine CaseB.of_false (by simp only [Int.toNat_natCast, he]; simp) ?_
        conv => whnf
        refine ⟨i + 1, ⟨by omega, ?_⟩, by omega, Weak.of ⟨⟩ (by simp) ⟨okF.wv trivial, okF.wv trivial, okF.wv trivial, WV.lf (WL.int (by rw [wrap_i64 (by omega) (by omega)]; omega)), trivial⟩⟩
        rw [List.take_add_one, List.take_add_one, ht, hx0, hy0, he]
      · refine CaseB.of_true ?_ ?_
        · simp only [Int.toNat_natCast]
          refine decide_eq_true fun e => ?_
          exact he (UInt8.toNat_inj.1 (by omega))
        conv => whnf
        refine RetK.empty (WV.lf (WL.ff (decide_eq_false fun e => he (by rw [e]))))
    · refine CaseB.of_false (decide_eq_false (by omega)) ?_
      conv => whnf
      refine RetK.empty (WV.lf (WL.tt (decide_eq_true ?_)))
      rw [List.take_of_length_le (by omega), List.take_of_length_le (by omega)] at ht
      exact ht
  · refine CaseB.of_true (by simp; omega) ?_
    conv => whnf
    exact RetK.empty (WV.lf (WL.ff (decide_eq_false fun e => hl (by rw [e]))))


def dT (t : Int) : DeedS := ⟨0, t, 0, 0, [], []⟩
theorem ok_awake : okC 4 5 [] = true := by kernel_rfl
theorem holds5 : holdsF 4 5 [] (dT 5) = true := by kernel_rfl
theorem holds6 : holdsF 4 5 [] (dT 6) = false := by kernel_rfl
theorem put45 : putF [] 4 5 [] = [4, 5] := by kernel_rfl
theorem name_a : nameF [97] = true := by kernel_rfl
theorem name_A : nameF [65] = false := by kernel_rfl

attribute [local irreducible] okC holdsF putF nameF

/-- baileylaw06.awake -/
theorem c25 : SCalls Proofs.Try.prog 25 [] [] (.s (.lf .tt)) [] := by
  refine SCalls.intro tok Proofs.Try.func25 ?_
  conv => whnf
  have h5 := c35 4 5 [] (dT 5)
  rw [holds5] at h5
  have h6 := c35 4 5 [] (dT 6)
  rw [holds6] at h6
  have h58 := c58 [] 4 5 [] ok_awake (by simp)
  rw [put45] at h58
  have ha := c28 [97]
  rw [name_a] at ha
  have hA := c28 [65]
  rw [name_A] at hA
  refine CallK.mk' _ _ (h5.free _ ⟨⟨trivial, trivial, trivial, trivial⟩, ⟨trivial, trivial, trivial, trivial, trivial, trivial, trivial⟩, trivial⟩ trivial) ?_
  conv => whnf
  refine CaseB.of_true rfl ?_
  conv => whnf
  refine CallK.mk' _ _ (h6.free _ ⟨⟨trivial, trivial, trivial, trivial⟩, ⟨trivial, trivial, trivial, trivial, trivial, trivial, trivial⟩, trivial⟩ trivial) ?_
  conv => whnf
  refine CaseB.of_true rfl ?_
  conv => whnf
  refine CallK.mk' (.s (.lf (.own 1 0 1 0 2))) _ (h58.made [some ⟨23, [.one (.int .i64 4), .one (.int .i64 5), .one (.str [])]⟩] (cs := [.s (.lf .sl0), vC 4 5 []]) (Hn := [some ⟨5, [.bytes 2 [4, 5]]⟩]) ⟨WV.lf WL.sl0rob', freeF.wv ⟨trivial, trivial, trivial, trivial⟩, trivial⟩ (WV.lf (WL.uown rfl rfl rfl)) ⟨rfl, ⟨.bytes rfl fun _ _ => rfl, trivial⟩, trivial⟩) ?_
  conv => whnf
  refine Or.inr ?_
  conv => whnf
  refine CallK.mk' _ _ ((c57 [4, 5] [4, 5] (by simp [maxLen])).lend (cs := [.s (.lf (.own 1 0 1 0 2)), .s (.lf (.rob true true [4, 5]))]) (fun _ => False) [some ⟨23, [.one (.int .i64 4), .one (.int .i64 5), .one (.str [])]⟩, some ⟨5, [.bytes 2 [4, 5]]⟩] ⟨WV.lf (WL.lent rfl rfl ⟨fun h => h, fun i ob h => by simp at h⟩), WV.lf (WL.rob rfl (by simp) (by simp)), trivial⟩ (plainF.wv trivial)) ?_
  conv => whnf
  refine CaseB.of_true rfl ?_
  conv => whnf
  refine CallK.mk' _ _ (ha.free _ ⟨trivial, trivial⟩ trivial) ?_
  conv => whnf
  refine CaseB.of_true rfl ?_
  conv => whnf
  refine CallK.mk' _ _ (hA.free _ ⟨trivial, trivial⟩ trivial) ?_
  conv => whnf
  exact RetK.empty (WV.lf (WL.btt rfl))

/-- Caveats in a row. -/
structure Row (len : Nat) (f : Nat → Nat → LV) (k n : Nat → Int) (s : Nat → List UInt8) : Prop where
  c0 : ∀ i, i < len → f i 0 = .int .i64 (k i)
  c1 : ∀ i, i < len → f i 1 = .int .i64 (n i)
  c2 : ∀ i, i < len → f i 2 = .str (s i)
  sl : ∀ i, i < len → (s i).length ≤ maxLen
  kr : ∀ i, i < len → -9223372036854775808 ≤ k i ∧ k i ≤ 9223372036854775807
  nr : ∀ i, i < len → -9223372036854775808 ≤ n i ∧ n i ≤ 9223372036854775807

theorem Row.ok {len : Nat} {f : Nat → Nat → LV} {k n : Nat → Int} {s : Nat → List UInt8} (h : Row len f k n s) {H : Hp} : okF H (.s (.lf (.ro false false 3 len f))) := by
  intro i hi j hj
  have : j = 0 ∨ j = 1 ∨ j = 2 := by omega
  rcases this with rfl | rfl | rfl
  · rw [h.c0 i hi]; trivial
  · rw [h.c1 i hi]; trivial
  · rw [h.c2 i hi]; trivial

/-- baileylaw06.few -/
theorem c30 (len : Nat) (hlen : len ≤ maxLen) (f : Nat → Nat → LV) (k n : Nat → Int) (s : Nat → List UInt8) (hr : Row len f k n s) [Decidable (len ≤ 30 ∧ ∀ i, i < len → (s i).length ≤ 200)] :
    SCalls Proofs.Try.prog 30 [.s (.lf (.ro false false 3 len f))] [] (.s (.lf (.bool (decide (len ≤ 30 ∧ ∀ i, i < len → (s i).length ≤ 200))))) [] := by
  have hm : maxLen = 9223372036854775807 := rfl
  refine SCalls.intro tok Proofs.Try.func30 ?_
  conv => whnf
  refine LoopK.mk1 (fun i : Nat => [(5, .s (.lf (.ro false false 3 len f))), (6, vI len), (7, vI i)]) (fun _ => []) (fun i => i ≤ len ∧ i ≤ 30 ∧ ∀ j, j < i → (s j).length ≤ 200) (fun i => len - i) 0 ⟨by omega, by omega, by omega⟩ ?_ ?_
  · exact Weak.of ⟨⟩ (by simp) ⟨okF.wv hr.ok, okF.wv trivial, okF.wv trivial, trivial⟩
  intro i hi
  obtain ⟨hi, hi30, hs⟩ := hi
  conv => whnf
  by_cases hl : i < len
  · refine CaseB.of_true (decide_eq_true (by omega)) ?_
    conv => whnf
    refine And.intro (by omega) ?_
    conv => whnf
    rw [show f (Int.toNat (i : Int)) 0 = _ from hr.c0 i hl]
    conv => whnf
    rw [show f (Int.toNat (i : Int)) 1 = _ from hr.c1 i hl]
    conv => whnf
    rw [show f (Int.toNat (i : Int)) 2 = _ from hr.c2 i hl]
    conv => whnf
    by_cases h30 : 30 ≤ (i : Int)
    · refine CaseB.of_true (decide_eq_true h30) ?_
      conv => whnf
      exact RetK.empty (WV.lf (WL.ff (decide_eq_false fun h => by omega)))
    refine CaseB.of_false (decide_eq_false h30) ?_
    conv => whnf
    by_cases h200 : 200 < ((s i).length : Int)
    · refine CaseB.of_true (decide_eq_true h200) ?_
      conv => whnf
      exact RetK.empty (WV.lf (WL.ff (decide_eq_false fun h => by have := h.2 i hl; omega)))
    refine CaseB.of_false (decide_eq_false h200) ?_
    conv => whnf
    refine ⟨i + 1, ⟨by omega, by omega, fun j hj => ?_⟩, by show len - (i + 1) < len - i; omega, ?_⟩
    · by_cases e : j = i
      · subst e; omega
      · exact hs j (by omega)
    · exact Weak.of HpW.nil (by simp) ⟨okF.wv hr.ok, okF.wv trivial, WV.lf (WL.int (by rw [wrap_i64 (by omega) (by omega)]; omega)), trivial⟩
  · refine CaseB.of_false (decide_eq_false (by omega)) ?_
    conv => whnf
    exact RetK.empty (WV.lf (WL.tt (decide_eq_true ⟨by omega, fun j hj => hs j (by omega)⟩)))

/-- baileylaw06.CaveatChecks -/
theorem c3 (k n : Int) (s x : List UInt8) : SCalls Proofs.Try.prog 3 [vC k n s, .s (.lf (.str x))] [] (.s (.lf .tt)) [] := by
  refine SCalls.intro tok Proofs.Try.func3 ?_
  conv => whnf
  by_cases h1 : 200 < (x.length : Int)
  · refine CaseB.of_true (decide_eq_true h1) ?_
    conv => whnf
    refine CallK.mk' _ _ (c25.free _ trivial trivial) ?_
    conv => whnf
    exact RetK.empty (okF.wv trivial)
  refine CaseB.of_false (decide_eq_false h1) ?_
  conv => whnf
  by_cases h2 : 200 < (s.length : Int)
  · refine CaseB.of_true (decide_eq_true h2) ?_
    conv => whnf
    refine CallK.mk' _ _ (c25.free _ trivial trivial) ?_
    conv => whnf
    exact RetK.empty (okF.wv trivial)
  refine CaseB.of_false (decide_eq_false h2) ?_
  conv => whnf
  refine DrawK.mk1 tok mixed [0, 1, 0, 7, 15, 31, 63, 127, 63, 511, 1023, 2047, 4095, 8191, 16383, 32767] [(0, 1, [0]), (1, 1, [0]), (2, 1, [0]), (3, 1, [0]), (4, 0, []), (5, 0, []), (6, 0, []), (8, 0, []), (7, 1, [0]), (9, 1, [0]), (10, 0, []), (11, 0, []), (12, 0, []), (13, 1, [0]), (14, 0, []), (15, 0, [])] (by kernel_rfl) ?_
  conv => whnf
  refine CallR.mk' _ ((c26 k n s).free _ ⟨⟨trivial, trivial, trivial, trivial⟩, trivial⟩ trivial) ?_
  conv => whnf
  refine CallR.mk' _ ((c27 k n s).free _ ⟨⟨trivial, trivial, trivial, trivial⟩, trivial⟩ trivial) ?_
  conv => whnf
  repeat (first
    | (refine CaseB.of_true (decide_eq_true rfl) ?_; conv => whnf)
    | (refine CaseB.of_true (beq_self_eq_true _) ?_; conv => whnf)
    | (refine CallR.mk' _ ((c28 x).free _ ⟨trivial, trivial⟩ trivial) ?_; conv => whnf)
    | (refine CallR.mk' _ ((c29 x).free _ ⟨trivial, trivial⟩ trivial) ?_; conv => whnf)
    | (refine CallR.mk' _ (c25.free _ trivial trivial) ?_; conv => whnf))
  exact RetK.empty (okF.wv trivial)
end Go.Sym.Md

set_option linter.unusedVariables false
set_option linter.unusedSimpArgs false
namespace Go.Sym.Md
open Go Go.Sym

/-! ### Caveats and deeds, as a law is given them -/
theorem rd_caveat {w : World} {v : Value} {g : Nat → LV} (r : RdL Γ 6 23 g 0) (k : ∀ l, tot l = (tget Γ 23).size → (∀ o, o < tot l → cellD l o = g o) → repF w L0 (.s (.agg l)) v) : ∃ (a n : Int) (s : List UInt8), s.length ≤ maxLen ∧ repF w L0 (vC a n s) v := by
  obtain ⟨⟨a, _, _, e0⟩, ⟨n, _, _, e1⟩, ⟨s, hs, e2⟩, _⟩ := r
  refine ⟨a, n, s, hs, k _ (by kernel_rfl) fun o ho => ?_⟩
  have ho : o < 3 := ho
  have : o = 0 ∨ o = 1 ∨ o = 2 := by omega
  rcases this with rfl | rfl | rfl
  · exact e0.symm
  · exact e1.symm
  · exact e2.symm

theorem rd_deed {w : World} {v : Value} {g : Nat → LV} (r : RdL Γ 6 33 g 0) (k : ∀ l, tot l = (tget Γ 33).size → (∀ o, o < tot l → cellD l o = g o) → repF w L0 (.s (.agg l)) v) : ∃ d : DeedS, repF w L0 (vD d) v := by
  obtain ⟨⟨a, _, _, e0⟩, ⟨t, _, _, e1⟩, ⟨c, _, _, e2⟩, ⟨b, _, _, e3⟩, ⟨sp, _, e4⟩, ⟨sn, _, e5⟩, _⟩ := r
  refine ⟨⟨a, t, c, b, sp, sn⟩, k _ (by kernel_rfl) fun o ho => ?_⟩
  have ho : o < 6 := ho
  have : o = 0 ∨ o = 1 ∨ o = 2 ∨ o = 3 ∨ o = 4 ∨ o = 5 := by omega
  rcases this with rfl | rfl | rfl | rfl | rfl | rfl
  · exact e0.symm
  · exact e1.symm
  · exact e2.symm
  · exact e3.symm
  · exact e4.symm
  · exact e5.symm

theorem rd_row {len : Nat} {f : Nat → Nat → LV} (h : ∀ i, i < len → RdL Γ 5 23 (f i) 0) : ∃ (k n : Nat → Int) (s : Nat → List UInt8), Row len f k n s := by
  have h' : ∀ i, i < len → ∃ x : Int × Int × List UInt8, f i 0 = .int .i64 x.1 ∧ f i 1 = .int .i64 x.2.1 ∧ f i 2 = .str x.2.2 ∧ x.2.2.length ≤ maxLen ∧ (-9223372036854775808 ≤ x.1 ∧ x.1 ≤ 9223372036854775807) ∧ (-9223372036854775808 ≤ x.2.1 ∧ x.2.1 ≤ 9223372036854775807) := by
    intro i hi
    obtain ⟨⟨a, a1, a2, e0⟩, ⟨n, n1, n2, e1⟩, ⟨s, hs, e2⟩, _⟩ := h i hi
    exact ⟨(a, n, s), e0, e1, e2, hs, ⟨a1, a2⟩, ⟨n1, n2⟩⟩
  obtain ⟨x, hx⟩ := choose_rd (p := fun i x => f i 0 = .int .i64 x.1 ∧ f i 1 = .int .i64 x.2.1 ∧ f i 2 = .str x.2.2 ∧ x.2.2.length ≤ maxLen ∧ (-9223372036854775808 ≤ x.1 ∧ x.1 ≤ 9223372036854775807) ∧ (-9223372036854775808 ≤ x.2.1 ∧ x.2.1 ≤ 9223372036854775807)) ((0, 0, []) : Int × Int × List UInt8) h'
  exact ⟨fun i => (x i).1, fun i => (x i).2.1, fun i => (x i).2.2, fun i hi => (hx i hi).1, fun i hi => (hx i hi).2.1, fun i hi => (hx i hi).2.2.1, fun i hi => (hx i hi).2.2.2.1, fun i hi => (hx i hi).2.2.2.2.1, fun i hi => (hx i hi).2.2.2.2.2⟩
end Go.Sym.Md

