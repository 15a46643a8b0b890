/- Contracts of the program's functions, proved by the framework (text MdT), without conditions but those that each theorem states. -/
import Derived.Test.YtlmcdgbjbamdnaaMdS
set_option linter.unusedVariables false
set_option linter.unusedSimpArgs false
set_option maxRecDepth 10000
namespace Go.Sym.Md
open Go Go.Sym Go.Lib

/-- slices.Equal, of bytes. -/
theorem c57 (xs ys : List UInt8) (hx : xs.length ≤ maxLen) : SCalls Proofs.Try.prog 57 [.s (.lf (.rob false false xs)), .s (.lf (.rob false false ys))] [] (.s (.lf (.bool (decide (xs = ys))))) [] := by
  have hm : maxLen = 9223372036854775807 := rfl
  refine SCalls.intro tok Proofs.Try.func57 ?_
  conv => whnf
  by_cases hl : xs.length = ys.length
  · refine CaseB.of_false (by simp [hl]) ?_
    conv => whnf
    refine LoopK.mk1 (fun i : Nat => [(0, .s (.lf (.rob false false xs))), (1, .s (.lf (.rob false false ys))), (12, vI xs.length), (13, vI i)]) (fun i => []) (fun i => i ≤ xs.length ∧ xs.take i = ys.take i) (fun i => xs.length - i) 0 ⟨by omega, rfl⟩ ?_ ?_
    · exact Weak.of ⟨⟩ (by simp) ⟨okF.wv trivial, okF.wv trivial, okF.wv trivial, okF.wv trivial, trivial⟩
    intro i hi
    obtain ⟨hi, ht⟩ := hi
    conv => whnf
    by_cases hi' : i < xs.length
    · refine CaseB.of_true (decide_eq_true (by omega)) ?_
      conv => whnf
      refine DrawK.mk1 tok mixed [0, 0, 3, 7, 0, 0, 48, 112, 255] [(0, 0, []), (1, 0, []), (4, 0, []), (5, 0, []), (2, 1, [0]), (3, 1, [0]), (6, 1, [0]), (7, 1, [0]), (8, 0, [])] (by kernel_rfl) ?_
      conv => whnf
      refine ⟨by omega, ?_⟩
      conv => whnf
      refine ⟨by omega, ?_⟩
      conv => whnf
      have hx0 : xs[i]? = some (xs.getD i 0) := by rw [List.getD_eq_getElem?_getD, List.getElem?_eq_getElem hi']; rfl
      have hy0 : ys[i]? = some (ys.getD i 0) := by rw [List.getD_eq_getElem?_getD, List.getElem?_eq_getElem (by omega)]; rfl
      by_cases he : xs.getD i 0 = ys.getD i 0
      · refine CaseB.of_false (by simp only [Int.toNat_natCast, he]; simp) ?_
        conv => whnf
        refine ⟨i + 1, ⟨by omega, ?_⟩, by omega, Weak.of ⟨⟩ (by simp) ⟨okF.wv trivial, okF.wv trivial, okF.wv trivial, WV.lf (WL.int (by rw [wrap_i64 (by omega) (by omega)]; omega)), trivial⟩⟩
        rw [List.take_add_one, List.take_add_one, ht, hx0, hy0, he]
      · refine CaseB.of_true ?_ ?_
        · simp only [Int.toNat_natCast]
          refine decide_eq_true fun e => ?_
          exact he (UInt8.toNat_inj.1 (by omega))
        conv => whnf
        refine RetK.empty (WV.lf (WL.ff (decide_eq_false fun e => he (by rw [e]))))
    · refine CaseB.of_false (decide_eq_false (by omega)) ?_
      conv => whnf
      refine RetK.empty (WV.lf (WL.tt (decide_eq_true ?_)))
      rw [List.take_of_length_le (by omega), List.take_of_length_le (by omega)] at ht
      exact ht
  · refine CaseB.of_true (by simp; omega) ?_
    conv => whnf
    exact RetK.empty (WV.lf (WL.ff (decide_eq_false fun e => hl (by rw [e]))))


def dT (t : Int) : DeedS := ⟨0, t, 0, 0, [], []⟩
theorem ok_awake : okC 4 5 [] = true := by kernel_rfl
theorem holds5 : holdsF 4 5 [] (dT 5) = true := by kernel_rfl
theorem holds6 : holdsF 4 5 [] (dT 6) = false := by kernel_rfl
theorem put45 : putF [] 4 5 [] = [4, 5] := by kernel_rfl
theorem name_a : nameF [97] = true := by kernel_rfl
theorem name_A : nameF [65] = false := by kernel_rfl

attribute [local irreducible] okC holdsF putF nameF

/-- baileylaw06.awake -/
theorem c25 : SCalls Proofs.Try.prog 25 [] [] (.s (.lf .tt)) [] := by
  refine SCalls.intro tok Proofs.Try.func25 ?_
  conv => whnf
  have h5 := c35 4 5 [] (dT 5)
  rw [holds5] at h5
  have h6 := c35 4 5 [] (dT 6)
  rw [holds6] at h6
  have h58 := c58 [] 4 5 [] ok_awake (by simp)
  rw [put45] at h58
  have ha := c28 [97]
  rw [name_a] at ha
  have hA := c28 [65]
  rw [name_A] at hA
  refine CallK.mk' _ _ (h5.free _ ⟨⟨trivial, trivial, trivial, trivial⟩, ⟨trivial, trivial, trivial, trivial, trivial, trivial, trivial⟩, trivial⟩ trivial) ?_
  conv => whnf
  refine CaseB.of_true rfl ?_
  conv => whnf
  refine CallK.mk' _ _ (h6.free _ ⟨⟨trivial, trivial, trivial, trivial⟩, ⟨trivial, trivial, trivial, trivial, trivial, trivial, trivial⟩, trivial⟩ trivial) ?_
  conv => whnf
  refine CaseB.of_true rfl ?_
  conv => whnf
  refine CallK.mk' (.s (.lf (.own 1 0 1 0 2))) _ (h58.made [some ⟨23, [.one (.int .i64 4), .one (.int .i64 5), .one (.str [])]⟩] (cs := [.s (.lf .sl0), vC 4 5 []]) (Hn := [some ⟨5, [.bytes 2 [4, 5]]⟩]) ⟨WV.lf WL.sl0rob', freeF.wv ⟨trivial, trivial, trivial, trivial⟩, trivial⟩ (WV.lf (WL.uown rfl rfl rfl)) ⟨rfl, ⟨.bytes rfl fun _ _ => rfl, trivial⟩, trivial⟩) ?_
  conv => whnf
  refine Or.inr ?_
  conv => whnf
  refine CallK.mk' _ _ ((c57 [4, 5] [4, 5] (by simp [maxLen])).lend (cs := [.s (.lf (.own 1 0 1 0 2)), .s (.lf (.rob true true [4, 5]))]) (fun _ => False) [some ⟨23, [.one (.int .i64 4), .one (.int .i64 5), .one (.str [])]⟩, some ⟨5, [.bytes 2 [4, 5]]⟩] ⟨WV.lf (WL.lent rfl rfl ⟨fun h => h, fun i ob h => by simp at h⟩), WV.lf (WL.rob rfl (by simp) (by simp)), trivial⟩ (plainF.wv trivial)) ?_
  conv => whnf
  refine CaseB.of_true rfl ?_
  conv => whnf
  refine CallK.mk' _ _ (ha.free _ ⟨trivial, trivial⟩ trivial) ?_
  conv => whnf
  refine CaseB.of_true rfl ?_
  conv => whnf
  refine CallK.mk' _ _ (hA.free _ ⟨trivial, trivial⟩ trivial) ?_
  conv => whnf
  exact RetK.empty (WV.lf (WL.btt rfl))

/-- Caveats in a row. -/
structure Row (len : Nat) (f : Nat → Nat → LV) (k n : Nat → Int) (s : Nat → List UInt8) : Prop where
  c0 : ∀ i, i < len → f i 0 = .int .i64 (k i)
  c1 : ∀ i, i < len → f i 1 = .int .i64 (n i)
  c2 : ∀ i, i < len → f i 2 = .str (s i)
  sl : ∀ i, i < len → (s i).length ≤ maxLen
  kr : ∀ i, i < len → -9223372036854775808 ≤ k i ∧ k i ≤ 9223372036854775807
  nr : ∀ i, i < len → -9223372036854775808 ≤ n i ∧ n i ≤ 9223372036854775807

theorem Row.ok {len : Nat} {f : Nat → Nat → LV} {k n : Nat → Int} {s : Nat → List UInt8} (h : Row len f k n s) {H : Hp} : okF H (.s (.lf (.ro false false 3 len f))) := by
  intro i hi j hj
  have : j = 0 ∨ j = 1 ∨ j = 2 := by omega
  rcases this with rfl | rfl | rfl
  · rw [h.c0 i hi]; trivial
  · rw [h.c1 i hi]; trivial
  · rw [h.c2 i hi]; trivial

/-- baileylaw06.few -/
theorem c30 (len : Nat) (hlen : len ≤ maxLen) (f : Nat → Nat → LV) (k n : Nat → Int) (s : Nat → List UInt8) (hr : Row len f k n s) [Decidable (len ≤ 30 ∧ ∀ i, i < len → (s i).length ≤ 200)] :
    SCalls Proofs.Try.prog 30 [.s (.lf (.ro false false 3 len f))] [] (.s (.lf (.bool (decide (len ≤ 30 ∧ ∀ i, i < len → (s i).length ≤ 200))))) [] := by
  have hm : maxLen = 9223372036854775807 := rfl
  refine SCalls.intro tok Proofs.Try.func30 ?_
  conv => whnf
  refine LoopK.mk1 (fun i : Nat => [(5, .s (.lf (.ro false false 3 len f))), (6, vI len), (7, vI i)]) (fun _ => []) (fun i => i ≤ len ∧ i ≤ 30 ∧ ∀ j, j < i → (s j).length ≤ 200) (fun i => len - i) 0 ⟨by omega, by omega, by omega⟩ ?_ ?_
  · exact Weak.of ⟨⟩ (by simp) ⟨okF.wv hr.ok, okF.wv trivial, okF.wv trivial, trivial⟩
  intro i hi
  obtain ⟨hi, hi30, hs⟩ := hi
  conv => whnf
  by_cases hl : i < len
  · refine CaseB.of_true (decide_eq_true (by omega)) ?_
    conv => whnf
    refine And.intro (by omega) ?_
    conv => whnf
    rw [show f (Int.toNat (i : Int)) 0 = _ from hr.c0 i hl]
    conv => whnf
    rw [show f (Int.toNat (i : Int)) 1 = _ from hr.c1 i hl]
    conv => whnf
    rw [show f (Int.toNat (i : Int)) 2 = _ from hr.c2 i hl]
    conv => whnf
    by_cases h30 : 30 ≤ (i : Int)
    · refine CaseB.of_true (decide_eq_true h30) ?_
      conv => whnf
      exact RetK.empty (WV.lf (WL.ff (decide_eq_false fun h => by omega)))
    refine CaseB.of_false (decide_eq_false h30) ?_
    conv => whnf
    by_cases h200 : 200 < ((s i).length : Int)
    · refine CaseB.of_true (decide_eq_true h200) ?_
      conv => whnf
      exact RetK.empty (WV.lf (WL.ff (decide_eq_false fun h => by have := h.2 i hl; omega)))
    refine CaseB.of_false (decide_eq_false h200) ?_
    conv => whnf
    refine ⟨i + 1, ⟨by omega, by omega, fun j hj => ?_⟩, by show len - (i + 1) < len - i; omega, ?_⟩
    · by_cases e : j = i
      · subst e; omega
      · exact hs j (by omega)
    · exact Weak.of HpW.nil (by simp) ⟨okF.wv hr.ok, okF.wv trivial, WV.lf (WL.int (by rw [wrap_i64 (by omega) (by omega)]; omega)), trivial⟩
  · refine CaseB.of_false (decide_eq_false (by omega)) ?_
    conv => whnf
    exact RetK.empty (WV.lf (WL.tt (decide_eq_true ⟨by omega, fun j hj => hs j (by omega)⟩)))

/-- baileylaw06.CaveatChecks -/
theorem c3 (k n : Int) (s x : List UInt8) : SCalls Proofs.Try.prog 3 [vC k n s, .s (.lf (.str x))] [] (.s (.lf .tt)) [] := by
  refine SCalls.intro tok Proofs.Try.func3 ?_
  conv => whnf
  by_cases h1 : 200 < (x.length : Int)
  · refine CaseB.of_true (decide_eq_true h1) ?_
    conv => whnf
    refine CallK.mk' _ _ (c25.free _ trivial trivial) ?_
    conv => whnf
    exact RetK.empty (okF.wv trivial)
  refine CaseB.of_false (decide_eq_false h1) ?_
  conv => whnf
  by_cases h2 : 200 < (s.length : Int)
  · refine CaseB.of_true (decide_eq_true h2) ?_
    conv => whnf
    refine CallK.mk' _ _ (c25.free _ trivial trivial) ?_
    conv => whnf
    exact RetK.empty (okF.wv trivial)
  refine CaseB.of_false (decide_eq_false h2) ?_
  conv => whnf
  refine DrawK.mk1 tok mixed [0, 1, 0, 7, 15, 31, 63, 127, 63, 511, 1023, 2047, 4095, 8191, 16383, 32767] [(0, 1, [0]), (1, 1, [0]), (2, 1, [0]), (3, 1, [0]), (4, 0, []), (5, 0, []), (6, 0, []), (8, 0, []), (7, 1, [0]), (9, 1, [0]), (10, 0, []), (11, 0, []), (12, 0, []), (13, 1, [0]), (14, 0, []), (15, 0, [])] (by kernel_rfl) ?_
  conv => whnf
  refine CallR.mk' _ ((c26 k n s).free _ ⟨⟨trivial, trivial, trivial, trivial⟩, trivial⟩ trivial) ?_
  conv => whnf
  refine CallR.mk' _ ((c27 k n s).free _ ⟨⟨trivial, trivial, trivial, trivial⟩, trivial⟩ trivial) ?_
  conv => whnf
  repeat (first
    | (refine CaseB.of_true (decide_eq_true rfl) ?_; conv => whnf)
    | (refine CaseB.of_true (beq_self_eq_true _) ?_; conv => whnf)
    | (refine CallR.mk' _ ((c28 x).free _ ⟨trivial, trivial⟩ trivial) ?_; conv => whnf)
    | (refine CallR.mk' _ ((c29 x).free _ ⟨trivial, trivial⟩ trivial) ?_; conv => whnf)
    | (refine CallR.mk' _ (c25.free _ trivial trivial) ?_; conv => whnf))
  exact RetK.empty (okF.wv trivial)
end Go.Sym.Md
