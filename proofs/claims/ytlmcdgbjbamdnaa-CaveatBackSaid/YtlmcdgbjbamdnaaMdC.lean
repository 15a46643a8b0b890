/- Contracts of the program's functions, proved by the framework (text MdC), without conditions but those that each theorem states. -/
import Derived.Test.YtlmcdgbjbamdnaaMdB
set_option linter.unusedVariables false
set_option linter.unusedSimpArgs false
set_option maxRecDepth 10000
namespace Go.Sym.Md
open Go Go.Sym

theorem take_all {p : UInt8 → Bool} {s : List UInt8} {i : Nat} (hi : i < s.length) : (s.take (i + 1)).all p = ((s.take i).all p && p (s.getD i 0)) := by
  rw [List.take_add_one, List.all_append, List.getElem?_eq_getElem hi, List.getD_eq_getElem?_getD, List.getElem?_eq_getElem hi]
  simp

theorem all_take_false {p : UInt8 → Bool} {s : List UInt8} {i : Nat} (hi : i < s.length) (h : p (s.getD i 0) = false) : s.all p = false := by
  rw [List.all_eq_false]
  refine ⟨s.getD i 0, ?_, by rw [h]; simp⟩
  rw [List.getD_eq_getElem?_getD, List.getElem?_eq_getElem hi]
  exact List.getElem_mem hi

/-- caveat.Name -/
theorem c28 (s : List UInt8) : SCalls Proofs.Try.prog 28 [.s (.lf (.str s))] [] (.s (.lf (.bool (nameF s)))) [] := by
  refine SCalls.intro tok Proofs.Try.func28 ?_
  conv => whnf
  refine CallK.mk' _ _ (c122 s.length 1 16) ?_
  conv => whnf
  by_cases hl : 1 ≤ s.length ∧ s.length ≤ 16
  · refine CaseB.of_false (by simp; omega) ?_
    conv => whnf
    refine LoopK.mk1 (fun i : Nat => [(0, .s (.lf (.str s))), (9, vI s.length), (10, vI i)]) (fun _ => []) (fun i => i ≤ s.length ∧ (s.take i).all letterF = true) (fun i => s.length - i) 0 ⟨by omega, by simp⟩ ?_ ?_
    · exact Weak.of ⟨⟩ (by simp) ⟨okF.wv trivial, okF.wv trivial, okF.wv trivial, trivial⟩
    intro i hi
    obtain ⟨hi, ha⟩ := hi
    conv => whnf
    by_cases hi' : i < s.length
    · refine CaseB.of_true (decide_eq_true (by omega)) ?_
      conv => whnf
      refine And.intro (by omega) ?_
      conv => whnf
      refine CallK.mk' _ _ (c126 (s.getD (Int.toNat (i : Int)) 0)) ?_
      conv => whnf
      by_cases hx : letterF (s.getD i 0) = true
      · refine CaseB.of_false (by rw [Int.toNat_natCast, hx]; rfl) ?_
        conv => whnf
        refine ⟨i + 1, ⟨by omega, by rw [take_all hi', ha, hx]; rfl⟩, by show s.length - (i + 1) < s.length - i; omega, ?_⟩
        exact Weak.of ⟨⟩ (by simp) ⟨okF.wv trivial, okF.wv trivial, WV.lf (WL.int (by rw [wrap_i64 (by omega) (by omega)]; omega)), trivial⟩
      · refine CaseB.of_true (by rw [Int.toNat_natCast]; simpa using hx) ?_
        conv => whnf
        exact RetK.empty (WV.lf (WL.ff (by unfold nameF; rw [all_take_false hi' (by simpa using hx), Bool.and_false])))
    · refine CaseB.of_false (decide_eq_false (by omega)) ?_
      conv => whnf
      rw [List.take_of_length_le (by omega)] at ha
      exact RetK.empty (WV.lf (WL.tt (by unfold nameF; rw [ha, decide_eq_true hl]; rfl)))
  · refine CaseB.of_true (by simp; omega) ?_
    conv => whnf
    exact RetK.empty (WV.lf (WL.ff (by unfold nameF; rw [decide_eq_false hl]; rfl)))

/-- baileyref06.Name -/
theorem c29 (s : List UInt8) : SCalls Proofs.Try.prog 29 [.s (.lf (.str s))] [] (.s (.lf (.bool (nameF s)))) [] := by
  refine SCalls.intro tok Proofs.Try.func29 ?_
  conv => whnf
  by_cases hl1 : (s.length : Int) < 1
  · refine CaseB.of_true (decide_eq_true hl1) ?_
    conv => whnf
    exact RetK.empty (WV.lf (WL.ff (by unfold nameF; rw [decide_eq_false (by omega)]; rfl)))
  refine CaseB.of_false (decide_eq_false hl1) ?_
  conv => whnf
  by_cases hl2 : 16 < (s.length : Int)
  · refine CaseB.of_true (decide_eq_true hl2) ?_
    conv => whnf
    exact RetK.empty (WV.lf (WL.ff (by unfold nameF; rw [decide_eq_false (by omega)]; rfl)))
  refine CaseB.of_false (decide_eq_false hl2) ?_
  conv => whnf
  refine LoopK.mk1 (fun i : Nat => [(0, .s (.lf (.str s))), (3, vI i)]) (fun _ => []) (fun i => i ≤ s.length ∧ (s.take i).all letterF = true) (fun i => s.length - i) 0 ⟨by omega, by simp⟩ ?_ ?_
  · exact Weak.of ⟨⟩ (by simp) ⟨okF.wv trivial, okF.wv trivial, trivial⟩
  intro i hi
  obtain ⟨hi, ha⟩ := hi
  conv => whnf
  by_cases hi' : i < s.length
  · refine CaseB.of_true (decide_eq_true (by omega)) ?_
    conv => whnf
    refine And.intro (by omega) ?_
    conv => whnf
    have key : ∀ x : UInt8, x = s.getD (Int.toNat (i : Int)) 0 → (letterF x = true ∨ letterF x = false) := fun x _ => by cases letterF x <;> simp
    obtain ⟨x, hx⟩ : ∃ x, x = s.getD (Int.toNat (i : Int)) 0 := ⟨_, rfl⟩
    rw [← hx]
    have hx' : x = s.getD i 0 := by rw [hx, Int.toNat_natCast]
    have yes : letterF x = true → ∃ y, (fun i => i ≤ s.length ∧ (s.take i).all letterF = true) y ∧ s.length - y < s.length - i ∧ y = i + 1 := fun h => ⟨i + 1, ⟨by omega, by rw [take_all hi', ha, ← hx', h]; rfl⟩, by omega, rfl⟩
    have no : letterF x = false → nameF s = false := fun h => by unfold nameF; rw [all_take_false hi' (by rw [← hx']; exact h), Bool.and_false]
    by_cases h1 : 97 ≤ x.toNat <;> by_cases h2 : x.toNat ≤ 122 <;> by_cases h3 : 48 ≤ x.toNat <;> by_cases h4 : x.toNat ≤ 57 <;> by_cases h5 : x.toNat = 45 <;> by_cases h6 : x.toNat = 95 <;> try omega
    all_goals
      repeat (first
        | (refine CaseB.of_true (decide_eq_true (by omega)) ?_; conv => whnf)
        | (refine CaseB.of_false (decide_eq_false (by omega)) ?_; conv => whnf)
        | (refine CaseB.of_true (by simp; omega) ?_; conv => whnf)
        | (refine CaseB.of_false (by simp; omega) ?_; conv => whnf))
      first
        | exact RetK.empty (WV.lf (WL.ff (no (decide_eq_false (by omega)))))
        | (obtain ⟨y, hy1, hy2, rfl⟩ := yes (decide_eq_true (by omega))
           exact ⟨i + 1, hy1, hy2, Weak.of ⟨⟩ (by simp) ⟨okF.wv trivial, WV.lf (WL.int (by rw [wrap_i64 (by omega) (by omega)]; omega)), trivial⟩⟩)
  · refine CaseB.of_false (decide_eq_false (by omega)) ?_
    conv => whnf
    rw [List.take_of_length_le (by omega)] at ha
    exact RetK.empty (WV.lf (WL.tt (by unfold nameF; rw [ha, decide_eq_true (by omega)]; rfl)))
end Go.Sym.Md
