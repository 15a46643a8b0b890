/- Contracts of the program's functions, proved by the framework (text ShO), without conditions but those that each theorem states. -/
import Derived.Test.YtbmbklbijnpdfaaShN
import Derived.Test.YtbmbklbijnpdfaaFw7
set_option linter.unusedVariables false
set_option linter.unusedSimpArgs false
set_option maxRecDepth 10000
namespace Go.Sym.Sh
open Go Go.Sym

/-- slices.Equal, of bytes. -/
theorem c26 (xs ys : List UInt8) (hx : xs.length ≤ maxLen) : SCalls Proofs.Try.prog 26 [.s (.lf (.rob false false xs)), .s (.lf (.rob false false ys))] [] (.s (.lf (.bool (decide (xs = ys))))) [] := by
  have hm : maxLen = 9223372036854775807 := rfl
  refine SCalls.intro tok Proofs.Try.func26 ?_
  conv => whnf
  by_cases hl : xs.length = ys.length
  · refine CaseB.of_false (by simp [hl]) ?_
    conv => whnf
    refine LoopK.mk1 (fun i : Nat => [(0, .s (.lf (.rob false false xs))), (1, .s (.lf (.rob false false ys))), (12, vI xs.length), (13, vI i)]) (fun i => []) (fun i => i ≤ xs.length ∧ xs.take i = ys.take i) (fun i => xs.length - i) 0 ⟨by omega, rfl⟩ ?_ ?_
    · exact Weak.of ⟨⟩ (by simp) ⟨okF.wv trivial, okF.wv trivial, okF.wv trivial, okF.wv trivial, trivial⟩
    intro i hi
    obtain ⟨hi, ht⟩ := hi
    conv => whnf
    by_cases hi' : i < xs.length
    · refine CaseB.of_true (decide_eq_true (by omega)) ?_
      conv => whnf
      refine DrawK.mk1 tok mixed [0, 0, 3, 7, 0, 0, 48, 112, 255] [(0, 0, []), (1, 0, []), (4, 0, []), (5, 0, []), (2, 1, [0]), (3, 1, [0]), (6, 1, [0]), (7, 1, [0]), (8, 0, [])] (by kernel_rfl) ?_
      conv => whnf
      refine ⟨by omega, ?_⟩
      conv => whnf
      refine ⟨by omega, ?_⟩
      conv => whnf
      have hx0 : xs[i]? = some (xs.getD i 0) := by rw [List.getD_eq_getElem?_getD, List.getElem?_eq_getElem hi']; rfl
      have hy0 : ys[i]? = some (ys.getD i 0) := by rw [List.getD_eq_getElem?_getD, List.getElem?_eq_getElem (by omega)]; rfl
      by_cases he : xs.getD i 0 = ys.getD i 0
      · refine CaseB.of_false (by simp only [Int.toNat_natCast, he]; simp) ?_
        conv => whnf
        refine ⟨i + 1, ⟨by omega, ?_⟩, by omega, Weak.of ⟨⟩ (by simp) ⟨okF.wv trivial, okF.wv trivial, okF.wv trivial, WV.lf (WL.int (by rw [wrap_i64 (by omega) (by omega)]; omega)), trivial⟩⟩
        rw [List.take_add_one, List.take_add_one, ht, hx0, hy0, he]
      · refine CaseB.of_true ?_ ?_
        · simp only [Int.toNat_natCast]
          refine decide_eq_true fun e => ?_
          exact he (UInt8.toNat_inj.1 (by omega))
        conv => whnf
        refine RetK.empty (WV.lf (WL.ff (decide_eq_false fun e => he (by rw [e]))))
    · refine CaseB.of_false (decide_eq_false (by omega)) ?_
      conv => whnf
      refine RetK.empty (WV.lf (WL.tt (decide_eq_true ?_)))
      rw [List.take_of_length_le (by omega), List.take_of_length_le (by omega)] at ht
      exact ht
  · refine CaseB.of_true (by simp; omega) ?_
    conv => whnf
    exact RetK.empty (WV.lf (WL.ff (decide_eq_false fun e => hl (by rw [e]))))

/-- slices.Clone, of nil. -/
theorem c23n : SCalls Proofs.Try.prog 23 [.s (.lf .sl0)] [] (.s (.lf .sl0)) [] := by
  refine SCalls.intro tok Proofs.Try.func23 ?_
  conv => whnf
  exact RetK.empty (okF.wv trivial)

/-- slices.Clone, of bytes. -/
theorem c23 (xs : List UInt8) (hx : xs.length ≤ 140737488355328) : SCalls Proofs.Try.prog 23 [.s (.lf (.rob true false xs))] [] (.s (.lf (.own 0 0 1 0 xs.length))) [some ⟨5, [.bytes xs.length xs]⟩] := by
  refine SCalls.intro tok Proofs.Try.func23 ?_
  conv => whnf
  refine Or.inl ?_
  conv => whnf
  refine ⟨⟨rfl, rfl, hx⟩, ?_⟩
  conv => whnf
  exact RetK.perm [1] ⟨⟨rfl, .bytes rfl fun _ _ => rfl, trivial⟩, trivial⟩ (WV.lf (WL.own rfl rfl rfl rfl)) rfl (by simp) rfl (by simp)
end Go.Sym.Sh
