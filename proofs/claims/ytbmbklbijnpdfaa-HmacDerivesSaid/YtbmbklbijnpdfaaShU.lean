/- Contracts of the program's functions, proved by the framework (text ShU), without conditions but those that each theorem states. -/
import Derived.Test.YtbmbklbijnpdfaaShR
set_option linter.unusedVariables false
set_option linter.unusedSimpArgs false
set_option maxRecDepth 10000
namespace Go.Sym.Sh
open Go Go.Sym
attribute [local irreducible] padF shaF

/-- baileylaw03.ShaSums, of nil -/
theorem c7n (z : Int) : SCalls Proofs.Try.prog 7 [.s (.lf .sl0), vI z] [] (.s (.lf .tt)) [] := by
  obtain ⟨n, en, hn⟩ : ∃ n : Nat, min (max z 0) 576460752303423488 = (n : Int) ∧ n ≤ 576460752303423488 := ⟨(min (max z 0) 576460752303423488).toNat, by omega, by omega⟩
  have h24 : SCalls Proofs.Try.prog 24 [.s (.lf .sl0)] [] (.s (.lf (.str (shaF [])))) [] := (c24 [] (by simp)).lend (fun _ => True) [] ⟨WV.lf WL.sl0rob', trivial⟩ (plainF.wv trivial)
  have h25 : SCalls Proofs.Try.prog 25 [.s (.lf .sl0)] [] (.s (.lf (.str (shaF [])))) [] := (c25 [] (by simp)).lend (fun _ => True) [] ⟨WV.lf WL.sl0rob', trivial⟩ (plainF.wv trivial)
  have h26 : SCalls Proofs.Try.prog 26 [.s (.lf .sl0), .s (.lf .sl0)] [] (.s (.lf (.bool (decide (([] : List UInt8) = []))))) [] := (c26 [] [] (by simp)).lend (fun _ => True) [] ⟨WV.lf WL.sl0rob', WV.lf WL.sl0rob', trivial⟩ (plainF.wv trivial)
  have hp := padF_length n
  have hz := zeros_lt n
  have h26p := (c26 (padF n) (padF n) (by rw [hp]; show _ ≤ 9223372036854775807; omega)).lend (cs := [.s (.lf (.rob true false (padF n))), .s (.lf (.rob true false (padF n)))]) (fun _ => True) [] ⟨WV.lf (WL.rob rfl (by simp) (by simp)), WV.lf (WL.rob rfl (by simp) (by simp)), trivial⟩ (plainF.wv trivial)
  refine SCalls.intro tok Proofs.Try.func7 ?_
  conv => whnf
  refine CaseB.of_false (by decide) ?_
  conv => whnf
  refine CallK.mk' _ _ c23n ?_
  conv => whnf
  refine CallK.mk' _ _ h24 ?_
  conv => whnf
  refine CallK.mk' _ _ h25 ?_
  conv => whnf
  refine CaseB.of_true (decide_eq_true rfl) ?_
  conv => whnf
  refine CallK.mk' _ _ h26 ?_
  conv => whnf
  refine CaseB.of_true (decide_eq_true rfl) ?_
  conv => whnf
  refine CallK.mk' _ _ (c18i z n en hn) ?_
  conv => whnf
  refine CallK.mk' _ _ (c27 z n en hn) ?_
  conv => whnf
  refine CallK.mk' _ _ h26p ?_
  conv => whnf
  refine CaseB.of_true (decide_eq_true rfl) ?_
  conv => whnf
  refine CallK.mk' _ _ c17 ?_
  conv => whnf
  exact RetK.empty (okF.wv trivial)

/-- baileylaw03.ShaSums -/
theorem c7 (b : List UInt8) (z : Int) : SCalls Proofs.Try.prog 7 [.s (.lf (.rob true false b)), vI z] [] (.s (.lf .tt)) [] := by
  obtain ⟨n, en, hn⟩ : ∃ n : Nat, min (max z 0) 576460752303423488 = (n : Int) ∧ n ≤ 576460752303423488 := ⟨(min (max z 0) 576460752303423488).toNat, by omega, by omega⟩
  have hp := padF_length n
  have hz := zeros_lt n
  refine SCalls.intro tok Proofs.Try.func7 ?_
  conv => whnf
  by_cases hl : 3000 < (b.length : Int)
  · refine CaseB.of_true (decide_eq_true hl) ?_
    conv => whnf
    refine CallK.mk' _ _ c17 ?_
    conv => whnf
    exact RetK.empty (okF.wv trivial)
  refine CaseB.of_false (decide_eq_false hl) ?_
  conv => whnf
  have h24 : SCalls Proofs.Try.prog 24 [.s (.lf (.rob true false b))] [] (.s (.lf (.str (shaF b)))) [] := (c24 b (by omega)).lend (fun _ => True) [] ⟨WV.lf (WL.rob rfl (by simp) (by simp)), trivial⟩ (plainF.wv trivial)
  have h25 : SCalls Proofs.Try.prog 25 [.s (.lf (.rob true false b))] [] (.s (.lf (.str (shaF b)))) [] := (c25 b (by omega)).lend (fun _ => True) [] ⟨WV.lf (WL.rob rfl (by simp) (by simp)), trivial⟩ (plainF.wv trivial)
  have h26 : SCalls Proofs.Try.prog 26 [.s (.lf (.rob true false b)), .s (.lf (.own 0 0 1 0 b.length))] [some ⟨5, [.bytes b.length b]⟩] (.s (.lf (.bool (decide (b = b))))) [some ⟨5, [.bytes b.length b]⟩] :=
    (c26 b b (by show _ ≤ 9223372036854775807; omega)).lend (fun _ => False) _ ⟨WV.lf (WL.rob rfl (by simp) (by simp)), WV.lf (fun w L L' x h hx => rep_rob_weak (WL.freezeB (ob := ⟨5, [.bytes b.length b]⟩) (p := []) (q := []) rfl rfl rfl (by omega) (by omega) (by rw [List.drop_zero, List.take_length]) ⟨fun h => h, fun i ob h => by simp at h⟩ w L L' x h hx)), trivial⟩ (plainF.wv trivial)
  have h26p := (c26 (padF n) (padF n) (by rw [hp]; show _ ≤ 9223372036854775807; omega)).lend (cs := [.s (.lf (.rob true false (padF n))), .s (.lf (.rob true false (padF n)))]) (fun _ => True) [] ⟨WV.lf (WL.rob rfl (by simp) (by simp)), WV.lf (WL.rob rfl (by simp) (by simp)), trivial⟩ (plainF.wv trivial)
  refine CallK.mk' _ _ (c23 b (by omega)) ?_
  conv => whnf
  refine CallK.mk' _ _ (h24.free _ ⟨trivial, trivial⟩ trivial) ?_
  conv => whnf
  refine CallK.mk' _ _ (h25.free _ ⟨trivial, trivial⟩ trivial) ?_
  conv => whnf
  refine CaseB.of_true (decide_eq_true rfl) ?_
  conv => whnf
  refine CallK.mk' _ _ h26 ?_
  conv => whnf
  refine CaseB.of_true (decide_eq_true rfl) ?_
  conv => whnf
  refine CallK.mk' _ _ ((c18i z n en hn).free _ ⟨trivial, trivial⟩ trivial) ?_
  conv => whnf
  refine CallK.mk' _ _ ((c27 z n en hn).free _ ⟨trivial, trivial⟩ trivial) ?_
  conv => whnf
  refine CallK.mk' _ _ (h26p.free _ ⟨trivial, trivial, trivial⟩ trivial) ?_
  conv => whnf
  refine CaseB.of_true (decide_eq_true rfl) ?_
  conv => whnf
  refine CallK.mk' _ _ (c17.free _ trivial trivial) ?_
  conv => whnf
  exact RetK.empty (okF.wv trivial)
end Go.Sym.Sh
