/- Contracts of the program's functions, proved by the framework (text HmB), without conditions but those that each theorem states. -/
import Derived.Test.YtbmbklbijnpdfaaHmA
import Derived.KernelRfl
set_option linter.unusedVariables false
set_option linter.unusedSimpArgs false
set_option maxRecDepth 10000
namespace Go.Sym.Sh
open Go Go.Sym

theorem tag_known : tagF [107, 101, 121] [84, 104, 101, 32, 113, 117, 105, 99, 107, 32, 98, 114, 111, 119, 110, 32, 102, 111, 120, 32, 106, 117, 109, 112, 115, 32, 111, 118, 101, 114, 32, 116, 104, 101, 32, 108, 97, 122, 121, 32, 100, 111, 103] = [247, 188, 131, 244, 48, 83, 132, 36, 177, 50, 152, 230, 170, 111, 177, 67, 239, 77, 89, 161, 73, 70, 23, 89, 151, 71, 157, 188, 45, 26, 60, 216] := eqB_sound (by kernel_rfl)

attribute [local irreducible] tagF

abbrev foxL : List UInt8 := [84, 104, 101, 32, 113, 117, 105, 99, 107, 32, 98, 114, 111, 119, 110, 32, 102, 111, 120, 32, 106, 117, 109, 112, 115, 32, 111, 118, 101, 114, 32, 116, 104, 101, 32, 108, 97, 122, 121, 32, 100, 111, 103]

/-- baileylaw04.awake -/
theorem c28 : SCalls Proofs.Try.prog 28 [] [] (.s (.lf .tt)) [] := by
  refine SCalls.intro tok Proofs.Try.func28 ?_
  conv => whnf
  refine Or.inl ?_
  conv => whnf
  refine CallK.mk' _ _ ((c29 [107, 101, 121] foxL (by simp) (by simp)).lend (cs := [.s (.lf (.str [107, 101, 121])), .s (.lf (.own 0 0 1 0 43))]) (fun _ => False) [some ⟨5, [.bytes 43 foxL]⟩] ⟨freeF.wv trivial, WV.lf (fun w L L' x h hx => rep_rob_weak (WL.freezeB (ob := ⟨5, [.bytes 43 foxL]⟩) (p := []) (q := []) rfl rfl rfl (by omega) (by simp) rfl ⟨fun h => h, fun i ob h => by simp at h⟩ w L L' x h hx)), trivial⟩ (plainF.wv trivial)) ?_
  conv => whnf
  exact RetK.empty (WV.lf (WL.btt (decide_eq_true tag_known)))
end Go.Sym.Sh
