/- Contracts of the program's functions, proved by the framework (text ShK), without conditions but those that each theorem states. -/
import Derived.Test.YtbmbklbijnpdfaaShJ
set_option linter.unusedVariables false
set_option linter.unusedSimpArgs false
namespace Go.Sym.Sh
open Go Go.Sym
attribute [local irreducible] blockF

/-- baileylaw03.ShaBlocks -/
theorem c3 (h : List UInt32) (hh : h.length = 8) (b : List UInt8) (hb : b.length = 64) : SCalls Proofs.Try.prog 3 [vH h, vBlk b] [] (.s (.lf .tt)) [] := by
  refine SCalls.intro tok Proofs.Try.func3 ?_
  conv => whnf
  refine DrawK.mk1 tok mixed [0, 0, 3, 0, 0, 31, 63, 127, 255, 511, 1023, 2047, 4095, 8191, 16383, 32767] [(0, 1, [0]), (1, 1, [0]), (2, 1, [0]), (3, 1, [0]), (4, 1, [0]), (5, 1, [0]), (6, 1, [0]), (7, 0, []), (8, 1, [0]), (9, 1, [0]), (10, 1, [0]), (11, 0, []), (12, 0, []), (13, 1, [0]), (14, 0, []), (15, 0, [])] (by kernel_rfl) ?_
  conv => whnf
  refine CallR.mk' _ ((c13 h hh b hb).free _ ⟨⟨trivial, trivial⟩, ⟨trivial, trivial⟩, trivial⟩ ⟨trivial, trivial⟩) ?_
  conv => whnf
  refine CallR.mk' _ ((c14 h hh b hb).free _ ⟨⟨trivial, trivial⟩, ⟨trivial, trivial⟩, trivial⟩ ⟨trivial, trivial⟩) ?_
  conv => whnf
  repeat (first
    | (refine CaseB.of_true (decide_eq_true fun i _ => rfl) ?_; conv => whnf)
    | (refine CallR.mk' _ (c15.free _ trivial ⟨trivial, trivial⟩) ?_; conv => whnf)
    | (refine CallR.mk' _ (c16.free _ trivial ⟨trivial, trivial⟩) ?_; conv => whnf)
    | (refine CallR.mk' _ (c17.free _ trivial trivial) ?_; conv => whnf))
  exact RetK.empty (okF.wv trivial)
end Go.Sym.Sh
