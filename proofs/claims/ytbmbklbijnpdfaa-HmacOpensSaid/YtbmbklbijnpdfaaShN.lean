/- Contracts of the program's functions, proved by the framework (text ShN), without conditions but those that each theorem states. -/
import Derived.Test.YtbmbklbijnpdfaaShM
set_option linter.unusedVariables false
set_option linter.unusedSimpArgs false
set_option maxRecDepth 10000
namespace Go.Sym.Sh
open Go Go.Sym

/-- A hash that no call made. -/
abbrev obNo : OB := ⟨34, [.ints .u32 8 (List.replicate 8 0), .bytes 64 (List.replicate 64 0), .one (.int .i64 0), .one .ff]⟩

/-- (*sha.Hash).Write, of nil. -/
theorem c19n (b : List UInt8) : SCalls Proofs.Try.prog 19 [.s (.lf .nilp), .s (.lf (.rob false false b))] [] (.tup []) [] := by
  refine SCalls.intro tok Proofs.Try.func19 ?_
  conv => whnf
  exact RetK.empty (okF.wv trivial)

/-- (*sha.Hash).Write, of a hash that no call made. -/
theorem c19z (b : List UInt8) : SCalls Proofs.Try.prog 19 [.s (.lf (.ptr 0 0)), .s (.lf (.rob false false b))] [some obNo] (.tup []) [some obNo] := by
  refine SCalls.intro tok Proofs.Try.func19 ?_
  conv => whnf
  exact RetK.of ⟨rfl, okGs.ws (by exact ⟨trivial, trivial, trivial, trivial, trivial⟩), trivial⟩ (by simp) (okF.wv trivial)

/-- (*sha.Hash).Sum, of nil. -/
theorem c20n : SCalls Proofs.Try.prog 20 [.s (.lf .nilp)] [] (.s (.lf (.str []))) [] := by
  refine SCalls.intro tok Proofs.Try.func20 ?_
  conv => whnf
  exact RetK.empty (okF.wv trivial)

theorem c20z : SCalls Proofs.Try.prog 20 [.s (.lf (.ptr 0 0))] [some obNo] (.s (.lf (.str []))) [some obNo] := by
  refine SCalls.intro tok Proofs.Try.func20 ?_
  conv => whnf
  exact RetK.of ⟨rfl, okGs.ws (by exact ⟨trivial, trivial, trivial, trivial, trivial⟩), trivial⟩ (by simp) (okF.wv trivial)

/-- (*sha.Hash).Len, of nil. -/
theorem c21n : SCalls Proofs.Try.prog 21 [.s (.lf .nilp)] [] (vI 0) [] := by
  refine SCalls.intro tok Proofs.Try.func21 ?_
  conv => whnf
  exact RetK.empty (okF.wv trivial)

theorem c21z : SCalls Proofs.Try.prog 21 [.s (.lf (.ptr 0 0))] [some obNo] (vI 0) [some obNo] := by
  refine SCalls.intro tok Proofs.Try.func21 ?_
  conv => whnf
  exact RetK.of ⟨rfl, okGs.ws (by exact ⟨trivial, trivial, trivial, trivial, trivial⟩), trivial⟩ (by simp) (okF.wv trivial)

/-- baileylaw03.ShaNobody -/
theorem c5 (b : List UInt8) : SCalls Proofs.Try.prog 5 [.s (.lf (.rob false false b))] [] (.s (.lf .tt)) [] := by
  refine SCalls.intro tok Proofs.Try.func5 ?_
  conv => whnf
  refine CallK.mk' _ _ (c19n b |>.free _ ⟨trivial, trivial, trivial⟩ trivial) ?_
  conv => whnf
  refine CallK.mk' _ _ (c19z b) ?_
  conv => whnf
  refine CallK.mk' _ _ (c20n.free _ ⟨trivial, trivial⟩ trivial) ?_
  conv => whnf
  refine CaseB.of_true (decide_eq_true rfl) ?_
  conv => whnf
  refine CallK.mk' _ _ c20z ?_
  conv => whnf
  refine CaseB.of_true (decide_eq_true rfl) ?_
  conv => whnf
  refine CallK.mk' _ _ (c21n.free _ ⟨trivial, trivial⟩ trivial) ?_
  conv => whnf
  refine CaseB.of_true (decide_eq_true rfl) ?_
  conv => whnf
  refine CallK.mk' _ _ c21z ?_
  conv => whnf
  refine CaseB.of_true (decide_eq_true rfl) ?_
  conv => whnf
  refine CallK.mk' _ _ (c17.free _ trivial trivial) ?_
  conv => whnf
  exact RetK.empty (okF.wv trivial)
end Go.Sym.Sh
