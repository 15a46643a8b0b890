/- Contracts of the program's functions, proved by the framework (text ShM), without conditions but those that each theorem states. -/
import Derived.Test.YtbmbklbijnpdfaaShK
import Derived.Test.YtbmbklbijnpdfaaFw7
set_option linter.unusedVariables false
set_option linter.unusedSimpArgs false
set_option maxRecDepth 10000
namespace Go.Sym.Sh
open Go Go.Sym
attribute [local irreducible] padF

/-- baileylaw03.ShaPads -/
theorem c4 (z : Int) : SCalls Proofs.Try.prog 4 [vI z] [] (.s (.lf .tt)) [] := by
  refine SCalls.intro tok Proofs.Try.func4 ?_
  conv => whnf
  by_cases h1 : z < 0
  · refine CaseB.of_true (decide_eq_true h1) ?_
    conv => whnf
    refine CallK.mk' _ _ c17 ?_
    conv => whnf
    exact RetK.empty (okF.wv trivial)
  refine CaseB.of_false (decide_eq_false h1) ?_
  conv => whnf
  by_cases h2 : 576460752303423488 < z
  · refine CaseB.of_true (decide_eq_true h2) ?_
    conv => whnf
    refine CallK.mk' _ _ c17 ?_
    conv => whnf
    exact RetK.empty (okF.wv trivial)
  refine CaseB.of_false (decide_eq_false h2) ?_
  conv => whnf
  obtain ⟨n, hn⟩ : ∃ n : Nat, z = n := ⟨z.toNat, by omega⟩
  have h18 := c18i z n (by omega) (by omega)
  have hl := padF_length n
  have hz := zeros_lt n
  have e1 : (IntKind.i64.wrap (z.tmod 64 + ((padF n).length : Int))).tmod 64 = 0 := by
    rw [hl, hn, show Int.tmod (n : Int) 64 = ((n % 64 : Nat) : Int) from rfl, wrap_i64 (by omega) (by omega)]
    rw [show ((n % 64 : Nat) : Int) + ((zeros n + 9 : Nat) : Int) = ((n % 64 + (zeros n + 9) : Nat) : Int) by omega, show Int.tmod ((n % 64 + (zeros n + 9) : Nat) : Int) 64 = (((n % 64 + (zeros n + 9)) % 64 : Nat) : Int) from rfl]
    rw [zeros]; omega
  have e2 : (padF n).getD 0 0 = 128 := by rw [padF, pF]; rfl
  refine CallK.mk' _ _ h18 ?_
  conv => whnf
  refine ⟨by omega, ?_⟩
  conv => whnf
  refine ⟨by omega, ?_⟩
  conv => whnf
  refine CaseB.of_true (decide_eq_true e1) ?_
  conv => whnf
  refine CaseB.of_true (decide_eq_true (by omega)) ?_
  conv => whnf
  refine CaseB.of_true (decide_eq_true (by omega)) ?_
  conv => whnf
  refine ⟨by omega, ?_⟩
  conv => whnf
  refine CaseB.of_true (decide_eq_true (show (((padF n).getD (Int.toNat 0) 0).toNat : Int) = 128 by rw [show Int.toNat 0 = 0 from rfl, e2]; rfl)) ?_
  conv => whnf
  refine CallK.mk' _ _ c17 ?_
  conv => whnf
  exact RetK.empty (okF.wv trivial)
end Go.Sym.Sh
