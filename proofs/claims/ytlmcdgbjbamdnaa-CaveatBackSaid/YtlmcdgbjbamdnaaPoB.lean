/- Contracts of the program's functions, proved by the framework (text PoB), without conditions but those that each theorem states. -/
import Derived.Test.YtlmcdgbjbamdnaaMdQ
import Derived.Test.YtlmcdgbjbamdnaaFw6
set_option maxRecDepth 10000
set_option linter.unusedVariables false
set_option linter.unusedSimpArgs false
namespace Go.Sym.Md
open Go Go.Sym

theorem turn_amount : ∀ n : Nat, n < 32 → 0 < n → bitsI .and .u64 (IntKind.u64.wrap (-(n : Int))) 31 = ((32 - n : Nat) : Int) ∧ IntKind.u64.wrap (32 - ((32 - n : Nat) : Int)) = (n : Int) := by decide

/-- math/bits.RotateLeft32, as it is called here. -/
theorem c243 (x : UInt32) (n : Nat) (h0 : 0 < n) (h : n < 32) : SCalls Proofs.Try.prog 243 [vU x, vI (-(n : Int))] [] (vU (ror x n)) [] := by
  refine SCalls.intro tok Proofs.Try.func243 ?_
  conv => whnf
  obtain ⟨k1, k2⟩ := turn_amount n h h0
  rw [k1]
  refine ⟨by omega, ?_⟩
  conv => whnf
  rw [k2]
  refine ⟨by omega, ?_⟩
  conv => whnf
  refine RetK.empty (WV.lf (WL.int ?_))
  rw [u32_shl _ _ (by omega), u32_shr _ _ h, u32_or, UInt32.or_comm]; rfl

/-- baileyref03.r -/
theorem c217 (x : UInt32) (n : Nat) (h0 : 0 < n) (h : n < 32) : SCalls Proofs.Try.prog 217 [vU x, vI n] [] (vU (ror x n)) [] := by
  refine SCalls.intro tok Proofs.Try.func217 ?_
  conv => whnf
  refine DrawK.mk1 tok mixed [0, 0, 3, 0, 0, 16, 56, 127, 255] [(0, 0, []), (1, 0, []), (2, 0, []), (3, 0, []), (4, 0, []), (5, 0, []), (6, 0, []), (7, 0, []), (8, 0, [])] (by kernel_rfl) ?_
  conv => whnf
  refine ⟨by omega, ?_⟩
  conv => whnf
  have k : IntKind.i64.wrap (32 - (n : Int)) = ((32 - n : Nat) : Int) := by rw [wrap_i64 (by omega) (by omega)]; omega
  rw [k]
  refine ⟨by omega, ?_⟩
  conv => whnf
  refine RetK.empty (WV.lf (WL.int ?_))
  rw [u32_shl _ _ (by omega), u32_shr _ _ h, u32_or]; rfl

/-- sha.right -/
theorem c238 (x : UInt32) (n : Nat) (h0 : 0 < n) (h : n < 32) : SCalls Proofs.Try.prog 238 [vU x, vI n] [] (vU (ror x n)) [] := by
  refine SCalls.intro tok Proofs.Try.func238 ?_
  conv => whnf
  rw [show IntKind.i64.wrap (0 - (n : Int)) = -(n : Int) by rw [wrap_i64 (by omega) (by omega)]; omega]
  refine CallK.mk' _ [] (c243 x n h0 h) ?_
  conv => whnf
  exact RetK.empty (freeF.wv trivial)

end Go.Sym.Md
