/- Contracts of the program's functions, proved by the framework (text ShC), without conditions but those that each theorem states. -/
import Derived.Test.YtbmbklbijnpdfaaShB
import Derived.Test.YtbmbklbijnpdfaaShS
set_option linter.unusedVariables false
set_option linter.unusedSimpArgs false
namespace Go.Sym.Sh
open Go Go.Sym

theorem u32_shr' (x : UInt32) (n : Nat) (h : n < 32) {m : Int} (e : m = (n : Int)) : shrI .u32 (x.toNat : Int) m = ((x >>> (UInt32.ofNat n)).toNat : Int) := by subst e; exact u32_shr x n h

/-- sha.lowA -/
theorem c49 (x : UInt32) : SCalls Proofs.Try.prog 49 [vU x] [] (vU (lowA x)) [] := by
  refine SCalls.intro tok Proofs.Try.func49 ?_
  conv => whnf
  refine CallK.mk' _ [] (c50 x 7 (by omega) (by omega)) ?_
  conv => whnf
  refine CallK.mk' _ [] (c50 x 18 (by omega) (by omega)) ?_
  conv => whnf
  refine ⟨by omega, ?_⟩
  conv => whnf
  refine RetK.empty (WV.lf (WL.int ?_))
  rw [u32_xor, u32_shr' x 3 (m := 3) (by omega) rfl, u32_xor]; rfl

/-- sha.lowB -/
theorem c48 (x : UInt32) : SCalls Proofs.Try.prog 48 [vU x] [] (vU (lowB x)) [] := by
  refine SCalls.intro tok Proofs.Try.func48 ?_
  conv => whnf
  refine CallK.mk' _ [] (c50 x 17 (by omega) (by omega)) ?_
  conv => whnf
  refine CallK.mk' _ [] (c50 x 19 (by omega) (by omega)) ?_
  conv => whnf
  refine ⟨by omega, ?_⟩
  conv => whnf
  refine RetK.empty (WV.lf (WL.int ?_))
  rw [u32_xor, u32_shr' x 10 (m := 10) (by omega) rfl, u32_xor]; rfl

/-- sha.highA -/
theorem c39 (x : UInt32) : SCalls Proofs.Try.prog 39 [vU x] [] (vU (highA x)) [] := by
  refine SCalls.intro tok Proofs.Try.func39 ?_
  conv => whnf
  refine CallK.mk' _ [] (c50 x 2 (by omega) (by omega)) ?_
  conv => whnf
  refine CallK.mk' _ [] (c50 x 13 (by omega) (by omega)) ?_
  conv => whnf
  refine CallK.mk' _ [] (c50 x 22 (by omega) (by omega)) ?_
  conv => whnf
  refine RetK.empty (WV.lf (WL.int ?_))
  rw [u32_xor, u32_xor]; rfl

/-- sha.highB -/
theorem c37 (x : UInt32) : SCalls Proofs.Try.prog 37 [vU x] [] (vU (highB x)) [] := by
  refine SCalls.intro tok Proofs.Try.func37 ?_
  conv => whnf
  refine CallK.mk' _ [] (c50 x 6 (by omega) (by omega)) ?_
  conv => whnf
  refine CallK.mk' _ [] (c50 x 11 (by omega) (by omega)) ?_
  conv => whnf
  refine CallK.mk' _ [] (c50 x 25 (by omega) (by omega)) ?_
  conv => whnf
  refine RetK.empty (WV.lf (WL.int ?_))
  rw [u32_xor, u32_xor]; rfl

/-- sha.choose -/
theorem c38 (x y z : UInt32) : SCalls Proofs.Try.prog 38 [vU x, vU y, vU z] [] (vU (choose x y z)) [] := by
  refine SCalls.intro tok Proofs.Try.func38 ?_
  conv => whnf
  refine RetK.empty (WV.lf (WL.int ?_))
  rw [u32_xor, u32_and, u32_xor]; rfl

/-- sha.most -/
theorem c40 (x y z : UInt32) : SCalls Proofs.Try.prog 40 [vU x, vU y, vU z] [] (vU (most x y z)) [] := by
  refine SCalls.intro tok Proofs.Try.func40 ?_
  conv => whnf
  refine RetK.empty (WV.lf (WL.int ?_))
  rw [u32_or, u32_and, u32_and, u32_or]; rfl

/-- The constants of the rounds. -/
abbrev vKw : FV := .s (.agg [.ints .u32 64 (Us Kw)])
/-- Eight words. -/
abbrev vH (h : List UInt32) : FV := .s (.agg [.ints .u32 8 (Us h)])
abbrev vBlk (b : List UInt8) : FV := .s (.agg [.bytes 64 b])

theorem wv_ints {D : Rel} {k : IntKind} {n : Nat} {xs ys : List Int} (h : xs = ys) : WV D (.s (.agg [.ints k n xs])) (.s (.agg [.ints k n ys])) := by
  subst h; exact WV.agg ⟨.ints rfl fun _ _ => rfl, trivial⟩

theorem c36 : SCalls Proofs.Try.prog 36 [] [] vKw [] := by
  refine SCalls.intro tok Proofs.Try.func36 ?_
  conv => whnf
  exact RetK.empty (wv_ints (by decide))

theorem c42 : SCalls Proofs.Try.prog 42 [] [] vKw [] := by
  refine SCalls.intro tok Proofs.Try.func42 ?_
  conv => whnf
  exact RetK.empty (wv_ints (by decide))

theorem c15 : SCalls Proofs.Try.prog 15 [] [] (vH H0w) [] := by
  refine SCalls.intro tok Proofs.Try.func15 ?_
  conv => whnf
  exact RetK.empty (wv_ints (by decide))

theorem c16 : SCalls Proofs.Try.prog 16 [] [] (vH H0w) [] := by
  refine SCalls.intro tok Proofs.Try.func16 ?_
  conv => whnf
  exact RetK.empty (wv_ints (by decide))

end Go.Sym.Sh
