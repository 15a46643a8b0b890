/- Contracts of the program's functions, proved by the framework (text PoC), without conditions but those that each theorem states. -/
import Derived.Test.YtlmcdgbjbamdnaaPoB
import Derived.Test.YtlmcdgbjbamdnaaShS
set_option maxRecDepth 10000
set_option linter.unusedVariables false
set_option linter.unusedSimpArgs false
namespace Go.Sym.Md
open Go Go.Sym Go.Sym.Sh

theorem u32_shr' (x : UInt32) (n : Nat) (h : n < 32) {m : Int} (e : m = (n : Int)) : shrI .u32 (x.toNat : Int) m = ((x >>> (UInt32.ofNat n)).toNat : Int) := by subst e; exact u32_shr x n h

/-- sha.lowA -/
theorem c237 (x : UInt32) : SCalls Proofs.Try.prog 237 [vU x] [] (vU (lowA x)) [] := by
  refine SCalls.intro tok Proofs.Try.func237 ?_
  conv => whnf
  refine CallK.mk' _ [] (c238 x 7 (by omega) (by omega)) ?_
  conv => whnf
  refine CallK.mk' _ [] (c238 x 18 (by omega) (by omega)) ?_
  conv => whnf
  refine ⟨by omega, ?_⟩
  conv => whnf
  refine RetK.empty (WV.lf (WL.int ?_))
  rw [u32_xor, u32_shr' x 3 (m := 3) (by omega) rfl, u32_xor]; rfl

/-- sha.lowB -/
theorem c236 (x : UInt32) : SCalls Proofs.Try.prog 236 [vU x] [] (vU (lowB x)) [] := by
  refine SCalls.intro tok Proofs.Try.func236 ?_
  conv => whnf
  refine CallK.mk' _ [] (c238 x 17 (by omega) (by omega)) ?_
  conv => whnf
  refine CallK.mk' _ [] (c238 x 19 (by omega) (by omega)) ?_
  conv => whnf
  refine ⟨by omega, ?_⟩
  conv => whnf
  refine RetK.empty (WV.lf (WL.int ?_))
  rw [u32_xor, u32_shr' x 10 (m := 10) (by omega) rfl, u32_xor]; rfl

/-- sha.highA -/
theorem c229 (x : UInt32) : SCalls Proofs.Try.prog 229 [vU x] [] (vU (highA x)) [] := by
  refine SCalls.intro tok Proofs.Try.func229 ?_
  conv => whnf
  refine CallK.mk' _ [] (c238 x 2 (by omega) (by omega)) ?_
  conv => whnf
  refine CallK.mk' _ [] (c238 x 13 (by omega) (by omega)) ?_
  conv => whnf
  refine CallK.mk' _ [] (c238 x 22 (by omega) (by omega)) ?_
  conv => whnf
  refine RetK.empty (WV.lf (WL.int ?_))
  rw [u32_xor, u32_xor]; rfl

/-- sha.highB -/
theorem c227 (x : UInt32) : SCalls Proofs.Try.prog 227 [vU x] [] (vU (highB x)) [] := by
  refine SCalls.intro tok Proofs.Try.func227 ?_
  conv => whnf
  refine CallK.mk' _ [] (c238 x 6 (by omega) (by omega)) ?_
  conv => whnf
  refine CallK.mk' _ [] (c238 x 11 (by omega) (by omega)) ?_
  conv => whnf
  refine CallK.mk' _ [] (c238 x 25 (by omega) (by omega)) ?_
  conv => whnf
  refine RetK.empty (WV.lf (WL.int ?_))
  rw [u32_xor, u32_xor]; rfl

/-- sha.choose -/
theorem c228 (x y z : UInt32) : SCalls Proofs.Try.prog 228 [vU x, vU y, vU z] [] (vU (Sh.choose x y z)) [] := by
  refine SCalls.intro tok Proofs.Try.func228 ?_
  conv => whnf
  refine RetK.empty (WV.lf (WL.int ?_))
  rw [u32_xor, u32_and, u32_xor]; rfl

/-- sha.most -/
theorem c230 (x y z : UInt32) : SCalls Proofs.Try.prog 230 [vU x, vU y, vU z] [] (vU (most x y z)) [] := by
  refine SCalls.intro tok Proofs.Try.func230 ?_
  conv => whnf
  refine RetK.empty (WV.lf (WL.int ?_))
  rw [u32_or, u32_and, u32_and, u32_or]; rfl

/-- The constants of the rounds. -/
abbrev vKw : FV := .s (.agg [.ints .u32 64 (Us Kw)])
/-- Eight words. -/
abbrev vH (h : List UInt32) : FV := .s (.agg [.ints .u32 8 (Us h)])
abbrev vBlk (b : List UInt8) : FV := .s (.agg [.bytes 64 b])

theorem wv_ints {D : Rel} {k : IntKind} {n : Nat} {xs ys : List Int} (h : xs = ys) : WV D (.s (.agg [.ints k n xs])) (.s (.agg [.ints k n ys])) := by
  subst h; exact WV.agg ⟨.ints rfl fun _ _ => rfl, trivial⟩

theorem c226 : SCalls Proofs.Try.prog 226 [] [] vKw [] := by
  refine SCalls.intro tok Proofs.Try.func226 ?_
  conv => whnf
  exact RetK.empty (wv_ints (by decide))

theorem c216 : SCalls Proofs.Try.prog 216 [] [] vKw [] := by
  refine SCalls.intro tok Proofs.Try.func216 ?_
  conv => whnf
  exact RetK.empty (wv_ints (by decide))

theorem c213 : SCalls Proofs.Try.prog 213 [] [] (vH H0w) [] := by
  refine SCalls.intro tok Proofs.Try.func213 ?_
  conv => whnf
  exact RetK.empty (wv_ints (by decide))

theorem c191 : SCalls Proofs.Try.prog 191 [] [] (vH H0w) [] := by
  refine SCalls.intro tok Proofs.Try.func191 ?_
  conv => whnf
  exact RetK.empty (wv_ints (by decide))

end Go.Sym.Md
