/- Contracts of the program's functions, proved by the framework (text TxH), without conditions but those that each theorem states. -/
import Derived.Test.YtlmcdgbjbamdnaaTxG
import Derived.KernelRfl
set_option linter.unusedVariables false
set_option linter.unusedSimpArgs false
set_option maxRecDepth 10000
namespace Go.Sym.Md
open Go Go.Sym Go.Sym.Sh

theorem c88e (m : List UInt8) (d : Nat → Bool) (z : Int) (h : ¬ (0 ≤ z ∧ z < 5)) : SCalls Proofs.Try.prog 88 [.s (.lf (.ptr 0 0)), vI z] (hR m d) (.tup [.lf (.str []), .lf (.int .i64 1)]) (hR m d) := by
  refine SCalls.intro tok Proofs.Try.func88 ?_
  conv => whnf
  refine CallK.mk' _ _ (c154e m d z h) ?_
  conv => whnf
  refine CaseB.of_true rfl ?_
  conv => whnf
  exact RetK.same (H := hR m d) rfl (by simp) (okF.wv ⟨trivial, trivial, trivial⟩)
theorem c88n (z : Int) : SCalls Proofs.Try.prog 88 [.s (.lf .nilp), vI z] [] (.tup [.lf (.str []), .lf (.int .i64 2)]) [] := by
  refine SCalls.intro tok Proofs.Try.func88 ?_
  conv => whnf
  refine CallK.mk' _ _ (c154n z) ?_
  conv => whnf
  refine CaseB.of_true rfl ?_
  conv => whnf
  exact RetK.empty (okF.wv ⟨trivial, trivial, trivial⟩)
theorem c88z (z : Int) : SCalls Proofs.Try.prog 88 [.s (.lf (.ptr 0 0)), vI z] [some zR] (.tup [.lf (.str []), .lf (.int .i64 2)]) [some zR] := by
  refine SCalls.intro tok Proofs.Try.func88 ?_
  conv => whnf
  refine CallK.mk' _ _ (c154z z) ?_
  conv => whnf
  refine CaseB.of_true rfl ?_
  conv => whnf
  exact RetK.same (H := [some zR]) rfl (by simp) (okF.wv ⟨trivial, trivial, trivial⟩)
theorem c89e (m : List UInt8) (d : Nat → Bool) (z : Int) (h : ¬ (0 ≤ z ∧ z < 5)) : SCalls Proofs.Try.prog 89 [.s (.lf (.ptr 0 0)), vI z] (hR m d) (.tup [.lf (.str []), .lf (.int .i64 1)]) (hR m d) := by
  refine SCalls.intro tok Proofs.Try.func89 ?_
  conv => whnf
  refine CallK.mk' _ _ (c154e m d z h) ?_
  conv => whnf
  refine CaseB.of_true rfl ?_
  conv => whnf
  exact RetK.same (H := hR m d) rfl (by simp) (okF.wv ⟨trivial, trivial, trivial⟩)
theorem c89n (z : Int) : SCalls Proofs.Try.prog 89 [.s (.lf .nilp), vI z] [] (.tup [.lf (.str []), .lf (.int .i64 2)]) [] := by
  refine SCalls.intro tok Proofs.Try.func89 ?_
  conv => whnf
  refine CallK.mk' _ _ (c154n z) ?_
  conv => whnf
  refine CaseB.of_true rfl ?_
  conv => whnf
  exact RetK.empty (okF.wv ⟨trivial, trivial, trivial⟩)
theorem c89z (z : Int) : SCalls Proofs.Try.prog 89 [.s (.lf (.ptr 0 0)), vI z] [some zR] (.tup [.lf (.str []), .lf (.int .i64 2)]) [some zR] := by
  refine SCalls.intro tok Proofs.Try.func89 ?_
  conv => whnf
  refine CallK.mk' _ _ (c154z z) ?_
  conv => whnf
  refine CaseB.of_true rfl ?_
  conv => whnf
  exact RetK.same (H := [some zR]) rfl (by simp) (okF.wv ⟨trivial, trivial, trivial⟩)
theorem c90e (m : List UInt8) (d : Nat → Bool) (z : Int) (h : ¬ (0 ≤ z ∧ z < 5)) : SCalls Proofs.Try.prog 90 [.s (.lf (.ptr 0 0)), vI z] (hR m d) (.tup [.lf (.str []), .lf (.int .i64 1)]) (hR m d) := by
  refine SCalls.intro tok Proofs.Try.func90 ?_
  conv => whnf
  refine CallK.mk' _ _ (c154e m d z h) ?_
  conv => whnf
  refine CaseB.of_true rfl ?_
  conv => whnf
  exact RetK.same (H := hR m d) rfl (by simp) (okF.wv ⟨trivial, trivial, trivial⟩)
theorem c90n (z : Int) : SCalls Proofs.Try.prog 90 [.s (.lf .nilp), vI z] [] (.tup [.lf (.str []), .lf (.int .i64 2)]) [] := by
  refine SCalls.intro tok Proofs.Try.func90 ?_
  conv => whnf
  refine CallK.mk' _ _ (c154n z) ?_
  conv => whnf
  refine CaseB.of_true rfl ?_
  conv => whnf
  exact RetK.empty (okF.wv ⟨trivial, trivial, trivial⟩)
theorem c90z (z : Int) : SCalls Proofs.Try.prog 90 [.s (.lf (.ptr 0 0)), vI z] [some zR] (.tup [.lf (.str []), .lf (.int .i64 2)]) [some zR] := by
  refine SCalls.intro tok Proofs.Try.func90 ?_
  conv => whnf
  refine CallK.mk' _ _ (c154z z) ?_
  conv => whnf
  refine CaseB.of_true rfl ?_
  conv => whnf
  exact RetK.same (H := [some zR]) rfl (by simp) (okF.wv ⟨trivial, trivial, trivial⟩)

def kyM : List UInt8 := [109]
theorem eqB_self : ∀ l : List UInt8, eqB l l = true
  | [] => rfl
  | a :: l => by simp only [eqB, Nat.beq_refl, eqB_self l, Bool.and_self]
theorem eqB_ne {a b : List UInt8} (h : eqB a b = false) : a ≠ b := fun e => by rw [e, eqB_self] at h; exact Bool.noConfusion h
theorem aw_ne : kyF [109] tokenB 0 ≠ kyF [109] putB 0 := eqB_ne (by kernel_rfl)
theorem kyF_length (m p : List UInt8) (j : Nat) : (kyF m p j).length = 32 := tagF_length _ _

attribute [local irreducible] kyF tagF dF

/-- baileylaw07.awake -/
theorem c87 : SCalls Proofs.Try.prog 87 [] [] (.s (.lf .tt)) [] := by
  refine SCalls.intro tok Proofs.Try.func87 ?_
  conv => whnf
  refine CallK.mk' _ _ (c86 [109]) ?_
  conv => whnf
  refine CallK.mk' _ _ (c92 [109] _) ?_
  conv => whnf
  refine CaseB.of_false rfl ?_
  conv => whnf
  refine CallK.mk' _ _ (c88_0 [109] _ (by decide)) ?_
  conv => whnf
  refine CallK.mk' _ _ (c89_0 [109] _ (by decide)) ?_
  conv => whnf
  refine CallK.mk' _ _ (c88e [109] _ 5 (by decide)) ?_
  conv => whnf
  repeat (refine CaseB.of_true rfl ?_; conv => whnf)
  refine CaseB.of_true (decide_eq_true (show ((kyF [109] tokenB 0).length : Int) = 32 by rw [kyF_length]; rfl)) ?_
  conv => whnf
  repeat (refine CaseB.of_true rfl ?_; conv => whnf)
  refine CaseB.of_true (decide_eq_true aw_ne) ?_
  conv => whnf
  repeat (refine CaseB.of_true rfl ?_; conv => whnf)
  refine CallK.mk' _ _ (c92 [109] _) ?_
  conv => whnf
  exact RetK.empty (WV.lf (WL.btt (by decide)))

/-- baileylaw07.KeyringNobody -/
theorem c16 (z : Int) : SCalls Proofs.Try.prog 16 [vI z] [] (.s (.lf .tt)) [] := by
  refine SCalls.intro tok Proofs.Try.func16 ?_
  conv => whnf
  refine CallK.mk' _ _ ((c88n z).free _ ⟨trivial, trivial, trivial⟩ ⟨trivial, trivial, trivial⟩) ?_
  conv => whnf
  refine CallK.mk' _ _ (c89z z) ?_
  conv => whnf
  refine CallK.mk' _ _ ((c90n z).free _ ⟨trivial, trivial, trivial⟩ ⟨trivial, trivial, trivial⟩) ?_
  conv => whnf
  repeat (refine CaseB.of_true rfl ?_; conv => whnf)
  refine CallK.mk' _ _ (c92n.free _ ⟨trivial, trivial⟩ trivial) ?_
  conv => whnf
  repeat (refine CaseB.of_true rfl ?_; conv => whnf)
  refine CallK.mk' _ _ c92z ?_
  conv => whnf
  repeat (refine CaseB.of_true rfl ?_; conv => whnf)
  refine CallK.mk' _ _ (c87.free _ trivial trivial) ?_
  conv => whnf
  exact RetK.more (H := []) [_] rfl (by simp) (okF.wv trivial)
end Go.Sym.Md

