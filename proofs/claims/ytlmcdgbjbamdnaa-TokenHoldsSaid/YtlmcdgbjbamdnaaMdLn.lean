/- The statement Rows.TokenHoldsSaid is proved, without conditions. -/
import Derived.Test.YtlmcdgbjbamdnaaMdTx
import Derived.Test.YtlmcdgbjbamdnaaMdSx
import Derived.Test.YtlmcdgbjbamdnaaMdLo
set_option linter.unusedVariables false
set_option linter.unusedSimpArgs false
namespace Go.Proofs.Ytlmcdgbjbamdnaa
open Go.ChangeShapes Go.WideShapes Go.ChangeAt Go.RowKit Go.Sym Go.Sym.Md

set_option maxRecDepth 100000 in
theorem tokenHolds_lifted (os : Os) (started : os.Started) (H : Type) (enc : TypeId × Value → H) :
    ReturnsInHanded {} Try.checked os 18 .any (Rows.tokenHoldsSpec.pre6 enc Try.prog Try.f18 Rows.tokenHoldsRow.domain false) (Rows.tokenHoldsSpec.post enc Try.prog Try.f18 false true false false) := by
  refine returnsInHanded_of_change (C := Try.checked) Try.own started (by kernel_rfl) Try.func18
    (ChangeSpec.witness6 (enc := enc) (C := Try.checked) false ⟨#[], #[.string ⟨#[]⟩, .int .i64 0, .slice none 0 0], []⟩ 8 (by kernel_rfl) (by kernel_rfl) (by kernel_rfl) (by kernel_rfl)) ?_
  intro W base args ds gs before hval0 hW hcnd _
  have hval : ∀ (j : Nat) t v, Try.f18.params[j]? = some t → args[j]? = some v → Value.okWide Try.prog W .any base t v := hval0
  have hW' := hW
  obtain ⟨p, q, hA0, hV, rfl, hfz, hnd⟩ := hW
  have hA : DataW.TrodAll enc Try.prog W 0 (fun _ => true) true Try.f18.params.toList args.toList ds p := hA0
  rw [Try.params18] at hA hval
  obtain ⟨v0, v1, v2, d0, d1, d2, p0, p1, p2, rfl, rfl, rfl, h0, h1, h2⟩ := trodAll_three hA
  obtain ⟨rfl, rfl⟩ := trodVars_none hV
  obtain ⟨g0, r0, k0⟩ := rd_leaf tok (n := 6) (by kernel_rfl) (by kernel_rfl) (hval 0 9 v0 rfl rfl) h0
  obtain ⟨x0, a0, e0⟩ := r0
  rw [e0] at k0
  obtain ⟨g1, r1, k1⟩ := rd_leaf tok (n := 6) (by kernel_rfl) (by kernel_rfl) (hval 1 3 v1 rfl rfl) h1
  obtain ⟨x1, a1, b1, e1⟩ := r1
  rw [e1] at k1
  obtain ⟨g2, r2, k2⟩ := rd_leaf tok (n := 6) (by kernel_rfl) (by kernel_rfl) (hval 2 29 v2 rfl rfl) h2
  obtain ⟨n2, f2, a2, b2, k2⟩ := rd_ro (st := 3) (p := fun g => RdL Γ 5 23 g 0) r2 k2
  have hm : Calls Try.prog 18 #[v0, v1, v2] W (fun e W' => e = .returned (.bool true) ∧ Below W.heap.size W W') := by
    obtain ⟨cs, hc, k2⟩ := rd_cvs b2 a2 k2
    by_cases h1 : 500 < (x0.length : Int)
    · exact SCalls.law (c18g x0 x1 cs a0 h1) (vals := [v0, v1, v2]) ⟨k0, k1, k2, trivial⟩
    · exact SCalls.law (c18 x0 x1 cs h1 hc) (vals := [v0, v1, v2]) ⟨k0, k1, k2, trivial⟩
  refine hm.mono fun e W' ⟨he, hb'⟩ => ?_
  exact ⟨_, he, law_post (bt := 4) rfl Try.laidOut (params_ok (by kernel_rfl)) rfl Try.underlying4 hW' rfl rfl rfl hb'⟩

set_option maxRecDepth 100000 in
theorem tokenHolds_in : (Rows.tokenHoldsRow.inPlace == Try.prog.inPlace 18) = true := by kernel_rfl
set_option maxRecDepth 100000 in
theorem tokenHolds_un : (Rows.tokenHoldsRow.unfollowed == Try.prog.unfollowed 18) = true := by kernel_rfl
set_option maxRecDepth 100000 in
theorem tokenHolds_re : (Rows.tokenHoldsRow.recurses == Try.prog.recurses 18) = true := by kernel_rfl
set_option maxRecDepth 100000 in
theorem tokenHolds_na : (Rows.tokenHoldsRow.named == Try.prog.varsNamed 18) = true := by kernel_rfl
set_option maxRecDepth 100000 in
theorem tokenHolds_closed : joinedFacts Try.prog 18 Try.f18 Rows.tokenHoldsSpec Rows.tokenHoldsRow = true :=
  facts_of _ Try.laidOut Try.fMaps Try.fStops Try.fKnobs Try.fHeard Try.fPlain Try.fMay Try.fLift Try.fMake (by kernel_rfl) (by kernel_rfl) tokenHolds_in tokenHolds_un tokenHolds_re tokenHolds_na (by kernel_rfl) (by kernel_rfl) (by kernel_rfl) (by kernel_rfl)

theorem tokenHolds_holds : Rows.TokenHoldsSaid :=
  OpenClaim.holds_of_wide 18 Try.f18 rfl rfl rfl rfl rfl rfl rfl ⟨rfl, rfl, rfl, rfl, rfl⟩ rfl rfl rfl rfl rfl (by kernel_rfl) Try.func18 tokenHolds_closed
    (of_decide_eq_true (by kernel_rfl)) (by unfold Func.isWrapper; first | (rw [if_pos (by decide +kernel)]; kernel_rfl) | (rw [if_neg (by decide +kernel)]; exact ⟨rfl, rfl⟩))
    (fun os started H enc _ => tokenHolds_lifted os started H enc)

end Go.Proofs.Ytlmcdgbjbamdnaa
