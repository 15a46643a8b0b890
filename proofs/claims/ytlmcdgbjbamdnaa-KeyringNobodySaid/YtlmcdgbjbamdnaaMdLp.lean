/- The statement Rows.KeyringNobodySaid is proved, without conditions. -/
import Derived.Test.YtlmcdgbjbamdnaaTxA
import Derived.Test.YtlmcdgbjbamdnaaTxH
import Derived.Test.YtlmcdgbjbamdnaaMdLo
set_option linter.unusedVariables false
set_option linter.unusedSimpArgs false
namespace Go.Proofs.Ytlmcdgbjbamdnaa
open Go.ChangeShapes Go.WideShapes Go.ChangeAt Go.RowKit Go.Sym Go.Sym.Md

set_option maxRecDepth 100000 in
theorem keyringNobody_lifted (os : Os) (started : os.Started) (H : Type) (enc : TypeId × Value → H) :
    ReturnsInHanded {} Try.checked os 16 .any (Rows.keyringNobodySpec.pre6 enc Try.prog Try.f16 Rows.keyringNobodyRow.domain false) (Rows.keyringNobodySpec.post enc Try.prog Try.f16 false true false false) := by
  refine returnsInHanded_of_change (C := Try.checked) Try.own started (by kernel_rfl) Try.func16
    (ChangeSpec.witness6 (enc := enc) (C := Try.checked) false ⟨#[], #[.int .i64 0], []⟩ 8 (by kernel_rfl) (by kernel_rfl) (by kernel_rfl) (by kernel_rfl)) ?_
  intro W base args ds gs before hval0 hW hcnd _
  have hval : ∀ (j : Nat) t v, Try.f16.params[j]? = some t → args[j]? = some v → Value.okWide Try.prog W .any base t v := hval0
  have hW' := hW
  obtain ⟨p, q, hA0, hV, rfl, hfz, hnd⟩ := hW
  have hA : DataW.TrodAll enc Try.prog W 0 (fun _ => true) true Try.f16.params.toList args.toList ds p := hA0
  rw [Try.params16] at hA hval
  obtain ⟨v0, d0, rfl, rfl, h0⟩ := trodAll_one hA
  obtain ⟨rfl, rfl⟩ := trodVars_none hV
  obtain ⟨g0, r0, k0⟩ := rd_leaf tok (n := 6) (by kernel_rfl) (by kernel_rfl) (hval 0 3 v0 rfl rfl) h0
  obtain ⟨x0, a0, b0, e0⟩ := r0
  rw [e0] at k0
  have hm : Calls Try.prog 16 #[v0] W (fun e W' => e = .returned (.bool true) ∧ Below W.heap.size W W') := by
    exact SCalls.law (c16 x0) (vals := [v0]) ⟨k0, trivial⟩
  refine hm.mono fun e W' ⟨he, hb'⟩ => ?_
  exact ⟨_, he, law_post (bt := 4) rfl Try.laidOut (params_ok (by kernel_rfl)) rfl Try.underlying4 hW' rfl rfl rfl hb'⟩

set_option maxRecDepth 100000 in
theorem keyringNobody_in : (Rows.keyringNobodyRow.inPlace == Try.prog.inPlace 16) = true := by kernel_rfl
set_option maxRecDepth 100000 in
theorem keyringNobody_un : (Rows.keyringNobodyRow.unfollowed == Try.prog.unfollowed 16) = true := by kernel_rfl
set_option maxRecDepth 100000 in
theorem keyringNobody_re : (Rows.keyringNobodyRow.recurses == Try.prog.recurses 16) = true := by kernel_rfl
set_option maxRecDepth 100000 in
theorem keyringNobody_na : (Rows.keyringNobodyRow.named == Try.prog.varsNamed 16) = true := by kernel_rfl
set_option maxRecDepth 100000 in
theorem keyringNobody_closed : joinedFacts Try.prog 16 Try.f16 Rows.keyringNobodySpec Rows.keyringNobodyRow = true :=
  facts_of _ Try.laidOut Try.fMaps Try.fStops Try.fKnobs Try.fHeard Try.fPlain Try.fMay Try.fLift Try.fMake (by kernel_rfl) (by kernel_rfl) keyringNobody_in keyringNobody_un keyringNobody_re keyringNobody_na (by kernel_rfl) (by kernel_rfl) (by kernel_rfl) (by kernel_rfl)

theorem keyringNobody_holds : Rows.KeyringNobodySaid :=
  OpenClaim.holds_of_wide 16 Try.f16 rfl rfl rfl rfl rfl rfl rfl ⟨rfl, rfl, rfl, rfl, rfl⟩ rfl rfl rfl rfl rfl (by kernel_rfl) Try.func16 keyringNobody_closed
    (of_decide_eq_true (by kernel_rfl)) (by unfold Func.isWrapper; first | (rw [if_pos (by decide +kernel)]; kernel_rfl) | (rw [if_neg (by decide +kernel)]; exact ⟨rfl, rfl⟩))
    (fun os started H enc _ => keyringNobody_lifted os started H enc)

end Go.Proofs.Ytlmcdgbjbamdnaa
