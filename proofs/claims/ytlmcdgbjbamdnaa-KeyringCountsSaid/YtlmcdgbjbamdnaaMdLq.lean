/- The statement Rows.KeyringCountsSaid is proved, without conditions. -/
import Derived.Test.YtlmcdgbjbamdnaaTxA
import Derived.Test.YtlmcdgbjbamdnaaTxH
import Derived.Test.YtlmcdgbjbamdnaaMdLo
set_option linter.unusedVariables false
set_option linter.unusedSimpArgs false
namespace Go.Proofs.Ytlmcdgbjbamdnaa
open Go.ChangeShapes Go.WideShapes Go.ChangeAt Go.RowKit Go.Sym Go.Sym.Md

set_option maxRecDepth 100000 in
theorem keyringCounts_lifted (os : Os) (started : os.Started) (H : Type) (enc : TypeId × Value → H) :
    ReturnsInHanded {} Try.checked os 15 .any (Rows.keyringCountsSpec.pre6 enc Try.prog Try.f15 Rows.keyringCountsRow.domain false) (Rows.keyringCountsSpec.post enc Try.prog Try.f15 false true false false) := by
  refine returnsInHanded_of_change (C := Try.checked) Try.own started (by kernel_rfl) Try.func15
    (ChangeSpec.witness6 (enc := enc) (C := Try.checked) false ⟨#[], #[.slice none 0 0], []⟩ 8 (by kernel_rfl) (by kernel_rfl) (by kernel_rfl) (by kernel_rfl)) ?_
  intro W base args ds gs before hval0 hW hcnd _
  have hval : ∀ (j : Nat) t v, Try.f15.params[j]? = some t → args[j]? = some v → Value.okWide Try.prog W .any base t v := hval0
  have hW' := hW
  obtain ⟨p, q, hA0, hV, rfl, hfz, hnd⟩ := hW
  have hA : DataW.TrodAll enc Try.prog W 0 (fun _ => true) true Try.f15.params.toList args.toList ds p := hA0
  rw [Try.params15] at hA hval
  obtain ⟨v0, d0, rfl, rfl, h0⟩ := trodAll_one hA
  obtain ⟨rfl, rfl⟩ := trodVars_none hV
  obtain ⟨g0, r0, k0⟩ := rd_leaf tok (n := 6) (by kernel_rfl) (by kernel_rfl) (hval 0 41 v0 rfl rfl) h0
  obtain ⟨x0, a0, k0⟩ := rd_rob r0 k0
  have hm : Calls Try.prog 15 #[v0] W (fun e W' => e = .returned (.bool true) ∧ Below W.heap.size W W') := by
    exact SCalls.law (c15 x0 a0) (vals := [v0]) ⟨k0, trivial⟩
  refine hm.mono fun e W' ⟨he, hb'⟩ => ?_
  exact ⟨_, he, law_post (bt := 4) rfl Try.laidOut (params_ok (by kernel_rfl)) rfl Try.underlying4 hW' rfl rfl rfl hb'⟩

set_option maxRecDepth 100000 in
theorem keyringCounts_in : (Rows.keyringCountsRow.inPlace == Try.prog.inPlace 15) = true := by kernel_rfl
set_option maxRecDepth 100000 in
theorem keyringCounts_un : (Rows.keyringCountsRow.unfollowed == Try.prog.unfollowed 15) = true := by kernel_rfl
set_option maxRecDepth 100000 in
theorem keyringCounts_re : (Rows.keyringCountsRow.recurses == Try.prog.recurses 15) = true := by kernel_rfl
set_option maxRecDepth 100000 in
theorem keyringCounts_na : (Rows.keyringCountsRow.named == Try.prog.varsNamed 15) = true := by kernel_rfl
set_option maxRecDepth 100000 in
theorem keyringCounts_closed : joinedFacts Try.prog 15 Try.f15 Rows.keyringCountsSpec Rows.keyringCountsRow = true :=
  facts_of _ Try.laidOut Try.fMaps Try.fStops Try.fKnobs Try.fHeard Try.fPlain Try.fMay Try.fLift Try.fMake (by kernel_rfl) (by kernel_rfl) keyringCounts_in keyringCounts_un keyringCounts_re keyringCounts_na (by kernel_rfl) (by kernel_rfl) (by kernel_rfl) (by kernel_rfl)

theorem keyringCounts_holds : Rows.KeyringCountsSaid :=
  OpenClaim.holds_of_wide 15 Try.f15 rfl rfl rfl rfl rfl rfl rfl ⟨rfl, rfl, rfl, rfl, rfl⟩ rfl rfl rfl rfl rfl (by kernel_rfl) Try.func15 keyringCounts_closed
    (of_decide_eq_true (by kernel_rfl)) (by unfold Func.isWrapper; first | (rw [if_pos (by decide +kernel)]; kernel_rfl) | (rw [if_neg (by decide +kernel)]; exact ⟨rfl, rfl⟩))
    (fun os started H enc _ => keyringCounts_lifted os started H enc)

end Go.Proofs.Ytlmcdgbjbamdnaa
