/- The statement Rows.CommandCodesSaid is proved, without conditions. -/
import Derived.Test.YtlmcdgbjbamdnaaTxA
import Derived.Test.YtlmcdgbjbamdnaaTxG
import Derived.Test.YtlmcdgbjbamdnaaTxI
import Derived.Test.YtlmcdgbjbamdnaaMdLo
set_option linter.unusedVariables false
set_option linter.unusedSimpArgs false
namespace Go.Proofs.Ytlmcdgbjbamdnaa
open Go.ChangeShapes Go.WideShapes Go.ChangeAt Go.RowKit Go.Sym Go.Sym.Md

set_option maxRecDepth 100000 in
theorem commandCodes_lifted (os : Os) (started : os.Started) (H : Type) (enc : TypeId × Value → H) :
    ReturnsInHanded {} Try.checked os 22 .any (Rows.commandCodesSpec.pre6 enc Try.prog Try.f22 Rows.commandCodesRow.domain false) (Rows.commandCodesSpec.post enc Try.prog Try.f22 false true false false) := by
  refine returnsInHanded_of_change (C := Try.checked) Try.own started (by kernel_rfl) Try.func22
    (ChangeSpec.witness6 (enc := enc) (C := Try.checked) false ⟨#[], #[.agg #[.int .i64 0, .int .i64 0, .int .i64 0, .int .i64 0, .int .i64 0, .slice none 0 0, .string ⟨#[]⟩, .string ⟨#[]⟩, .int .i64 0, .int .i64 0, .int .i64 0, .slice none 0 0], .agg #[.int .i64 0, .int .i64 0, .int .i64 0, .int .i64 0, .int .i64 0, .slice none 0 0, .string ⟨#[]⟩, .string ⟨#[]⟩, .int .i64 0, .int .i64 0, .int .i64 0, .slice none 0 0], .slice none 0 0], []⟩ 8 (by kernel_rfl) (by kernel_rfl) (by kernel_rfl) (by kernel_rfl)) ?_
  intro W base args ds gs before hval0 hW hcnd _
  have hval : ∀ (j : Nat) t v, Try.f22.params[j]? = some t → args[j]? = some v → Value.okWide Try.prog W .any base t v := hval0
  have hW' := hW
  obtain ⟨p, q, hA0, hV, rfl, hfz, hnd⟩ := hW
  have hA : DataW.TrodAll enc Try.prog W 0 (fun _ => true) true Try.f22.params.toList args.toList ds p := hA0
  rw [Try.params22] at hA hval
  obtain ⟨v0, v1, v2, d0, d1, d2, p0, p1, p2, rfl, rfl, rfl, h0, h1, h2⟩ := trodAll_three hA
  obtain ⟨rfl, rfl⟩ := trodVars_none hV
  obtain ⟨g0, r0, k0⟩ := rd_agg tok (n := 6) (by kernel_rfl) (by kernel_rfl) (hval 0 60 v0 rfl rfl) h0
  obtain ⟨g1, r1, k1⟩ := rd_agg tok (n := 6) (by kernel_rfl) (by kernel_rfl) (hval 1 60 v1 rfl rfl) h1
  obtain ⟨g2, r2, k2⟩ := rd_leaf tok (n := 6) (by kernel_rfl) (by kernel_rfl) (hval 2 41 v2 rfl rfl) h2
  obtain ⟨x2, a2, k2⟩ := rd_rob r2 k2
  have hm : Calls Try.prog 22 #[v0, v1, v2] W (fun e W' => e = .returned (.bool true) ∧ Below W.heap.size W W') := by
    obtain ⟨c, hc, hp, _, _, k0⟩ := rd_command r0 k0
    obtain ⟨d, hd, _, _, _, k1⟩ := rd_command r1 k1
    exact SCalls.law (c22 c d x2 hc hp hd a2) (vals := [v0, v1, v2]) ⟨k0, k1, k2, trivial⟩
  refine hm.mono fun e W' ⟨he, hb'⟩ => ?_
  exact ⟨_, he, law_post (bt := 4) rfl Try.laidOut (params_ok (by kernel_rfl)) rfl Try.underlying4 hW' rfl rfl rfl hb'⟩

set_option maxRecDepth 100000 in
theorem commandCodes_in : (Rows.commandCodesRow.inPlace == Try.prog.inPlace 22) = true := by kernel_rfl
set_option maxRecDepth 100000 in
theorem commandCodes_un : (Rows.commandCodesRow.unfollowed == Try.prog.unfollowed 22) = true := by kernel_rfl
set_option maxRecDepth 100000 in
theorem commandCodes_re : (Rows.commandCodesRow.recurses == Try.prog.recurses 22) = true := by kernel_rfl
set_option maxRecDepth 100000 in
theorem commandCodes_na : (Rows.commandCodesRow.named == Try.prog.varsNamed 22) = true := by kernel_rfl
set_option maxRecDepth 100000 in
theorem commandCodes_closed : joinedFacts Try.prog 22 Try.f22 Rows.commandCodesSpec Rows.commandCodesRow = true :=
  facts_of _ Try.laidOut Try.fMaps Try.fStops Try.fKnobs Try.fHeard Try.fPlain Try.fMay Try.fLift Try.fMake (by kernel_rfl) (by kernel_rfl) commandCodes_in commandCodes_un commandCodes_re commandCodes_na (by kernel_rfl) (by kernel_rfl) (by kernel_rfl) (by kernel_rfl)

theorem commandCodes_holds : Rows.CommandCodesSaid :=
  OpenClaim.holds_of_wide 22 Try.f22 rfl rfl rfl rfl rfl rfl rfl ⟨rfl, rfl, rfl, rfl, rfl⟩ rfl rfl rfl rfl rfl (by kernel_rfl) Try.func22 commandCodes_closed
    (of_decide_eq_true (by kernel_rfl)) (by unfold Func.isWrapper; first | (rw [if_pos (by decide +kernel)]; kernel_rfl) | (rw [if_neg (by decide +kernel)]; exact ⟨rfl, rfl⟩))
    (fun os started H enc _ => commandCodes_lifted os started H enc)

end Go.Proofs.Ytlmcdgbjbamdnaa
