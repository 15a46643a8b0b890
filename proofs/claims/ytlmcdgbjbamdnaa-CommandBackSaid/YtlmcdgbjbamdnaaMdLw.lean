/- The statement Rows.CommandBackSaid is proved, without conditions. -/
import Derived.Test.YtlmcdgbjbamdnaaTxA
import Derived.Test.YtlmcdgbjbamdnaaTxE
import Derived.Test.YtlmcdgbjbamdnaaTxH
import Derived.Test.YtlmcdgbjbamdnaaMdLo
set_option linter.unusedVariables false
set_option linter.unusedSimpArgs false
namespace Go.Proofs.Ytlmcdgbjbamdnaa
open Go.ChangeShapes Go.WideShapes Go.ChangeAt Go.RowKit Go.Sym Go.Sym.Md

set_option maxRecDepth 100000 in
theorem commandBack_lifted (os : Os) (started : os.Started) (H : Type) (enc : TypeId × Value → H) :
    ReturnsInHanded {} Try.checked os 23 .any (Rows.commandBackSpec.pre6 enc Try.prog Try.f23 Rows.commandBackRow.domain false) (Rows.commandBackSpec.post enc Try.prog Try.f23 false true false false) := by
  refine returnsInHanded_of_change (C := Try.checked) Try.own started (by kernel_rfl) Try.func23
    (ChangeSpec.witness6 (enc := enc) (C := Try.checked) false ⟨#[], #[.agg #[.int .i64 0, .int .i64 0, .int .i64 0, .int .i64 0, .int .i64 0, .slice none 0 0, .string ⟨#[]⟩, .string ⟨#[]⟩, .int .i64 0, .int .i64 0, .int .i64 0, .slice none 0 0], .slice none 0 0], []⟩ 8 (by kernel_rfl) (by kernel_rfl) (by kernel_rfl) (by kernel_rfl)) ?_
  intro W base args ds gs before hval0 hW hcnd _
  have hval : ∀ (j : Nat) t v, Try.f23.params[j]? = some t → args[j]? = some v → Value.okWide Try.prog W .any base t v := hval0
  have hW' := hW
  obtain ⟨p, q, hA0, hV, rfl, hfz, hnd⟩ := hW
  have hA : DataW.TrodAll enc Try.prog W 0 (fun _ => true) true Try.f23.params.toList args.toList ds p := hA0
  rw [Try.params23] at hA hval
  obtain ⟨v0, v1, d0, d1, p0, p1, rfl, rfl, rfl, h0, h1⟩ := trodAll_two hA
  obtain ⟨rfl, rfl⟩ := trodVars_none hV
  obtain ⟨g0, r0, k0⟩ := rd_agg tok (n := 6) (by kernel_rfl) (by kernel_rfl) (hval 0 60 v0 rfl rfl) h0
  obtain ⟨g1, r1, k1⟩ := rd_leaf tok (n := 6) (by kernel_rfl) (by kernel_rfl) (hval 1 41 v1 rfl rfl) h1
  obtain ⟨x1, a1, k1⟩ := rd_rob r1 k1
  have hm : Calls Try.prog 23 #[v0, v1] W (fun e W' => e = .returned (.bool true) ∧ Below W.heap.size W W') := by
    obtain ⟨c, hc, hp, _, _, k0⟩ := rd_command r0 k0
    exact SCalls.law (c23 c x1 hc hp a1) (vals := [v0, v1]) ⟨k0, k1, trivial⟩
  refine hm.mono fun e W' ⟨he, hb'⟩ => ?_
  exact ⟨_, he, law_post (bt := 4) rfl Try.laidOut (params_ok (by kernel_rfl)) rfl Try.underlying4 hW' rfl rfl rfl hb'⟩

set_option maxRecDepth 100000 in
theorem commandBack_in : (Rows.commandBackRow.inPlace == Try.prog.inPlace 23) = true := by kernel_rfl
set_option maxRecDepth 100000 in
theorem commandBack_un : (Rows.commandBackRow.unfollowed == Try.prog.unfollowed 23) = true := by kernel_rfl
set_option maxRecDepth 100000 in
theorem commandBack_re : (Rows.commandBackRow.recurses == Try.prog.recurses 23) = true := by kernel_rfl
set_option maxRecDepth 100000 in
theorem commandBack_na : (Rows.commandBackRow.named == Try.prog.varsNamed 23) = true := by kernel_rfl
set_option maxRecDepth 100000 in
theorem commandBack_closed : joinedFacts Try.prog 23 Try.f23 Rows.commandBackSpec Rows.commandBackRow = true :=
  facts_of _ Try.laidOut Try.fMaps Try.fStops Try.fKnobs Try.fHeard Try.fPlain Try.fMay Try.fLift Try.fMake (by kernel_rfl) (by kernel_rfl) commandBack_in commandBack_un commandBack_re commandBack_na (by kernel_rfl) (by kernel_rfl) (by kernel_rfl) (by kernel_rfl)

theorem commandBack_holds : Rows.CommandBackSaid :=
  OpenClaim.holds_of_wide 23 Try.f23 rfl rfl rfl rfl rfl rfl rfl ⟨rfl, rfl, rfl, rfl, rfl⟩ rfl rfl rfl rfl rfl (by kernel_rfl) Try.func23 commandBack_closed
    (of_decide_eq_true (by kernel_rfl)) (by unfold Func.isWrapper; first | (rw [if_pos (by decide +kernel)]; kernel_rfl) | (rw [if_neg (by decide +kernel)]; exact ⟨rfl, rfl⟩))
    (fun os started H enc _ => commandBack_lifted os started H enc)

end Go.Proofs.Ytlmcdgbjbamdnaa
