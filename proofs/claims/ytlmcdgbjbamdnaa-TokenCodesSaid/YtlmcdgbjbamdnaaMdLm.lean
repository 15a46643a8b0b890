/- The statement Rows.TokenCodesSaid is proved, without conditions. -/
import Derived.Test.YtlmcdgbjbamdnaaMdTx
import Derived.Test.YtlmcdgbjbamdnaaMdTy
import Derived.Test.YtlmcdgbjbamdnaaMdLo
set_option linter.unusedVariables false
set_option linter.unusedSimpArgs false
namespace Go.Proofs.Ytlmcdgbjbamdnaa
open Go.ChangeShapes Go.WideShapes Go.ChangeAt Go.RowKit Go.Sym Go.Sym.Md

set_option maxRecDepth 100000 in
theorem tokenCodes_lifted (os : Os) (started : os.Started) (H : Type) (enc : TypeId × Value → H) :
    ReturnsInHanded {} Try.checked os 24 .any (Rows.tokenCodesSpec.pre6 enc Try.prog Try.f24 Rows.tokenCodesRow.domain false) (Rows.tokenCodesSpec.post enc Try.prog Try.f24 false true false false) := by
  refine returnsInHanded_of_change (C := Try.checked) Try.own started (by kernel_rfl) Try.func24
    (ChangeSpec.witness6 (enc := enc) (C := Try.checked) false ⟨#[], #[.agg #[.int .i64 0, .int .i64 0, .int .i64 0, .slice none 0 0, .string ⟨#[]⟩], .slice none 0 0], []⟩ 8 (by kernel_rfl) (by kernel_rfl) (by kernel_rfl) (by kernel_rfl)) ?_
  intro W base args ds gs before hval0 hW hcnd _
  have hval : ∀ (j : Nat) t v, Try.f24.params[j]? = some t → args[j]? = some v → Value.okWide Try.prog W .any base t v := hval0
  have hW' := hW
  obtain ⟨p, q, hA0, hV, rfl, hfz, hnd⟩ := hW
  have hA : DataW.TrodAll enc Try.prog W 0 (fun _ => true) true Try.f24.params.toList args.toList ds p := hA0
  rw [Try.params24] at hA hval
  obtain ⟨v0, v1, d0, d1, p0, p1, rfl, rfl, rfl, h0, h1⟩ := trodAll_two hA
  obtain ⟨rfl, rfl⟩ := trodVars_none hV
  obtain ⟨g0, r0, k0⟩ := rd_agg tok (n := 6) (by kernel_rfl) (by kernel_rfl) (hval 0 52 v0 rfl rfl) h0
  obtain ⟨g1, r1, k1⟩ := rd_leaf tok (n := 6) (by kernel_rfl) (by kernel_rfl) (hval 1 41 v1 rfl rfl) h1
  have hm : Calls Try.prog 24 #[v0, v1] W (fun e W' => e = .returned (.bool true) ∧ Below W.heap.size W W') := by
    obtain ⟨t, ht, hg, k0⟩ := rd_token r0 k0
    rcases r1 with e | ⟨xs, hl, e⟩
    · rw [e] at k1
      exact SCalls.law (c24n t [] ht (by simp) rfl) (vals := [v0, v1]) ⟨k0, k1, trivial⟩
    · rw [e] at k1
      exact SCalls.law (c24 t xs ht hl) (vals := [v0, v1]) ⟨k0, k1, trivial⟩
  refine hm.mono fun e W' ⟨he, hb'⟩ => ?_
  exact ⟨_, he, law_post (bt := 4) rfl Try.laidOut (params_ok (by kernel_rfl)) rfl Try.underlying4 hW' rfl rfl rfl hb'⟩

set_option maxRecDepth 100000 in
theorem tokenCodes_in : (Rows.tokenCodesRow.inPlace == Try.prog.inPlace 24) = true := by kernel_rfl
set_option maxRecDepth 100000 in
theorem tokenCodes_un : (Rows.tokenCodesRow.unfollowed == Try.prog.unfollowed 24) = true := by kernel_rfl
set_option maxRecDepth 100000 in
theorem tokenCodes_re : (Rows.tokenCodesRow.recurses == Try.prog.recurses 24) = true := by kernel_rfl
set_option maxRecDepth 100000 in
theorem tokenCodes_na : (Rows.tokenCodesRow.named == Try.prog.varsNamed 24) = true := by kernel_rfl
set_option maxRecDepth 100000 in
theorem tokenCodes_closed : joinedFacts Try.prog 24 Try.f24 Rows.tokenCodesSpec Rows.tokenCodesRow = true :=
  facts_of _ Try.laidOut Try.fMaps Try.fStops Try.fKnobs Try.fHeard Try.fPlain Try.fMay Try.fLift Try.fMake (by kernel_rfl) (by kernel_rfl) tokenCodes_in tokenCodes_un tokenCodes_re tokenCodes_na (by kernel_rfl) (by kernel_rfl) (by kernel_rfl) (by kernel_rfl)

theorem tokenCodes_holds : Rows.TokenCodesSaid :=
  OpenClaim.holds_of_wide 24 Try.f24 rfl rfl rfl rfl rfl rfl rfl ⟨rfl, rfl, rfl, rfl, rfl⟩ rfl rfl rfl rfl rfl (by kernel_rfl) Try.func24 tokenCodes_closed
    (of_decide_eq_true (by kernel_rfl)) (by unfold Func.isWrapper; first | (rw [if_pos (by decide +kernel)]; kernel_rfl) | (rw [if_neg (by decide +kernel)]; exact ⟨rfl, rfl⟩))
    (fun os started H enc _ => tokenCodes_lifted os started H enc)

end Go.Proofs.Ytlmcdgbjbamdnaa
