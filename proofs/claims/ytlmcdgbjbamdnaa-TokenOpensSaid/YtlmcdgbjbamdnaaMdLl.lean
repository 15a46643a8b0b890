/- The statement Rows.TokenOpensSaid is proved, without conditions. -/
import Derived.Test.YtlmcdgbjbamdnaaMdTx
import Derived.Test.YtlmcdgbjbamdnaaMdLo
set_option linter.unusedVariables false
set_option linter.unusedSimpArgs false
namespace Go.Proofs.Ytlmcdgbjbamdnaa
open Go.ChangeShapes Go.WideShapes Go.ChangeAt Go.RowKit Go.Sym Go.Sym.Md

set_option maxRecDepth 100000 in
theorem tokenOpens_lifted (os : Os) (started : os.Started) (H : Type) (enc : TypeId × Value → H) :
    ReturnsInHanded {} Try.checked os 21 .any (Rows.tokenOpensSpec.pre6 enc Try.prog Try.f21 Rows.tokenOpensRow.domain false) (Rows.tokenOpensSpec.post enc Try.prog Try.f21 false true false false) := by
  refine returnsInHanded_of_change (C := Try.checked) Try.own started (by kernel_rfl) Try.func21
    (ChangeSpec.witness6 (enc := enc) (C := Try.checked) false ⟨#[], #[.string ⟨#[]⟩, .agg #[.int .i64 0, .int .i64 0, .int .i64 0, .slice none 0 0, .string ⟨#[]⟩], .agg #[.int .i64 0, .int .i64 0, .int .i64 0, .slice none 0 0, .string ⟨#[]⟩]], []⟩ 8 (by kernel_rfl) (by kernel_rfl) (by kernel_rfl) (by kernel_rfl)) ?_
  intro W base args ds gs before hval0 hW hcnd _
  have hval : ∀ (j : Nat) t v, Try.f21.params[j]? = some t → args[j]? = some v → Value.okWide Try.prog W .any base t v := hval0
  have hW' := hW
  obtain ⟨p, q, hA0, hV, rfl, hfz, hnd⟩ := hW
  have hA : DataW.TrodAll enc Try.prog W 0 (fun _ => true) true Try.f21.params.toList args.toList ds p := hA0
  rw [Try.params21] at hA hval
  obtain ⟨v0, v1, v2, d0, d1, d2, p0, p1, p2, rfl, rfl, rfl, h0, h1, h2⟩ := trodAll_three hA
  obtain ⟨rfl, rfl⟩ := trodVars_none hV
  obtain ⟨g0, r0, k0⟩ := rd_leaf tok (n := 6) (by kernel_rfl) (by kernel_rfl) (hval 0 9 v0 rfl rfl) h0
  obtain ⟨x0, a0, e0⟩ := r0
  rw [e0] at k0
  obtain ⟨g1, r1, k1⟩ := rd_agg tok (n := 6) (by kernel_rfl) (by kernel_rfl) (hval 1 52 v1 rfl rfl) h1
  obtain ⟨g2, r2, k2⟩ := rd_agg tok (n := 6) (by kernel_rfl) (by kernel_rfl) (hval 2 52 v2 rfl rfl) h2
  have hm : Calls Try.prog 21 #[v0, v1, v2] W (fun e W' => e = .returned (.bool true) ∧ Below W.heap.size W W') := by
    obtain ⟨t, ht, hg, k1⟩ := rd_token r1 k1
    obtain ⟨u, hu, hug, k2⟩ := rd_token r2 k2
    exact SCalls.law (c21 x0 t u ht hg hu) (vals := [v0, v1, v2]) ⟨k0, k1, k2, trivial⟩
  refine hm.mono fun e W' ⟨he, hb'⟩ => ?_
  exact ⟨_, he, law_post (bt := 4) rfl Try.laidOut (params_ok (by kernel_rfl)) rfl Try.underlying4 hW' rfl rfl rfl hb'⟩

set_option maxRecDepth 100000 in
theorem tokenOpens_in : (Rows.tokenOpensRow.inPlace == Try.prog.inPlace 21) = true := by kernel_rfl
set_option maxRecDepth 100000 in
theorem tokenOpens_un : (Rows.tokenOpensRow.unfollowed == Try.prog.unfollowed 21) = true := by kernel_rfl
set_option maxRecDepth 100000 in
theorem tokenOpens_re : (Rows.tokenOpensRow.recurses == Try.prog.recurses 21) = true := by kernel_rfl
set_option maxRecDepth 100000 in
theorem tokenOpens_na : (Rows.tokenOpensRow.named == Try.prog.varsNamed 21) = true := by kernel_rfl
set_option maxRecDepth 100000 in
theorem tokenOpens_closed : joinedFacts Try.prog 21 Try.f21 Rows.tokenOpensSpec Rows.tokenOpensRow = true :=
  facts_of _ Try.laidOut Try.fMaps Try.fStops Try.fKnobs Try.fHeard Try.fPlain Try.fMay Try.fLift Try.fMake (by kernel_rfl) (by kernel_rfl) tokenOpens_in tokenOpens_un tokenOpens_re tokenOpens_na (by kernel_rfl) (by kernel_rfl) (by kernel_rfl) (by kernel_rfl)

theorem tokenOpens_holds : Rows.TokenOpensSaid :=
  OpenClaim.holds_of_wide 21 Try.f21 rfl rfl rfl rfl rfl rfl rfl ⟨rfl, rfl, rfl, rfl, rfl⟩ rfl rfl rfl rfl rfl (by kernel_rfl) Try.func21 tokenOpens_closed
    (of_decide_eq_true (by kernel_rfl)) (by unfold Func.isWrapper; first | (rw [if_pos (by decide +kernel)]; kernel_rfl) | (rw [if_neg (by decide +kernel)]; exact ⟨rfl, rfl⟩))
    (fun os started H enc _ => tokenOpens_lifted os started H enc)

end Go.Proofs.Ytlmcdgbjbamdnaa
