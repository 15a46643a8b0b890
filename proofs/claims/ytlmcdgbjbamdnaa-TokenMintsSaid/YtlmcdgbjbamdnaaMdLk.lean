/- The statement Rows.TokenMintsSaid is proved, without conditions. -/
import Derived.Test.YtlmcdgbjbamdnaaMdTx
import Derived.Test.YtlmcdgbjbamdnaaMdLo
set_option linter.unusedVariables false
set_option linter.unusedSimpArgs false
namespace Go.Proofs.Ytlmcdgbjbamdnaa
open Go.ChangeShapes Go.WideShapes Go.ChangeAt Go.RowKit Go.Sym Go.Sym.Md

set_option maxRecDepth 100000 in
theorem tokenMints_lifted (os : Os) (started : os.Started) (H : Type) (enc : TypeId × Value → H) :
    ReturnsInHanded {} Try.checked os 20 .any (Rows.tokenMintsSpec.pre6 enc Try.prog Try.f20 Rows.tokenMintsRow.domain false) (Rows.tokenMintsSpec.post enc Try.prog Try.f20 false true false false) := by
  refine returnsInHanded_of_change (C := Try.checked) Try.own started (by kernel_rfl) Try.func20
    (ChangeSpec.witness6 (enc := enc) (C := Try.checked) false ⟨#[], #[.string ⟨#[]⟩, .int .i64 0, .int .i64 0, .int .i64 0], []⟩ 8 (by kernel_rfl) (by kernel_rfl) (by kernel_rfl) (by kernel_rfl)) ?_
  intro W base args ds gs before hval0 hW hcnd _
  have hval : ∀ (j : Nat) t v, Try.f20.params[j]? = some t → args[j]? = some v → Value.okWide Try.prog W .any base t v := hval0
  have hW' := hW
  obtain ⟨p, q, hA0, hV, rfl, hfz, hnd⟩ := hW
  have hA : DataW.TrodAll enc Try.prog W 0 (fun _ => true) true Try.f20.params.toList args.toList ds p := hA0
  rw [Try.params20] at hA hval
  obtain ⟨v0, v1, v2, v3, d0, d1, d2, d3, p0, p1, p2, p3, rfl, rfl, rfl, h0, h1, h2, h3⟩ := trodAll_four hA
  obtain ⟨rfl, rfl⟩ := trodVars_none hV
  obtain ⟨g0, r0, k0⟩ := rd_leaf tok (n := 6) (by kernel_rfl) (by kernel_rfl) (hval 0 9 v0 rfl rfl) h0
  obtain ⟨x0, a0, e0⟩ := r0
  rw [e0] at k0
  obtain ⟨g1, r1, k1⟩ := rd_leaf tok (n := 6) (by kernel_rfl) (by kernel_rfl) (hval 1 3 v1 rfl rfl) h1
  obtain ⟨x1, a1, b1, e1⟩ := r1
  rw [e1] at k1
  obtain ⟨g2, r2, k2⟩ := rd_leaf tok (n := 6) (by kernel_rfl) (by kernel_rfl) (hval 2 3 v2 rfl rfl) h2
  obtain ⟨x2, a2, b2, e2⟩ := r2
  rw [e2] at k2
  obtain ⟨g3, r3, k3⟩ := rd_leaf tok (n := 6) (by kernel_rfl) (by kernel_rfl) (hval 3 3 v3 rfl rfl) h3
  obtain ⟨x3, a3, b3, e3⟩ := r3
  rw [e3] at k3
  have hm : Calls Try.prog 20 #[v0, v1, v2, v3] W (fun e W' => e = .returned (.bool true) ∧ Below W.heap.size W W') := by
    exact SCalls.law (c20 x0 x1 x2 x3 b1 b2 b3) (vals := [v0, v1, v2, v3]) ⟨k0, k1, k2, k3, trivial⟩
  refine hm.mono fun e W' ⟨he, hb'⟩ => ?_
  exact ⟨_, he, law_post (bt := 4) rfl Try.laidOut (params_ok (by kernel_rfl)) rfl Try.underlying4 hW' rfl rfl rfl hb'⟩

set_option maxRecDepth 100000 in
theorem tokenMints_in : (Rows.tokenMintsRow.inPlace == Try.prog.inPlace 20) = true := by kernel_rfl
set_option maxRecDepth 100000 in
theorem tokenMints_un : (Rows.tokenMintsRow.unfollowed == Try.prog.unfollowed 20) = true := by kernel_rfl
set_option maxRecDepth 100000 in
theorem tokenMints_re : (Rows.tokenMintsRow.recurses == Try.prog.recurses 20) = true := by kernel_rfl
set_option maxRecDepth 100000 in
theorem tokenMints_na : (Rows.tokenMintsRow.named == Try.prog.varsNamed 20) = true := by kernel_rfl
set_option maxRecDepth 100000 in
theorem tokenMints_closed : joinedFacts Try.prog 20 Try.f20 Rows.tokenMintsSpec Rows.tokenMintsRow = true :=
  facts_of _ Try.laidOut Try.fMaps Try.fStops Try.fKnobs Try.fHeard Try.fPlain Try.fMay Try.fLift Try.fMake (by kernel_rfl) (by kernel_rfl) tokenMints_in tokenMints_un tokenMints_re tokenMints_na (by kernel_rfl) (by kernel_rfl) (by kernel_rfl) (by kernel_rfl)

theorem tokenMints_holds : Rows.TokenMintsSaid :=
  OpenClaim.holds_of_wide 20 Try.f20 rfl rfl rfl rfl rfl rfl rfl ⟨rfl, rfl, rfl, rfl, rfl⟩ rfl rfl rfl rfl rfl (by kernel_rfl) Try.func20 tokenMints_closed
    (of_decide_eq_true (by kernel_rfl)) (by unfold Func.isWrapper; first | (rw [if_pos (by decide +kernel)]; kernel_rfl) | (rw [if_neg (by decide +kernel)]; exact ⟨rfl, rfl⟩))
    (fun os started H enc _ => tokenMints_lifted os started H enc)

end Go.Proofs.Ytlmcdgbjbamdnaa
