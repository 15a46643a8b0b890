/- The statement Rows.KeyringTextsSaid is proved, without conditions. -/
import Derived.Test.YtlmcdgbjbamdnaaTxA
import Derived.Test.YtlmcdgbjbamdnaaFw7
import Derived.Test.YtlmcdgbjbamdnaaTxH
import Derived.Test.YtlmcdgbjbamdnaaMdLo
set_option linter.unusedVariables false
set_option linter.unusedSimpArgs false
namespace Go.Proofs.Ytlmcdgbjbamdnaa
open Go.ChangeShapes Go.WideShapes Go.ChangeAt Go.RowKit Go.Sym Go.Sym.Md

set_option maxRecDepth 100000 in
theorem keyringTexts_lifted (os : Os) (started : os.Started) (H : Type) (enc : TypeId × Value → H) :
    ReturnsInHanded {} Try.checked os 17 .any (Rows.keyringTextsSpec.pre6 enc Try.prog Try.f17 Rows.keyringTextsRow.domain false) (Rows.keyringTextsSpec.post enc Try.prog Try.f17 false true false false) := by
  refine returnsInHanded_of_change (C := Try.checked) Try.own started (by kernel_rfl) Try.func17
    (ChangeSpec.witness6 (enc := enc) (C := Try.checked) false ⟨#[], #[.int .i64 0, .int .i64 0, .int .i64 0, .int .i64 0, .int .i64 0, .string ⟨#[]⟩], []⟩ 8 (by kernel_rfl) (by kernel_rfl) (by kernel_rfl) (by kernel_rfl)) ?_
  intro W base args ds gs before hval0 hW hcnd _
  have hval : ∀ (j : Nat) t v, Try.f17.params[j]? = some t → args[j]? = some v → Value.okWide Try.prog W .any base t v := hval0
  have hW' := hW
  obtain ⟨p, q, hA0, hV, rfl, hfz, hnd⟩ := hW
  have hA : DataW.TrodAll enc Try.prog W 0 (fun _ => true) true Try.f17.params.toList args.toList ds p := hA0
  rw [Try.params17] at hA hval
  obtain ⟨v0, v1, v2, v3, v4, v5, d0, d1, d2, d3, d4, d5, p0, p1, p2, p3, p4, p5, rfl, rfl, rfl, h0, h1, h2, h3, h4, h5⟩ := trodAll_six hA
  obtain ⟨rfl, rfl⟩ := trodVars_none hV
  obtain ⟨g0, r0, k0⟩ := rd_leaf tok (n := 6) (by kernel_rfl) (by kernel_rfl) (hval 0 3 v0 rfl rfl) h0
  obtain ⟨x0, a0, b0, e0⟩ := r0
  rw [e0] at k0
  obtain ⟨g1, r1, k1⟩ := rd_leaf tok (n := 6) (by kernel_rfl) (by kernel_rfl) (hval 1 3 v1 rfl rfl) h1
  obtain ⟨x1, a1, b1, e1⟩ := r1
  rw [e1] at k1
  obtain ⟨g2, r2, k2⟩ := rd_leaf tok (n := 6) (by kernel_rfl) (by kernel_rfl) (hval 2 3 v2 rfl rfl) h2
  obtain ⟨x2, a2, b2, e2⟩ := r2
  rw [e2] at k2
  obtain ⟨g3, r3, k3⟩ := rd_leaf tok (n := 6) (by kernel_rfl) (by kernel_rfl) (hval 3 3 v3 rfl rfl) h3
  obtain ⟨x3, a3, b3, e3⟩ := r3
  rw [e3] at k3
  obtain ⟨g4, r4, k4⟩ := rd_leaf tok (n := 6) (by kernel_rfl) (by kernel_rfl) (hval 4 3 v4 rfl rfl) h4
  obtain ⟨x4, a4, b4, e4⟩ := r4
  rw [e4] at k4
  obtain ⟨g5, r5, k5⟩ := rd_leaf tok (n := 6) (by kernel_rfl) (by kernel_rfl) (hval 5 9 v5 rfl rfl) h5
  obtain ⟨x5, a5, e5⟩ := r5
  rw [e5] at k5
  have hm : Calls Try.prog 17 #[v0, v1, v2, v3, v4, v5] W (fun e W' => e = .returned (.bool true) ∧ Below W.heap.size W W') := by
    exact SCalls.law (c17 x0 x1 x2 x3 x4 x5 b0 b1 b2 b3 b4) (vals := [v0, v1, v2, v3, v4, v5]) ⟨k0, k1, k2, k3, k4, k5, trivial⟩
  refine hm.mono fun e W' ⟨he, hb'⟩ => ?_
  exact ⟨_, he, law_post (bt := 4) rfl Try.laidOut (params_ok (by kernel_rfl)) rfl Try.underlying4 hW' rfl rfl rfl hb'⟩

set_option maxRecDepth 100000 in
theorem keyringTexts_in : (Rows.keyringTextsRow.inPlace == Try.prog.inPlace 17) = true := by kernel_rfl
set_option maxRecDepth 100000 in
theorem keyringTexts_un : (Rows.keyringTextsRow.unfollowed == Try.prog.unfollowed 17) = true := by kernel_rfl
set_option maxRecDepth 100000 in
theorem keyringTexts_re : (Rows.keyringTextsRow.recurses == Try.prog.recurses 17) = true := by kernel_rfl
set_option maxRecDepth 100000 in
theorem keyringTexts_na : (Rows.keyringTextsRow.named == Try.prog.varsNamed 17) = true := by kernel_rfl
set_option maxRecDepth 100000 in
theorem keyringTexts_closed : joinedFacts Try.prog 17 Try.f17 Rows.keyringTextsSpec Rows.keyringTextsRow = true :=
  facts_of _ Try.laidOut Try.fMaps Try.fStops Try.fKnobs Try.fHeard Try.fPlain Try.fMay Try.fLift Try.fMake (by kernel_rfl) (by kernel_rfl) keyringTexts_in keyringTexts_un keyringTexts_re keyringTexts_na (by kernel_rfl) (by kernel_rfl) (by kernel_rfl) (by kernel_rfl)

theorem keyringTexts_holds : Rows.KeyringTextsSaid :=
  OpenClaim.holds_of_wide 17 Try.f17 rfl rfl rfl rfl rfl rfl rfl ⟨rfl, rfl, rfl, rfl, rfl⟩ rfl rfl rfl rfl rfl (by kernel_rfl) Try.func17 keyringTexts_closed
    (of_decide_eq_true (by kernel_rfl)) (by unfold Func.isWrapper; first | (rw [if_pos (by decide +kernel)]; kernel_rfl) | (rw [if_neg (by decide +kernel)]; exact ⟨rfl, rfl⟩))
    (fun os started H enc _ => keyringTexts_lifted os started H enc)

end Go.Proofs.Ytlmcdgbjbamdnaa
