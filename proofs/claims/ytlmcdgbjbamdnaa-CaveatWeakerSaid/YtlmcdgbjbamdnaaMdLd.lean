/- The statement Rows.CaveatWeakerSaid is proved, without conditions. -/
import Derived.Test.YtlmcdgbjbamdnaaMdW
import Derived.Test.YtlmcdgbjbamdnaaMdX
import Derived.Test.YtlmcdgbjbamdnaaMdLo
set_option linter.unusedVariables false
set_option linter.unusedSimpArgs false
namespace Go.Proofs.Ytlmcdgbjbamdnaa
open Go.ChangeShapes Go.WideShapes Go.ChangeAt Go.RowKit Go.Sym Go.Sym.Md

set_option maxRecDepth 100000 in
theorem caveatWeaker_lifted (os : Os) (started : os.Started) (H : Type) (enc : TypeId × Value → H) :
    ReturnsInHanded {} Try.checked os 6 .any (Rows.caveatWeakerSpec.pre6 enc Try.prog Try.f6 Rows.caveatWeakerRow.domain false) (Rows.caveatWeakerSpec.post enc Try.prog Try.f6 false true false false) := by
  refine returnsInHanded_of_change (C := Try.checked) Try.own started (by kernel_rfl) Try.func6
    (ChangeSpec.witness6 (enc := enc) (C := Try.checked) false ⟨#[], #[.slice none 0 0, .agg #[.int .i64 0, .int .i64 0, .string ⟨#[]⟩], .agg #[.int .i64 0, .int .i64 0, .int .i64 0, .int .i64 0, .string ⟨#[]⟩, .string ⟨#[]⟩]], []⟩ 8 (by kernel_rfl) (by kernel_rfl) (by kernel_rfl) (by kernel_rfl)) ?_
  intro W base args ds gs before hval0 hW hcnd _
  have hval : ∀ (j : Nat) t v, Try.f6.params[j]? = some t → args[j]? = some v → Value.okWide Try.prog W .any base t v := hval0
  have hW' := hW
  obtain ⟨p, q, hA0, hV, rfl, hfz, hnd⟩ := hW
  have hA : DataW.TrodAll enc Try.prog W 0 (fun _ => true) true Try.f6.params.toList args.toList ds p := hA0
  rw [Try.params6] at hA hval
  obtain ⟨v0, v1, v2, d0, d1, d2, p0, p1, p2, rfl, rfl, rfl, h0, h1, h2⟩ := trodAll_three hA
  obtain ⟨rfl, rfl⟩ := trodVars_none hV
  obtain ⟨g0, r0, k0⟩ := rd_leaf tok (n := 6) (by kernel_rfl) (by kernel_rfl) (hval 0 29 v0 rfl rfl) h0
  obtain ⟨g1, r1, k1⟩ := rd_agg tok (n := 6) (by kernel_rfl) (by kernel_rfl) (hval 1 23 v1 rfl rfl) h1
  obtain ⟨g2, r2, k2⟩ := rd_agg tok (n := 6) (by kernel_rfl) (by kernel_rfl) (hval 2 33 v2 rfl rfl) h2
  have hm : Calls Try.prog 6 #[v0, v1, v2] W (fun e W' => e = .returned (.bool true) ∧ Below W.heap.size W W') := by
    obtain ⟨a, n, s, hs, k1⟩ := rd_caveat r1 k1
    obtain ⟨d, k2⟩ := rd_deed r2 k2
    rcases r0 with e | ⟨len, f, hl, e, hf⟩
    · rw [e] at k0
      exact SCalls.law (c6n a n s d) (vals := [v0, v1, v2]) ⟨k0, k1, k2, trivial⟩
    · rw [e] at k0
      obtain ⟨cs, hc, k0⟩ := rd_cvs_t hf hl k0
      exact SCalls.law (c6 cs hc a n s d) (vals := [v0, v1, v2]) ⟨k0, k1, k2, trivial⟩
  refine hm.mono fun e W' ⟨he, hb'⟩ => ?_
  exact ⟨_, he, law_post (bt := 4) rfl Try.laidOut (params_ok (by kernel_rfl)) rfl Try.underlying4 hW' rfl rfl rfl hb'⟩

set_option maxRecDepth 100000 in
theorem caveatWeaker_in : (Rows.caveatWeakerRow.inPlace == Try.prog.inPlace 6) = true := by kernel_rfl
set_option maxRecDepth 100000 in
theorem caveatWeaker_un : (Rows.caveatWeakerRow.unfollowed == Try.prog.unfollowed 6) = true := by kernel_rfl
set_option maxRecDepth 100000 in
theorem caveatWeaker_re : (Rows.caveatWeakerRow.recurses == Try.prog.recurses 6) = true := by kernel_rfl
set_option maxRecDepth 100000 in
theorem caveatWeaker_na : (Rows.caveatWeakerRow.named == Try.prog.varsNamed 6) = true := by kernel_rfl
set_option maxRecDepth 100000 in
theorem caveatWeaker_closed : joinedFacts Try.prog 6 Try.f6 Rows.caveatWeakerSpec Rows.caveatWeakerRow = true :=
  facts_of _ Try.laidOut Try.fMaps Try.fStops Try.fKnobs Try.fHeard Try.fPlain Try.fMay Try.fLift Try.fMake (by kernel_rfl) (by kernel_rfl) caveatWeaker_in caveatWeaker_un caveatWeaker_re caveatWeaker_na (by kernel_rfl) (by kernel_rfl) (by kernel_rfl) (by kernel_rfl)

theorem caveatWeaker_holds : Rows.CaveatWeakerSaid :=
  OpenClaim.holds_of_wide 6 Try.f6 rfl rfl rfl rfl rfl rfl rfl ⟨rfl, rfl, rfl, rfl, rfl⟩ rfl rfl rfl rfl rfl (by kernel_rfl) Try.func6 caveatWeaker_closed
    (of_decide_eq_true (by kernel_rfl)) (by unfold Func.isWrapper; first | (rw [if_pos (by decide +kernel)]; kernel_rfl) | (rw [if_neg (by decide +kernel)]; exact ⟨rfl, rfl⟩))
    (fun os started H enc _ => caveatWeaker_lifted os started H enc)

end Go.Proofs.Ytlmcdgbjbamdnaa
