/- The statement Rows.KeyringKeysSaid is proved, without conditions. -/
import Derived.Test.YtlmcdgbjbamdnaaTxA
import Derived.Test.YtlmcdgbjbamdnaaTxH
import Derived.Test.YtlmcdgbjbamdnaaMdLo
set_option linter.unusedVariables false
set_option linter.unusedSimpArgs false
namespace Go.Proofs.Ytlmcdgbjbamdnaa
open Go.ChangeShapes Go.WideShapes Go.ChangeAt Go.RowKit Go.Sym Go.Sym.Md

set_option maxRecDepth 100000 in
theorem keyringKeys_lifted (os : Os) (started : os.Started) (H : Type) (enc : TypeId × Value → H) :
    ReturnsInHanded {} Try.checked os 14 .any (Rows.keyringKeysSpec.pre6 enc Try.prog Try.f14 Rows.keyringKeysRow.domain false) (Rows.keyringKeysSpec.post enc Try.prog Try.f14 false true false false) := by
  refine returnsInHanded_of_change (C := Try.checked) Try.own started (by kernel_rfl) Try.func14
    (ChangeSpec.witness6 (enc := enc) (C := Try.checked) false ⟨#[], #[.string ⟨#[]⟩, .slice none 0 0], []⟩ 8 (by kernel_rfl) (by kernel_rfl) (by kernel_rfl) (by kernel_rfl)) ?_
  intro W base args ds gs before hval0 hW hcnd _
  have hval : ∀ (j : Nat) t v, Try.f14.params[j]? = some t → args[j]? = some v → Value.okWide Try.prog W .any base t v := hval0
  have hW' := hW
  obtain ⟨p, q, hA0, hV, rfl, hfz, hnd⟩ := hW
  have hA : DataW.TrodAll enc Try.prog W 0 (fun _ => true) true Try.f14.params.toList args.toList ds p := hA0
  rw [Try.params14] at hA hval
  obtain ⟨v0, v1, d0, d1, p0, p1, rfl, rfl, rfl, h0, h1⟩ := trodAll_two hA
  obtain ⟨rfl, rfl⟩ := trodVars_none hV
  obtain ⟨g0, r0, k0⟩ := rd_leaf tok (n := 6) (by kernel_rfl) (by kernel_rfl) (hval 0 9 v0 rfl rfl) h0
  obtain ⟨x0, a0, e0⟩ := r0
  rw [e0] at k0
  obtain ⟨g1, r1, k1⟩ := rd_leaf tok (n := 6) (by kernel_rfl) (by kernel_rfl) (hval 1 90 v1 rfl rfl) h1
  have hm : Calls Try.prog 14 #[v0, v1] W (fun e W' => e = .returned (.bool true) ∧ Below W.heap.size W W') := by
    by_cases hm : 500 < x0.length
    · rcases r1 with e | ⟨len, f, hl, e, hf⟩
      · rw [e] at k1
        exact SCalls.law (c14b x0 _ hm) (vals := [v0, v1]) ⟨k0, k1, trivial⟩
      · rw [e] at k1
        exact SCalls.law (c14b x0 _ hm) (vals := [v0, v1]) ⟨k0, k1, trivial⟩
    have hm' : x0.length ≤ 500 := by omega
    rcases r1 with e | ⟨len, f, hl, e, hf⟩
    · rw [e] at k1
      exact SCalls.law (c14n x0 hm') (vals := [v0, v1]) ⟨k0, k1, trivial⟩
    · rw [e] at k1
      obtain ⟨x, hx, k1⟩ := rd_ints hf k1
      exact SCalls.law (c14 x0 len x hl hx hm') (vals := [v0, v1]) ⟨k0, k1, trivial⟩
  refine hm.mono fun e W' ⟨he, hb'⟩ => ?_
  exact ⟨_, he, law_post (bt := 4) rfl Try.laidOut (params_ok (by kernel_rfl)) rfl Try.underlying4 hW' rfl rfl rfl hb'⟩

set_option maxRecDepth 100000 in
theorem keyringKeys_in : (Rows.keyringKeysRow.inPlace == Try.prog.inPlace 14) = true := by kernel_rfl
set_option maxRecDepth 100000 in
theorem keyringKeys_un : (Rows.keyringKeysRow.unfollowed == Try.prog.unfollowed 14) = true := by kernel_rfl
set_option maxRecDepth 100000 in
theorem keyringKeys_re : (Rows.keyringKeysRow.recurses == Try.prog.recurses 14) = true := by kernel_rfl
set_option maxRecDepth 100000 in
theorem keyringKeys_na : (Rows.keyringKeysRow.named == Try.prog.varsNamed 14) = true := by kernel_rfl
set_option maxRecDepth 100000 in
theorem keyringKeys_closed : joinedFacts Try.prog 14 Try.f14 Rows.keyringKeysSpec Rows.keyringKeysRow = true :=
  facts_of _ Try.laidOut Try.fMaps Try.fStops Try.fKnobs Try.fHeard Try.fPlain Try.fMay Try.fLift Try.fMake (by kernel_rfl) (by kernel_rfl) keyringKeys_in keyringKeys_un keyringKeys_re keyringKeys_na (by kernel_rfl) (by kernel_rfl) (by kernel_rfl) (by kernel_rfl)

theorem keyringKeys_holds : Rows.KeyringKeysSaid :=
  OpenClaim.holds_of_wide 14 Try.f14 rfl rfl rfl rfl rfl rfl rfl ⟨rfl, rfl, rfl, rfl, rfl⟩ rfl rfl rfl rfl rfl (by kernel_rfl) Try.func14 keyringKeys_closed
    (of_decide_eq_true (by kernel_rfl)) (by unfold Func.isWrapper; first | (rw [if_pos (by decide +kernel)]; kernel_rfl) | (rw [if_neg (by decide +kernel)]; exact ⟨rfl, rfl⟩))
    (fun os started H enc _ => keyringKeys_lifted os started H enc)

end Go.Proofs.Ytlmcdgbjbamdnaa
