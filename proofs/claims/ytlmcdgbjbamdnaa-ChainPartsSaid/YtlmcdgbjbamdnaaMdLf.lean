/- The statement Rows.ChainPartsSaid is proved, without conditions. -/
import Derived.Test.YtlmcdgbjbamdnaaMdXb
import Derived.Test.YtlmcdgbjbamdnaaMdLo
set_option linter.unusedVariables false
set_option linter.unusedSimpArgs false
namespace Go.Proofs.Ytlmcdgbjbamdnaa
open Go.ChangeShapes Go.WideShapes Go.ChangeAt Go.RowKit Go.Sym Go.Sym.Md

set_option maxRecDepth 100000 in
theorem chainParts_lifted (os : Os) (started : os.Started) (H : Type) (enc : TypeId × Value → H) :
    ReturnsInHanded {} Try.checked os 8 .any (Rows.chainPartsSpec.pre6 enc Try.prog Try.f8 Rows.chainPartsRow.domain false) (Rows.chainPartsSpec.post enc Try.prog Try.f8 false true false false) := by
  refine returnsInHanded_of_change (C := Try.checked) Try.own started (by kernel_rfl) Try.func8
    (ChangeSpec.witness6 (enc := enc) (C := Try.checked) false ⟨#[], #[.agg #[.int .i64 0, .string ⟨#[]⟩], .slice none 0 0, .slice none 0 0], []⟩ 8 (by kernel_rfl) (by kernel_rfl) (by kernel_rfl) (by kernel_rfl)) ?_
  intro W base args ds gs before hval0 hW hcnd _
  have hval : ∀ (j : Nat) t v, Try.f8.params[j]? = some t → args[j]? = some v → Value.okWide Try.prog W .any base t v := hval0
  have hW' := hW
  obtain ⟨p, q, hA0, hV, rfl, hfz, hnd⟩ := hW
  have hA : DataW.TrodAll enc Try.prog W 0 (fun _ => true) true Try.f8.params.toList args.toList ds p := hA0
  rw [Try.params8] at hA hval
  obtain ⟨v0, v1, v2, d0, d1, d2, p0, p1, p2, rfl, rfl, rfl, h0, h1, h2⟩ := trodAll_three hA
  obtain ⟨rfl, rfl⟩ := trodVars_none hV
  obtain ⟨g0, r0, k0⟩ := rd_agg tok (n := 6) (by kernel_rfl) (by kernel_rfl) (hval 0 40 v0 rfl rfl) h0
  obtain ⟨g1, r1, k1⟩ := rd_leaf tok (n := 6) (by kernel_rfl) (by kernel_rfl) (hval 1 42 v1 rfl rfl) h1
  obtain ⟨g2, r2, k2⟩ := rd_leaf tok (n := 6) (by kernel_rfl) (by kernel_rfl) (hval 2 42 v2 rfl rfl) h2
  obtain ⟨n2, f2, a2, b2, k2⟩ := rd_ro (st := 1) (p := fun g => RdL Γ 5 41 g 0) r2 k2
  obtain ⟨x2, e2⟩ := rd_pieces (f := f2) (len := n2) (fun i hi => b2 i hi)
  have hm : Calls Try.prog 8 #[v0, v1, v2] W (fun e W' => e = .returned (.bool true) ∧ Below W.heap.size W W') := by
    obtain ⟨c, hc, hcl, k0⟩ := rd_chain r0 k0
    rcases r1 with e | ⟨len, f, hl, e, hf⟩
    · rw [e] at k1
      exact SCalls.law (c8n c n2 f2 x2 ⟨e2⟩ a2 hc) (vals := [v0, v1, v2]) ⟨k0, k1, k2, trivial⟩
    · rw [e] at k1
      obtain ⟨y, hy⟩ := rd_pieces (f := f) (len := len) (fun i hi => hf i hi)
      exact SCalls.law (c8 c len f y ⟨hy⟩ hl n2 f2 x2 ⟨e2⟩ a2 hc) (vals := [v0, v1, v2]) ⟨k0, k1, k2, trivial⟩
  refine hm.mono fun e W' ⟨he, hb'⟩ => ?_
  exact ⟨_, he, law_post (bt := 4) rfl Try.laidOut (params_ok (by kernel_rfl)) rfl Try.underlying4 hW' rfl rfl rfl hb'⟩

set_option maxRecDepth 100000 in
theorem chainParts_in : (Rows.chainPartsRow.inPlace == Try.prog.inPlace 8) = true := by kernel_rfl
set_option maxRecDepth 100000 in
theorem chainParts_un : (Rows.chainPartsRow.unfollowed == Try.prog.unfollowed 8) = true := by kernel_rfl
set_option maxRecDepth 100000 in
theorem chainParts_re : (Rows.chainPartsRow.recurses == Try.prog.recurses 8) = true := by kernel_rfl
set_option maxRecDepth 100000 in
theorem chainParts_na : (Rows.chainPartsRow.named == Try.prog.varsNamed 8) = true := by kernel_rfl
set_option maxRecDepth 100000 in
theorem chainParts_closed : joinedFacts Try.prog 8 Try.f8 Rows.chainPartsSpec Rows.chainPartsRow = true :=
  facts_of _ Try.laidOut Try.fMaps Try.fStops Try.fKnobs Try.fHeard Try.fPlain Try.fMay Try.fLift Try.fMake (by kernel_rfl) (by kernel_rfl) chainParts_in chainParts_un chainParts_re chainParts_na (by kernel_rfl) (by kernel_rfl) (by kernel_rfl) (by kernel_rfl)

theorem chainParts_holds : Rows.ChainPartsSaid :=
  OpenClaim.holds_of_wide 8 Try.f8 rfl rfl rfl rfl rfl rfl rfl ⟨rfl, rfl, rfl, rfl, rfl⟩ rfl rfl rfl rfl rfl (by kernel_rfl) Try.func8 chainParts_closed
    (of_decide_eq_true (by kernel_rfl)) (by unfold Func.isWrapper; first | (rw [if_pos (by decide +kernel)]; kernel_rfl) | (rw [if_neg (by decide +kernel)]; exact ⟨rfl, rfl⟩))
    (fun os started H enc _ => chainParts_lifted os started H enc)

end Go.Proofs.Ytlmcdgbjbamdnaa
