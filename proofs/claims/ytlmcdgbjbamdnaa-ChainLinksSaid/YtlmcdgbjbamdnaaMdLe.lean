/- The statement Rows.ChainLinksSaid is proved, without conditions. -/
import Derived.Test.YtlmcdgbjbamdnaaMdXb
import Derived.Test.YtlmcdgbjbamdnaaMdLo
set_option linter.unusedVariables false
set_option linter.unusedSimpArgs false
namespace Go.Proofs.Ytlmcdgbjbamdnaa
open Go.ChangeShapes Go.WideShapes Go.ChangeAt Go.RowKit Go.Sym Go.Sym.Md

set_option maxRecDepth 100000 in
theorem chainLinks_lifted (os : Os) (started : os.Started) (H : Type) (enc : TypeId × Value → H) :
    ReturnsInHanded {} Try.checked os 7 .any (Rows.chainLinksSpec.pre6 enc Try.prog Try.f7 Rows.chainLinksRow.domain false) (Rows.chainLinksSpec.post enc Try.prog Try.f7 false true false false) := by
  refine returnsInHanded_of_change (C := Try.checked) Try.own started (by kernel_rfl) Try.func7
    (ChangeSpec.witness6 (enc := enc) (C := Try.checked) false ⟨#[], #[.agg #[.int .i64 0, .string ⟨#[]⟩], .agg #[.int .i64 0, .string ⟨#[]⟩], .slice none 0 0, .slice none 0 0], []⟩ 8 (by kernel_rfl) (by kernel_rfl) (by kernel_rfl) (by kernel_rfl)) ?_
  intro W base args ds gs before hval0 hW hcnd _
  have hval : ∀ (j : Nat) t v, Try.f7.params[j]? = some t → args[j]? = some v → Value.okWide Try.prog W .any base t v := hval0
  have hW' := hW
  obtain ⟨p, q, hA0, hV, rfl, hfz, hnd⟩ := hW
  have hA : DataW.TrodAll enc Try.prog W 0 (fun _ => true) true Try.f7.params.toList args.toList ds p := hA0
  rw [Try.params7] at hA hval
  obtain ⟨v0, v1, v2, v3, d0, d1, d2, d3, p0, p1, p2, p3, rfl, rfl, rfl, h0, h1, h2, h3⟩ := trodAll_four hA
  obtain ⟨rfl, rfl⟩ := trodVars_none hV
  obtain ⟨g0, r0, k0⟩ := rd_agg tok (n := 6) (by kernel_rfl) (by kernel_rfl) (hval 0 40 v0 rfl rfl) h0
  obtain ⟨g1, r1, k1⟩ := rd_agg tok (n := 6) (by kernel_rfl) (by kernel_rfl) (hval 1 40 v1 rfl rfl) h1
  obtain ⟨g2, r2, k2⟩ := rd_leaf tok (n := 6) (by kernel_rfl) (by kernel_rfl) (hval 2 41 v2 rfl rfl) h2
  obtain ⟨x2, a2, k2⟩ := rd_rob r2 k2
  obtain ⟨g3, r3, k3⟩ := rd_leaf tok (n := 6) (by kernel_rfl) (by kernel_rfl) (hval 3 42 v3 rfl rfl) h3
  obtain ⟨n3, f3, a3, b3, k3⟩ := rd_ro (st := 1) (p := fun g => RdL Γ 5 41 g 0) r3 k3
  obtain ⟨x3, e3⟩ := rd_pieces (f := f3) (len := n3) (fun i hi => b3 i hi)
  have hm : Calls Try.prog 7 #[v0, v1, v2, v3] W (fun e W' => e = .returned (.bool true) ∧ Below W.heap.size W W') := by
    obtain ⟨c, hc, hcl, k0⟩ := rd_chain r0 k0
    obtain ⟨d, hd, hdl, k1⟩ := rd_chain r1 k1
    exact SCalls.law (c7 c d x2 n3 f3 x3 ⟨e3⟩ a3 hc) (vals := [v0, v1, v2, v3]) ⟨k0, k1, k2, k3, trivial⟩
  refine hm.mono fun e W' ⟨he, hb'⟩ => ?_
  exact ⟨_, he, law_post (bt := 4) rfl Try.laidOut (params_ok (by kernel_rfl)) rfl Try.underlying4 hW' rfl rfl rfl hb'⟩

set_option maxRecDepth 100000 in
theorem chainLinks_in : (Rows.chainLinksRow.inPlace == Try.prog.inPlace 7) = true := by kernel_rfl
set_option maxRecDepth 100000 in
theorem chainLinks_un : (Rows.chainLinksRow.unfollowed == Try.prog.unfollowed 7) = true := by kernel_rfl
set_option maxRecDepth 100000 in
theorem chainLinks_re : (Rows.chainLinksRow.recurses == Try.prog.recurses 7) = true := by kernel_rfl
set_option maxRecDepth 100000 in
theorem chainLinks_na : (Rows.chainLinksRow.named == Try.prog.varsNamed 7) = true := by kernel_rfl
set_option maxRecDepth 100000 in
theorem chainLinks_closed : joinedFacts Try.prog 7 Try.f7 Rows.chainLinksSpec Rows.chainLinksRow = true :=
  facts_of _ Try.laidOut Try.fMaps Try.fStops Try.fKnobs Try.fHeard Try.fPlain Try.fMay Try.fLift Try.fMake (by kernel_rfl) (by kernel_rfl) chainLinks_in chainLinks_un chainLinks_re chainLinks_na (by kernel_rfl) (by kernel_rfl) (by kernel_rfl) (by kernel_rfl)

theorem chainLinks_holds : Rows.ChainLinksSaid :=
  OpenClaim.holds_of_wide 7 Try.f7 rfl rfl rfl rfl rfl rfl rfl ⟨rfl, rfl, rfl, rfl, rfl⟩ rfl rfl rfl rfl rfl (by kernel_rfl) Try.func7 chainLinks_closed
    (of_decide_eq_true (by kernel_rfl)) (by unfold Func.isWrapper; first | (rw [if_pos (by decide +kernel)]; kernel_rfl) | (rw [if_neg (by decide +kernel)]; exact ⟨rfl, rfl⟩))
    (fun os started H enc _ => chainLinks_lifted os started H enc)

end Go.Proofs.Ytlmcdgbjbamdnaa
