/- The statement Rows.CaveatCodesSaid is proved, without conditions. -/
import Derived.Test.YtlmcdgbjbamdnaaMdX
import Derived.Test.YtlmcdgbjbamdnaaMdOa
import Derived.Test.YtlmcdgbjbamdnaaMdLo
set_option linter.unusedVariables false
set_option linter.unusedSimpArgs false
namespace Go.Proofs.Ytlmcdgbjbamdnaa
open Go.ChangeShapes Go.WideShapes Go.ChangeAt Go.RowKit Go.Sym Go.Sym.Md

set_option maxRecDepth 100000 in
theorem caveatCodes_lifted (os : Os) (started : os.Started) (H : Type) (enc : TypeId × Value → H) :
    ReturnsInHanded {} Try.checked os 10 .any (Rows.caveatCodesSpec.pre6 enc Try.prog Try.f10 Rows.caveatCodesRow.domain false) (Rows.caveatCodesSpec.post enc Try.prog Try.f10 false true false false) := by
  refine returnsInHanded_of_change (C := Try.checked) Try.own started (by kernel_rfl) Try.func10
    (ChangeSpec.witness6 (enc := enc) (C := Try.checked) false ⟨#[], #[.agg #[.int .i64 0, .int .i64 0, .string ⟨#[]⟩], .slice none 0 0, .slice none 0 0], []⟩ 8 (by kernel_rfl) (by kernel_rfl) (by kernel_rfl) (by kernel_rfl)) ?_
  intro W base args ds gs before hval0 hW hcnd _
  have hval : ∀ (j : Nat) t v, Try.f10.params[j]? = some t → args[j]? = some v → Value.okWide Try.prog W .any base t v := hval0
  have hW' := hW
  obtain ⟨p, q, hA0, hV, rfl, hfz, hnd⟩ := hW
  have hA : DataW.TrodAll enc Try.prog W 0 (fun _ => true) true Try.f10.params.toList args.toList ds p := hA0
  rw [Try.params10] at hA hval
  obtain ⟨v0, v1, v2, d0, d1, d2, p0, p1, p2, rfl, rfl, rfl, h0, h1, h2⟩ := trodAll_three hA
  obtain ⟨rfl, rfl⟩ := trodVars_none hV
  obtain ⟨g0, r0, k0⟩ := rd_agg tok (n := 6) (by kernel_rfl) (by kernel_rfl) (hval 0 23 v0 rfl rfl) h0
  obtain ⟨g1, r1, k1⟩ := rd_leaf tok (n := 6) (by kernel_rfl) (by kernel_rfl) (hval 1 29 v1 rfl rfl) h1
  obtain ⟨n1, f1, a1, b1, k1⟩ := rd_ro (st := 3) (p := fun g => RdL Γ 5 23 g 0) r1 k1
  obtain ⟨g2, r2, k2⟩ := rd_leaf tok (n := 6) (by kernel_rfl) (by kernel_rfl) (hval 2 41 v2 rfl rfl) h2
  have hm : Calls Try.prog 10 #[v0, v1, v2] W (fun e W' => e = .returned (.bool true) ∧ Below W.heap.size W W') := by
    obtain ⟨a, n, s, hs, k0⟩ := rd_caveat r0 k0
    obtain ⟨cs, hc, k1⟩ := rd_cvs b1 a1 k1
    have hB2 : ∃ (u : LV) (b : List UInt8), isB u b ∧ b.length ≤ maxLen ∧ repF W L0 (.s (.lf u)) v2 := by
      rcases r2 with e | ⟨xs, hl, e⟩
      · rw [e] at k2; exact ⟨_, [], .inl ⟨rfl, rfl⟩, by simp, k2⟩
      · rw [e] at k2; exact ⟨_, xs, .inr rfl, hl, k2⟩
    obtain ⟨u2, b2, hu2, hb2, k2⟩ := hB2
    exact SCalls.law (c10 ⟨a, n, s⟩ cs hc hu2 hb2) (vals := [v0, v1, v2]) ⟨k0, k1, k2, trivial⟩
  refine hm.mono fun e W' ⟨he, hb'⟩ => ?_
  exact ⟨_, he, law_post (bt := 4) rfl Try.laidOut (params_ok (by kernel_rfl)) rfl Try.underlying4 hW' rfl rfl rfl hb'⟩

set_option maxRecDepth 100000 in
theorem caveatCodes_in : (Rows.caveatCodesRow.inPlace == Try.prog.inPlace 10) = true := by kernel_rfl
set_option maxRecDepth 100000 in
theorem caveatCodes_un : (Rows.caveatCodesRow.unfollowed == Try.prog.unfollowed 10) = true := by kernel_rfl
set_option maxRecDepth 100000 in
theorem caveatCodes_re : (Rows.caveatCodesRow.recurses == Try.prog.recurses 10) = true := by kernel_rfl
set_option maxRecDepth 100000 in
theorem caveatCodes_na : (Rows.caveatCodesRow.named == Try.prog.varsNamed 10) = true := by kernel_rfl
set_option maxRecDepth 100000 in
theorem caveatCodes_closed : joinedFacts Try.prog 10 Try.f10 Rows.caveatCodesSpec Rows.caveatCodesRow = true :=
  facts_of _ Try.laidOut Try.fMaps Try.fStops Try.fKnobs Try.fHeard Try.fPlain Try.fMay Try.fLift Try.fMake (by kernel_rfl) (by kernel_rfl) caveatCodes_in caveatCodes_un caveatCodes_re caveatCodes_na (by kernel_rfl) (by kernel_rfl) (by kernel_rfl) (by kernel_rfl)

theorem caveatCodes_holds : Rows.CaveatCodesSaid :=
  OpenClaim.holds_of_wide 10 Try.f10 rfl rfl rfl rfl rfl rfl rfl ⟨rfl, rfl, rfl, rfl, rfl⟩ rfl rfl rfl rfl rfl (by kernel_rfl) Try.func10 caveatCodes_closed
    (of_decide_eq_true (by kernel_rfl)) (by unfold Func.isWrapper; first | (rw [if_pos (by decide +kernel)]; kernel_rfl) | (rw [if_neg (by decide +kernel)]; exact ⟨rfl, rfl⟩))
    (fun os started H enc _ => caveatCodes_lifted os started H enc)

end Go.Proofs.Ytlmcdgbjbamdnaa
