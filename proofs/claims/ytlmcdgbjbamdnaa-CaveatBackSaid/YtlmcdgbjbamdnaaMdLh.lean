/- The statement Rows.CaveatBackSaid is proved, without conditions. -/
import Derived.Test.YtlmcdgbjbamdnaaMdX
import Derived.Test.YtlmcdgbjbamdnaaMdOd
import Derived.Test.YtlmcdgbjbamdnaaMdLo
set_option linter.unusedVariables false
set_option linter.unusedSimpArgs false
namespace Go.Proofs.Ytlmcdgbjbamdnaa
open Go.ChangeShapes Go.WideShapes Go.ChangeAt Go.RowKit Go.Sym Go.Sym.Md

set_option maxRecDepth 100000 in
theorem caveatBack_lifted (os : Os) (started : os.Started) (H : Type) (enc : TypeId × Value → H) :
    ReturnsInHanded {} Try.checked os 11 .any (Rows.caveatBackSpec.pre6 enc Try.prog Try.f11 Rows.caveatBackRow.domain false) (Rows.caveatBackSpec.post enc Try.prog Try.f11 false true false false) := by
  refine returnsInHanded_of_change (C := Try.checked) Try.own started (by kernel_rfl) Try.func11
    (ChangeSpec.witness6 (enc := enc) (C := Try.checked) false ⟨#[], #[.slice none 0 0, .slice none 0 0], []⟩ 8 (by kernel_rfl) (by kernel_rfl) (by kernel_rfl) (by kernel_rfl)) ?_
  intro W base args ds gs before hval0 hW hcnd _
  have hval : ∀ (j : Nat) t v, Try.f11.params[j]? = some t → args[j]? = some v → Value.okWide Try.prog W .any base t v := hval0
  have hW' := hW
  obtain ⟨p, q, hA0, hV, rfl, hfz, hnd⟩ := hW
  have hA : DataW.TrodAll enc Try.prog W 0 (fun _ => true) true Try.f11.params.toList args.toList ds p := hA0
  rw [Try.params11] at hA hval
  obtain ⟨v0, v1, d0, d1, p0, p1, rfl, rfl, rfl, h0, h1⟩ := trodAll_two hA
  obtain ⟨rfl, rfl⟩ := trodVars_none hV
  obtain ⟨g0, r0, k0⟩ := rd_leaf tok (n := 6) (by kernel_rfl) (by kernel_rfl) (hval 0 29 v0 rfl rfl) h0
  obtain ⟨n0, f0, a0, b0, k0⟩ := rd_ro (st := 3) (p := fun g => RdL Γ 5 23 g 0) r0 k0
  obtain ⟨g1, r1, k1⟩ := rd_leaf tok (n := 6) (by kernel_rfl) (by kernel_rfl) (hval 1 41 v1 rfl rfl) h1
  have hm : Calls Try.prog 11 #[v0, v1] W (fun e W' => e = .returned (.bool true) ∧ Below W.heap.size W W') := by
    obtain ⟨cs, hc, k0⟩ := rd_cvs b0 a0 k0
    have hB1 : ∃ (u : LV) (b : List UInt8), isB u b ∧ b.length ≤ maxLen ∧ repF W L0 (.s (.lf u)) v1 := by
      rcases r1 with e | ⟨xs, hl, e⟩
      · rw [e] at k1; exact ⟨_, [], .inl ⟨rfl, rfl⟩, by simp, k1⟩
      · rw [e] at k1; exact ⟨_, xs, .inr rfl, hl, k1⟩
    obtain ⟨u1, b1, hu1, hb1, k1⟩ := hB1
    exact SCalls.law (c11 cs hc hu1 hb1) (vals := [v0, v1]) ⟨k0, k1, trivial⟩
  refine hm.mono fun e W' ⟨he, hb'⟩ => ?_
  exact ⟨_, he, law_post (bt := 4) rfl Try.laidOut (params_ok (by kernel_rfl)) rfl Try.underlying4 hW' rfl rfl rfl hb'⟩

set_option maxRecDepth 100000 in
theorem caveatBack_in : (Rows.caveatBackRow.inPlace == Try.prog.inPlace 11) = true := by kernel_rfl
set_option maxRecDepth 100000 in
theorem caveatBack_un : (Rows.caveatBackRow.unfollowed == Try.prog.unfollowed 11) = true := by kernel_rfl
set_option maxRecDepth 100000 in
theorem caveatBack_re : (Rows.caveatBackRow.recurses == Try.prog.recurses 11) = true := by kernel_rfl
set_option maxRecDepth 100000 in
theorem caveatBack_na : (Rows.caveatBackRow.named == Try.prog.varsNamed 11) = true := by kernel_rfl
set_option maxRecDepth 100000 in
theorem caveatBack_closed : joinedFacts Try.prog 11 Try.f11 Rows.caveatBackSpec Rows.caveatBackRow = true :=
  facts_of _ Try.laidOut Try.fMaps Try.fStops Try.fKnobs Try.fHeard Try.fPlain Try.fMay Try.fLift Try.fMake (by kernel_rfl) (by kernel_rfl) caveatBack_in caveatBack_un caveatBack_re caveatBack_na (by kernel_rfl) (by kernel_rfl) (by kernel_rfl) (by kernel_rfl)

theorem caveatBack_holds : Rows.CaveatBackSaid :=
  OpenClaim.holds_of_wide 11 Try.f11 rfl rfl rfl rfl rfl rfl rfl ⟨rfl, rfl, rfl, rfl, rfl⟩ rfl rfl rfl rfl rfl (by kernel_rfl) Try.func11 caveatBack_closed
    (of_decide_eq_true (by kernel_rfl)) (by unfold Func.isWrapper; first | (rw [if_pos (by decide +kernel)]; kernel_rfl) | (rw [if_neg (by decide +kernel)]; exact ⟨rfl, rfl⟩))
    (fun os started H enc _ => caveatBack_lifted os started H enc)

end Go.Proofs.Ytlmcdgbjbamdnaa
