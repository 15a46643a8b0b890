/- The statement Rows.ShaBlocksSaid is proved, without conditions. -/
import Derived.Test.YtbmbklbijnpdfaaShK
import Derived.Test.YtbmbklbijnpdfaaFw7
import Derived.Test.YtbmbklbijnpdfaaRows
set_option linter.unusedVariables false
set_option linter.unusedSimpArgs false
namespace Go.Proofs.Ytbmbklbijnpdfaa
open Go.ChangeShapes Go.WideShapes Go.ChangeAt Go.RowKit Go.Sym Go.Sym.Sh

theorem Try.own : ownKnob Try.prog.godebug = none := by kernel_rfl
theorem Try.laidOut : laidOutB Try.prog = true := by kernel_rfl

set_option maxRecDepth 100000 in
theorem shaBlocks_lifted (os : Os) (started : os.Started) (H : Type) (enc : TypeId × Value → H) :
    ReturnsInHanded {} Try.checked os 3 .any (Rows.shaBlocksSpec.pre6 enc Try.prog Try.f3 Rows.shaBlocksRow.domain false) (Rows.shaBlocksSpec.post enc Try.prog Try.f3 false true false false) := by
  refine returnsInHanded_of_change (C := Try.checked) Try.own started (by kernel_rfl) Try.func3
    (ChangeSpec.witness6 (enc := enc) (C := Try.checked) false ⟨#[], #[.agg (Array.replicate 8 (.int .u32 0)), .agg (Array.replicate 64 (.int .u8 0))], []⟩ 8 (by kernel_rfl) (by kernel_rfl) (by kernel_rfl) (by kernel_rfl)) ?_
  intro W base args ds gs before hval0 hW hcnd _
  have hval : ∀ (j : Nat) t v, Try.f3.params[j]? = some t → args[j]? = some v → Value.okWide Try.prog W .any base t v := hval0
  have hW' := hW
  obtain ⟨p, q, hA0, hV, rfl, hfz, hnd⟩ := hW
  have hA : DataW.TrodAll enc Try.prog W 0 (fun _ => true) true Try.f3.params.toList args.toList ds p := hA0
  rw [Try.params3] at hA hval
  obtain ⟨v0, v1, d0, d1, p0, p1, rfl, rfl, rfl, h0, h1⟩ := trodAll_two hA
  obtain ⟨rfl, rfl⟩ := trodVars_none hV
  obtain ⟨g0, r0, k0⟩ := rd_agg tok (n := 4) (by kernel_rfl) (by kernel_rfl) (hval 0 23 v0 rfl rfl) h0
  obtain ⟨g1, r1, k1⟩ := rd_agg tok (n := 4) (by kernel_rfl) (by kernel_rfl) (hval 1 24 v1 rfl rfl) h1
  obtain ⟨hs, hl, hh⟩ := rd_u32s (n := 8) (o := 0) (g := g0) fun i hi => Nat.mul_one i ▸ r0 i hi
  obtain ⟨bs, hbl, hb⟩ := rd_u8s (n := 64) (o := 0) (g := g1) fun i hi => Nat.mul_one i ▸ r1 i hi
  have a0 : repF W L0 (vH hs) v0 := k0 _ (by kernel_rfl) fun o ho => by
    have ho : o < 8 := ho
    have h := hh o ho
    rw [Nat.zero_add] at h
    rw [h]
    show (if o < 8 then LV.int .u32 ((Us hs).getD o 0) else _) = _
    rw [if_pos ho, Us_getD]
    rfl
  have a1 : repF W L0 (vBlk bs) v1 := k1 _ (by kernel_rfl) fun o ho => by
    have ho : o < 64 := ho
    have h := hb o ho
    rw [Nat.zero_add] at h
    rw [h]
    show (if o < 64 then LV.int .u8 ((bs.getD o 0).toNat : Int) else _) = _
    rw [if_pos ho]
  refine (SCalls.law (c3 hs hl bs hbl) (vals := [v0, v1]) ⟨a0, a1, trivial⟩).mono fun e W' ⟨he, hb'⟩ => ?_
  exact ⟨_, he, law_post (bt := 4) rfl Try.laidOut (params_ok (by kernel_rfl)) rfl Try.underlying4 hW' rfl rfl rfl hb'⟩

theorem shaBlocks_holds : Rows.ShaBlocksSaid :=
  OpenClaim.holds_of_wide 3 Try.f3 rfl rfl rfl rfl rfl rfl rfl ⟨rfl, rfl, rfl, rfl, rfl⟩ rfl rfl rfl rfl rfl (by kernel_rfl) Try.func3 (by kernel_rfl)
    (of_decide_eq_true (by kernel_rfl)) (by unfold Func.isWrapper; first | (rw [if_pos (by decide +kernel)]; kernel_rfl) | (rw [if_neg (by decide +kernel)]; exact ⟨rfl, rfl⟩))
    (fun os started H enc _ => shaBlocks_lifted os started H enc)
end Go.Proofs.Ytbmbklbijnpdfaa
