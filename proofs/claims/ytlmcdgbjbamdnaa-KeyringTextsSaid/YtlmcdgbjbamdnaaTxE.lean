/- Contracts of the program's functions, proved by the framework (text TxE), without conditions but those that each theorem states. -/
import Derived.Test.YtlmcdgbjbamdnaaTxD
import Derived.Test.YtlmcdgbjbamdnaaFw7
set_option linter.unusedVariables false
set_option linter.unusedSimpArgs false
set_option maxRecDepth 10000
namespace Go.Sym.Md
open Go Go.Sym Go.Lib
attribute [local irreducible] holdsF okC

abbrev vRt (cs : List CV) : FV := .s (.lf (.ro true false 3 cs.length (rowC cs)))

theorem rowC_wl {D : Rel} {cs : List CV} {i j : Nat} (hj : j < 3) : WL D (rowC cs i j) (rowC cs i j) := by
  have : j = 0 ∨ j = 1 ∨ j = 2 := by omega
  rcases this with rfl | rfl | rfl <;> exact plainL.wl trivial

/-- slices.Clone, of no caveats. -/
theorem c39n : SCalls Proofs.Try.prog 39 [.s (.lf .sl0)] [] (.s (.lf .sl0)) [] := by
  refine SCalls.intro tok Proofs.Try.func39 ?_
  conv => whnf
  exact RetK.empty (okF.wv trivial)

/-- slices.Clone, of caveats. -/
theorem c39 (cs : List CV) (hl : cs.length ≤ 1000000) : SCalls Proofs.Try.prog 39 [vRt cs] [] (.s (.lf (.own 0 0 3 0 cs.length))) [some ⟨23, [.recs 3 cs.length (rowC cs)]⟩] := by
  refine SCalls.intro tok Proofs.Try.func39 ?_
  conv => whnf
  refine Or.inl ?_
  conv => whnf
  refine And.intro (by omega) ?_
  conv => whnf
  refine And.intro ⟨rfl, by show (0 + cs.length) * 32 ≤ _; omega⟩ ?_
  conv => whnf
  refine RetK.perm [1] ⟨⟨rfl, .recs (Nat.zero_add _) fun i hi j hj => ?_, trivial⟩, trivial⟩ (WV.lf (WL.own rfl rfl rfl (Nat.zero_add _))) rfl (by simp) rfl (by simp)
  exact rowC_wl hj

/-- A row of caveats of the call's own, lent. -/
theorem WL.lentC {H H' : Hp} {μ : Nat → Nat} {hid : Nat → Prop} {nm len n : Nat} {f : Nat → Nat → LV} {ty : TypeId} {cs : List CV} (hob : hget H nm = some ⟨ty, [.recs 3 n f]⟩) (hn : len = n) (hl : len = cs.length)
    (hf : ∀ i j, i < len → j < 3 → f i j = rowC cs i j) (hg : gone H' μ hid nm) : WL (Down H H' μ hid) (.own nm 0 3 0 len) (.ro false false 3 cs.length (rowC cs)) := by
  subst hn
  intro w L L' x h hx
  rw [← hl]
  refine rep_ro_weak (WL.freezeR (ob := ⟨ty, [.recs 3 len f]⟩) (p := []) (q := []) hob rfl rfl (fun i hi j hj => ⟨?_, ?_⟩) hg w L L' x h hx)
  · show 0 * 3 + (i * 3 + j) < len * 3
    omega
  · show WL _ (f ((0 * 3 + (i * 3 + j)) / 3) ((0 * 3 + (i * 3 + j)) % 3)) _
    rw [show (0 * 3 + (i * 3 + j)) / 3 = i by omega, show (0 * 3 + (i * 3 + j)) % 3 = j by omega, hf i j hi hj]
    exact rowC_wl hj

/-- baileylaw06.CaveatWeaker -/
theorem c6 (cs : List CV) (hl : cs.length ≤ maxLen) (k n : Int) (s : List UInt8) (d : DeedS) : SCalls Proofs.Try.prog 6 [vRt cs, vC k n s, vD d] [] (.s (.lf .tt)) [] := by
  have h30 := (c30L cs hl).lend (cs := [vRt cs]) (fun _ => True) [some ⟨23, [.one (.int .i64 k), .one (.int .i64 n), .one (.str s)]⟩, some (obD d)] ⟨WV.lf (WL.ro rfl (by simp) (by simp) fun i hi j hj => rowC_wl hj), trivial⟩ (plainF.wv trivial)
  have h25 := c25.free [some ⟨23, [.one (.int .i64 k), .one (.int .i64 n), .one (.str s)]⟩, some (obD d)] trivial trivial
  refine SCalls.intro tok Proofs.Try.func6 ?_
  conv => whnf
  refine CallK.mk' _ _ h30 ?_
  conv => whnf
  cases fa : fewL cs with
  | false =>
    refine CaseB.of_true rfl ?_
    conv => whnf
    refine CallK.mk' _ _ h25 ?_
    conv => whnf
    exact RetK.empty (okF.wv trivial)
  | true =>
    have hfew : cs.length ≤ 30 := by unfold fewL at fa; simp at fa; omega
    refine CaseB.of_false rfl ?_
    conv => whnf
    by_cases h2 : 200 < (s.length : Int)
    · refine CaseB.of_true (decide_eq_true h2) ?_
      conv => whnf
      refine CallK.mk' _ _ h25 ?_
      conv => whnf
      exact RetK.empty (okF.wv trivial)
    refine CaseB.of_false (decide_eq_false h2) ?_
    conv => whnf
    obtain ⟨M, hM⟩ : ∃ M : List CV, M = cs ++ [⟨k, n, s⟩] := ⟨_, rfl⟩
    have hMl : M.length = cs.length + 1 := by rw [hM]; simp
    have hm : maxLen = 9223372036854775807 := rfl
    have hrow : ∀ i j, i < cs.length + 1 → j < 3 → catRow 3 cs.length (fun i j => rowC cs (0 + i) j) (fun i j => cellD ([] ++ ([Seg.one (LV.int IntKind.i64 k), Seg.one (LV.int IntKind.i64 n), Seg.one (LV.str s)] ++ [])) (i * 3 + j)) i j = rowC M i j := by
      intro i j hi hj
      rw [hM]
      unfold catRow
      by_cases h : i < cs.length
      · rw [show Nat.blt i cs.length = true by simp [Nat.blt, Nat.ble_eq]; omega]
        show rowC cs (0 + i) j = _
        unfold rowC
        rw [Nat.zero_add, show (cs ++ [(⟨k, n, s⟩ : CV)]).getD i cv0 = cs.getD i cv0 by rw [List.getD_eq_getElem?_getD, List.getD_eq_getElem?_getD, List.getElem?_append_left h]]
      · have e : i = cs.length := by omega
        subst e
        rw [show Nat.blt cs.length cs.length = false by cases hb : Nat.blt cs.length cs.length <;> first | rfl | (have := blt_true hb; omega)]
        show cellD _ ((cs.length - cs.length) * 3 + j) = _
        unfold rowC
        rw [Nat.sub_self, show (cs ++ [(⟨k, n, s⟩ : CV)]).getD cs.length cv0 = ⟨k, n, s⟩ by rw [List.getD_eq_getElem?_getD, List.getElem?_append_right (Nat.le_refl _), Nat.sub_self]; rfl]
        have : j = 0 ∨ j = 1 ∨ j = 2 := by omega
        rcases this with rfl | rfl | rfl <;> rfl
    have hA := (c37 M (by omega) d).lend (cs := [.s (.lf (.own 3 0 3 0 (cs.length + 1))), vD d]) (fun _ => False) [some ⟨23, [.one (.int .i64 k), .one (.int .i64 n), .one (.str s)]⟩, some (obD d), none, some ⟨23, [.recs 3 (cs.length + 1) (catRow 3 cs.length (fun i j => rowC cs (0 + i) j) (fun i j => cellD ([] ++ ([Seg.one (LV.int IntKind.i64 k), Seg.one (LV.int IntKind.i64 n), Seg.one (LV.str s)] ++ [])) (i * 3 + j)))]⟩] ⟨WV.lf (WL.lentC rfl rfl hMl.symm hrow ⟨fun h => h, fun i ob h => by simp at h⟩), freeF.wv ⟨trivial, trivial, trivial, trivial, trivial, trivial, trivial⟩, trivial⟩ (plainF.wv trivial)
    have hB := (c37 cs hl d).lend (cs := [vRt cs, vD d]) (fun _ => False) [some ⟨23, [.one (.int .i64 k), .one (.int .i64 n), .one (.str s)]⟩, some (obD d), none, some ⟨23, [.recs 3 (cs.length + 1) (catRow 3 cs.length (fun i j => rowC cs (0 + i) j) (fun i j => cellD ([] ++ ([Seg.one (LV.int IntKind.i64 k), Seg.one (LV.int IntKind.i64 n), Seg.one (LV.str s)] ++ [])) (i * 3 + j)))]⟩] ⟨WV.lf (WL.ro rfl (by simp) (by simp) fun i hi j hj => rowC_wl hj), freeF.wv ⟨trivial, trivial, trivial, trivial, trivial, trivial, trivial⟩, trivial⟩ (plainF.wv trivial)
    have hC := (c33 M cs (by omega)).lend (cs := [.s (.lf (.own 3 0 3 0 (cs.length + 1))), vRt cs]) (fun _ => False) [some ⟨23, [.one (.int .i64 k), .one (.int .i64 n), .one (.str s)]⟩, some (obD d), none, some ⟨23, [.recs 3 (cs.length + 1) (catRow 3 cs.length (fun i j => rowC cs (0 + i) j) (fun i j => cellD ([] ++ ([Seg.one (LV.int IntKind.i64 k), Seg.one (LV.int IntKind.i64 n), Seg.one (LV.str s)] ++ [])) (i * 3 + j)))]⟩] ⟨WV.lf (WL.lentC rfl rfl hMl.symm hrow ⟨fun h => h, fun i ob h => by simp at h⟩), WV.lf (WL.ro rfl (by simp) (by simp) fun i hi j hj => rowC_wl hj), trivial⟩ (plainF.wv trivial)
    have hD := (c33 cs M hl).lend (cs := [vRt cs, .s (.lf (.own 3 0 3 0 (cs.length + 1)))]) (fun _ => False) [some ⟨23, [.one (.int .i64 k), .one (.int .i64 n), .one (.str s)]⟩, some (obD d), none, some ⟨23, [.recs 3 (cs.length + 1) (catRow 3 cs.length (fun i j => rowC cs (0 + i) j) (fun i j => cellD ([] ++ ([Seg.one (LV.int IntKind.i64 k), Seg.one (LV.int IntKind.i64 n), Seg.one (LV.str s)] ++ [])) (i * 3 + j)))]⟩] ⟨WV.lf (WL.ro rfl (by simp) (by simp) fun i hi j hj => rowC_wl hj), WV.lf (WL.lentC rfl rfl hMl.symm hrow ⟨fun h => h, fun i ob h => by simp at h⟩), trivial⟩ (plainF.wv trivial)
    have hE := (c35 k n s d).free [some ⟨23, [.one (.int .i64 k), .one (.int .i64 n), .one (.str s)]⟩, some (obD d), none, some ⟨23, [.recs 3 (cs.length + 1) (catRow 3 cs.length (fun i j => rowC cs (0 + i) j) (fun i j => cellD ([] ++ ([Seg.one (LV.int IntKind.i64 k), Seg.one (LV.int IntKind.i64 n), Seg.one (LV.str s)] ++ [])) (i * 3 + j)))]⟩] ⟨⟨trivial, trivial, trivial, trivial⟩, ⟨trivial, trivial, trivial, trivial, trivial, trivial, trivial⟩, trivial⟩ trivial
    have hF := c25.free [some ⟨23, [.one (.int .i64 k), .one (.int .i64 n), .one (.str s)]⟩, some (obD d), none, some ⟨23, [.recs 3 (cs.length + 1) (catRow 3 cs.length (fun i j => rowC cs (0 + i) j) (fun i j => cellD ([] ++ ([Seg.one (LV.int IntKind.i64 k), Seg.one (LV.int IntKind.i64 n), Seg.one (LV.str s)] ++ [])) (i * 3 + j)))]⟩] trivial trivial
    have x1 : extF M cs = true := by unfold extF; rw [hM]; simp
    have x2 : (!extF cs M) = true := by unfold extF; rw [decide_eq_false (by rw [hMl]; omega)]; rfl
    have hall : (M.all fun c => holdsC c d) = ((cs.all fun c => holdsC c d) && holdsF k n s d) := by rw [hM, List.all_append]; simp [holdsC]
    refine DrawK.mkL tok mixed [0, 1, 0, 4, 15, 31] [1, 3, 4] [
      ([0, 1, 0, 7, 15, 31], [(0, 0, []), (1, 2, []), (2, 1, [0, 1]), (3, 2, []), (4, 2, []), (5, 0, [])]),
      ([0, 13, 0, 4, 15, 31], [(0, 0, []), (2, 1, [0]), (3, 2, []), (1, 2, []), (4, 2, []), (5, 0, [])])] (by kernel_rfl) ⟨?_, ?_, trivial⟩
    · conv => whnf
      refine CallK.mk' (.s (.lf (.own 2 0 3 0 cs.length))) _ ((c39 cs (by omega)).made [some ⟨23, [.one (.int .i64 k), .one (.int .i64 n), .one (.str s)]⟩, some (obD d)] (Hn := [some ⟨23, [.recs 3 cs.length (rowC cs)]⟩]) ⟨WV.lf (WL.ro rfl (by simp) (by simp) fun i hi j hj => rowC_wl hj), trivial⟩ (WV.lf (WL.uown rfl rfl rfl)) ⟨rfl, ⟨.recs rfl fun i hi j hj => rowC_wl hj, trivial⟩, trivial⟩) ?_
      conv => whnf
      refine And.intro rfl ?_
      conv => whnf
      refine Or.inr ?_
      conv => whnf
      refine And.intro (by omega) ?_
      conv => whnf
      refine And.intro ⟨rfl, by show (cs.length + 1) * 32 ≤ _; omega⟩ ?_
      conv => whnf
      refine CallK.mk' _ _ hA ?_
      conv => whnf
      cases hb : (cs.all fun c => holdsC c d) with
      | false =>
        have x0 : (M.all fun c => holdsC c d) = false := by rw [hall, hb]; rfl
        have x3 : ((M.all fun c => holdsC c d) == false) = true := by rw [x0]; rfl
        refine CaseB.of_false x0 ?_
        conv => whnf
        refine DrawK.mk1 tok mixed [0, 0, 3, 7, 15, 15, 63, 127, 255, 511, 1023, 1023, 4095, 1023, 1023, 32767, 65535, 131071, 131071, 524287, 1048575, 2097151, 4194303, 8388607, 16777215, 33554431, 67108863] [(0, 0, []), (1, 0, []), (2, 1, [0]), (3, 0, []), (4, 0, []), (5, 0, []), (6, 1, [0]), (7, 0, []), (8, 0, []), (9, 0, []), (10, 0, []), (13, 0, []), (11, 1, [0]), (12, 1, [0]), (14, 1, [0]), (15, 1, [0]), (16, 0, []), (17, 1, [0]), (18, 1, [0]), (19, 1, [0]), (20, 0, []), (21, 0, []), (22, 0, []), (23, 0, []), (24, 1, [0]), (25, 0, []), (26, 0, [])] (by kernel_rfl) ?_
        conv => whnf
        repeat (first
          | (refine CallR.mk' _ hC ?_; conv => whnf)
          | (refine CallR.mk' _ hD ?_; conv => whnf)
          | (refine CallR.mk' _ hA ?_; conv => whnf)
          | (refine CallR.mk' _ hB ?_; conv => whnf)
          | (refine CallR.mk' _ hE ?_; conv => whnf)
          | (refine CallR.mk' _ hF ?_; conv => whnf)
          | (refine CaseB.of_true x1 ?_; conv => whnf)
          | (refine CaseB.of_true x2 ?_; conv => whnf)
          | (refine CaseB.of_false hb ?_; conv => whnf)
          | (refine CaseB.of_true x3 ?_; conv => whnf))
        exact RetK.empty (okF.wv trivial)
      | true =>
        have x3 : ((M.all fun c => holdsC c d) == holdsF k n s d) = true := by rw [hall, hb]; simp
        rcases Bool.eq_false_or_eq_true (M.all fun c => holdsC c d) with hc | hc
        · refine CaseB.of_true hc ?_
          conv => whnf
          refine CallK.mk' _ _ hB ?_
          conv => whnf
          refine CaseB.of_false (by rw [hb]; rfl) ?_
          conv => whnf
          refine DrawK.mk1 tok mixed [0, 0, 3, 7, 15, 15, 63, 127, 255, 511, 1023, 1023, 4095, 1023, 1023, 32767, 65535, 131071, 131071, 524287, 1048575, 2097151, 4194303, 8388607, 16777215, 33554431, 67108863] [(0, 0, []), (1, 0, []), (2, 1, [0]), (3, 0, []), (4, 0, []), (5, 0, []), (6, 1, [0]), (7, 0, []), (8, 0, []), (9, 0, []), (10, 0, []), (13, 0, []), (11, 1, [0]), (12, 1, [0]), (14, 1, [0]), (15, 1, [0]), (16, 0, []), (17, 1, [0]), (18, 1, [0]), (19, 1, [0]), (20, 0, []), (21, 0, []), (22, 0, []), (23, 0, []), (24, 1, [0]), (25, 0, []), (26, 0, [])] (by kernel_rfl) ?_
          conv => whnf
          repeat (first
            | (refine CallR.mk' _ hC ?_; conv => whnf)
            | (refine CallR.mk' _ hD ?_; conv => whnf)
            | (refine CallR.mk' _ hA ?_; conv => whnf)
            | (refine CallR.mk' _ hB ?_; conv => whnf)
            | (refine CallR.mk' _ hE ?_; conv => whnf)
            | (refine CallR.mk' _ hF ?_; conv => whnf)
            | (refine CaseB.of_true x1 ?_; conv => whnf)
            | (refine CaseB.of_true x2 ?_; conv => whnf)
            | (refine CaseB.of_true hb ?_; conv => whnf)
            | (refine CaseB.of_true x3 ?_; conv => whnf))
          exact RetK.empty (okF.wv trivial)
        · refine CaseB.of_false hc ?_
          conv => whnf
          refine DrawK.mk1 tok mixed [0, 0, 3, 7, 15, 15, 63, 127, 255, 511, 1023, 1023, 4095, 1023, 1023, 32767, 65535, 131071, 131071, 524287, 1048575, 2097151, 4194303, 8388607, 16777215, 33554431, 67108863] [(0, 0, []), (1, 0, []), (2, 1, [0]), (3, 0, []), (4, 0, []), (5, 0, []), (6, 1, [0]), (7, 0, []), (8, 0, []), (9, 0, []), (10, 0, []), (13, 0, []), (11, 1, [0]), (12, 1, [0]), (14, 1, [0]), (15, 1, [0]), (16, 0, []), (17, 1, [0]), (18, 1, [0]), (19, 1, [0]), (20, 0, []), (21, 0, []), (22, 0, []), (23, 0, []), (24, 1, [0]), (25, 0, []), (26, 0, [])] (by kernel_rfl) ?_
          conv => whnf
          repeat (first
            | (refine CallR.mk' _ hC ?_; conv => whnf)
            | (refine CallR.mk' _ hD ?_; conv => whnf)
            | (refine CallR.mk' _ hA ?_; conv => whnf)
            | (refine CallR.mk' _ hB ?_; conv => whnf)
            | (refine CallR.mk' _ hE ?_; conv => whnf)
            | (refine CallR.mk' _ hF ?_; conv => whnf)
            | (refine CaseB.of_true x1 ?_; conv => whnf)
            | (refine CaseB.of_true x2 ?_; conv => whnf)
            | (refine CaseB.of_true hb ?_; conv => whnf)
            | (refine CaseB.of_true x3 ?_; conv => whnf))
          exact RetK.empty (okF.wv trivial)
    · conv => whnf
      refine Or.inr ?_
      conv => whnf
      refine CallK.mk' (.s (.lf (.own 2 0 3 0 cs.length))) _ ((c39 cs (by omega)).made [some ⟨23, [.one (.int .i64 k), .one (.int .i64 n), .one (.str s)]⟩, some (obD d)] (Hn := [some ⟨23, [.recs 3 cs.length (rowC cs)]⟩]) ⟨WV.lf (WL.ro rfl (by simp) (by simp) fun i hi j hj => rowC_wl hj), trivial⟩ (WV.lf (WL.uown rfl rfl rfl)) ⟨rfl, ⟨.recs rfl fun i hi j hj => rowC_wl hj, trivial⟩, trivial⟩) ?_
      conv => whnf
      refine And.intro (by omega) ?_
      conv => whnf
      refine And.intro ⟨rfl, by show (cs.length + 1) * 32 ≤ _; omega⟩ ?_
      conv => whnf
      refine CallK.mk' _ _ hA ?_
      conv => whnf
      cases hb : (cs.all fun c => holdsC c d) with
      | false =>
        have x0 : (M.all fun c => holdsC c d) = false := by rw [hall, hb]; rfl
        have x3 : ((M.all fun c => holdsC c d) == false) = true := by rw [x0]; rfl
        refine CaseB.of_false x0 ?_
        conv => whnf
        refine DrawK.mk1 tok mixed [0, 0, 3, 7, 15, 15, 63, 127, 255, 511, 1023, 1023, 4095, 1023, 1023, 32767, 65535, 131071, 131071, 524287, 1048575, 2097151, 4194303, 8388607, 16777215, 33554431, 67108863] [(0, 0, []), (1, 0, []), (2, 1, [0]), (3, 0, []), (4, 0, []), (5, 0, []), (6, 1, [0]), (7, 0, []), (8, 0, []), (9, 0, []), (10, 0, []), (13, 0, []), (11, 1, [0]), (12, 1, [0]), (14, 1, [0]), (15, 1, [0]), (16, 0, []), (17, 1, [0]), (18, 1, [0]), (19, 1, [0]), (20, 0, []), (21, 0, []), (22, 0, []), (23, 0, []), (24, 1, [0]), (25, 0, []), (26, 0, [])] (by kernel_rfl) ?_
        conv => whnf
        repeat (first
          | (refine CallR.mk' _ hC ?_; conv => whnf)
          | (refine CallR.mk' _ hD ?_; conv => whnf)
          | (refine CallR.mk' _ hA ?_; conv => whnf)
          | (refine CallR.mk' _ hB ?_; conv => whnf)
          | (refine CallR.mk' _ hE ?_; conv => whnf)
          | (refine CallR.mk' _ hF ?_; conv => whnf)
          | (refine CaseB.of_true x1 ?_; conv => whnf)
          | (refine CaseB.of_true x2 ?_; conv => whnf)
          | (refine CaseB.of_false hb ?_; conv => whnf)
          | (refine CaseB.of_true x3 ?_; conv => whnf))
        exact RetK.empty (okF.wv trivial)
      | true =>
        have x3 : ((M.all fun c => holdsC c d) == holdsF k n s d) = true := by rw [hall, hb]; simp
        rcases Bool.eq_false_or_eq_true (M.all fun c => holdsC c d) with hc | hc
        · refine CaseB.of_true hc ?_
          conv => whnf
          refine CallK.mk' _ _ hB ?_
          conv => whnf
          refine CaseB.of_false (by rw [hb]; rfl) ?_
          conv => whnf
          refine DrawK.mk1 tok mixed [0, 0, 3, 7, 15, 15, 63, 127, 255, 511, 1023, 1023, 4095, 1023, 1023, 32767, 65535, 131071, 131071, 524287, 1048575, 2097151, 4194303, 8388607, 16777215, 33554431, 67108863] [(0, 0, []), (1, 0, []), (2, 1, [0]), (3, 0, []), (4, 0, []), (5, 0, []), (6, 1, [0]), (7, 0, []), (8, 0, []), (9, 0, []), (10, 0, []), (13, 0, []), (11, 1, [0]), (12, 1, [0]), (14, 1, [0]), (15, 1, [0]), (16, 0, []), (17, 1, [0]), (18, 1, [0]), (19, 1, [0]), (20, 0, []), (21, 0, []), (22, 0, []), (23, 0, []), (24, 1, [0]), (25, 0, []), (26, 0, [])] (by kernel_rfl) ?_
          conv => whnf
          repeat (first
            | (refine CallR.mk' _ hC ?_; conv => whnf)
            | (refine CallR.mk' _ hD ?_; conv => whnf)
            | (refine CallR.mk' _ hA ?_; conv => whnf)
            | (refine CallR.mk' _ hB ?_; conv => whnf)
            | (refine CallR.mk' _ hE ?_; conv => whnf)
            | (refine CallR.mk' _ hF ?_; conv => whnf)
            | (refine CaseB.of_true x1 ?_; conv => whnf)
            | (refine CaseB.of_true x2 ?_; conv => whnf)
            | (refine CaseB.of_true hb ?_; conv => whnf)
            | (refine CaseB.of_true x3 ?_; conv => whnf))
          exact RetK.empty (okF.wv trivial)
        · refine CaseB.of_false hc ?_
          conv => whnf
          refine DrawK.mk1 tok mixed [0, 0, 3, 7, 15, 15, 63, 127, 255, 511, 1023, 1023, 4095, 1023, 1023, 32767, 65535, 131071, 131071, 524287, 1048575, 2097151, 4194303, 8388607, 16777215, 33554431, 67108863] [(0, 0, []), (1, 0, []), (2, 1, [0]), (3, 0, []), (4, 0, []), (5, 0, []), (6, 1, [0]), (7, 0, []), (8, 0, []), (9, 0, []), (10, 0, []), (13, 0, []), (11, 1, [0]), (12, 1, [0]), (14, 1, [0]), (15, 1, [0]), (16, 0, []), (17, 1, [0]), (18, 1, [0]), (19, 1, [0]), (20, 0, []), (21, 0, []), (22, 0, []), (23, 0, []), (24, 1, [0]), (25, 0, []), (26, 0, [])] (by kernel_rfl) ?_
          conv => whnf
          repeat (first
            | (refine CallR.mk' _ hC ?_; conv => whnf)
            | (refine CallR.mk' _ hD ?_; conv => whnf)
            | (refine CallR.mk' _ hA ?_; conv => whnf)
            | (refine CallR.mk' _ hB ?_; conv => whnf)
            | (refine CallR.mk' _ hE ?_; conv => whnf)
            | (refine CallR.mk' _ hF ?_; conv => whnf)
            | (refine CaseB.of_true x1 ?_; conv => whnf)
            | (refine CaseB.of_true x2 ?_; conv => whnf)
            | (refine CaseB.of_true hb ?_; conv => whnf)
            | (refine CaseB.of_true x3 ?_; conv => whnf))
          exact RetK.empty (okF.wv trivial)
/-- baileylaw06.CaveatWeaker, of no caveats -/
theorem c6n (k n : Int) (s : List UInt8) (d : DeedS) : SCalls Proofs.Try.prog 6 [.s (.lf .sl0), vC k n s, vD d] [] (.s (.lf .tt)) [] := by
  obtain ⟨cs, hcs⟩ : ∃ cs : List CV, cs = [] := ⟨_, rfl⟩
  have hl : cs.length ≤ maxLen := by rw [hcs]; simp
  have h30 := (c30L cs hl).lend (cs := [.s (.lf .sl0)]) (fun _ => True) [some ⟨23, [.one (.int .i64 k), .one (.int .i64 n), .one (.str s)]⟩, some (obD d)] ⟨WV.lf (by rw [hcs]; exact fun _ _ _ _ _ hx => rep_sl0_ro hx), trivial⟩ (plainF.wv trivial)
  have h25 := c25.free [some ⟨23, [.one (.int .i64 k), .one (.int .i64 n), .one (.str s)]⟩, some (obD d)] trivial trivial
  refine SCalls.intro tok Proofs.Try.func6 ?_
  conv => whnf
  refine CallK.mk' _ _ h30 ?_
  conv => whnf
  cases fa : fewL cs with
  | false =>
    refine CaseB.of_true rfl ?_
    conv => whnf
    refine CallK.mk' _ _ h25 ?_
    conv => whnf
    exact RetK.empty (okF.wv trivial)
  | true =>
    have hfew : cs.length ≤ 30 := by unfold fewL at fa; simp at fa; omega
    refine CaseB.of_false rfl ?_
    conv => whnf
    by_cases h2 : 200 < (s.length : Int)
    · refine CaseB.of_true (decide_eq_true h2) ?_
      conv => whnf
      refine CallK.mk' _ _ h25 ?_
      conv => whnf
      exact RetK.empty (okF.wv trivial)
    refine CaseB.of_false (decide_eq_false h2) ?_
    conv => whnf
    obtain ⟨M, hM⟩ : ∃ M : List CV, M = cs ++ [⟨k, n, s⟩] := ⟨_, rfl⟩
    have hMl : M.length = cs.length + 1 := by rw [hM]; simp
    have hm : maxLen = 9223372036854775807 := rfl
    have hrow : ∀ i j, i < 1 → j < 3 → (fun i j => cellD ([] ++ ([Seg.one (LV.int IntKind.i64 k), Seg.one (LV.int IntKind.i64 n), Seg.one (LV.str s)] ++ [])) (i * 3 + j)) i j = rowC M i j := by
      intro i j hi hj
      obtain rfl : i = 0 := by omega
      rw [hM, hcs]
      have : j = 0 ∨ j = 1 ∨ j = 2 := by omega
      rcases this with rfl | rfl | rfl <;> rfl
    have hA := (c37 M (by omega) d).lend (cs := [.s (.lf (.own 2 0 3 0 1)), vD d]) (fun _ => False) [some ⟨23, [.one (.int .i64 k), .one (.int .i64 n), .one (.str s)]⟩, some (obD d), some ⟨23, [.recs 3 1 ((fun i j => cellD ([] ++ ([Seg.one (LV.int IntKind.i64 k), Seg.one (LV.int IntKind.i64 n), Seg.one (LV.str s)] ++ [])) (i * 3 + j)))]⟩] ⟨WV.lf (WL.lentC rfl rfl (by rw [hMl, hcs]; rfl) hrow ⟨fun h => h, fun i ob h => by simp at h⟩), freeF.wv ⟨trivial, trivial, trivial, trivial, trivial, trivial, trivial⟩, trivial⟩ (plainF.wv trivial)
    have hB := (c37 cs hl d).lend (cs := [.s (.lf .sl0), vD d]) (fun _ => False) [some ⟨23, [.one (.int .i64 k), .one (.int .i64 n), .one (.str s)]⟩, some (obD d), some ⟨23, [.recs 3 1 ((fun i j => cellD ([] ++ ([Seg.one (LV.int IntKind.i64 k), Seg.one (LV.int IntKind.i64 n), Seg.one (LV.str s)] ++ [])) (i * 3 + j)))]⟩] ⟨WV.lf (by rw [hcs]; exact fun _ _ _ _ _ hx => rep_sl0_ro hx), freeF.wv ⟨trivial, trivial, trivial, trivial, trivial, trivial, trivial⟩, trivial⟩ (plainF.wv trivial)
    have hC := (c33 M cs (by omega)).lend (cs := [.s (.lf (.own 2 0 3 0 1)), .s (.lf .sl0)]) (fun _ => False) [some ⟨23, [.one (.int .i64 k), .one (.int .i64 n), .one (.str s)]⟩, some (obD d), some ⟨23, [.recs 3 1 ((fun i j => cellD ([] ++ ([Seg.one (LV.int IntKind.i64 k), Seg.one (LV.int IntKind.i64 n), Seg.one (LV.str s)] ++ [])) (i * 3 + j)))]⟩] ⟨WV.lf (WL.lentC rfl rfl (by rw [hMl, hcs]; rfl) hrow ⟨fun h => h, fun i ob h => by simp at h⟩), WV.lf (by rw [hcs]; exact fun _ _ _ _ _ hx => rep_sl0_ro hx), trivial⟩ (plainF.wv trivial)
    have hD := (c33 cs M hl).lend (cs := [.s (.lf .sl0), .s (.lf (.own 2 0 3 0 1))]) (fun _ => False) [some ⟨23, [.one (.int .i64 k), .one (.int .i64 n), .one (.str s)]⟩, some (obD d), some ⟨23, [.recs 3 1 ((fun i j => cellD ([] ++ ([Seg.one (LV.int IntKind.i64 k), Seg.one (LV.int IntKind.i64 n), Seg.one (LV.str s)] ++ [])) (i * 3 + j)))]⟩] ⟨WV.lf (by rw [hcs]; exact fun _ _ _ _ _ hx => rep_sl0_ro hx), WV.lf (WL.lentC rfl rfl (by rw [hMl, hcs]; rfl) hrow ⟨fun h => h, fun i ob h => by simp at h⟩), trivial⟩ (plainF.wv trivial)
    have hE := (c35 k n s d).free [some ⟨23, [.one (.int .i64 k), .one (.int .i64 n), .one (.str s)]⟩, some (obD d), some ⟨23, [.recs 3 1 ((fun i j => cellD ([] ++ ([Seg.one (LV.int IntKind.i64 k), Seg.one (LV.int IntKind.i64 n), Seg.one (LV.str s)] ++ [])) (i * 3 + j)))]⟩] ⟨⟨trivial, trivial, trivial, trivial⟩, ⟨trivial, trivial, trivial, trivial, trivial, trivial, trivial⟩, trivial⟩ trivial
    have hF := c25.free [some ⟨23, [.one (.int .i64 k), .one (.int .i64 n), .one (.str s)]⟩, some (obD d), some ⟨23, [.recs 3 1 ((fun i j => cellD ([] ++ ([Seg.one (LV.int IntKind.i64 k), Seg.one (LV.int IntKind.i64 n), Seg.one (LV.str s)] ++ [])) (i * 3 + j)))]⟩] trivial trivial
    have x1 : extF M cs = true := by unfold extF; rw [hM]; simp
    have x2 : (!extF cs M) = true := by unfold extF; rw [decide_eq_false (by rw [hMl]; omega)]; rfl
    have hall : (M.all fun c => holdsC c d) = ((cs.all fun c => holdsC c d) && holdsF k n s d) := by rw [hM, List.all_append]; simp [holdsC]
    refine DrawK.mkL tok mixed [0, 1, 0, 4, 15, 31] [1, 3, 4] [
      ([0, 1, 0, 7, 15, 31], [(0, 0, []), (1, 2, []), (2, 1, [0, 1]), (3, 2, []), (4, 2, []), (5, 0, [])]),
      ([0, 13, 0, 4, 15, 31], [(0, 0, []), (2, 1, [0]), (3, 2, []), (1, 2, []), (4, 2, []), (5, 0, [])])] (by kernel_rfl) ⟨?_, ?_, trivial⟩
    · conv => whnf
      refine CallK.mk' _ _ (c39n.free _ ⟨trivial, trivial⟩ trivial) ?_
      conv => whnf
      refine And.intro rfl ?_
      conv => whnf
      refine Or.inr ?_
      conv => whnf
      refine And.intro (by show (0 + 1) * 32 ≤ _; omega) ?_
      conv => whnf
      refine CallK.mk' _ _ hA ?_
      conv => whnf
      cases hb : (cs.all fun c => holdsC c d) with
      | false =>
        have x0 : (M.all fun c => holdsC c d) = false := by rw [hall, hb]; rfl
        have x3 : ((M.all fun c => holdsC c d) == false) = true := by rw [x0]; rfl
        refine CaseB.of_false x0 ?_
        conv => whnf
        refine DrawK.mk1 tok mixed [0, 0, 3, 7, 15, 15, 63, 127, 255, 511, 1023, 1023, 4095, 1023, 1023, 32767, 65535, 131071, 131071, 524287, 1048575, 2097151, 4194303, 8388607, 16777215, 33554431, 67108863] [(0, 0, []), (1, 0, []), (2, 1, [0]), (3, 0, []), (4, 0, []), (5, 0, []), (6, 1, [0]), (7, 0, []), (8, 0, []), (9, 0, []), (10, 0, []), (13, 0, []), (11, 1, [0]), (12, 1, [0]), (14, 1, [0]), (15, 1, [0]), (16, 0, []), (17, 1, [0]), (18, 1, [0]), (19, 1, [0]), (20, 0, []), (21, 0, []), (22, 0, []), (23, 0, []), (24, 1, [0]), (25, 0, []), (26, 0, [])] (by kernel_rfl) ?_
        conv => whnf
        repeat (first
          | (refine CallR.mk' _ hC ?_; conv => whnf)
          | (refine CallR.mk' _ hD ?_; conv => whnf)
          | (refine CallR.mk' _ hA ?_; conv => whnf)
          | (refine CallR.mk' _ hB ?_; conv => whnf)
          | (refine CallR.mk' _ hE ?_; conv => whnf)
          | (refine CallR.mk' _ hF ?_; conv => whnf)
          | (refine CaseB.of_true x1 ?_; conv => whnf)
          | (refine CaseB.of_true x2 ?_; conv => whnf)
          | (refine CaseB.of_false hb ?_; conv => whnf)
          | (refine CaseB.of_true x3 ?_; conv => whnf))
        exact RetK.empty (okF.wv trivial)
      | true =>
        have x3 : ((M.all fun c => holdsC c d) == holdsF k n s d) = true := by rw [hall, hb]; simp
        rcases Bool.eq_false_or_eq_true (M.all fun c => holdsC c d) with hc | hc
        · refine CaseB.of_true hc ?_
          conv => whnf
          refine CallK.mk' _ _ hB ?_
          conv => whnf
          refine CaseB.of_false (by rw [hb]; rfl) ?_
          conv => whnf
          refine DrawK.mk1 tok mixed [0, 0, 3, 7, 15, 15, 63, 127, 255, 511, 1023, 1023, 4095, 1023, 1023, 32767, 65535, 131071, 131071, 524287, 1048575, 2097151, 4194303, 8388607, 16777215, 33554431, 67108863] [(0, 0, []), (1, 0, []), (2, 1, [0]), (3, 0, []), (4, 0, []), (5, 0, []), (6, 1, [0]), (7, 0, []), (8, 0, []), (9, 0, []), (10, 0, []), (13, 0, []), (11, 1, [0]), (12, 1, [0]), (14, 1, [0]), (15, 1, [0]), (16, 0, []), (17, 1, [0]), (18, 1, [0]), (19, 1, [0]), (20, 0, []), (21, 0, []), (22, 0, []), (23, 0, []), (24, 1, [0]), (25, 0, []), (26, 0, [])] (by kernel_rfl) ?_
          conv => whnf
          repeat (first
            | (refine CallR.mk' _ hC ?_; conv => whnf)
            | (refine CallR.mk' _ hD ?_; conv => whnf)
            | (refine CallR.mk' _ hA ?_; conv => whnf)
            | (refine CallR.mk' _ hB ?_; conv => whnf)
            | (refine CallR.mk' _ hE ?_; conv => whnf)
            | (refine CallR.mk' _ hF ?_; conv => whnf)
            | (refine CaseB.of_true x1 ?_; conv => whnf)
            | (refine CaseB.of_true x2 ?_; conv => whnf)
            | (refine CaseB.of_true hb ?_; conv => whnf)
            | (refine CaseB.of_true x3 ?_; conv => whnf))
          exact RetK.empty (okF.wv trivial)
        · refine CaseB.of_false hc ?_
          conv => whnf
          refine DrawK.mk1 tok mixed [0, 0, 3, 7, 15, 15, 63, 127, 255, 511, 1023, 1023, 4095, 1023, 1023, 32767, 65535, 131071, 131071, 524287, 1048575, 2097151, 4194303, 8388607, 16777215, 33554431, 67108863] [(0, 0, []), (1, 0, []), (2, 1, [0]), (3, 0, []), (4, 0, []), (5, 0, []), (6, 1, [0]), (7, 0, []), (8, 0, []), (9, 0, []), (10, 0, []), (13, 0, []), (11, 1, [0]), (12, 1, [0]), (14, 1, [0]), (15, 1, [0]), (16, 0, []), (17, 1, [0]), (18, 1, [0]), (19, 1, [0]), (20, 0, []), (21, 0, []), (22, 0, []), (23, 0, []), (24, 1, [0]), (25, 0, []), (26, 0, [])] (by kernel_rfl) ?_
          conv => whnf
          repeat (first
            | (refine CallR.mk' _ hC ?_; conv => whnf)
            | (refine CallR.mk' _ hD ?_; conv => whnf)
            | (refine CallR.mk' _ hA ?_; conv => whnf)
            | (refine CallR.mk' _ hB ?_; conv => whnf)
            | (refine CallR.mk' _ hE ?_; conv => whnf)
            | (refine CallR.mk' _ hF ?_; conv => whnf)
            | (refine CaseB.of_true x1 ?_; conv => whnf)
            | (refine CaseB.of_true x2 ?_; conv => whnf)
            | (refine CaseB.of_true hb ?_; conv => whnf)
            | (refine CaseB.of_true x3 ?_; conv => whnf))
          exact RetK.empty (okF.wv trivial)
    · conv => whnf
      refine Or.inr ?_
      conv => whnf
      refine CallK.mk' _ _ (c39n.free _ ⟨trivial, trivial⟩ trivial) ?_
      conv => whnf
      refine And.intro (by show (0 + 1) * 32 ≤ _; omega) ?_
      conv => whnf
      refine CallK.mk' _ _ hA ?_
      conv => whnf
      cases hb : (cs.all fun c => holdsC c d) with
      | false =>
        have x0 : (M.all fun c => holdsC c d) = false := by rw [hall, hb]; rfl
        have x3 : ((M.all fun c => holdsC c d) == false) = true := by rw [x0]; rfl
        refine CaseB.of_false x0 ?_
        conv => whnf
        refine DrawK.mk1 tok mixed [0, 0, 3, 7, 15, 15, 63, 127, 255, 511, 1023, 1023, 4095, 1023, 1023, 32767, 65535, 131071, 131071, 524287, 1048575, 2097151, 4194303, 8388607, 16777215, 33554431, 67108863] [(0, 0, []), (1, 0, []), (2, 1, [0]), (3, 0, []), (4, 0, []), (5, 0, []), (6, 1, [0]), (7, 0, []), (8, 0, []), (9, 0, []), (10, 0, []), (13, 0, []), (11, 1, [0]), (12, 1, [0]), (14, 1, [0]), (15, 1, [0]), (16, 0, []), (17, 1, [0]), (18, 1, [0]), (19, 1, [0]), (20, 0, []), (21, 0, []), (22, 0, []), (23, 0, []), (24, 1, [0]), (25, 0, []), (26, 0, [])] (by kernel_rfl) ?_
        conv => whnf
        repeat (first
          | (refine CallR.mk' _ hC ?_; conv => whnf)
          | (refine CallR.mk' _ hD ?_; conv => whnf)
          | (refine CallR.mk' _ hA ?_; conv => whnf)
          | (refine CallR.mk' _ hB ?_; conv => whnf)
          | (refine CallR.mk' _ hE ?_; conv => whnf)
          | (refine CallR.mk' _ hF ?_; conv => whnf)
          | (refine CaseB.of_true x1 ?_; conv => whnf)
          | (refine CaseB.of_true x2 ?_; conv => whnf)
          | (refine CaseB.of_false hb ?_; conv => whnf)
          | (refine CaseB.of_true x3 ?_; conv => whnf))
        exact RetK.empty (okF.wv trivial)
      | true =>
        have x3 : ((M.all fun c => holdsC c d) == holdsF k n s d) = true := by rw [hall, hb]; simp
        rcases Bool.eq_false_or_eq_true (M.all fun c => holdsC c d) with hc | hc
        · refine CaseB.of_true hc ?_
          conv => whnf
          refine CallK.mk' _ _ hB ?_
          conv => whnf
          refine CaseB.of_false (by rw [hb]; rfl) ?_
          conv => whnf
          refine DrawK.mk1 tok mixed [0, 0, 3, 7, 15, 15, 63, 127, 255, 511, 1023, 1023, 4095, 1023, 1023, 32767, 65535, 131071, 131071, 524287, 1048575, 2097151, 4194303, 8388607, 16777215, 33554431, 67108863] [(0, 0, []), (1, 0, []), (2, 1, [0]), (3, 0, []), (4, 0, []), (5, 0, []), (6, 1, [0]), (7, 0, []), (8, 0, []), (9, 0, []), (10, 0, []), (13, 0, []), (11, 1, [0]), (12, 1, [0]), (14, 1, [0]), (15, 1, [0]), (16, 0, []), (17, 1, [0]), (18, 1, [0]), (19, 1, [0]), (20, 0, []), (21, 0, []), (22, 0, []), (23, 0, []), (24, 1, [0]), (25, 0, []), (26, 0, [])] (by kernel_rfl) ?_
          conv => whnf
          repeat (first
            | (refine CallR.mk' _ hC ?_; conv => whnf)
            | (refine CallR.mk' _ hD ?_; conv => whnf)
            | (refine CallR.mk' _ hA ?_; conv => whnf)
            | (refine CallR.mk' _ hB ?_; conv => whnf)
            | (refine CallR.mk' _ hE ?_; conv => whnf)
            | (refine CallR.mk' _ hF ?_; conv => whnf)
            | (refine CaseB.of_true x1 ?_; conv => whnf)
            | (refine CaseB.of_true x2 ?_; conv => whnf)
            | (refine CaseB.of_true hb ?_; conv => whnf)
            | (refine CaseB.of_true x3 ?_; conv => whnf))
          exact RetK.empty (okF.wv trivial)
        · refine CaseB.of_false hc ?_
          conv => whnf
          refine DrawK.mk1 tok mixed [0, 0, 3, 7, 15, 15, 63, 127, 255, 511, 1023, 1023, 4095, 1023, 1023, 32767, 65535, 131071, 131071, 524287, 1048575, 2097151, 4194303, 8388607, 16777215, 33554431, 67108863] [(0, 0, []), (1, 0, []), (2, 1, [0]), (3, 0, []), (4, 0, []), (5, 0, []), (6, 1, [0]), (7, 0, []), (8, 0, []), (9, 0, []), (10, 0, []), (13, 0, []), (11, 1, [0]), (12, 1, [0]), (14, 1, [0]), (15, 1, [0]), (16, 0, []), (17, 1, [0]), (18, 1, [0]), (19, 1, [0]), (20, 0, []), (21, 0, []), (22, 0, []), (23, 0, []), (24, 1, [0]), (25, 0, []), (26, 0, [])] (by kernel_rfl) ?_
          conv => whnf
          repeat (first
            | (refine CallR.mk' _ hC ?_; conv => whnf)
            | (refine CallR.mk' _ hD ?_; conv => whnf)
            | (refine CallR.mk' _ hA ?_; conv => whnf)
            | (refine CallR.mk' _ hB ?_; conv => whnf)
            | (refine CallR.mk' _ hE ?_; conv => whnf)
            | (refine CallR.mk' _ hF ?_; conv => whnf)
            | (refine CaseB.of_true x1 ?_; conv => whnf)
            | (refine CaseB.of_true x2 ?_; conv => whnf)
            | (refine CaseB.of_true hb ?_; conv => whnf)
            | (refine CaseB.of_true x3 ?_; conv => whnf))
          exact RetK.empty (okF.wv trivial)
theorem rd_cvs_t {w : World} {v : Value} {len : Nat} {f : Nat → Nat → LV} (h : ∀ i, i < len → RdL Γ 5 23 (f i) 0) (hl : len ≤ maxLen) (hr : repF w L0 (.s (.lf (.ro true false 3 len f))) v) : ∃ cs : List CV, cs.length ≤ maxLen ∧ repF w L0 (vRt cs) v := by
  obtain ⟨k, n, s, R⟩ := rd_row h
  refine ⟨(List.range len).map fun i => ⟨k i, n i, s i⟩, by simpa using hl, ?_⟩
  have hlen : ((List.range len).map fun i => (⟨k i, n i, s i⟩ : CV)).length = len := by simp
  have hg : ∀ i, i < len → ((List.range len).map fun i => (⟨k i, n i, s i⟩ : CV)).getD i cv0 = ⟨k i, n i, s i⟩ := fun i hi => by simp [List.getD, hi]
  show roRep _ _ _ _ _ _ _ _
  rw [hlen]
  rcases hr with ⟨hr, _⟩ | ⟨a, cap, h0, h1, h2, h3, h4, h5⟩
  · simp at hr
  · refine .inr ⟨a, cap, h0, h1, h2, h3, h4, fun i hi j hj => ?_⟩
    obtain ⟨c, e1, e2, e3⟩ := h5 i hi j hj
    refine ⟨c, e1, e2, ?_⟩
    have : j = 0 ∨ j = 1 ∨ j = 2 := by omega
    rcases this with rfl | rfl | rfl
    · rw [R.c0 i hi] at e3; show rep _ _ (.int .i64 _) _; rw [hg i hi]; exact e3
    · rw [R.c1 i hi] at e3; show rep _ _ (.int .i64 _) _; rw [hg i hi]; exact e3
    · rw [R.c2 i hi] at e3; show rep _ _ (.str _) _; rw [hg i hi]; exact e3

end Go.Sym.Md

set_option linter.unusedVariables false
set_option linter.unusedSimpArgs false
set_option maxRecDepth 10000
namespace Go.Sym.Md
open Go Go.Sym

theorem WL.lentT {H H' : Hp} {μ : Nat → Nat} {hid : Nat → Prop} {nm len : Nat} {xs : List UInt8} {ty : TypeId} (hob : hget H nm = some ⟨ty, [.bytes len xs]⟩) (hl : len = xs.length) (hg : gone H' μ hid nm) : WL (Down H H' μ hid) (.own nm 0 1 0 len) (.rob true false xs) := by
  intro w L L' x h hx
  exact WL.freezeB (ob := ⟨ty, [.bytes len xs]⟩) (p := []) (q := []) hob rfl rfl (by omega) (by omega) (by rw [List.drop_zero, hl, List.take_length]) hg w L L' x h hx

/-! ### Caveats' bytes -/
def putC (b : List UInt8) (c : CV) : List UInt8 := if okC c.k c.n c.s then putF b c.k c.n c.s else b
def codeC (cs : List CV) : List UInt8 := cs.foldl putC (numF cs.length)
abbrev vCc (c : CV) : FV := vC c.k c.n c.s
abbrev obC (c : CV) : OB := ⟨23, [.one (.int .i64 c.k), .one (.int .i64 c.n), .one (.str c.s)]⟩

theorem putF_length (b : List UInt8) (k n : Int) (s : List UInt8) (h : okC k n s = true) : b.length ≤ (putF b k n s).length ∧ (putF b k n s).length ≤ b.length + 50 := by
  obtain ⟨_, _, _, _, hs⟩ := okC_facts h
  have h1 := numF_length k.toNat
  have h2 := numF_length s.length
  have h3 := numF_length n.toNat
  have a1 := sz_le k.toNat
  have a2 := sz_le s.length
  have a3 := sz_le n.toNat
  unfold putF
  split <;> simp only [List.length_append] <;> omega
theorem putC_length (b : List UInt8) (c : CV) : b.length ≤ (putC b c).length ∧ (putC b c).length ≤ b.length + 50 := by
  unfold putC
  split
  · rename_i h; exact putF_length b c.k c.n c.s h
  · omega

theorem hasF_one (k : Int) : hasF k = 1 ↔ k = 2 ∨ k = 3 := by
  unfold hasF
  split
  · simp [*]
  · split <;> simp [*]

attribute [local irreducible] numF checkF hasF okC boundF

theorem checkF_bad {k n : Int} {s : List UInt8} (h : okC k n s = false) : checkF k n s = 1 := by unfold checkF; rw [h]; rfl
theorem checkF_good {k n : Int} {s : List UInt8} (h : okC k n s = true) : checkF k n s = 0 := by unfold checkF; rw [h]; rfl

/-- caveat.Put, of what may not be, behind nothing -/
theorem c58x (c : CV) (h : okC c.k c.n c.s = false) : SCalls Proofs.Try.prog 58 [.s (.lf .sl0), vCc c] [] (.s (.lf .sl0)) [] := by
  refine SCalls.intro tok Proofs.Try.func58 ?_
  conv => whnf
  refine CallK.mk' _ _ ((c26 c.k c.n c.s).free _ ⟨⟨trivial, trivial, trivial, trivial⟩, trivial⟩ trivial) ?_
  conv => whnf
  refine CaseB.of_true (by rw [checkF_bad h]; rfl) ?_
  conv => whnf
  refine CallK.mk' _ _ (c136n.free _ ⟨trivial, trivial⟩ trivial) ?_
  conv => whnf
  exact RetK.empty (okF.wv trivial)

/-- caveat.Put, of what may not be -/
theorem c58w (b : List UInt8) (c : CV) (h : okC c.k c.n c.s = false) (hb : b.length ≤ 1000000000000) : SCalls Proofs.Try.prog 58 [.s (.lf (.rob true false b)), vCc c] [] (.s (.lf (.own 0 0 1 0 b.length))) [some ⟨5, [.bytes b.length b]⟩] := by
  refine SCalls.intro tok Proofs.Try.func58 ?_
  conv => whnf
  refine CallK.mk' _ _ ((c26 c.k c.n c.s).free _ ⟨⟨trivial, trivial, trivial, trivial⟩, trivial⟩ trivial) ?_
  conv => whnf
  refine CaseB.of_true (by rw [checkF_bad h]; rfl) ?_
  conv => whnf
  refine CallK.mk' (.s (.lf (.own 1 0 1 0 b.length))) _ ((c136 b (by omega)).made [some (obC c)] (Hn := [some ⟨5, [.bytes b.length b]⟩]) ⟨freeF.wv trivial, trivial⟩ (WV.lf (WL.uown rfl rfl rfl)) ⟨rfl, ⟨.bytes rfl fun _ _ => rfl, trivial⟩, trivial⟩) ?_
  conv => whnf
  exact RetK.perm [1] ⟨⟨rfl, .bytes rfl fun _ _ => rfl, trivial⟩, trivial⟩ (WV.lf (WL.own rfl rfl rfl rfl)) rfl (by simp) rfl (by simp)

/-- caveat.Put, behind bytes that are there -/
theorem c58t (b : List UInt8) (c : CV) (hb : b.length ≤ 100000000000) : SCalls Proofs.Try.prog 58 [.s (.lf (.rob true false b)), vCc c] [] (.s (.lf (.own 0 0 1 0 (putC b c).length))) [some ⟨5, [.bytes (putC b c).length (putC b c)]⟩] := by
  cases h : okC c.k c.n c.s with
  | false => rw [show putC b c = b by unfold putC; rw [h]; rfl]; exact c58w b c h (by omega)
  | true =>
    rw [show putC b c = putF b c.k c.n c.s by unfold putC; rw [h]; rfl]
    have hu := (c58 b c.k c.n c.s h (by omega)).madeL (cs := [.s (.lf (.rob true false b)), vCc c]) (fun _ => True) [] (Hn := [some ⟨5, [.bytes (putF b c.k c.n c.s).length (putF b c.k c.n c.s)]⟩]) (rc := .s (.lf (.own 0 0 1 0 (putF b c.k c.n c.s).length)))
      ⟨WV.lf (WL.rob rfl (by simp) (by simp)), freeF.wv ⟨trivial, trivial, trivial, trivial⟩, trivial⟩ (WV.lf (WL.uown rfl rfl rfl)) ⟨rfl, ⟨.bytes rfl fun _ _ => rfl, trivial⟩, trivial⟩
    exact hu

/-- baileyref06.Put, of what may be -/
theorem c59k (b : List UInt8) (k n : Int) (s : List UInt8) (hok : okC k n s = true) (hb : b.length ≤ 1000000000000) : SCalls Proofs.Try.prog 59 [.s (.lf (.rob false false b)), vC k n s] [] (.s (.lf (.own 0 0 1 0 (putF b k n s).length))) [some ⟨5, [.bytes (putF b k n s).length (putF b k n s)]⟩] := by
  obtain ⟨hk1, hk6, hn0, hn1, hsl⟩ := okC_facts hok
  have hl := numF_length k.toNat
  have h9 := sz_le k.toNat
  refine SCalls.intro tok Proofs.Try.func59 ?_
  conv => whnf
  refine CallK.mk' _ _ ((c27 k n s).free _ ⟨⟨trivial, trivial, trivial, trivial⟩, trivial⟩ trivial) ?_
  conv => whnf
  refine CaseB.of_false (by rw [checkF_good hok]; rfl) ?_
  conv => whnf
  refine CallK.mk' (.s (.lf (.own 1 0 1 0 (b ++ numF k.toNat).length))) _ ((c133 b k k.toNat (by omega) (by omega) (by omega)).made [some (obC ⟨k, n, s⟩)] (Hn := [some ⟨5, [.bytes (b ++ numF k.toNat).length (b ++ numF k.toNat)]⟩]) ⟨freeF.wv trivial, freeF.wv trivial, trivial⟩ (WV.lf (WL.uown rfl rfl rfl)) ⟨rfl, ⟨.bytes rfl fun _ _ => rfl, trivial⟩, trivial⟩) ?_
  conv => whnf
  refine CallK.mk' _ _ ((c124 k).free _ ⟨trivial, trivial⟩ trivial) ?_
  conv => whnf
  have hbl : (b ++ numF k.toNat).length ≤ 140737000000000 := by rw [List.length_append]; omega
  by_cases h1 : hasF k = 1
  · refine CaseB.of_true (decide_eq_true ((hasF_one k).1 h1)) ?_
    conv => whnf
    refine CallK.mk' (.s (.lf (.own 2 0 1 0 (b ++ numF k.toNat ++ numF s.length ++ s).length))) _ ((c139 (b ++ numF k.toNat) s (by omega) hbl).madeL (cs := [.s (.lf (.own 1 0 1 0 (b ++ numF k.toNat).length)), .s (.lf (.str s))]) (fun _ => False) [some (obC ⟨k, n, s⟩), some ⟨5, [.bytes (b ++ numF k.toNat).length (b ++ numF k.toNat)]⟩] (Hn := [some ⟨5, [.bytes (b ++ numF k.toNat ++ numF s.length ++ s).length (b ++ numF k.toNat ++ numF s.length ++ s)]⟩]) ⟨WV.lf (WL.lent (ty := 5) rfl rfl ⟨fun h => h, fun i ob h => by simp at h⟩), freeF.wv trivial, trivial⟩ (WV.lf (WL.uown rfl rfl rfl)) ⟨rfl, ⟨.bytes rfl fun _ _ => rfl, trivial⟩, trivial⟩) ?_
    conv => whnf
    have e : putF b k n s = b ++ numF k.toNat ++ numF s.length ++ s := by unfold putF; rw [if_pos h1]
    rw [e]
    exact RetK.perm [2] ⟨⟨rfl, .bytes rfl fun _ _ => rfl, trivial⟩, trivial⟩ (WV.lf (WL.own rfl rfl rfl rfl)) rfl (by simp) rfl (by simp)
  · refine CaseB.of_false (decide_eq_false (fun h => h1 ((hasF_one k).2 h))) ?_
    conv => whnf
    refine CallK.mk' (.s (.lf (.own 2 0 1 0 (b ++ numF k.toNat ++ numF n.toNat).length))) _ ((c133 (b ++ numF k.toNat) n n.toNat (by omega) (by omega) (by omega)).madeL (cs := [.s (.lf (.own 1 0 1 0 (b ++ numF k.toNat).length)), vI n]) (fun _ => False) [some (obC ⟨k, n, s⟩), some ⟨5, [.bytes (b ++ numF k.toNat).length (b ++ numF k.toNat)]⟩] (Hn := [some ⟨5, [.bytes (b ++ numF k.toNat ++ numF n.toNat).length (b ++ numF k.toNat ++ numF n.toNat)]⟩]) ⟨WV.lf (WL.lent (ty := 5) rfl rfl ⟨fun h => h, fun i ob h => by simp at h⟩), freeF.wv trivial, trivial⟩ (WV.lf (WL.uown rfl rfl rfl)) ⟨rfl, ⟨.bytes rfl fun _ _ => rfl, trivial⟩, trivial⟩) ?_
    conv => whnf
    have e : putF b k n s = b ++ numF k.toNat ++ numF n.toNat := by unfold putF; rw [if_neg h1]
    rw [e]
    exact RetK.perm [2] ⟨⟨rfl, .bytes rfl fun _ _ => rfl, trivial⟩, trivial⟩ (WV.lf (WL.own rfl rfl rfl rfl)) rfl (by simp) rfl (by simp)

/-- baileyref06.Put, of what may not be, behind nothing -/
theorem c59x (c : CV) (h : okC c.k c.n c.s = false) : SCalls Proofs.Try.prog 59 [.s (.lf (.rob false false [])), vCc c] [] (.s (.lf .sl0)) [] := by
  refine SCalls.intro tok Proofs.Try.func59 ?_
  conv => whnf
  refine CallK.mk' _ _ ((c27 c.k c.n c.s).free _ ⟨⟨trivial, trivial, trivial, trivial⟩, trivial⟩ trivial) ?_
  conv => whnf
  refine CaseB.of_true (by rw [checkF_bad h]; rfl) ?_
  conv => whnf
  exact RetK.empty (okF.wv trivial)

/-- baileyref06.Put, of what may not be -/
theorem c59w (x : UInt8) (b : List UInt8) (c : CV) (h : okC c.k c.n c.s = false) (hb : b.length ≤ 100000000000) : SCalls Proofs.Try.prog 59 [.s (.lf (.rob false false (x :: b))), vCc c] [] (.s (.lf (.own 0 0 1 0 (x :: b).length))) [some ⟨5, [.bytes (x :: b).length (x :: b)]⟩] := by
  refine SCalls.intro tok Proofs.Try.func59 ?_
  conv => whnf
  refine CallK.mk' _ _ ((c27 c.k c.n c.s).free _ ⟨⟨trivial, trivial, trivial, trivial⟩, trivial⟩ trivial) ?_
  conv => whnf
  refine CaseB.of_true (by rw [checkF_bad h]; rfl) ?_
  conv => whnf
  refine And.intro (by rw [List.length_cons]; omega) ?_
  conv => whnf
  exact RetK.perm [1] ⟨⟨rfl, .bytes rfl fun _ _ => rfl, trivial⟩, trivial⟩ (WV.lf (WL.own rfl rfl rfl rfl)) rfl (by simp) rfl (by simp)

/-- baileyref06.Put, behind bytes that are there -/
theorem c59t (b : List UInt8) (c : CV) (hb : b.length ≤ 10000000000) (hne : b ≠ []) : SCalls Proofs.Try.prog 59 [.s (.lf (.rob false false b)), vCc c] [] (.s (.lf (.own 0 0 1 0 (putC b c).length))) [some ⟨5, [.bytes (putC b c).length (putC b c)]⟩] := by
  cases h : okC c.k c.n c.s with
  | false =>
    rw [show putC b c = b by unfold putC; rw [h]; rfl]
    cases b with
    | nil => exact absurd rfl hne
    | cons x b => rw [List.length_cons] at hb; exact c59w x b c h (by omega)
  | true =>
    rw [show putC b c = putF b c.k c.n c.s by unfold putC; rw [h]; rfl]
    exact c59k b c.k c.n c.s h (by omega)

theorem codeC_take (cs : List CV) (i : Nat) (hi : i < cs.length) : (cs.take (i + 1)).foldl putC (numF cs.length) = putC ((cs.take i).foldl putC (numF cs.length)) (cs.getD i cv0) := by
  rw [List.take_add_one, List.foldl_append, List.getElem?_eq_getElem hi, List.getD_eq_getElem?_getD, List.getElem?_eq_getElem hi]
  rfl
theorem codeC_length (cs : List CV) : ∀ i, i ≤ cs.length → 1 ≤ ((cs.take i).foldl putC (numF cs.length)).length ∧ ((cs.take i).foldl putC (numF cs.length)).length ≤ 10 + 50 * i := by
  intro i hi
  induction i with
  | zero =>
    have h1 := numF_length cs.length
    have h2 := sz_le cs.length
    have h3 := sz_pos cs.length
    simp only [List.take_zero, List.foldl_nil]
    omega
  | succ i ih =>
    rw [codeC_take cs i (by omega)]
    have := putC_length ((cs.take i).foldl putC (numF cs.length)) (cs.getD i cv0)
    have := ih (by omega)
    omega

/-- caveat.Code -/
theorem c60 (cs : List CV) (hl : cs.length ≤ 1000000) : SCalls Proofs.Try.prog 60 [vR cs] [] (.s (.lf (.rob true false (codeC cs)))) [] := by
  refine SCalls.intro tok Proofs.Try.func60 ?_
  conv => whnf
  refine CallK.mk' (.s (.lf (.own 0 0 1 0 (numF cs.length).length))) _ ((c137 [] cs.length cs.length (by omega) (by omega) (by simp)).made [] (Hn := [some ⟨5, [.bytes (numF cs.length).length (numF cs.length)]⟩]) ⟨WV.lf WL.sl0rob', freeF.wv trivial, trivial⟩ (WV.lf (WL.uown rfl rfl rfl)) ⟨rfl, ⟨.bytes rfl fun _ _ => rfl, trivial⟩, trivial⟩) ?_
  conv => whnf
  obtain ⟨P, hP⟩ : ∃ P : Nat → List UInt8, P = fun i => (cs.take i).foldl putC (numF cs.length) := ⟨_, rfl⟩
  have hP0 : P 0 = numF cs.length := by rw [hP]; rfl
  have hPs : ∀ i, i < cs.length → P (i + 1) = putC (P i) (cs.getD i cv0) := fun i hi => by rw [hP]; exact codeC_take cs i hi
  have hPn : P cs.length = codeC cs := by rw [hP]; show (cs.take cs.length).foldl putC _ = _; rw [List.take_length]; rfl
  have hPl : ∀ i, i ≤ cs.length → 1 ≤ (P i).length ∧ (P i).length ≤ 10 + 50 * i := fun i hi => by rw [hP]; exact codeC_length cs i hi
  clear hP
  refine LoopK.mk1 (fun i : Nat => [(11, vI i), (10, vI cs.length), (9, vR cs), (3, .s (.lf (.own 0 0 1 0 (P i).length))), (2, .s (.lf .sl0))]) (fun i => [some ⟨5, [.bytes (P i).length (P i)]⟩]) (fun i => i ≤ cs.length) (fun i => cs.length - i) 0 (by omega) ?_ ?_
  · exact Weak.of ⟨rfl, ⟨.bytes (by rw [hP0]) fun _ _ => by rw [hP0], trivial⟩, trivial⟩ (by simp) ⟨okF.wv trivial, okF.wv trivial, okF.wv rowC_ok, WV.lf (WL.own rfl rfl rfl (by rw [hP0])), okF.wv trivial, trivial⟩
  intro i hi
  conv => whnf
  by_cases hl' : i < cs.length
  · refine CaseB.of_true (decide_eq_true (by omega)) ?_
    conv => whnf
    refine And.intro (by omega) ?_
    conv => whnf
    have hpl := hPl i (by omega)
    have hps := hPs i hl'
    obtain ⟨c, hc⟩ : ∃ c, cs.getD i cv0 = c := ⟨_, rfl⟩
    rw [hc] at hps
    have hi0 : cs.getD (Int.toNat (i : Int)) cv0 = c := by rw [Int.toNat_natCast]; exact hc
    rw [hi0]
    refine CallK.mk' (.s (.lf (.own 2 0 1 0 (P (i + 1)).length))) _ ((c58t (P i) c (by omega)).madeL (cs := [.s (.lf (.own 0 0 1 0 (P i).length)), vCc c]) (fun _ => False) [some ⟨5, [.bytes (P i).length (P i)]⟩, some (obC c)] (Hn := [some ⟨5, [.bytes (P (i + 1)).length (P (i + 1))]⟩]) ⟨WV.lf (WL.lentT (ty := 5) rfl rfl ⟨fun h => h, fun i ob h => by simp at h⟩), freeF.wv ⟨trivial, trivial, trivial, trivial⟩, trivial⟩ (WV.lf (WL.uown rfl rfl (by rw [hps]))) ⟨rfl, ⟨.bytes (by rw [hps]) fun _ _ => by rw [hps], trivial⟩, trivial⟩) ?_
    conv => whnf
    refine ⟨i + 1, by omega, by omega, ?_⟩
    exact Weak.perm [2] ⟨⟨rfl, .bytes rfl fun _ _ => rfl, trivial⟩, trivial⟩ ⟨WV.lf (WL.int (by rw [wrap_i64 (by omega) (by omega)]; omega)), freeF.wv trivial, freeF.wv rowC_free, WV.lf (WL.own rfl rfl rfl rfl), freeF.wv trivial, trivial⟩ rfl (by simp) rfl (by simp)
  · refine CaseB.of_false (decide_eq_false (by omega)) ?_
    conv => whnf
    obtain rfl : i = cs.length := by omega
    rw [hPn]
    exact RetK.empty (WV.lf (WL.lentT (ty := 5) rfl rfl (gone_none fun h => h)))

/-- baileyref06.Code -/
theorem c61 (cs : List CV) (hl : cs.length ≤ 1000000) : SCalls Proofs.Try.prog 61 [vR cs] [] (.s (.lf (.rob true false (codeC cs)))) [] := by
  refine SCalls.intro tok Proofs.Try.func61 ?_
  conv => whnf
  refine CallK.mk' (.s (.lf (.own 0 0 1 0 (numF cs.length).length))) _ ((c133 [] cs.length cs.length (by omega) (by omega) (by simp)).made [] (Hn := [some ⟨5, [.bytes (numF cs.length).length (numF cs.length)]⟩]) ⟨WV.lf WL.sl0rob', freeF.wv trivial, trivial⟩ (WV.lf (WL.uown rfl rfl rfl)) ⟨rfl, ⟨.bytes rfl fun _ _ => rfl, trivial⟩, trivial⟩) ?_
  conv => whnf
  obtain ⟨P, hP⟩ : ∃ P : Nat → List UInt8, P = fun i => (cs.take i).foldl putC (numF cs.length) := ⟨_, rfl⟩
  have hP0 : P 0 = numF cs.length := by rw [hP]; rfl
  have hPs : ∀ i, i < cs.length → P (i + 1) = putC (P i) (cs.getD i cv0) := fun i hi => by rw [hP]; exact codeC_take cs i hi
  have hPn : P cs.length = codeC cs := by rw [hP]; show (cs.take cs.length).foldl putC _ = _; rw [List.take_length]; rfl
  have hPl : ∀ i, i ≤ cs.length → 1 ≤ (P i).length ∧ (P i).length ≤ 10 + 50 * i := fun i hi => by rw [hP]; exact codeC_length cs i hi
  clear hP
  refine LoopK.mk1 (fun i : Nat => [(4, vI i), (0, vR cs), (3, .s (.lf (.own 0 0 1 0 (P i).length))), (2, .s (.lf .sl0))]) (fun i => [some ⟨5, [.bytes (P i).length (P i)]⟩]) (fun i => i ≤ cs.length) (fun i => cs.length - i) 0 (by omega) ?_ ?_
  · exact Weak.of ⟨rfl, ⟨.bytes (by rw [hP0]) fun _ _ => by rw [hP0], trivial⟩, trivial⟩ (by simp) ⟨okF.wv trivial, okF.wv rowC_ok, WV.lf (WL.own rfl rfl rfl (by rw [hP0])), okF.wv trivial, trivial⟩
  intro i hi
  conv => whnf
  by_cases hl' : i < cs.length
  · refine CaseB.of_true (decide_eq_true (by omega)) ?_
    conv => whnf
    refine And.intro (by omega) ?_
    conv => whnf
    have hpl := hPl i (by omega)
    have hps := hPs i hl'
    obtain ⟨c, hc⟩ : ∃ c, cs.getD i cv0 = c := ⟨_, rfl⟩
    rw [hc] at hps
    have hi0 : cs.getD (Int.toNat (i : Int)) cv0 = c := by rw [Int.toNat_natCast]; exact hc
    rw [hi0]
    refine CallK.mk' (.s (.lf (.own 1 0 1 0 (P (i + 1)).length))) _ ((c59t (P i) c (by omega) (fun h => by rw [h] at hpl; simp at hpl)).madeL (cs := [.s (.lf (.own 0 0 1 0 (P i).length)), vCc c]) (fun _ => False) [some ⟨5, [.bytes (P i).length (P i)]⟩] (Hn := [some ⟨5, [.bytes (P (i + 1)).length (P (i + 1))]⟩]) ⟨WV.lf (WL.lent (ty := 5) rfl rfl ⟨fun h => h, fun i ob h => by simp at h⟩), freeF.wv ⟨trivial, trivial, trivial, trivial⟩, trivial⟩ (WV.lf (WL.uown rfl rfl (by rw [hps]))) ⟨rfl, ⟨.bytes (by rw [hps]) fun _ _ => by rw [hps], trivial⟩, trivial⟩) ?_
    conv => whnf
    refine ⟨i + 1, by omega, by omega, ?_⟩
    exact Weak.perm [1] ⟨⟨rfl, .bytes rfl fun _ _ => rfl, trivial⟩, trivial⟩ ⟨WV.lf (WL.int (by rw [wrap_i64 (by omega) (by omega)]; omega)), freeF.wv rowC_free, WV.lf (WL.own rfl rfl rfl rfl), freeF.wv trivial, trivial⟩ rfl (by simp) rfl (by simp)
  · refine CaseB.of_false (decide_eq_false (by omega)) ?_
    conv => whnf
    obtain rfl : i = cs.length := by omega
    rw [hPn]
    exact RetK.empty (WV.lf (WL.lentT (ty := 5) rfl rfl (gone_none fun h => h)))
end Go.Sym.Md

set_option linter.unusedVariables false
set_option linter.unusedSimpArgs false
set_option maxRecDepth 10000
namespace Go.Sym.Md
open Go Go.Sym

/-! ### A caveat is read -/
def bodyC (k : Int) (r1 : Rd) : CV × Rd :=
  if k = 0 then (cv0, ⟨[], 3⟩) else
  if k = 2 ∨ k = 3 then
    (if (textR r1 16).2.e ≠ 0 then (cv0, (textR r1 16).2) else if okC k 0 (textR r1 16).1 then (⟨k, 0, (textR r1 16).1⟩, (textR r1 16).2) else (cv0, ⟨[], 3⟩))
  else
    (if (numR r1 (boundF k)).2.e ≠ 0 then (cv0, (numR r1 (boundF k)).2) else (⟨k, (numR r1 (boundF k)).1, []⟩, (numR r1 (boundF k)).2))
def readC (r : Rd) : CV × Rd := if (numR r 6).2.e ≠ 0 then (cv0, (numR r 6).2) else bodyC (numR r 6).1 (numR r 6).2

theorem okC_zero : okC 0 0 [] = false := by decide
theorem hasF_two {k : Int} (h0 : 0 ≤ k) (h6 : k ≤ 6) (hk : k ≠ 0) (h : ¬ (k = 2 ∨ k = 3)) : hasF k = 2 := by
  unfold hasF
  rw [if_neg h, if_pos (by omega)]
theorem okC_noname : okC 2 0 [] = false ∧ okC 3 0 [] = false := by decide
theorem hasF_zero : hasF 0 = 0 := by decide
theorem boundF_nn (k : Int) : 0 ≤ boundF k := by
  unfold boundF; split
  · omega
  · split <;> omega
theorem okC_num {k n : Int} (h0 : 0 ≤ k) (h6 : k ≤ 6) (hk : k ≠ 0) (h : ¬ (k = 2 ∨ k = 3)) (hn : 0 ≤ n) (hb : n ≤ boundF k) : okC k n [] = true := by
  have h2 := hasF_two h0 h6 hk h
  unfold okC
  rw [if_neg (by omega), if_pos h2]
  simp [hn, hb]

theorem bodyC_ok {k : Int} {r : Rd} (h : r.ok) : (bodyC k r).2.ok := by
  have ho : (⟨[], 3⟩ : Rd).ok := ⟨fun _ => rfl, by show IntKind.i64.min ≤ 3; decide, by show (3 : Int) ≤ IntKind.i64.max; decide, by simp⟩
  unfold bodyC
  split
  · exact ho
  · split
    · split
      · exact textR_ok h 16
      · split
        · exact textR_ok h 16
        · exact ho
    · split
      · exact numR_ok h _
      · exact numR_ok h _
theorem readC_ok {r : Rd} (h : r.ok) : (readC r).2.ok := by
  unfold readC
  split
  · exact numR_ok h 6
  · exact bodyC_ok (numR_ok h 6)

theorem numR_of_err {r : Rd} {m : Int} (h : r.e ≠ 0) : numR r m = (0, r) := by unfold numR; rw [if_pos h]
theorem numR_err {r : Rd} {m : Int} (h : (numR r m).2.e ≠ 0) : (numR r m).1 = 0 := by
  unfold numR at h ⊢
  split
  · rfl
  · rename_i h1
    rw [if_neg h1] at h
    split
    · rfl
    · rename_i h2
      rw [if_neg h2] at h
      split
      · rfl
      · rename_i h3
        rw [if_neg h3] at h
        exact absurd rfl h
theorem textR_err {r : Rd} {m : Int} (h : (textR r m).2.e ≠ 0) : (textR r m).1 = [] := by
  unfold textR at h ⊢
  split
  · rfl
  · rename_i h1
    rw [if_neg h1] at h
    split
    · rfl
    · rename_i h2
      rw [if_neg h2] at h
      exact absurd rfl h

attribute [local irreducible] numF checkF hasF okC boundF numR textR

theorem failR_err {r : Rd} (h : r.e ≠ 0) (e : Int) : failR r e = r := by unfold failR; rw [if_neg (fun k => h k.1)]
theorem failR_new {r : Rd} (h : r.e = 0) : failR r 3 = ⟨[], 3⟩ := by unfold failR; rw [if_pos ⟨h, by decide⟩]

/-- A reader's contract, in a larger heap. -/
theorem frR {f : FuncId} {l : List FV} {a b : Rd} {ret : FV} (T : Hp) (h : SCalls Proofs.Try.prog f (.s (.lf (.ptr 0 0)) :: l) [some (obR a)] ret [some (obR b)]) (hl : freeFs l) (hr : freeF ret) : SCalls Proofs.Try.prog f (.s (.lf (.ptr 0 0)) :: l) (some (obR a) :: T) ret (some (obR b) :: T) :=
  h.frame1 (H := some (obR a) :: T) (nm := 0) (ob2 := obR b) rfl rfl (obR_ws _) ⟨WV.lf (WL.ptr rfl rfl), hl.wvs⟩ rfl (obR_ws _) hr.wv
theorem frQ {f : FuncId} {l : List FV} {a b : Rd} {ret : FV} (T : Hp) (h : SCalls Proofs.Try.prog f (.s (.lf (.ptr 0 0)) :: l) [some (obQ a)] ret [some (obQ b)]) (hl : freeFs l) (hr : freeF ret) : SCalls Proofs.Try.prog f (.s (.lf (.ptr 0 0)) :: l) (some (obQ a) :: T) ret (some (obQ b) :: T) :=
  h.frame1 (H := some (obQ a) :: T) (nm := 0) (ob2 := obQ b) rfl rfl (obQ_ws _) ⟨WV.lf (WL.ptr rfl rfl), hl.wvs⟩ rfl (obQ_ws _) hr.wv

/-- caveat.Read -/
theorem c66 (r : Rd) (h : r.ok) : SCalls Proofs.Try.prog 66 [.s (.lf (.ptr 0 0))] [some (obR r)] (vCc (readC r).1) [some (obR (readC r).2)] := by
  have hk := numR_range h 6
  have hn := numR_ok h 6
  have h140 := c140 r 6 h
  obtain ⟨k, hkk⟩ : ∃ k, (numR r 6).1 = k := ⟨_, rfl⟩
  obtain ⟨r1, hr1⟩ : ∃ r1, (numR r 6).2 = r1 := ⟨_, rfl⟩
  have hR : readC r = if r1.e ≠ 0 then (cv0, r1) else bodyC k r1 := by unfold readC; rw [hr1, hkk]
  rw [hkk, hr1] at h140
  rw [hkk] at hk
  rw [hr1] at hn
  refine SCalls.intro tok Proofs.Try.func66 ?_
  conv => whnf
  refine CallK.mk' _ _ (frR _ h140 ⟨trivial, trivial⟩ trivial) ?_
  conv => whnf
  refine CallK.mk' _ _ ((c121 k).free _ ⟨trivial, trivial⟩ trivial) ?_
  conv => whnf
  by_cases he : r1.e = 0
  · rw [if_neg (by omega)] at hR
    unfold bodyC at hR
    by_cases hk0 : k = 0
    · rw [if_pos hk0] at hR
      subst hk0
      refine CaseB.of_false (decide_eq_false (by rw [hasF_zero]; decide)) ?_
      conv => whnf
      refine CaseB.of_false (decide_eq_false (by rw [hasF_zero]; decide)) ?_
      conv => whnf
      refine CallK.mk' _ _ (frR _ (c146 r1 3) ⟨trivial, trivial⟩ trivial) ?_
      conv => whnf
      rw [failR_new he]
      refine CallK.mk' _ _ ((c26 (0) (0) ([])).free _ ⟨⟨trivial, trivial, trivial, trivial⟩, trivial⟩ trivial) ?_
      conv => whnf
      refine CaseB.of_true (by rw [checkF_bad (okC_zero)]; rfl) ?_
      conv => whnf
      refine CallK.mk' _ _ (frR _ (c146 ⟨[], 3⟩ 3) ⟨trivial, trivial⟩ trivial) ?_
      conv => whnf
      rw [failR_err (show (3 : Int) ≠ 0 by decide)]
      refine CallK.mk' _ _ (frR _ (c68 ⟨[], 3⟩) trivial trivial) ?_
      conv => whnf
      refine CaseB.of_true (decide_eq_true ((show (3 : Int) ≠ 0 by decide))) ?_
      conv => whnf
      rw [hR]
      exact RetK.of ⟨rfl, okGs.ws (by exact ⟨trivial, trivial, trivial, trivial⟩), trivial⟩ (by simp) (okF.wv ⟨trivial, trivial, trivial, trivial⟩)
    · rw [if_neg hk0] at hR
      by_cases hk2 : k = 2 ∨ k = 3
      · rw [if_pos hk2] at hR
        refine CaseB.of_true (decide_eq_true ((hasF_one k).2 hk2)) ?_
        conv => whnf
        have hx := textR_ok hn 16
        have hxl := textR_len hn 16 (by omega)
        have h145 := c145 r1 16 hn
        obtain ⟨s, hs⟩ : ∃ s, (textR r1 16).1 = s := ⟨_, rfl⟩
        obtain ⟨r2, hr2⟩ : ∃ r2, (textR r1 16).2 = r2 := ⟨_, rfl⟩
        have hze := textR_err (r := r1) (m := 16)
        rw [hs, hr2] at h145 hR hze
        rw [hr2] at hx
        rw [hs] at hxl
        refine CallK.mk' _ _ (frR _ h145 ⟨trivial, trivial⟩ trivial) ?_
        conv => whnf
        refine CallK.mk' _ _ ((c26 (k) (0) (s)).free _ ⟨⟨trivial, trivial, trivial, trivial⟩, trivial⟩ trivial) ?_
        conv => whnf
        by_cases he2 : r2.e = 0
        · rw [if_neg (fun h => h he2)] at hR
          cases ho : okC k 0 s with
          | true =>
            rw [ho, if_pos rfl] at hR
            refine CaseB.of_false (by rw [checkF_good ho]; rfl) ?_
            conv => whnf
            refine CallK.mk' _ _ (frR _ (c68 r2) trivial trivial) ?_
            conv => whnf
            refine CaseB.of_false (decide_eq_false (fun h => h he2)) ?_
            conv => whnf
            rw [hR]
            exact RetK.of ⟨rfl, okGs.ws (by exact ⟨trivial, trivial, trivial, trivial⟩), trivial⟩ (by simp) (okF.wv ⟨trivial, trivial, trivial, trivial⟩)
          | false =>
            rw [ho, if_neg (by simp)] at hR
            refine CaseB.of_true (by rw [checkF_bad (ho)]; rfl) ?_
            conv => whnf
            refine CallK.mk' _ _ (frR _ (c146 r2 3) ⟨trivial, trivial⟩ trivial) ?_
            conv => whnf
            rw [failR_new he2]
            refine CallK.mk' _ _ (frR _ (c68 ⟨[], 3⟩) trivial trivial) ?_
            conv => whnf
            refine CaseB.of_true (decide_eq_true ((show (3 : Int) ≠ 0 by decide))) ?_
            conv => whnf
            rw [hR]
            exact RetK.of ⟨rfl, okGs.ws (by exact ⟨trivial, trivial, trivial, trivial⟩), trivial⟩ (by simp) (okF.wv ⟨trivial, trivial, trivial, trivial⟩)
        · rw [if_pos he2] at hR
          have hsn := hze he2
          subst hsn
          have ho : okC k 0 [] = false := by
            rcases hk2 with rfl | rfl
            · exact okC_noname.1
            · exact okC_noname.2
          refine CaseB.of_true (by rw [checkF_bad (ho)]; rfl) ?_
          conv => whnf
          refine CallK.mk' _ _ (frR _ (c146 r2 3) ⟨trivial, trivial⟩ trivial) ?_
          conv => whnf
          rw [failR_err he2]
          refine CallK.mk' _ _ (frR _ (c68 r2) trivial trivial) ?_
          conv => whnf
          refine CaseB.of_true (decide_eq_true (he2)) ?_
          conv => whnf
          rw [hR]
          exact RetK.of ⟨rfl, okGs.ws (by exact ⟨trivial, trivial, trivial, trivial⟩), trivial⟩ (by simp) (okF.wv ⟨trivial, trivial, trivial, trivial⟩)
      · rw [if_neg hk2] at hR
        have h2 := hasF_two (by omega) (by omega) hk0 hk2
        refine CaseB.of_false (decide_eq_false (by omega)) ?_
        conv => whnf
        refine CaseB.of_true (decide_eq_true h2) ?_
        conv => whnf
        refine CallK.mk' _ _ ((c123 k).free _ ⟨trivial, trivial⟩ trivial) ?_
        conv => whnf
        have hx := numR_ok hn (boundF k)
        have hxl := numR_range hn (boundF k)
        have hbn := boundF_nn k
        have h140' := c140 r1 (boundF k) hn
        obtain ⟨n, hs⟩ : ∃ n, (numR r1 (boundF k)).1 = n := ⟨_, rfl⟩
        obtain ⟨r2, hr2⟩ : ∃ r2, (numR r1 (boundF k)).2 = r2 := ⟨_, rfl⟩
        rw [hs, hr2] at h140' hR
        rw [hr2] at hx
        rw [hs] at hxl
        refine CallK.mk' _ _ (frR _ h140' ⟨trivial, trivial⟩ trivial) ?_
        conv => whnf
        have ho := okC_num (k := k) (n := n) (by omega) (by omega) hk0 hk2 (by omega) (by omega)
        refine CallK.mk' _ _ ((c26 (k) (n) ([])).free _ ⟨⟨trivial, trivial, trivial, trivial⟩, trivial⟩ trivial) ?_
        conv => whnf
        refine CaseB.of_false (by rw [checkF_good ho]; rfl) ?_
        conv => whnf
        refine CallK.mk' _ _ (frR _ (c68 r2) trivial trivial) ?_
        conv => whnf
        by_cases he2 : r2.e = 0
        · rw [if_neg (fun h => h he2)] at hR
          refine CaseB.of_false (decide_eq_false (fun h => h he2)) ?_
          conv => whnf
          rw [hR]
          exact RetK.of ⟨rfl, okGs.ws (by exact ⟨trivial, trivial, trivial, trivial⟩), trivial⟩ (by simp) (okF.wv ⟨trivial, trivial, trivial, trivial⟩)
        · rw [if_pos he2] at hR
          refine CaseB.of_true (decide_eq_true he2) ?_
          conv => whnf
          rw [hR]
          exact RetK.of ⟨rfl, okGs.ws (by exact ⟨trivial, trivial, trivial, trivial⟩), trivial⟩ (by simp) (okF.wv ⟨trivial, trivial, trivial, trivial⟩)
  · rw [if_pos he] at hR
    have hk0 := numR_err (r := r) (m := 6)
    rw [hr1, hkk] at hk0
    obtain rfl := hk0 he
    refine CaseB.of_false (decide_eq_false (by rw [hasF_zero]; decide)) ?_
    conv => whnf
    refine CaseB.of_false (decide_eq_false (by rw [hasF_zero]; decide)) ?_
    conv => whnf
    refine CallK.mk' _ _ (frR _ (c146 r1 3) ⟨trivial, trivial⟩ trivial) ?_
    conv => whnf
    rw [failR_err he]
    refine CallK.mk' _ _ ((c26 (0) (0) ([])).free _ ⟨⟨trivial, trivial, trivial, trivial⟩, trivial⟩ trivial) ?_
    conv => whnf
    refine CaseB.of_true (by rw [checkF_bad (okC_zero)]; rfl) ?_
    conv => whnf
    refine CallK.mk' _ _ (frR _ (c146 r1 3) ⟨trivial, trivial⟩ trivial) ?_
    conv => whnf
    rw [failR_err he]
    refine CallK.mk' _ _ (frR _ (c68 r1) trivial trivial) ?_
    conv => whnf
    refine CaseB.of_true (decide_eq_true (he)) ?_
    conv => whnf
    rw [hR]
    exact RetK.of ⟨rfl, okGs.ws (by exact ⟨trivial, trivial, trivial, trivial⟩), trivial⟩ (by simp) (okF.wv ⟨trivial, trivial, trivial, trivial⟩)

/-- baileyref06.Read -/
theorem c67 (r : Rd) (h : r.ok) : SCalls Proofs.Try.prog 67 [.s (.lf (.ptr 0 0))] [some (obQ r)] (vCc (readC r).1) [some (obQ (readC r).2)] := by
  have hk := numR_range h 6
  have hn := numR_ok h 6
  have h140 := c147 r 6 h
  obtain ⟨k, hkk⟩ : ∃ k, (numR r 6).1 = k := ⟨_, rfl⟩
  obtain ⟨r1, hr1⟩ : ∃ r1, (numR r 6).2 = r1 := ⟨_, rfl⟩
  have hR : readC r = if r1.e ≠ 0 then (cv0, r1) else bodyC k r1 := by unfold readC; rw [hr1, hkk]
  rw [hkk, hr1] at h140
  rw [hkk] at hk
  rw [hr1] at hn
  have ok3 : (⟨[], 3⟩ : Rd).ok := ⟨fun _ => rfl, by show IntKind.i64.min ≤ 3; decide, by show (3 : Int) ≤ IntKind.i64.max; decide, by simp⟩
  refine SCalls.intro tok Proofs.Try.func67 ?_
  conv => whnf
  refine CallK.mk' _ _ (frQ _ h140 ⟨trivial, trivial⟩ trivial) ?_
  conv => whnf
  refine CallK.mk' _ _ (frQ _ (c69 r1) trivial trivial) ?_
  conv => whnf
  by_cases he : r1.e = 0
  · rw [if_neg (by omega)] at hR
    unfold bodyC at hR
    refine CaseB.of_true (decide_eq_true he) ?_
    conv => whnf
    by_cases hk0 : k = 0
    · rw [if_pos hk0] at hR
      subst hk0
      repeat (refine CaseB.of_true (by decide) ?_; conv => whnf)
      refine CallK.mk' _ _ (frQ _ (c148 r1 hn 3) ⟨trivial, trivial⟩ trivial) ?_
      conv => whnf
      rw [failR_new he]
      refine CallK.mk' _ _ ((c124 0).free _ ⟨trivial, trivial⟩ trivial) ?_
      conv => whnf
      refine CaseB.of_false (by decide) ?_
      conv => whnf
      refine CallK.mk' _ _ ((c125 0).free _ ⟨trivial, trivial⟩ trivial) ?_
      conv => whnf
      have h0 := c147 ⟨[], 3⟩ (boundF 0) ok3
      rw [numR_of_err (show (3 : Int) ≠ 0 by decide)] at h0
      refine CallK.mk' _ _ (frQ _ h0 ⟨trivial, trivial⟩ trivial) ?_
      conv => whnf
      refine CallK.mk' _ _ (frQ _ (c69 ⟨[], 3⟩) trivial trivial) ?_
      conv => whnf
      repeat (refine CaseB.of_false (decide_eq_false ((show (3 : Int) ≠ 0 by decide))) ?_; conv => whnf)
      refine CallK.mk' _ _ (frQ _ (c69 ⟨[], 3⟩) trivial trivial) ?_
      conv => whnf
      refine CaseB.of_true (decide_eq_true ((show (3 : Int) ≠ 0 by decide))) ?_
      conv => whnf
      rw [hR]
      exact RetK.of ⟨rfl, okGs.ws (by exact ⟨trivial, trivial, trivial⟩), trivial⟩ (by simp) (okF.wv ⟨trivial, trivial, trivial, trivial⟩)
    · rw [if_neg hk0] at hR
      refine CaseB.of_false (decide_eq_false hk0) ?_
      conv => whnf
      refine CallK.mk' _ _ ((c124 k).free _ ⟨trivial, trivial⟩ trivial) ?_
      conv => whnf
      by_cases hk2 : k = 2 ∨ k = 3
      · rw [if_pos hk2] at hR
        refine CaseB.of_true (decide_eq_true hk2) ?_
        conv => whnf
        have hx := textR_ok hn 16
        have hxl := textR_len hn 16 (by omega)
        have h145 := c149 r1 16 hn
        obtain ⟨s, hs⟩ : ∃ s, (textR r1 16).1 = s := ⟨_, rfl⟩
        obtain ⟨r2, hr2⟩ : ∃ r2, (textR r1 16).2 = r2 := ⟨_, rfl⟩
        have hze := textR_err (r := r1) (m := 16)
        rw [hs, hr2] at h145 hR hze
        rw [hr2] at hx
        rw [hs] at hxl
        refine CallK.mk' _ _ (frQ _ h145 ⟨trivial, trivial⟩ trivial) ?_
        conv => whnf
        by_cases he2 : r2.e = 0
        · rw [if_neg (fun h => h he2)] at hR
          cases ho : okC k 0 s with
          | true =>
            rw [ho, if_pos rfl] at hR
            refine CallK.mk' _ _ (frQ _ (c69 r2) trivial trivial) ?_
            conv => whnf
            repeat (refine CaseB.of_true (decide_eq_true he2) ?_; conv => whnf)
            refine CallK.mk' _ _ ((c27 (k) (0) (s)).free _ ⟨⟨trivial, trivial, trivial, trivial⟩, trivial⟩ trivial) ?_
            conv => whnf
            repeat (refine CaseB.of_true (decide_eq_true he2) ?_; conv => whnf)
            refine CaseB.of_false (by rw [checkF_good ho]; rfl) ?_
            conv => whnf
            refine CallK.mk' _ _ (frQ _ (c69 r2) trivial trivial) ?_
            conv => whnf
            refine CaseB.of_false (decide_eq_false (fun h => h he2)) ?_
            conv => whnf
            rw [hR]
            exact RetK.of ⟨rfl, okGs.ws (by exact ⟨trivial, trivial, trivial⟩), trivial⟩ (by simp) (okF.wv ⟨trivial, trivial, trivial, trivial⟩)
          | false =>
            rw [ho, if_neg (by simp)] at hR
            refine CallK.mk' _ _ (frQ _ (c69 r2) trivial trivial) ?_
            conv => whnf
            repeat (refine CaseB.of_true (decide_eq_true he2) ?_; conv => whnf)
            refine CallK.mk' _ _ ((c27 (k) (0) (s)).free _ ⟨⟨trivial, trivial, trivial, trivial⟩, trivial⟩ trivial) ?_
            conv => whnf
            repeat (refine CaseB.of_true (decide_eq_true he2) ?_; conv => whnf)
            refine CaseB.of_true (by rw [checkF_bad ho]; rfl) ?_
            conv => whnf
            refine CallK.mk' _ _ (frQ _ (c148 r2 hx 3) ⟨trivial, trivial⟩ trivial) ?_
            conv => whnf
            rw [failR_new he2]
            refine CallK.mk' _ _ (frQ _ (c69 ⟨[], 3⟩) trivial trivial) ?_
            conv => whnf
            refine CaseB.of_true (decide_eq_true (show (3 : Int) ≠ 0 by decide)) ?_
            conv => whnf
            rw [hR]
            exact RetK.of ⟨rfl, okGs.ws (by exact ⟨trivial, trivial, trivial⟩), trivial⟩ (by simp) (okF.wv ⟨trivial, trivial, trivial, trivial⟩)
        · rw [if_pos he2] at hR
          refine CallK.mk' _ _ (frQ _ (c69 r2) trivial trivial) ?_
          conv => whnf
          repeat (refine CaseB.of_false (decide_eq_false (he2)) ?_; conv => whnf)
          refine CallK.mk' _ _ (frQ _ (c69 r2) trivial trivial) ?_
          conv => whnf
          refine CaseB.of_true (decide_eq_true (he2)) ?_
          conv => whnf
          rw [hR]
          exact RetK.of ⟨rfl, okGs.ws (by exact ⟨trivial, trivial, trivial⟩), trivial⟩ (by simp) (okF.wv ⟨trivial, trivial, trivial, trivial⟩)
      · rw [if_neg hk2] at hR
        refine CaseB.of_false (decide_eq_false hk2) ?_
        conv => whnf
        refine CallK.mk' _ _ ((c125 k).free _ ⟨trivial, trivial⟩ trivial) ?_
        conv => whnf
        have hx := numR_ok hn (boundF k)
        have hxl := numR_range hn (boundF k)
        have hbn := boundF_nn k
        have h140' := c147 r1 (boundF k) hn
        obtain ⟨n, hs⟩ : ∃ n, (numR r1 (boundF k)).1 = n := ⟨_, rfl⟩
        obtain ⟨r2, hr2⟩ : ∃ r2, (numR r1 (boundF k)).2 = r2 := ⟨_, rfl⟩
        rw [hs, hr2] at h140' hR
        rw [hr2] at hx
        rw [hs] at hxl
        refine CallK.mk' _ _ (frQ _ h140' ⟨trivial, trivial⟩ trivial) ?_
        conv => whnf
        have ho := okC_num (k := k) (n := n) (by omega) (by omega) hk0 hk2 (by omega) (by omega)
        by_cases he2 : r2.e = 0
        · rw [if_neg (fun h => h he2)] at hR
          refine CallK.mk' _ _ (frQ _ (c69 r2) trivial trivial) ?_
          conv => whnf
          repeat (refine CaseB.of_true (decide_eq_true he2) ?_; conv => whnf)
          refine CallK.mk' _ _ ((c27 (k) (n) ([])).free _ ⟨⟨trivial, trivial, trivial, trivial⟩, trivial⟩ trivial) ?_
          conv => whnf
          repeat (refine CaseB.of_true (decide_eq_true he2) ?_; conv => whnf)
          refine CaseB.of_false (by rw [checkF_good ho]; rfl) ?_
          conv => whnf
          refine CallK.mk' _ _ (frQ _ (c69 r2) trivial trivial) ?_
          conv => whnf
          refine CaseB.of_false (decide_eq_false (fun h => h he2)) ?_
          conv => whnf
          rw [hR]
          exact RetK.of ⟨rfl, okGs.ws (by exact ⟨trivial, trivial, trivial⟩), trivial⟩ (by simp) (okF.wv ⟨trivial, trivial, trivial, trivial⟩)
        · rw [if_pos he2] at hR
          refine CallK.mk' _ _ (frQ _ (c69 r2) trivial trivial) ?_
          conv => whnf
          repeat (refine CaseB.of_false (decide_eq_false (he2)) ?_; conv => whnf)
          refine CallK.mk' _ _ (frQ _ (c69 r2) trivial trivial) ?_
          conv => whnf
          refine CaseB.of_true (decide_eq_true (he2)) ?_
          conv => whnf
          rw [hR]
          exact RetK.of ⟨rfl, okGs.ws (by exact ⟨trivial, trivial, trivial⟩), trivial⟩ (by simp) (okF.wv ⟨trivial, trivial, trivial, trivial⟩)
  · rw [if_pos he] at hR
    refine CaseB.of_false (decide_eq_false he) ?_
    conv => whnf
    have hk0 := numR_err (r := r) (m := 6)
    rw [hr1, hkk] at hk0
    obtain rfl := hk0 he
    repeat (refine CaseB.of_false (decide_eq_false he) ?_; conv => whnf)
    refine CallK.mk' _ _ ((c124 0).free _ ⟨trivial, trivial⟩ trivial) ?_
    conv => whnf
    refine CaseB.of_false (by decide) ?_
    conv => whnf
    refine CallK.mk' _ _ ((c125 0).free _ ⟨trivial, trivial⟩ trivial) ?_
    conv => whnf
    have h0 := c147 r1 (boundF 0) hn
    rw [numR_of_err he] at h0
    refine CallK.mk' _ _ (frQ _ h0 ⟨trivial, trivial⟩ trivial) ?_
    conv => whnf
    refine CallK.mk' _ _ (frQ _ (c69 r1) trivial trivial) ?_
    conv => whnf
    repeat (refine CaseB.of_false (decide_eq_false (he)) ?_; conv => whnf)
    refine CallK.mk' _ _ (frQ _ (c69 r1) trivial trivial) ?_
    conv => whnf
    refine CaseB.of_true (decide_eq_true (he)) ?_
    conv => whnf
    rw [hR]
    exact RetK.of ⟨rfl, okGs.ws (by exact ⟨trivial, trivial, trivial⟩), trivial⟩ (by simp) (okF.wv ⟨trivial, trivial, trivial, trivial⟩)
end Go.Sym.Md

