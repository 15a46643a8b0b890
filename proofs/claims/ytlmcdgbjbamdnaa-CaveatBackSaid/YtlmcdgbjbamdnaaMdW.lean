/- Contracts of the program's functions, proved by the framework (text MdW), without conditions but those that each theorem states. -/
import Derived.Test.YtlmcdgbjbamdnaaMdV
set_option linter.unusedVariables false
set_option linter.unusedSimpArgs false
set_option maxRecDepth 10000
namespace Go.Sym.Md
open Go Go.Sym Go.Lib
attribute [local irreducible] holdsF okC

abbrev vRt (cs : List CV) : FV := .s (.lf (.ro true false 3 cs.length (rowC cs)))

theorem rowC_wl {D : Rel} {cs : List CV} {i j : Nat} (hj : j < 3) : WL D (rowC cs i j) (rowC cs i j) := by
  have : j = 0 ∨ j = 1 ∨ j = 2 := by omega
  rcases this with rfl | rfl | rfl <;> exact plainL.wl trivial

/-- slices.Clone, of no caveats. -/
theorem c39n : SCalls Proofs.Try.prog 39 [.s (.lf .sl0)] [] (.s (.lf .sl0)) [] := by
  refine SCalls.intro tok Proofs.Try.func39 ?_
  conv => whnf
  exact RetK.empty (okF.wv trivial)

/-- slices.Clone, of caveats. -/
theorem c39 (cs : List CV) (hl : cs.length ≤ 1000000) : SCalls Proofs.Try.prog 39 [vRt cs] [] (.s (.lf (.own 0 0 3 0 cs.length))) [some ⟨23, [.recs 3 cs.length (rowC cs)]⟩] := by
  refine SCalls.intro tok Proofs.Try.func39 ?_
  conv => whnf
  refine Or.inl ?_
  conv => whnf
  refine And.intro (by omega) ?_
  conv => whnf
  refine And.intro ⟨rfl, by show (0 + cs.length) * 32 ≤ _; omega⟩ ?_
  conv => whnf
  refine RetK.perm [1] ⟨⟨rfl, .recs (Nat.zero_add _) fun i hi j hj => ?_, trivial⟩, trivial⟩ (WV.lf (WL.own rfl rfl rfl (Nat.zero_add _))) rfl (by simp) rfl (by simp)
  exact rowC_wl hj

/-- A row of caveats of the call's own, lent. -/
theorem WL.lentC {H H' : Hp} {μ : Nat → Nat} {hid : Nat → Prop} {nm len n : Nat} {f : Nat → Nat → LV} {ty : TypeId} {cs : List CV} (hob : hget H nm = some ⟨ty, [.recs 3 n f]⟩) (hn : len = n) (hl : len = cs.length)
    (hf : ∀ i j, i < len → j < 3 → f i j = rowC cs i j) (hg : gone H' μ hid nm) : WL (Down H H' μ hid) (.own nm 0 3 0 len) (.ro false false 3 cs.length (rowC cs)) := by
  subst hn
  intro w L L' x h hx
  rw [← hl]
  refine rep_ro_weak (WL.freezeR (ob := ⟨ty, [.recs 3 len f]⟩) (p := []) (q := []) hob rfl rfl (fun i hi j hj => ⟨?_, ?_⟩) hg w L L' x h hx)
  · show 0 * 3 + (i * 3 + j) < len * 3
    omega
  · show WL _ (f ((0 * 3 + (i * 3 + j)) / 3) ((0 * 3 + (i * 3 + j)) % 3)) _
    rw [show (0 * 3 + (i * 3 + j)) / 3 = i by omega, show (0 * 3 + (i * 3 + j)) % 3 = j by omega, hf i j hi hj]
    exact rowC_wl hj

/-- baileylaw06.CaveatWeaker -/
theorem c6 (cs : List CV) (hl : cs.length ≤ maxLen) (k n : Int) (s : List UInt8) (d : DeedS) : SCalls Proofs.Try.prog 6 [vRt cs, vC k n s, vD d] [] (.s (.lf .tt)) [] := by
  have h30 := (c30L cs hl).lend (cs := [vRt cs]) (fun _ => True) [some ⟨23, [.one (.int .i64 k), .one (.int .i64 n), .one (.str s)]⟩, some (obD d)] ⟨WV.lf (WL.ro rfl (by simp) (by simp) fun i hi j hj => rowC_wl hj), trivial⟩ (plainF.wv trivial)
  have h25 := c25.free [some ⟨23, [.one (.int .i64 k), .one (.int .i64 n), .one (.str s)]⟩, some (obD d)] trivial trivial
  refine SCalls.intro tok Proofs.Try.func6 ?_
  conv => whnf
  refine CallK.mk' _ _ h30 ?_
  conv => whnf
  cases fa : fewL cs with
  | false =>
    refine CaseB.of_true rfl ?_
    conv => whnf
    refine CallK.mk' _ _ h25 ?_
    conv => whnf
    exact RetK.empty (okF.wv trivial)
  | true =>
    have hfew : cs.length ≤ 30 := by unfold fewL at fa; simp at fa; omega
    refine CaseB.of_false rfl ?_
    conv => whnf
    by_cases h2 : 200 < (s.length : Int)
    · refine CaseB.of_true (decide_eq_true h2) ?_
      conv => whnf
      refine CallK.mk' _ _ h25 ?_
      conv => whnf
      exact RetK.empty (okF.wv trivial)
    refine CaseB.of_false (decide_eq_false h2) ?_
    conv => whnf
    obtain ⟨M, hM⟩ : ∃ M : List CV, M = cs ++ [⟨k, n, s⟩] := ⟨_, rfl⟩
    have hMl : M.length = cs.length + 1 := by rw [hM]; simp
    have hm : maxLen = 9223372036854775807 := rfl
    have hrow : ∀ i j, i < cs.length + 1 → j < 3 → catRow 3 cs.length (fun i j => rowC cs (0 + i) j) (fun i j => cellD ([] ++ ([Seg.one (LV.int IntKind.i64 k), Seg.one (LV.int IntKind.i64 n), Seg.one (LV.str s)] ++ [])) (i * 3 + j)) i j = rowC M i j := by
      intro i j hi hj
      rw [hM]
      unfold catRow
      by_cases h : i < cs.length
      · rw [show Nat.blt i cs.length = true by simp [Nat.blt, Nat.ble_eq]; omega]
        show rowC cs (0 + i) j = _
        unfold rowC
        rw [Nat.zero_add, show (cs ++ [(⟨k, n, s⟩ : CV)]).getD i cv0 = cs.getD i cv0 by rw [List.getD_eq_getElem?_getD, List.getD_eq_getElem?_getD, List.getElem?_append_left h]]
      · have e : i = cs.length := by omega
        subst e
        rw [show Nat.blt cs.length cs.length = false by cases hb : Nat.blt cs.length cs.length <;> first | rfl | (have := blt_true hb; omega)]
        show cellD _ ((cs.length - cs.length) * 3 + j) = _
        unfold rowC
        rw [Nat.sub_self, show (cs ++ [(⟨k, n, s⟩ : CV)]).getD cs.length cv0 = ⟨k, n, s⟩ by rw [List.getD_eq_getElem?_getD, List.getElem?_append_right (Nat.le_refl _), Nat.sub_self]; rfl]
        have : j = 0 ∨ j = 1 ∨ j = 2 := by omega
        rcases this with rfl | rfl | rfl <;> rfl
    have hA := (c37 M (by omega) d).lend (cs := [.s (.lf (.own 3 0 3 0 (cs.length + 1))), vD d]) (fun _ => False) [some ⟨23, [.one (.int .i64 k), .one (.int .i64 n), .one (.str s)]⟩, some (obD d), none, some ⟨23, [.recs 3 (cs.length + 1) (catRow 3 cs.length (fun i j => rowC cs (0 + i) j) (fun i j => cellD ([] ++ ([Seg.one (LV.int IntKind.i64 k), Seg.one (LV.int IntKind.i64 n), Seg.one (LV.str s)] ++ [])) (i * 3 + j)))]⟩] ⟨WV.lf (WL.lentC rfl rfl hMl.symm hrow ⟨fun h => h, fun i ob h => by simp at h⟩), freeF.wv ⟨trivial, trivial, trivial, trivial, trivial, trivial, trivial⟩, trivial⟩ (plainF.wv trivial)
    have hB := (c37 cs hl d).lend (cs := [vRt cs, vD d]) (fun _ => False) [some ⟨23, [.one (.int .i64 k), .one (.int .i64 n), .one (.str s)]⟩, some (obD d), none, some ⟨23, [.recs 3 (cs.length + 1) (catRow 3 cs.length (fun i j => rowC cs (0 + i) j) (fun i j => cellD ([] ++ ([Seg.one (LV.int IntKind.i64 k), Seg.one (LV.int IntKind.i64 n), Seg.one (LV.str s)] ++ [])) (i * 3 + j)))]⟩] ⟨WV.lf (WL.ro rfl (by simp) (by simp) fun i hi j hj => rowC_wl hj), freeF.wv ⟨trivial, trivial, trivial, trivial, trivial, trivial, trivial⟩, trivial⟩ (plainF.wv trivial)
    have hC := (c33 M cs (by omega)).lend (cs := [.s (.lf (.own 3 0 3 0 (cs.length + 1))), vRt cs]) (fun _ => False) [some ⟨23, [.one (.int .i64 k), .one (.int .i64 n), .one (.str s)]⟩, some (obD d), none, some ⟨23, [.recs 3 (cs.length + 1) (catRow 3 cs.length (fun i j => rowC cs (0 + i) j) (fun i j => cellD ([] ++ ([Seg.one (LV.int IntKind.i64 k), Seg.one (LV.int IntKind.i64 n), Seg.one (LV.str s)] ++ [])) (i * 3 + j)))]⟩] ⟨WV.lf (WL.lentC rfl rfl hMl.symm hrow ⟨fun h => h, fun i ob h => by simp at h⟩), WV.lf (WL.ro rfl (by simp) (by simp) fun i hi j hj => rowC_wl hj), trivial⟩ (plainF.wv trivial)
    have hD := (c33 cs M hl).lend (cs := [vRt cs, .s (.lf (.own 3 0 3 0 (cs.length + 1)))]) (fun _ => False) [some ⟨23, [.one (.int .i64 k), .one (.int .i64 n), .one (.str s)]⟩, some (obD d), none, some ⟨23, [.recs 3 (cs.length + 1) (catRow 3 cs.length (fun i j => rowC cs (0 + i) j) (fun i j => cellD ([] ++ ([Seg.one (LV.int IntKind.i64 k), Seg.one (LV.int IntKind.i64 n), Seg.one (LV.str s)] ++ [])) (i * 3 + j)))]⟩] ⟨WV.lf (WL.ro rfl (by simp) (by simp) fun i hi j hj => rowC_wl hj), WV.lf (WL.lentC rfl rfl hMl.symm hrow ⟨fun h => h, fun i ob h => by simp at h⟩), trivial⟩ (plainF.wv trivial)
    have hE := (c35 k n s d).free [some ⟨23, [.one (.int .i64 k), .one (.int .i64 n), .one (.str s)]⟩, some (obD d), none, some ⟨23, [.recs 3 (cs.length + 1) (catRow 3 cs.length (fun i j => rowC cs (0 + i) j) (fun i j => cellD ([] ++ ([Seg.one (LV.int IntKind.i64 k), Seg.one (LV.int IntKind.i64 n), Seg.one (LV.str s)] ++ [])) (i * 3 + j)))]⟩] ⟨⟨trivial, trivial, trivial, trivial⟩, ⟨trivial, trivial, trivial, trivial, trivial, trivial, trivial⟩, trivial⟩ trivial
    have hF := c25.free [some ⟨23, [.one (.int .i64 k), .one (.int .i64 n), .one (.str s)]⟩, some (obD d), none, some ⟨23, [.recs 3 (cs.length + 1) (catRow 3 cs.length (fun i j => rowC cs (0 + i) j) (fun i j => cellD ([] ++ ([Seg.one (LV.int IntKind.i64 k), Seg.one (LV.int IntKind.i64 n), Seg.one (LV.str s)] ++ [])) (i * 3 + j)))]⟩] trivial trivial
    have x1 : extF M cs = true := by unfold extF; rw [hM]; simp
    have x2 : (!extF cs M) = true := by unfold extF; rw [decide_eq_false (by rw [hMl]; omega)]; rfl
    have hall : (M.all fun c => holdsC c d) = ((cs.all fun c => holdsC c d) && holdsF k n s d) := by rw [hM, List.all_append]; simp [holdsC]
    refine DrawK.mkL tok mixed [0, 1, 0, 4, 15, 31] [1, 3, 4] [
      ([0, 1, 0, 7, 15, 31], [(0, 0, []), (1, 2, []), (2, 1, [0, 1]), (3, 2, []), (4, 2, []), (5, 0, [])]),
      ([0, 13, 0, 4, 15, 31], [(0, 0, []), (2, 1, [0]), (3, 2, []), (1, 2, []), (4, 2, []), (5, 0, [])])] (by kernel_rfl) ⟨?_, ?_, trivial⟩
    · conv => whnf
      refine CallK.mk' (.s (.lf (.own 2 0 3 0 cs.length))) _ ((c39 cs (by omega)).made [some ⟨23, [.one (.int .i64 k), .one (.int .i64 n), .one (.str s)]⟩, some (obD d)] (Hn := [some ⟨23, [.recs 3 cs.length (rowC cs)]⟩]) ⟨WV.lf (WL.ro rfl (by simp) (by simp) fun i hi j hj => rowC_wl hj), trivial⟩ (WV.lf (WL.uown rfl rfl rfl)) ⟨rfl, ⟨.recs rfl fun i hi j hj => rowC_wl hj, trivial⟩, trivial⟩) ?_
      conv => whnf
      refine And.intro rfl ?_
      conv => whnf
      refine Or.inr ?_
      conv => whnf
      refine And.intro (by omega) ?_
      conv => whnf
      refine And.intro ⟨rfl, by show (cs.length + 1) * 32 ≤ _; omega⟩ ?_
      conv => whnf
      refine CallK.mk' _ _ hA ?_
      conv => whnf
      cases hb : (cs.all fun c => holdsC c d) with
      | false =>
        have x0 : (M.all fun c => holdsC c d) = false := by rw [hall, hb]; rfl
        have x3 : ((M.all fun c => holdsC c d) == false) = true := by rw [x0]; rfl
        refine CaseB.of_false x0 ?_
        conv => whnf
        refine DrawK.mk1 tok mixed [0, 0, 3, 7, 15, 15, 63, 127, 255, 511, 1023, 1023, 4095, 1023, 1023, 32767, 65535, 131071, 131071, 524287, 1048575, 2097151, 4194303, 8388607, 16777215, 33554431, 67108863] [(0, 0, []), (1, 0, []), (2, 1, [0]), (3, 0, []), (4, 0, []), (5, 0, []), (6, 1, [0]), (7, 0, []), (8, 0, []), (9, 0, []), (10, 0, []), (13, 0, []), (11, 1, [0]), (12, 1, [0]), (14, 1, [0]), (15, 1, [0]), (16, 0, []), (17, 1, [0]), (18, 1, [0]), (19, 1, [0]), (20, 0, []), (21, 0, []), (22, 0, []), (23, 0, []), (24, 1, [0]), (25, 0, []), (26, 0, [])] (by kernel_rfl) ?_
        conv => whnf
        repeat (first
          | (refine CallR.mk' _ hC ?_; conv => whnf)
          | (refine CallR.mk' _ hD ?_; conv => whnf)
          | (refine CallR.mk' _ hA ?_; conv => whnf)
          | (refine CallR.mk' _ hB ?_; conv => whnf)
          | (refine CallR.mk' _ hE ?_; conv => whnf)
          | (refine CallR.mk' _ hF ?_; conv => whnf)
          | (refine CaseB.of_true x1 ?_; conv => whnf)
          | (refine CaseB.of_true x2 ?_; conv => whnf)
          | (refine CaseB.of_false hb ?_; conv => whnf)
          | (refine CaseB.of_true x3 ?_; conv => whnf))
        exact RetK.empty (okF.wv trivial)
      | true =>
        have x3 : ((M.all fun c => holdsC c d) == holdsF k n s d) = true := by rw [hall, hb]; simp
        rcases Bool.eq_false_or_eq_true (M.all fun c => holdsC c d) with hc | hc
        · refine CaseB.of_true hc ?_
          conv => whnf
          refine CallK.mk' _ _ hB ?_
          conv => whnf
          refine CaseB.of_false (by rw [hb]; rfl) ?_
          conv => whnf
          refine DrawK.mk1 tok mixed [0, 0, 3, 7, 15, 15, 63, 127, 255, 511, 1023, 1023, 4095, 1023, 1023, 32767, 65535, 131071, 131071, 524287, 1048575, 2097151, 4194303, 8388607, 16777215, 33554431, 67108863] [(0, 0, []), (1, 0, []), (2, 1, [0]), (3, 0, []), (4, 0, []), (5, 0, []), (6, 1, [0]), (7, 0, []), (8, 0, []), (9, 0, []), (10, 0, []), (13, 0, []), (11, 1, [0]), (12, 1, [0]), (14, 1, [0]), (15, 1, [0]), (16, 0, []), (17, 1, [0]), (18, 1, [0]), (19, 1, [0]), (20, 0, []), (21, 0, []), (22, 0, []), (23, 0, []), (24, 1, [0]), (25, 0, []), (26, 0, [])] (by kernel_rfl) ?_
          conv => whnf
          repeat (first
            | (refine CallR.mk' _ hC ?_; conv => whnf)
            | (refine CallR.mk' _ hD ?_; conv => whnf)
            | (refine CallR.mk' _ hA ?_; conv => whnf)
            | (refine CallR.mk' _ hB ?_; conv => whnf)
            | (refine CallR.mk' _ hE ?_; conv => whnf)
            | (refine CallR.mk' _ hF ?_; conv => whnf)
            | (refine CaseB.of_true x1 ?_; conv => whnf)
            | (refine CaseB.of_true x2 ?_; conv => whnf)
            | (refine CaseB.of_true hb ?_; conv => whnf)
            | (refine CaseB.of_true x3 ?_; conv => whnf))
          exact RetK.empty (okF.wv trivial)
        · refine CaseB.of_false hc ?_
          conv => whnf
          refine DrawK.mk1 tok mixed [0, 0, 3, 7, 15, 15, 63, 127, 255, 511, 1023, 1023, 4095, 1023, 1023, 32767, 65535, 131071, 131071, 524287, 1048575, 2097151, 4194303, 8388607, 16777215, 33554431, 67108863] [(0, 0, []), (1, 0, []), (2, 1, [0]), (3, 0, []), (4, 0, []), (5, 0, []), (6, 1, [0]), (7, 0, []), (8, 0, []), (9, 0, []), (10, 0, []), (13, 0, []), (11, 1, [0]), (12, 1, [0]), (14, 1, [0]), (15, 1, [0]), (16, 0, []), (17, 1, [0]), (18, 1, [0]), (19, 1, [0]), (20, 0, []), (21, 0, []), (22, 0, []), (23, 0, []), (24, 1, [0]), (25, 0, []), (26, 0, [])] (by kernel_rfl) ?_
          conv => whnf
          repeat (first
            | (refine CallR.mk' _ hC ?_; conv => whnf)
            | (refine CallR.mk' _ hD ?_; conv => whnf)
            | (refine CallR.mk' _ hA ?_; conv => whnf)
            | (refine CallR.mk' _ hB ?_; conv => whnf)
            | (refine CallR.mk' _ hE ?_; conv => whnf)
            | (refine CallR.mk' _ hF ?_; conv => whnf)
            | (refine CaseB.of_true x1 ?_; conv => whnf)
            | (refine CaseB.of_true x2 ?_; conv => whnf)
            | (refine CaseB.of_true hb ?_; conv => whnf)
            | (refine CaseB.of_true x3 ?_; conv => whnf))
          exact RetK.empty (okF.wv trivial)
    · conv => whnf
      refine Or.inr ?_
      conv => whnf
      refine CallK.mk' (.s (.lf (.own 2 0 3 0 cs.length))) _ ((c39 cs (by omega)).made [some ⟨23, [.one (.int .i64 k), .one (.int .i64 n), .one (.str s)]⟩, some (obD d)] (Hn := [some ⟨23, [.recs 3 cs.length (rowC cs)]⟩]) ⟨WV.lf (WL.ro rfl (by simp) (by simp) fun i hi j hj => rowC_wl hj), trivial⟩ (WV.lf (WL.uown rfl rfl rfl)) ⟨rfl, ⟨.recs rfl fun i hi j hj => rowC_wl hj, trivial⟩, trivial⟩) ?_
      conv => whnf
      refine And.intro (by omega) ?_
      conv => whnf
      refine And.intro ⟨rfl, by show (cs.length + 1) * 32 ≤ _; omega⟩ ?_
      conv => whnf
      refine CallK.mk' _ _ hA ?_
      conv => whnf
      cases hb : (cs.all fun c => holdsC c d) with
      | false =>
        have x0 : (M.all fun c => holdsC c d) = false := by rw [hall, hb]; rfl
        have x3 : ((M.all fun c => holdsC c d) == false) = true := by rw [x0]; rfl
        refine CaseB.of_false x0 ?_
        conv => whnf
        refine DrawK.mk1 tok mixed [0, 0, 3, 7, 15, 15, 63, 127, 255, 511, 1023, 1023, 4095, 1023, 1023, 32767, 65535, 131071, 131071, 524287, 1048575, 2097151, 4194303, 8388607, 16777215, 33554431, 67108863] [(0, 0, []), (1, 0, []), (2, 1, [0]), (3, 0, []), (4, 0, []), (5, 0, []), (6, 1, [0]), (7, 0, []), (8, 0, []), (9, 0, []), (10, 0, []), (13, 0, []), (11, 1, [0]), (12, 1, [0]), (14, 1, [0]), (15, 1, [0]), (16, 0, []), (17, 1, [0]), (18, 1, [0]), (19, 1, [0]), (20, 0, []), (21, 0, []), (22, 0, []), (23, 0, []), (24, 1, [0]), (25, 0, []), (26, 0, [])] (by kernel_rfl) ?_
        conv => whnf
        repeat (first
          | (refine CallR.mk' _ hC ?_; conv => whnf)
          | (refine CallR.mk' _ hD ?_; conv => whnf)
          | (refine CallR.mk' _ hA ?_; conv => whnf)
          | (refine CallR.mk' _ hB ?_; conv => whnf)
          | (refine CallR.mk' _ hE ?_; conv => whnf)
          | (refine CallR.mk' _ hF ?_; conv => whnf)
          | (refine CaseB.of_true x1 ?_; conv => whnf)
          | (refine CaseB.of_true x2 ?_; conv => whnf)
          | (refine CaseB.of_false hb ?_; conv => whnf)
          | (refine CaseB.of_true x3 ?_; conv => whnf))
        exact RetK.empty (okF.wv trivial)
      | true =>
        have x3 : ((M.all fun c => holdsC c d) == holdsF k n s d) = true := by rw [hall, hb]; simp
        rcases Bool.eq_false_or_eq_true (M.all fun c => holdsC c d) with hc | hc
        · refine CaseB.of_true hc ?_
          conv => whnf
          refine CallK.mk' _ _ hB ?_
          conv => whnf
          refine CaseB.of_false (by rw [hb]; rfl) ?_
          conv => whnf
          refine DrawK.mk1 tok mixed [0, 0, 3, 7, 15, 15, 63, 127, 255, 511, 1023, 1023, 4095, 1023, 1023, 32767, 65535, 131071, 131071, 524287, 1048575, 2097151, 4194303, 8388607, 16777215, 33554431, 67108863] [(0, 0, []), (1, 0, []), (2, 1, [0]), (3, 0, []), (4, 0, []), (5, 0, []), (6, 1, [0]), (7, 0, []), (8, 0, []), (9, 0, []), (10, 0, []), (13, 0, []), (11, 1, [0]), (12, 1, [0]), (14, 1, [0]), (15, 1, [0]), (16, 0, []), (17, 1, [0]), (18, 1, [0]), (19, 1, [0]), (20, 0, []), (21, 0, []), (22, 0, []), (23, 0, []), (24, 1, [0]), (25, 0, []), (26, 0, [])] (by kernel_rfl) ?_
          conv => whnf
          repeat (first
            | (refine CallR.mk' _ hC ?_; conv => whnf)
            | (refine CallR.mk' _ hD ?_; conv => whnf)
            | (refine CallR.mk' _ hA ?_; conv => whnf)
            | (refine CallR.mk' _ hB ?_; conv => whnf)
            | (refine CallR.mk' _ hE ?_; conv => whnf)
            | (refine CallR.mk' _ hF ?_; conv => whnf)
            | (refine CaseB.of_true x1 ?_; conv => whnf)
            | (refine CaseB.of_true x2 ?_; conv => whnf)
            | (refine CaseB.of_true hb ?_; conv => whnf)
            | (refine CaseB.of_true x3 ?_; conv => whnf))
          exact RetK.empty (okF.wv trivial)
        · refine CaseB.of_false hc ?_
          conv => whnf
          refine DrawK.mk1 tok mixed [0, 0, 3, 7, 15, 15, 63, 127, 255, 511, 1023, 1023, 4095, 1023, 1023, 32767, 65535, 131071, 131071, 524287, 1048575, 2097151, 4194303, 8388607, 16777215, 33554431, 67108863] [(0, 0, []), (1, 0, []), (2, 1, [0]), (3, 0, []), (4, 0, []), (5, 0, []), (6, 1, [0]), (7, 0, []), (8, 0, []), (9, 0, []), (10, 0, []), (13, 0, []), (11, 1, [0]), (12, 1, [0]), (14, 1, [0]), (15, 1, [0]), (16, 0, []), (17, 1, [0]), (18, 1, [0]), (19, 1, [0]), (20, 0, []), (21, 0, []), (22, 0, []), (23, 0, []), (24, 1, [0]), (25, 0, []), (26, 0, [])] (by kernel_rfl) ?_
          conv => whnf
          repeat (first
            | (refine CallR.mk' _ hC ?_; conv => whnf)
            | (refine CallR.mk' _ hD ?_; conv => whnf)
            | (refine CallR.mk' _ hA ?_; conv => whnf)
            | (refine CallR.mk' _ hB ?_; conv => whnf)
            | (refine CallR.mk' _ hE ?_; conv => whnf)
            | (refine CallR.mk' _ hF ?_; conv => whnf)
            | (refine CaseB.of_true x1 ?_; conv => whnf)
            | (refine CaseB.of_true x2 ?_; conv => whnf)
            | (refine CaseB.of_true hb ?_; conv => whnf)
            | (refine CaseB.of_true x3 ?_; conv => whnf))
          exact RetK.empty (okF.wv trivial)
/-- baileylaw06.CaveatWeaker, of no caveats -/
theorem c6n (k n : Int) (s : List UInt8) (d : DeedS) : SCalls Proofs.Try.prog 6 [.s (.lf .sl0), vC k n s, vD d] [] (.s (.lf .tt)) [] := by
  obtain ⟨cs, hcs⟩ : ∃ cs : List CV, cs = [] := ⟨_, rfl⟩
  have hl : cs.length ≤ maxLen := by rw [hcs]; simp
  have h30 := (c30L cs hl).lend (cs := [.s (.lf .sl0)]) (fun _ => True) [some ⟨23, [.one (.int .i64 k), .one (.int .i64 n), .one (.str s)]⟩, some (obD d)] ⟨WV.lf (by rw [hcs]; exact fun _ _ _ _ _ hx => rep_sl0_ro hx), trivial⟩ (plainF.wv trivial)
  have h25 := c25.free [some ⟨23, [.one (.int .i64 k), .one (.int .i64 n), .one (.str s)]⟩, some (obD d)] trivial trivial
  refine SCalls.intro tok Proofs.Try.func6 ?_
  conv => whnf
  refine CallK.mk' _ _ h30 ?_
  conv => whnf
  cases fa : fewL cs with
  | false =>
    refine CaseB.of_true rfl ?_
    conv => whnf
    refine CallK.mk' _ _ h25 ?_
    conv => whnf
    exact RetK.empty (okF.wv trivial)
  | true =>
    have hfew : cs.length ≤ 30 := by unfold fewL at fa; simp at fa; omega
    refine CaseB.of_false rfl ?_
    conv => whnf
    by_cases h2 : 200 < (s.length : Int)
    · refine CaseB.of_true (decide_eq_true h2) ?_
      conv => whnf
      refine CallK.mk' _ _ h25 ?_
      conv => whnf
      exact RetK.empty (okF.wv trivial)
    refine CaseB.of_false (decide_eq_false h2) ?_
    conv => whnf
    obtain ⟨M, hM⟩ : ∃ M : List CV, M = cs ++ [⟨k, n, s⟩] := ⟨_, rfl⟩
    have hMl : M.length = cs.length + 1 := by rw [hM]; simp
    have hm : maxLen = 9223372036854775807 := rfl
    have hrow : ∀ i j, i < 1 → j < 3 → (fun i j => cellD ([] ++ ([Seg.one (LV.int IntKind.i64 k), Seg.one (LV.int IntKind.i64 n), Seg.one (LV.str s)] ++ [])) (i * 3 + j)) i j = rowC M i j := by
      intro i j hi hj
      obtain rfl : i = 0 := by omega
      rw [hM, hcs]
      have : j = 0 ∨ j = 1 ∨ j = 2 := by omega
      rcases this with rfl | rfl | rfl <;> rfl
    have hA := (c37 M (by omega) d).lend (cs := [.s (.lf (.own 2 0 3 0 1)), vD d]) (fun _ => False) [some ⟨23, [.one (.int .i64 k), .one (.int .i64 n), .one (.str s)]⟩, some (obD d), some ⟨23, [.recs 3 1 ((fun i j => cellD ([] ++ ([Seg.one (LV.int IntKind.i64 k), Seg.one (LV.int IntKind.i64 n), Seg.one (LV.str s)] ++ [])) (i * 3 + j)))]⟩] ⟨WV.lf (WL.lentC rfl rfl (by rw [hMl, hcs]; rfl) hrow ⟨fun h => h, fun i ob h => by simp at h⟩), freeF.wv ⟨trivial, trivial, trivial, trivial, trivial, trivial, trivial⟩, trivial⟩ (plainF.wv trivial)
    have hB := (c37 cs hl d).lend (cs := [.s (.lf .sl0), vD d]) (fun _ => False) [some ⟨23, [.one (.int .i64 k), .one (.int .i64 n), .one (.str s)]⟩, some (obD d), some ⟨23, [.recs 3 1 ((fun i j => cellD ([] ++ ([Seg.one (LV.int IntKind.i64 k), Seg.one (LV.int IntKind.i64 n), Seg.one (LV.str s)] ++ [])) (i * 3 + j)))]⟩] ⟨WV.lf (by rw [hcs]; exact fun _ _ _ _ _ hx => rep_sl0_ro hx), freeF.wv ⟨trivial, trivial, trivial, trivial, trivial, trivial, trivial⟩, trivial⟩ (plainF.wv trivial)
    have hC := (c33 M cs (by omega)).lend (cs := [.s (.lf (.own 2 0 3 0 1)), .s (.lf .sl0)]) (fun _ => False) [some ⟨23, [.one (.int .i64 k), .one (.int .i64 n), .one (.str s)]⟩, some (obD d), some ⟨23, [.recs 3 1 ((fun i j => cellD ([] ++ ([Seg.one (LV.int IntKind.i64 k), Seg.one (LV.int IntKind.i64 n), Seg.one (LV.str s)] ++ [])) (i * 3 + j)))]⟩] ⟨WV.lf (WL.lentC rfl rfl (by rw [hMl, hcs]; rfl) hrow ⟨fun h => h, fun i ob h => by simp at h⟩), WV.lf (by rw [hcs]; exact fun _ _ _ _ _ hx => rep_sl0_ro hx), trivial⟩ (plainF.wv trivial)
    have hD := (c33 cs M hl).lend (cs := [.s (.lf .sl0), .s (.lf (.own 2 0 3 0 1))]) (fun _ => False) [some ⟨23, [.one (.int .i64 k), .one (.int .i64 n), .one (.str s)]⟩, some (obD d), some ⟨23, [.recs 3 1 ((fun i j => cellD ([] ++ ([Seg.one (LV.int IntKind.i64 k), Seg.one (LV.int IntKind.i64 n), Seg.one (LV.str s)] ++ [])) (i * 3 + j)))]⟩] ⟨WV.lf (by rw [hcs]; exact fun _ _ _ _ _ hx => rep_sl0_ro hx), WV.lf (WL.lentC rfl rfl (by rw [hMl, hcs]; rfl) hrow ⟨fun h => h, fun i ob h => by simp at h⟩), trivial⟩ (plainF.wv trivial)
    have hE := (c35 k n s d).free [some ⟨23, [.one (.int .i64 k), .one (.int .i64 n), .one (.str s)]⟩, some (obD d), some ⟨23, [.recs 3 1 ((fun i j => cellD ([] ++ ([Seg.one (LV.int IntKind.i64 k), Seg.one (LV.int IntKind.i64 n), Seg.one (LV.str s)] ++ [])) (i * 3 + j)))]⟩] ⟨⟨trivial, trivial, trivial, trivial⟩, ⟨trivial, trivial, trivial, trivial, trivial, trivial, trivial⟩, trivial⟩ trivial
    have hF := c25.free [some ⟨23, [.one (.int .i64 k), .one (.int .i64 n), .one (.str s)]⟩, some (obD d), some ⟨23, [.recs 3 1 ((fun i j => cellD ([] ++ ([Seg.one (LV.int IntKind.i64 k), Seg.one (LV.int IntKind.i64 n), Seg.one (LV.str s)] ++ [])) (i * 3 + j)))]⟩] trivial trivial
    have x1 : extF M cs = true := by unfold extF; rw [hM]; simp
    have x2 : (!extF cs M) = true := by unfold extF; rw [decide_eq_false (by rw [hMl]; omega)]; rfl
    have hall : (M.all fun c => holdsC c d) = ((cs.all fun c => holdsC c d) && holdsF k n s d) := by rw [hM, List.all_append]; simp [holdsC]
    refine DrawK.mkL tok mixed [0, 1, 0, 4, 15, 31] [1, 3, 4] [
      ([0, 1, 0, 7, 15, 31], [(0, 0, []), (1, 2, []), (2, 1, [0, 1]), (3, 2, []), (4, 2, []), (5, 0, [])]),
      ([0, 13, 0, 4, 15, 31], [(0, 0, []), (2, 1, [0]), (3, 2, []), (1, 2, []), (4, 2, []), (5, 0, [])])] (by kernel_rfl) ⟨?_, ?_, trivial⟩
    · conv => whnf
      refine CallK.mk' _ _ (c39n.free _ ⟨trivial, trivial⟩ trivial) ?_
      conv => whnf
      refine And.intro rfl ?_
      conv => whnf
      refine Or.inr ?_
      conv => whnf
      refine And.intro (by show (0 + 1) * 32 ≤ _; omega) ?_
      conv => whnf
      refine CallK.mk' _ _ hA ?_
      conv => whnf
      cases hb : (cs.all fun c => holdsC c d) with
      | false =>
        have x0 : (M.all fun c => holdsC c d) = false := by rw [hall, hb]; rfl
        have x3 : ((M.all fun c => holdsC c d) == false) = true := by rw [x0]; rfl
        refine CaseB.of_false x0 ?_
        conv => whnf
        refine DrawK.mk1 tok mixed [0, 0, 3, 7, 15, 15, 63, 127, 255, 511, 1023, 1023, 4095, 1023, 1023, 32767, 65535, 131071, 131071, 524287, 1048575, 2097151, 4194303, 8388607, 16777215, 33554431, 67108863] [(0, 0, []), (1, 0, []), (2, 1, [0]), (3, 0, []), (4, 0, []), (5, 0, []), (6, 1, [0]), (7, 0, []), (8, 0, []), (9, 0, []), (10, 0, []), (13, 0, []), (11, 1, [0]), (12, 1, [0]), (14, 1, [0]), (15, 1, [0]), (16, 0, []), (17, 1, [0]), (18, 1, [0]), (19, 1, [0]), (20, 0, []), (21, 0, []), (22, 0, []), (23, 0, []), (24, 1, [0]), (25, 0, []), (26, 0, [])] (by kernel_rfl) ?_
        conv => whnf
        repeat (first
          | (refine CallR.mk' _ hC ?_; conv => whnf)
          | (refine CallR.mk' _ hD ?_; conv => whnf)
          | (refine CallR.mk' _ hA ?_; conv => whnf)
          | (refine CallR.mk' _ hB ?_; conv => whnf)
          | (refine CallR.mk' _ hE ?_; conv => whnf)
          | (refine CallR.mk' _ hF ?_; conv => whnf)
          | (refine CaseB.of_true x1 ?_; conv => whnf)
          | (refine CaseB.of_true x2 ?_; conv => whnf)
          | (refine CaseB.of_false hb ?_; conv => whnf)
          | (refine CaseB.of_true x3 ?_; conv => whnf))
        exact RetK.empty (okF.wv trivial)
      | true =>
        have x3 : ((M.all fun c => holdsC c d) == holdsF k n s d) = true := by rw [hall, hb]; simp
        rcases Bool.eq_false_or_eq_true (M.all fun c => holdsC c d) with hc | hc
        · refine CaseB.of_true hc ?_
          conv => whnf
          refine CallK.mk' _ _ hB ?_
          conv => whnf
          refine CaseB.of_false (by rw [hb]; rfl) ?_
          conv => whnf
          refine DrawK.mk1 tok mixed [0, 0, 3, 7, 15, 15, 63, 127, 255, 511, 1023, 1023, 4095, 1023, 1023, 32767, 65535, 131071, 131071, 524287, 1048575, 2097151, 4194303, 8388607, 16777215, 33554431, 67108863] [(0, 0, []), (1, 0, []), (2, 1, [0]), (3, 0, []), (4, 0, []), (5, 0, []), (6, 1, [0]), (7, 0, []), (8, 0, []), (9, 0, []), (10, 0, []), (13, 0, []), (11, 1, [0]), (12, 1, [0]), (14, 1, [0]), (15, 1, [0]), (16, 0, []), (17, 1, [0]), (18, 1, [0]), (19, 1, [0]), (20, 0, []), (21, 0, []), (22, 0, []), (23, 0, []), (24, 1, [0]), (25, 0, []), (26, 0, [])] (by kernel_rfl) ?_
          conv => whnf
          repeat (first
            | (refine CallR.mk' _ hC ?_; conv => whnf)
            | (refine CallR.mk' _ hD ?_; conv => whnf)
            | (refine CallR.mk' _ hA ?_; conv => whnf)
            | (refine CallR.mk' _ hB ?_; conv => whnf)
            | (refine CallR.mk' _ hE ?_; conv => whnf)
            | (refine CallR.mk' _ hF ?_; conv => whnf)
            | (refine CaseB.of_true x1 ?_; conv => whnf)
            | (refine CaseB.of_true x2 ?_; conv => whnf)
            | (refine CaseB.of_true hb ?_; conv => whnf)
            | (refine CaseB.of_true x3 ?_; conv => whnf))
          exact RetK.empty (okF.wv trivial)
        · refine CaseB.of_false hc ?_
          conv => whnf
          refine DrawK.mk1 tok mixed [0, 0, 3, 7, 15, 15, 63, 127, 255, 511, 1023, 1023, 4095, 1023, 1023, 32767, 65535, 131071, 131071, 524287, 1048575, 2097151, 4194303, 8388607, 16777215, 33554431, 67108863] [(0, 0, []), (1, 0, []), (2, 1, [0]), (3, 0, []), (4, 0, []), (5, 0, []), (6, 1, [0]), (7, 0, []), (8, 0, []), (9, 0, []), (10, 0, []), (13, 0, []), (11, 1, [0]), (12, 1, [0]), (14, 1, [0]), (15, 1, [0]), (16, 0, []), (17, 1, [0]), (18, 1, [0]), (19, 1, [0]), (20, 0, []), (21, 0, []), (22, 0, []), (23, 0, []), (24, 1, [0]), (25, 0, []), (26, 0, [])] (by kernel_rfl) ?_
          conv => whnf
          repeat (first
            | (refine CallR.mk' _ hC ?_; conv => whnf)
            | (refine CallR.mk' _ hD ?_; conv => whnf)
            | (refine CallR.mk' _ hA ?_; conv => whnf)
            | (refine CallR.mk' _ hB ?_; conv => whnf)
            | (refine CallR.mk' _ hE ?_; conv => whnf)
            | (refine CallR.mk' _ hF ?_; conv => whnf)
            | (refine CaseB.of_true x1 ?_; conv => whnf)
            | (refine CaseB.of_true x2 ?_; conv => whnf)
            | (refine CaseB.of_true hb ?_; conv => whnf)
            | (refine CaseB.of_true x3 ?_; conv => whnf))
          exact RetK.empty (okF.wv trivial)
    · conv => whnf
      refine Or.inr ?_
      conv => whnf
      refine CallK.mk' _ _ (c39n.free _ ⟨trivial, trivial⟩ trivial) ?_
      conv => whnf
      refine And.intro (by show (0 + 1) * 32 ≤ _; omega) ?_
      conv => whnf
      refine CallK.mk' _ _ hA ?_
      conv => whnf
      cases hb : (cs.all fun c => holdsC c d) with
      | false =>
        have x0 : (M.all fun c => holdsC c d) = false := by rw [hall, hb]; rfl
        have x3 : ((M.all fun c => holdsC c d) == false) = true := by rw [x0]; rfl
        refine CaseB.of_false x0 ?_
        conv => whnf
        refine DrawK.mk1 tok mixed [0, 0, 3, 7, 15, 15, 63, 127, 255, 511, 1023, 1023, 4095, 1023, 1023, 32767, 65535, 131071, 131071, 524287, 1048575, 2097151, 4194303, 8388607, 16777215, 33554431, 67108863] [(0, 0, []), (1, 0, []), (2, 1, [0]), (3, 0, []), (4, 0, []), (5, 0, []), (6, 1, [0]), (7, 0, []), (8, 0, []), (9, 0, []), (10, 0, []), (13, 0, []), (11, 1, [0]), (12, 1, [0]), (14, 1, [0]), (15, 1, [0]), (16, 0, []), (17, 1, [0]), (18, 1, [0]), (19, 1, [0]), (20, 0, []), (21, 0, []), (22, 0, []), (23, 0, []), (24, 1, [0]), (25, 0, []), (26, 0, [])] (by kernel_rfl) ?_
        conv => whnf
        repeat (first
          | (refine CallR.mk' _ hC ?_; conv => whnf)
          | (refine CallR.mk' _ hD ?_; conv => whnf)
          | (refine CallR.mk' _ hA ?_; conv => whnf)
          | (refine CallR.mk' _ hB ?_; conv => whnf)
          | (refine CallR.mk' _ hE ?_; conv => whnf)
          | (refine CallR.mk' _ hF ?_; conv => whnf)
          | (refine CaseB.of_true x1 ?_; conv => whnf)
          | (refine CaseB.of_true x2 ?_; conv => whnf)
          | (refine CaseB.of_false hb ?_; conv => whnf)
          | (refine CaseB.of_true x3 ?_; conv => whnf))
        exact RetK.empty (okF.wv trivial)
      | true =>
        have x3 : ((M.all fun c => holdsC c d) == holdsF k n s d) = true := by rw [hall, hb]; simp
        rcases Bool.eq_false_or_eq_true (M.all fun c => holdsC c d) with hc | hc
        · refine CaseB.of_true hc ?_
          conv => whnf
          refine CallK.mk' _ _ hB ?_
          conv => whnf
          refine CaseB.of_false (by rw [hb]; rfl) ?_
          conv => whnf
          refine DrawK.mk1 tok mixed [0, 0, 3, 7, 15, 15, 63, 127, 255, 511, 1023, 1023, 4095, 1023, 1023, 32767, 65535, 131071, 131071, 524287, 1048575, 2097151, 4194303, 8388607, 16777215, 33554431, 67108863] [(0, 0, []), (1, 0, []), (2, 1, [0]), (3, 0, []), (4, 0, []), (5, 0, []), (6, 1, [0]), (7, 0, []), (8, 0, []), (9, 0, []), (10, 0, []), (13, 0, []), (11, 1, [0]), (12, 1, [0]), (14, 1, [0]), (15, 1, [0]), (16, 0, []), (17, 1, [0]), (18, 1, [0]), (19, 1, [0]), (20, 0, []), (21, 0, []), (22, 0, []), (23, 0, []), (24, 1, [0]), (25, 0, []), (26, 0, [])] (by kernel_rfl) ?_
          conv => whnf
          repeat (first
            | (refine CallR.mk' _ hC ?_; conv => whnf)
            | (refine CallR.mk' _ hD ?_; conv => whnf)
            | (refine CallR.mk' _ hA ?_; conv => whnf)
            | (refine CallR.mk' _ hB ?_; conv => whnf)
            | (refine CallR.mk' _ hE ?_; conv => whnf)
            | (refine CallR.mk' _ hF ?_; conv => whnf)
            | (refine CaseB.of_true x1 ?_; conv => whnf)
            | (refine CaseB.of_true x2 ?_; conv => whnf)
            | (refine CaseB.of_true hb ?_; conv => whnf)
            | (refine CaseB.of_true x3 ?_; conv => whnf))
          exact RetK.empty (okF.wv trivial)
        · refine CaseB.of_false hc ?_
          conv => whnf
          refine DrawK.mk1 tok mixed [0, 0, 3, 7, 15, 15, 63, 127, 255, 511, 1023, 1023, 4095, 1023, 1023, 32767, 65535, 131071, 131071, 524287, 1048575, 2097151, 4194303, 8388607, 16777215, 33554431, 67108863] [(0, 0, []), (1, 0, []), (2, 1, [0]), (3, 0, []), (4, 0, []), (5, 0, []), (6, 1, [0]), (7, 0, []), (8, 0, []), (9, 0, []), (10, 0, []), (13, 0, []), (11, 1, [0]), (12, 1, [0]), (14, 1, [0]), (15, 1, [0]), (16, 0, []), (17, 1, [0]), (18, 1, [0]), (19, 1, [0]), (20, 0, []), (21, 0, []), (22, 0, []), (23, 0, []), (24, 1, [0]), (25, 0, []), (26, 0, [])] (by kernel_rfl) ?_
          conv => whnf
          repeat (first
            | (refine CallR.mk' _ hC ?_; conv => whnf)
            | (refine CallR.mk' _ hD ?_; conv => whnf)
            | (refine CallR.mk' _ hA ?_; conv => whnf)
            | (refine CallR.mk' _ hB ?_; conv => whnf)
            | (refine CallR.mk' _ hE ?_; conv => whnf)
            | (refine CallR.mk' _ hF ?_; conv => whnf)
            | (refine CaseB.of_true x1 ?_; conv => whnf)
            | (refine CaseB.of_true x2 ?_; conv => whnf)
            | (refine CaseB.of_true hb ?_; conv => whnf)
            | (refine CaseB.of_true x3 ?_; conv => whnf))
          exact RetK.empty (okF.wv trivial)
theorem rd_cvs_t {w : World} {v : Value} {len : Nat} {f : Nat → Nat → LV} (h : ∀ i, i < len → RdL Γ 5 23 (f i) 0) (hl : len ≤ maxLen) (hr : repF w L0 (.s (.lf (.ro true false 3 len f))) v) : ∃ cs : List CV, cs.length ≤ maxLen ∧ repF w L0 (vRt cs) v := by
  obtain ⟨k, n, s, R⟩ := rd_row h
  refine ⟨(List.range len).map fun i => ⟨k i, n i, s i⟩, by simpa using hl, ?_⟩
  have hlen : ((List.range len).map fun i => (⟨k i, n i, s i⟩ : CV)).length = len := by simp
  have hg : ∀ i, i < len → ((List.range len).map fun i => (⟨k i, n i, s i⟩ : CV)).getD i cv0 = ⟨k i, n i, s i⟩ := fun i hi => by simp [List.getD, hi]
  show roRep _ _ _ _ _ _ _ _
  rw [hlen]
  rcases hr with ⟨hr, _⟩ | ⟨a, cap, h0, h1, h2, h3, h4, h5⟩
  · simp at hr
  · refine .inr ⟨a, cap, h0, h1, h2, h3, h4, fun i hi j hj => ?_⟩
    obtain ⟨c, e1, e2, e3⟩ := h5 i hi j hj
    refine ⟨c, e1, e2, ?_⟩
    have : j = 0 ∨ j = 1 ∨ j = 2 := by omega
    rcases this with rfl | rfl | rfl
    · rw [R.c0 i hi] at e3; show rep _ _ (.int .i64 _) _; rw [hg i hi]; exact e3
    · rw [R.c1 i hi] at e3; show rep _ _ (.int .i64 _) _; rw [hg i hi]; exact e3
    · rw [R.c2 i hi] at e3; show rep _ _ (.str _) _; rw [hg i hi]; exact e3

end Go.Sym.Md
