/- Contracts of the program's functions, proved by the framework (text TxB), without conditions but those that each theorem states. -/
import Derived.Test.YtlmcdgbjbamdnaaTxA
import Derived.Test.YtlmcdgbjbamdnaaFw8
set_option linter.unusedVariables false
set_option linter.unusedSimpArgs false
set_option maxRecDepth 10000
namespace Go.Sym.Md
open Go Go.Sym Go.Lib
attribute [local irreducible] holdsF okC

abbrev obD (d : DeedS) : OB := ⟨33, [.one (.int .i64 d.a), .one (.int .i64 d.t), .one (.int .i64 d.c), .one (.int .i64 d.b), .one (.str d.sp), .one (.str d.sn)]⟩
theorem obD_ws {D : Rel} (d : DeedS) : WSs D (obD d).segs (obD d).segs := plainGs.ws ⟨trivial, trivial, trivial, trivial, trivial, trivial, trivial⟩
def holdsC (c : CV) (d : DeedS) : Bool := holdsF c.k c.n c.s d

/-- caveat.All's broken -/
theorem c129 (k n : Int) (s : List UInt8) (d : DeedS) : SCalls Proofs.Try.prog 129 [vC k n s, .s (.lf (.ptr 0 0))] [some (obD d)] (.s (.lf (.bool (!holdsF k n s d)))) [some (obD d)] := by
  refine SCalls.intro tok Proofs.Try.func129 ?_
  conv => whnf
  refine CallK.mk' _ _ ((c35 k n s d).free _ ⟨⟨trivial, trivial, trivial, trivial⟩, ⟨trivial, trivial, trivial, trivial, trivial, trivial, trivial⟩, trivial⟩ trivial) ?_
  conv => whnf
  exact RetK.of ⟨rfl, obD_ws d, trivial⟩ (by simp) (okF.wv trivial)

def idxF (d : DeedS) : List CV → Nat → Int
  | [], _ => -1
  | c :: l, i => if holdsC c d then idxF d l (i + 1) else (i : Int)

theorem idxF_all (d : DeedS) : ∀ (cs : List CV) (i : Nat), decide (0 ≤ idxF d cs i) = !(cs.all fun c => holdsC c d)
  | [], i => rfl
  | c :: l, i => by
    unfold idxF
    cases h : holdsC c d with
    | true => rw [if_pos rfl, idxF_all d l (i + 1), List.all_cons, h, Bool.true_and]
    | false => rw [if_neg (by simp), List.all_cons, h, Bool.false_and]; simp

abbrev vB : LV := .fn 129 1 fun i => nthL [LV.ptr 0 0] i
theorem vB_ok {o : OB} {l : Hp} : okF (some o :: l) (.s (.lf vB)) := by
  intro i hi
  obtain rfl : i = 0 := by omega
  exact rfl
theorem idxF_cons (d : DeedS) (c : CV) (l : List CV) (i : Nat) : idxF d (c :: l) i = if holdsC c d then idxF d l (i + 1) else (i : Int) := rfl

/-- slices.IndexFunc -/
theorem c184 (cs : List CV) (hl : cs.length ≤ maxLen) (d : DeedS) : SCalls Proofs.Try.prog 184 [vR cs, .s (.lf vB)] [some (obD d)] (vI (idxF d cs 0)) [some (obD d)] := by
  have hm : maxLen = 9223372036854775807 := rfl
  refine SCalls.intro tok Proofs.Try.func184 ?_
  conv => whnf
  refine LoopK.mk1 (fun i : Nat => [(0, vR cs), (1, .s (.lf vB)), (7, vI cs.length), (8, vI i)]) (fun i => [some (obD d)]) (fun i => i ≤ cs.length ∧ idxF d cs 0 = idxF d (cs.drop i) i) (fun i => cs.length - i) 0 ⟨by omega, rfl⟩ ?_ ?_
  · exact Weak.of ⟨rfl, obD_ws d, trivial⟩ (by simp) ⟨okF.wv rowC_ok, okF.wv vB_ok, okF.wv trivial, okF.wv trivial, trivial⟩
  intro i hi
  obtain ⟨hi, ht⟩ := hi
  conv => whnf
  by_cases hi' : i < cs.length
  · refine CaseB.of_true (decide_eq_true (by omega)) ?_
    conv => whnf
    refine And.intro (by omega) ?_
    conv => whnf
    have hd : cs.drop i = cs.getD i cv0 :: cs.drop (i + 1) := by rw [List.drop_eq_getElem_cons hi', List.getD_eq_getElem?_getD, List.getElem?_eq_getElem hi']; rfl
    rw [hd, idxF_cons] at ht
    refine CallK.mk' _ _ (c129 _ _ _ d) ?_
    conv => whnf
    have e0 : holdsF (cs.getD (Int.toNat (i : Int)) cv0).k (cs.getD (Int.toNat (i : Int)) cv0).n (cs.getD (Int.toNat (i : Int)) cv0).s d = holdsC (cs.getD i cv0) d := by rw [Int.toNat_natCast]; rfl
    cases hh : holdsC (cs.getD i cv0) d with
    | false =>
      refine CaseB.of_true (by rw [e0, hh]; rfl) ?_
      conv => whnf
      rw [hh] at ht
      exact RetK.of ⟨rfl, obD_ws d, trivial⟩ (by simp) (WV.lf (WL.int ht.symm))
    | true =>
      refine CaseB.of_false (by rw [e0, hh]; rfl) ?_
      conv => whnf
      rw [hh] at ht
      refine ⟨i + 1, ⟨by omega, ht⟩, by show cs.length - (i + 1) < cs.length - i; omega, ?_⟩
      exact Weak.of ⟨rfl, obD_ws d, trivial⟩ (by simp) ⟨okF.wv rowC_ok, okF.wv vB_ok, okF.wv trivial, WV.lf (WL.int (by rw [wrap_i64 (by omega) (by omega)]; omega)), trivial⟩
  · refine CaseB.of_false (decide_eq_false (by omega)) ?_
    conv => whnf
    rw [List.drop_of_length_le (by omega)] at ht
    exact RetK.of ⟨rfl, obD_ws d, trivial⟩ (by simp) (WV.lf (WL.int ht.symm))

/-- slices.ContainsFunc -/
theorem c130 (cs : List CV) (hl : cs.length ≤ maxLen) (d : DeedS) : SCalls Proofs.Try.prog 130 [vR cs, .s (.lf vB)] [some (obD d)] (.s (.lf (.bool (!(cs.all fun c => holdsC c d))))) [some (obD d)] := by
  refine SCalls.intro tok Proofs.Try.func130 ?_
  conv => whnf
  refine CallK.mk' _ _ (c184 cs hl d) ?_
  conv => whnf
  exact RetK.of ⟨rfl, obD_ws d, trivial⟩ (by simp) (WV.lf (WL.bool (idxF_all d cs 0)))

/-- caveat.All -/
theorem c37 (cs : List CV) (hl : cs.length ≤ maxLen) (d : DeedS) : SCalls Proofs.Try.prog 37 [vR cs, vD d] [] (.s (.lf (.bool (cs.all fun c => holdsC c d)))) [] := by
  refine SCalls.intro tok Proofs.Try.func37 ?_
  conv => whnf
  refine CallK.mk' _ _ (c130 cs hl d) ?_
  conv => whnf
  exact RetK.empty (WV.lf (WL.bool (Bool.not_not _)))

/-- baileyref06.All -/
theorem c38 (cs : List CV) (hl : cs.length ≤ maxLen) (d : DeedS) : SCalls Proofs.Try.prog 38 [vR cs, vD d] [] (.s (.lf (.bool (cs.all fun c => holdsC c d)))) [] := by
  have hm : maxLen = 9223372036854775807 := rfl
  refine SCalls.intro tok Proofs.Try.func38 ?_
  conv => whnf
  refine LoopK.mk1 (fun i : Nat => [(0, vR cs), (3, .s (.lf (.ptr 0 0))), (5, vI i)]) (fun i => [some (obD d)]) (fun i => i ≤ cs.length ∧ (cs.take i).all (fun c => holdsC c d) = true) (fun i => cs.length - i) 0 ⟨by omega, rfl⟩ ?_ ?_
  · exact Weak.of ⟨rfl, obD_ws d, trivial⟩ (by simp) ⟨okF.wv rowC_ok, okF.wv rfl, okF.wv trivial, trivial⟩
  intro i hi
  obtain ⟨hi, ht⟩ := hi
  conv => whnf
  by_cases hi' : i < cs.length
  · refine CaseB.of_true (decide_eq_true (by omega)) ?_
    conv => whnf
    refine DrawK.mk1 tok mixed [0, 0, 3, 7, 0, 31, 63] [(0, 0, []), (1, 0, []), (2, 1, [0]), (3, 1, [0]), (4, 1, [0]), (5, 1, [0]), (6, 0, [])] (by kernel_rfl) ?_
    conv => whnf
    refine And.intro (by omega) ?_
    conv => whnf
    have hx0 : cs[i]? = some (cs.getD i cv0) := by rw [List.getD_eq_getElem?_getD, List.getElem?_eq_getElem hi']; rfl
    refine CallR.mk' _ ((c36 _ _ _ d).free _ ⟨⟨trivial, trivial, trivial, trivial⟩, ⟨trivial, trivial, trivial, trivial, trivial, trivial, trivial⟩, trivial⟩ trivial) ?_
    conv => whnf
    have e0 : holdsF (cs.getD (Int.toNat (i : Int)) cv0).k (cs.getD (Int.toNat (i : Int)) cv0).n (cs.getD (Int.toNat (i : Int)) cv0).s d = holdsC (cs.getD i cv0) d := by rw [Int.toNat_natCast]; rfl
    cases hh : holdsC (cs.getD i cv0) d with
    | false =>
      refine CaseB.of_true (by rw [e0, hh]; rfl) ?_
      conv => whnf
      refine RetK.empty (WV.lf (WL.ff ?_))
      rw [List.all_eq_false]
      exact ⟨_, List.mem_of_getElem? hx0, by rw [hh]; simp⟩
    | true =>
      refine CaseB.of_false (by rw [e0, hh]; rfl) ?_
      conv => whnf
      refine ⟨i + 1, ⟨by omega, ?_⟩, by show cs.length - (i + 1) < cs.length - i; omega, ?_⟩
      · rw [List.take_add_one, hx0, List.all_append, ht]
        show (true && (holdsC (cs.getD i cv0) d && true)) = true
        rw [hh]
        rfl
      · exact Weak.of ⟨rfl, obD_ws d, trivial⟩ (by simp) ⟨okF.wv rowC_ok, okF.wv rfl, WV.lf (WL.int (by rw [wrap_i64 (by omega) (by omega)]; omega)), trivial⟩
  · refine CaseB.of_false (decide_eq_false (by omega)) ?_
    conv => whnf
    rw [List.take_of_length_le (by omega)] at ht
    exact RetK.empty (WV.lf (WL.tt ht))

/-- baileylaw06.CaveatHolds -/
theorem c5 (k n : Int) (s : List UInt8) (cs : List CV) (hl : cs.length ≤ maxLen) (d : DeedS) : SCalls Proofs.Try.prog 5 [vC k n s, vR cs, vD d] [] (.s (.lf .tt)) [] := by
  have h35 := (c35 k n s d).free [some ⟨23, [.one (.int .i64 k), .one (.int .i64 n), .one (.str s)]⟩, some (obD d)] ⟨⟨trivial, trivial, trivial, trivial⟩, ⟨trivial, trivial, trivial, trivial, trivial, trivial, trivial⟩, trivial⟩ trivial
  have h36 := (c36 k n s d).free [some ⟨23, [.one (.int .i64 k), .one (.int .i64 n), .one (.str s)]⟩, some (obD d)] ⟨⟨trivial, trivial, trivial, trivial⟩, ⟨trivial, trivial, trivial, trivial, trivial, trivial, trivial⟩, trivial⟩ trivial
  have h37 := (c37 cs hl d).free [some ⟨23, [.one (.int .i64 k), .one (.int .i64 n), .one (.str s)]⟩, some (obD d)] ⟨rowC_free, ⟨trivial, trivial, trivial, trivial, trivial, trivial, trivial⟩, trivial⟩ trivial
  have h38 := (c38 cs hl d).free [some ⟨23, [.one (.int .i64 k), .one (.int .i64 n), .one (.str s)]⟩, some (obD d)] ⟨rowC_free, ⟨trivial, trivial, trivial, trivial, trivial, trivial, trivial⟩, trivial⟩ trivial
  have h25 := c25.free [some ⟨23, [.one (.int .i64 k), .one (.int .i64 n), .one (.str s)]⟩, some (obD d)] trivial trivial
  refine SCalls.intro tok Proofs.Try.func5 ?_
  conv => whnf
  refine CallK.mk' _ _ ((c30L cs hl).free _ ⟨rowC_free, trivial⟩ trivial) ?_
  conv => whnf
  cases fa : fewL cs with
  | false =>
    refine CaseB.of_true rfl ?_
    conv => whnf
    refine CallK.mk' _ _ h25 ?_
    conv => whnf
    exact RetK.empty (okF.wv trivial)
  | true =>
    refine CaseB.of_false rfl ?_
    conv => whnf
    by_cases h2 : 200 < (s.length : Int)
    · refine CaseB.of_true (decide_eq_true h2) ?_
      conv => whnf
      refine CallK.mk' _ _ h25 ?_
      conv => whnf
      exact RetK.empty (okF.wv trivial)
    refine CaseB.of_false (decide_eq_false h2) ?_
    conv => whnf
    refine DrawK.mk1 tok mixed [0, 0, 3, 0, 0, 31, 63, 127, 255, 255, 1023, 255, 255, 8191, 16383, 32767, 65535, 131071, 262143, 524287] [(0, 1, [0]), (1, 1, [0]), (2, 1, [0]), (3, 1, [0]), (4, 1, [0]), (5, 1, [0]), (6, 0, []), (7, 0, []), (8, 0, []), (11, 0, []), (9, 1, [0]), (10, 1, [0]), (12, 1, [0]), (13, 1, [0]), (14, 0, []), (15, 0, []), (16, 0, []), (17, 1, [0]), (18, 0, []), (19, 0, [])] (by kernel_rfl) ?_
    conv => whnf
    refine CallR.mk' _ h35 ?_
    conv => whnf
    refine CallR.mk' _ h36 ?_
    conv => whnf
    repeat (first
      | (refine CaseB.of_true (beq_self_eq_true _) ?_; conv => whnf)
      | (refine CallR.mk' _ h37 ?_; conv => whnf)
      | (refine CallR.mk' _ h38 ?_; conv => whnf)
      | (refine CallR.mk' _ h25 ?_; conv => whnf))
    exact RetK.empty (okF.wv trivial)
end Go.Sym.Md

set_option linter.unusedVariables false
set_option linter.unusedSimpArgs false
set_option maxRecDepth 10000
namespace Go.Sym.Md
open Go Go.Sym Go.Lib
attribute [local irreducible] holdsF okC

abbrev vRt (cs : List CV) : FV := .s (.lf (.ro true false 3 cs.length (rowC cs)))

theorem rowC_wl {D : Rel} {cs : List CV} {i j : Nat} (hj : j < 3) : WL D (rowC cs i j) (rowC cs i j) := by
  have : j = 0 ∨ j = 1 ∨ j = 2 := by omega
  rcases this with rfl | rfl | rfl <;> exact plainL.wl trivial

/-- slices.Clone, of no caveats. -/
theorem c39n : SCalls Proofs.Try.prog 39 [.s (.lf .sl0)] [] (.s (.lf .sl0)) [] := by
  refine SCalls.intro tok Proofs.Try.func39 ?_
  conv => whnf
  exact RetK.empty (okF.wv trivial)

/-- slices.Clone, of caveats. -/
theorem c39 (cs : List CV) (hl : cs.length ≤ 1000000) : SCalls Proofs.Try.prog 39 [vRt cs] [] (.s (.lf (.own 0 0 3 0 cs.length))) [some ⟨23, [.recs 3 cs.length (rowC cs)]⟩] := by
  refine SCalls.intro tok Proofs.Try.func39 ?_
  conv => whnf
  refine Or.inl ?_
  conv => whnf
  refine And.intro (by omega) ?_
  conv => whnf
  refine And.intro ⟨rfl, by show (0 + cs.length) * 32 ≤ _; omega⟩ ?_
  conv => whnf
  refine RetK.perm [1] ⟨⟨rfl, .recs (Nat.zero_add _) fun i hi j hj => ?_, trivial⟩, trivial⟩ (WV.lf (WL.own rfl rfl rfl (Nat.zero_add _))) rfl (by simp) rfl (by simp)
  exact rowC_wl hj

/-- A row of caveats of the call's own, lent. -/
theorem WL.lentC {H H' : Hp} {μ : Nat → Nat} {hid : Nat → Prop} {nm len n : Nat} {f : Nat → Nat → LV} {ty : TypeId} {cs : List CV} (hob : hget H nm = some ⟨ty, [.recs 3 n f]⟩) (hn : len = n) (hl : len = cs.length)
    (hf : ∀ i j, i < len → j < 3 → f i j = rowC cs i j) (hg : gone H' μ hid nm) : WL (Down H H' μ hid) (.own nm 0 3 0 len) (.ro false false 3 cs.length (rowC cs)) := by
  subst hn
  intro w L L' x h hx
  rw [← hl]
  refine rep_ro_weak (WL.freezeR (ob := ⟨ty, [.recs 3 len f]⟩) (p := []) (q := []) hob rfl rfl (fun i hi j hj => ⟨?_, ?_⟩) hg w L L' x h hx)
  · show 0 * 3 + (i * 3 + j) < len * 3
    omega
  · show WL _ (f ((0 * 3 + (i * 3 + j)) / 3) ((0 * 3 + (i * 3 + j)) % 3)) _
    rw [show (0 * 3 + (i * 3 + j)) / 3 = i by omega, show (0 * 3 + (i * 3 + j)) % 3 = j by omega, hf i j hi hj]
    exact rowC_wl hj

/-- baileylaw06.CaveatWeaker -/
theorem c6 (cs : List CV) (hl : cs.length ≤ maxLen) (k n : Int) (s : List UInt8) (d : DeedS) : SCalls Proofs.Try.prog 6 [vRt cs, vC k n s, vD d] [] (.s (.lf .tt)) [] := by
  have h30 := (c30L cs hl).lend (cs := [vRt cs]) (fun _ => True) [some ⟨23, [.one (.int .i64 k), .one (.int .i64 n), .one (.str s)]⟩, some (obD d)] ⟨WV.lf (WL.ro rfl (by simp) (by simp) fun i hi j hj => rowC_wl hj), trivial⟩ (plainF.wv trivial)
  have h25 := c25.free [some ⟨23, [.one (.int .i64 k), .one (.int .i64 n), .one (.str s)]⟩, some (obD d)] trivial trivial
  refine SCalls.intro tok Proofs.Try.func6 ?_
  conv => whnf
  refine CallK.mk' _ _ h30 ?_
  conv => whnf
  cases fa : fewL cs with
  | false =>
    refine CaseB.of_true rfl ?_
    conv => whnf
    refine CallK.mk' _ _ h25 ?_
    conv => whnf
    exact RetK.empty (okF.wv trivial)
  | true =>
    have hfew : cs.length ≤ 30 := by unfold fewL at fa; simp at fa; omega
    refine CaseB.of_false rfl ?_
    conv => whnf
    by_cases h2 : 200 < (s.length : Int)
    · refine CaseB.of_true (decide_eq_true h2) ?_
      conv => whnf
      refine CallK.mk' _ _ h25 ?_
      conv => whnf
      exact RetK.empty (okF.wv trivial)
    refine CaseB.of_false (decide_eq_false h2) ?_
    conv => whnf
    obtain ⟨M, hM⟩ : ∃ M : List CV, M = cs ++ [⟨k, n, s⟩] := ⟨_, rfl⟩
    have hMl : M.length = cs.length + 1 := by rw [hM]; simp
    have hm : maxLen = 9223372036854775807 := rfl
    have hrow : ∀ i j, i < cs.length + 1 → j < 3 → catRow 3 cs.length (fun i j => rowC cs (0 + i) j) (fun i j => cellD ([] ++ ([Seg.one (LV.int IntKind.i64 k), Seg.one (LV.int IntKind.i64 n), Seg.one (LV.str s)] ++ [])) (i * 3 + j)) i j = rowC M i j := by
      intro i j hi hj
      rw [hM]
      unfold catRow
      by_cases h : i < cs.length
      · rw [show Nat.blt i cs.length = true by simp [Nat.blt, Nat.ble_eq]; omega]
        show rowC cs (0 + i) j = _
        unfold rowC
        rw [Nat.zero_add, show (cs ++ [(⟨k, n, s⟩ : CV)]).getD i cv0 = cs.getD i cv0 by rw [List.getD_eq_getElem?_getD, List.getD_eq_getElem?_getD, List.getElem?_append_left h]]
      · have e : i = cs.length := by omega
        subst e
        rw [show Nat.blt cs.length cs.length = false by cases hb : Nat.blt cs.length cs.length <;> first | rfl | (have := blt_true hb; omega)]
        show cellD _ ((cs.length - cs.length) * 3 + j) = _
        unfold rowC
        rw [Nat.sub_self, show (cs ++ [(⟨k, n, s⟩ : CV)]).getD cs.length cv0 = ⟨k, n, s⟩ by rw [List.getD_eq_getElem?_getD, List.getElem?_append_right (Nat.le_refl _), Nat.sub_self]; rfl]
        have : j = 0 ∨ j = 1 ∨ j = 2 := by omega
        rcases this with rfl | rfl | rfl <;> rfl
    have hA := (c37 M (by omega) d).lend (cs := [.s (.lf (.own 3 0 3 0 (cs.length + 1))), vD d]) (fun _ => False) [some ⟨23, [.one (.int .i64 k), .one (.int .i64 n), .one (.str s)]⟩, some (obD d), none, some ⟨23, [.recs 3 (cs.length + 1) (catRow 3 cs.length (fun i j => rowC cs (0 + i) j) (fun i j => cellD ([] ++ ([Seg.one (LV.int IntKind.i64 k), Seg.one (LV.int IntKind.i64 n), Seg.one (LV.str s)] ++ [])) (i * 3 + j)))]⟩] ⟨WV.lf (WL.lentC rfl rfl hMl.symm hrow ⟨fun h => h, fun i ob h => by simp at h⟩), freeF.wv ⟨trivial, trivial, trivial, trivial, trivial, trivial, trivial⟩, trivial⟩ (plainF.wv trivial)
    have hB := (c37 cs hl d).lend (cs := [vRt cs, vD d]) (fun _ => False) [some ⟨23, [.one (.int .i64 k), .one (.int .i64 n), .one (.str s)]⟩, some (obD d), none, some ⟨23, [.recs 3 (cs.length + 1) (catRow 3 cs.length (fun i j => rowC cs (0 + i) j) (fun i j => cellD ([] ++ ([Seg.one (LV.int IntKind.i64 k), Seg.one (LV.int IntKind.i64 n), Seg.one (LV.str s)] ++ [])) (i * 3 + j)))]⟩] ⟨WV.lf (WL.ro rfl (by simp) (by simp) fun i hi j hj => rowC_wl hj), freeF.wv ⟨trivial, trivial, trivial, trivial, trivial, trivial, trivial⟩, trivial⟩ (plainF.wv trivial)
    have hC := (c33 M cs (by omega)).lend (cs := [.s (.lf (.own 3 0 3 0 (cs.length + 1))), vRt cs]) (fun _ => False) [some ⟨23, [.one (.int .i64 k), .one (.int .i64 n), .one (.str s)]⟩, some (obD d), none, some ⟨23, [.recs 3 (cs.length + 1) (catRow 3 cs.length (fun i j => rowC cs (0 + i) j) (fun i j => cellD ([] ++ ([Seg.one (LV.int IntKind.i64 k), Seg.one (LV.int IntKind.i64 n), Seg.one (LV.str s)] ++ [])) (i * 3 + j)))]⟩] ⟨WV.lf (WL.lentC rfl rfl hMl.symm hrow ⟨fun h => h, fun i ob h => by simp at h⟩), WV.lf (WL.ro rfl (by simp) (by simp) fun i hi j hj => rowC_wl hj), trivial⟩ (plainF.wv trivial)
    have hD := (c33 cs M hl).lend (cs := [vRt cs, .s (.lf (.own 3 0 3 0 (cs.length + 1)))]) (fun _ => False) [some ⟨23, [.one (.int .i64 k), .one (.int .i64 n), .one (.str s)]⟩, some (obD d), none, some ⟨23, [.recs 3 (cs.length + 1) (catRow 3 cs.length (fun i j => rowC cs (0 + i) j) (fun i j => cellD ([] ++ ([Seg.one (LV.int IntKind.i64 k), Seg.one (LV.int IntKind.i64 n), Seg.one (LV.str s)] ++ [])) (i * 3 + j)))]⟩] ⟨WV.lf (WL.ro rfl (by simp) (by simp) fun i hi j hj => rowC_wl hj), WV.lf (WL.lentC rfl rfl hMl.symm hrow ⟨fun h => h, fun i ob h => by simp at h⟩), trivial⟩ (plainF.wv trivial)
    have hE := (c35 k n s d).free [some ⟨23, [.one (.int .i64 k), .one (.int .i64 n), .one (.str s)]⟩, some (obD d), none, some ⟨23, [.recs 3 (cs.length + 1) (catRow 3 cs.length (fun i j => rowC cs (0 + i) j) (fun i j => cellD ([] ++ ([Seg.one (LV.int IntKind.i64 k), Seg.one (LV.int IntKind.i64 n), Seg.one (LV.str s)] ++ [])) (i * 3 + j)))]⟩] ⟨⟨trivial, trivial, trivial, trivial⟩, ⟨trivial, trivial, trivial, trivial, trivial, trivial, trivial⟩, trivial⟩ trivial
    have hF := c25.free [some ⟨23, [.one (.int .i64 k), .one (.int .i64 n), .one (.str s)]⟩, some (obD d), none, some ⟨23, [.recs 3 (cs.length + 1) (catRow 3 cs.length (fun i j => rowC cs (0 + i) j) (fun i j => cellD ([] ++ ([Seg.one (LV.int IntKind.i64 k), Seg.one (LV.int IntKind.i64 n), Seg.one (LV.str s)] ++ [])) (i * 3 + j)))]⟩] trivial trivial
    have x1 : extF M cs = true := by unfold extF; rw [hM]; simp
    have x2 : (!extF cs M) = true := by unfold extF; rw [decide_eq_false (by rw [hMl]; omega)]; rfl
    have hall : (M.all fun c => holdsC c d) = ((cs.all fun c => holdsC c d) && holdsF k n s d) := by rw [hM, List.all_append]; simp [holdsC]
    refine DrawK.mkL tok mixed [0, 1, 0, 4, 15, 31] [1, 3, 4] [
      ([0, 1, 0, 7, 15, 31], [(0, 0, []), (1, 2, []), (2, 1, [0, 1]), (3, 2, []), (4, 2, []), (5, 0, [])]),
      ([0, 13, 0, 4, 15, 31], [(0, 0, []), (2, 1, [0]), (3, 2, []), (1, 2, []), (4, 2, []), (5, 0, [])])] (by kernel_rfl) ⟨?_, ?_, trivial⟩
    · conv => whnf
      refine CallK.mk' (.s (.lf (.own 2 0 3 0 cs.length))) _ ((c39 cs (by omega)).made [some ⟨23, [.one (.int .i64 k), .one (.int .i64 n), .one (.str s)]⟩, some (obD d)] (Hn := [some ⟨23, [.recs 3 cs.length (rowC cs)]⟩]) ⟨WV.lf (WL.ro rfl (by simp) (by simp) fun i hi j hj => rowC_wl hj), trivial⟩ (WV.lf (WL.uown rfl rfl rfl)) ⟨rfl, ⟨.recs rfl fun i hi j hj => rowC_wl hj, trivial⟩, trivial⟩) ?_
      conv => whnf
      refine And.intro rfl ?_
      conv => whnf
      refine Or.inr ?_
      conv => whnf
      refine And.intro (by omega) ?_
      conv => whnf
      refine And.intro ⟨rfl, by show (cs.length + 1) * 32 ≤ _; omega⟩ ?_
      conv => whnf
      refine CallK.mk' _ _ hA ?_
      conv => whnf
      cases hb : (cs.all fun c => holdsC c d) with
      | false =>
        have x0 : (M.all fun c => holdsC c d) = false := by rw [hall, hb]; rfl
        have x3 : ((M.all fun c => holdsC c d) == false) = true := by rw [x0]; rfl
        refine CaseB.of_false x0 ?_
        conv => whnf
        refine DrawK.mk1 tok mixed [0, 0, 3, 7, 15, 15, 63, 127, 255, 511, 1023, 1023, 4095, 1023, 1023, 32767, 65535, 131071, 131071, 524287, 1048575, 2097151, 4194303, 8388607, 16777215, 33554431, 67108863] [(0, 0, []), (1, 0, []), (2, 1, [0]), (3, 0, []), (4, 0, []), (5, 0, []), (6, 1, [0]), (7, 0, []), (8, 0, []), (9, 0, []), (10, 0, []), (13, 0, []), (11, 1, [0]), (12, 1, [0]), (14, 1, [0]), (15, 1, [0]), (16, 0, []), (17, 1, [0]), (18, 1, [0]), (19, 1, [0]), (20, 0, []), (21, 0, []), (22, 0, []), (23, 0, []), (24, 1, [0]), (25, 0, []), (26, 0, [])] (by kernel_rfl) ?_
        conv => whnf
        repeat (first
          | (refine CallR.mk' _ hC ?_; conv => whnf)
          | (refine CallR.mk' _ hD ?_; conv => whnf)
          | (refine CallR.mk' _ hA ?_; conv => whnf)
          | (refine CallR.mk' _ hB ?_; conv => whnf)
          | (refine CallR.mk' _ hE ?_; conv => whnf)
          | (refine CallR.mk' _ hF ?_; conv => whnf)
          | (refine CaseB.of_true x1 ?_; conv => whnf)
          | (refine CaseB.of_true x2 ?_; conv => whnf)
          | (refine CaseB.of_false hb ?_; conv => whnf)
          | (refine CaseB.of_true x3 ?_; conv => whnf))
        exact RetK.empty (okF.wv trivial)
      | true =>
        have x3 : ((M.all fun c => holdsC c d) == holdsF k n s d) = true := by rw [hall, hb]; simp
        rcases Bool.eq_false_or_eq_true (M.all fun c => holdsC c d) with hc | hc
        · refine CaseB.of_true hc ?_
          conv => whnf
          refine CallK.mk' _ _ hB ?_
          conv => whnf
          refine CaseB.of_false (by rw [hb]; rfl) ?_
          conv => whnf
          refine DrawK.mk1 tok mixed [0, 0, 3, 7, 15, 15, 63, 127, 255, 511, 1023, 1023, 4095, 1023, 1023, 32767, 65535, 131071, 131071, 524287, 1048575, 2097151, 4194303, 8388607, 16777215, 33554431, 67108863] [(0, 0, []), (1, 0, []), (2, 1, [0]), (3, 0, []), (4, 0, []), (5, 0, []), (6, 1, [0]), (7, 0, []), (8, 0, []), (9, 0, []), (10, 0, []), (13, 0, []), (11, 1, [0]), (12, 1, [0]), (14, 1, [0]), (15, 1, [0]), (16, 0, []), (17, 1, [0]), (18, 1, [0]), (19, 1, [0]), (20, 0, []), (21, 0, []), (22, 0, []), (23, 0, []), (24, 1, [0]), (25, 0, []), (26, 0, [])] (by kernel_rfl) ?_
          conv => whnf
          repeat (first
            | (refine CallR.mk' _ hC ?_; conv => whnf)
            | (refine CallR.mk' _ hD ?_; conv => whnf)
            | (refine CallR.mk' _ hA ?_; conv => whnf)
            | (refine CallR.mk' _ hB ?_; conv => whnf)
            | (refine CallR.mk' _ hE ?_; conv => whnf)
            | (refine CallR.mk' _ hF ?_; conv => whnf)
            | (refine CaseB.of_true x1 ?_; conv => whnf)
            | (refine CaseB.of_true x2 ?_; conv => whnf)
            | (refine CaseB.of_true hb ?_; conv => whnf)
            | (refine CaseB.of_true x3 ?_; conv => whnf))
          exact RetK.empty (okF.wv trivial)
        · refine CaseB.of_false hc ?_
          conv => whnf
          refine DrawK.mk1 tok mixed [0, 0, 3, 7, 15, 15, 63, 127, 255, 511, 1023, 1023, 4095, 1023, 1023, 32767, 65535, 131071, 131071, 524287, 1048575, 2097151, 4194303, 8388607, 16777215, 33554431, 67108863] [(0, 0, []), (1, 0, []), (2, 1, [0]), (3, 0, []), (4, 0, []), (5, 0, []), (6, 1, [0]), (7, 0, []), (8, 0, []), (9, 0, []), (10, 0, []), (13, 0, []), (11, 1, [0]), (12, 1, [0]), (14, 1, [0]), (15, 1, [0]), (16, 0, []), (17, 1, [0]), (18, 1, [0]), (19, 1, [0]), (20, 0, []), (21, 0, []), (22, 0, []), (23, 0, []), (24, 1, [0]), (25, 0, []), (26, 0, [])] (by kernel_rfl) ?_
          conv => whnf
          repeat (first
            | (refine CallR.mk' _ hC ?_; conv => whnf)
            | (refine CallR.mk' _ hD ?_; conv => whnf)
            | (refine CallR.mk' _ hA ?_; conv => whnf)
            | (refine CallR.mk' _ hB ?_; conv => whnf)
            | (refine CallR.mk' _ hE ?_; conv => whnf)
            | (refine CallR.mk' _ hF ?_; conv => whnf)
            | (refine CaseB.of_true x1 ?_; conv => whnf)
            | (refine CaseB.of_true x2 ?_; conv => whnf)
            | (refine CaseB.of_true hb ?_; conv => whnf)
            | (refine CaseB.of_true x3 ?_; conv => whnf))
          exact RetK.empty (okF.wv trivial)
    · conv => whnf
      refine Or.inr ?_
      conv => whnf
      refine CallK.mk' (.s (.lf (.own 2 0 3 0 cs.length))) _ ((c39 cs (by omega)).made [some ⟨23, [.one (.int .i64 k), .one (.int .i64 n), .one (.str s)]⟩, some (obD d)] (Hn := [some ⟨23, [.recs 3 cs.length (rowC cs)]⟩]) ⟨WV.lf (WL.ro rfl (by simp) (by simp) fun i hi j hj => rowC_wl hj), trivial⟩ (WV.lf (WL.uown rfl rfl rfl)) ⟨rfl, ⟨.recs rfl fun i hi j hj => rowC_wl hj, trivial⟩, trivial⟩) ?_
      conv => whnf
      refine And.intro (by omega) ?_
      conv => whnf
      refine And.intro ⟨rfl, by show (cs.length + 1) * 32 ≤ _; omega⟩ ?_
      conv => whnf
      refine CallK.mk' _ _ hA ?_
      conv => whnf
      cases hb : (cs.all fun c => holdsC c d) with
      | false =>
        have x0 : (M.all fun c => holdsC c d) = false := by rw [hall, hb]; rfl
        have x3 : ((M.all fun c => holdsC c d) == false) = true := by rw [x0]; rfl
        refine CaseB.of_false x0 ?_
        conv => whnf
        refine DrawK.mk1 tok mixed [0, 0, 3, 7, 15, 15, 63, 127, 255, 511, 1023, 1023, 4095, 1023, 1023, 32767, 65535, 131071, 131071, 524287, 1048575, 2097151, 4194303, 8388607, 16777215, 33554431, 67108863] [(0, 0, []), (1, 0, []), (2, 1, [0]), (3, 0, []), (4, 0, []), (5, 0, []), (6, 1, [0]), (7, 0, []), (8, 0, []), (9, 0, []), (10, 0, []), (13, 0, []), (11, 1, [0]), (12, 1, [0]), (14, 1, [0]), (15, 1, [0]), (16, 0, []), (17, 1, [0]), (18, 1, [0]), (19, 1, [0]), (20, 0, []), (21, 0, []), (22, 0, []), (23, 0, []), (24, 1, [0]), (25, 0, []), (26, 0, [])] (by kernel_rfl) ?_
        conv => whnf
        repeat (first
          | (refine CallR.mk' _ hC ?_; conv => whnf)
          | (refine CallR.mk' _ hD ?_; conv => whnf)
          | (refine CallR.mk' _ hA ?_; conv => whnf)
          | (refine CallR.mk' _ hB ?_; conv => whnf)
          | (refine CallR.mk' _ hE ?_; conv => whnf)
          | (refine CallR.mk' _ hF ?_; conv => whnf)
          | (refine CaseB.of_true x1 ?_; conv => whnf)
          | (refine CaseB.of_true x2 ?_; conv => whnf)
          | (refine CaseB.of_false hb ?_; conv => whnf)
          | (refine CaseB.of_true x3 ?_; conv => whnf))
        exact RetK.empty (okF.wv trivial)
      | true =>
        have x3 : ((M.all fun c => holdsC c d) == holdsF k n s d) = true := by rw [hall, hb]; simp
        rcases Bool.eq_false_or_eq_true (M.all fun c => holdsC c d) with hc | hc
        · refine CaseB.of_true hc ?_
          conv => whnf
          refine CallK.mk' _ _ hB ?_
          conv => whnf
          refine CaseB.of_false (by rw [hb]; rfl) ?_
          conv => whnf
          refine DrawK.mk1 tok mixed [0, 0, 3, 7, 15, 15, 63, 127, 255, 511, 1023, 1023, 4095, 1023, 1023, 32767, 65535, 131071, 131071, 524287, 1048575, 2097151, 4194303, 8388607, 16777215, 33554431, 67108863] [(0, 0, []), (1, 0, []), (2, 1, [0]), (3, 0, []), (4, 0, []), (5, 0, []), (6, 1, [0]), (7, 0, []), (8, 0, []), (9, 0, []), (10, 0, []), (13, 0, []), (11, 1, [0]), (12, 1, [0]), (14, 1, [0]), (15, 1, [0]), (16, 0, []), (17, 1, [0]), (18, 1, [0]), (19, 1, [0]), (20, 0, []), (21, 0, []), (22, 0, []), (23, 0, []), (24, 1, [0]), (25, 0, []), (26, 0, [])] (by kernel_rfl) ?_
          conv => whnf
          repeat (first
            | (refine CallR.mk' _ hC ?_; conv => whnf)
            | (refine CallR.mk' _ hD ?_; conv => whnf)
            | (refine CallR.mk' _ hA ?_; conv => whnf)
            | (refine CallR.mk' _ hB ?_; conv => whnf)
            | (refine CallR.mk' _ hE ?_; conv => whnf)
            | (refine CallR.mk' _ hF ?_; conv => whnf)
            | (refine CaseB.of_true x1 ?_; conv => whnf)
            | (refine CaseB.of_true x2 ?_; conv => whnf)
            | (refine CaseB.of_true hb ?_; conv => whnf)
            | (refine CaseB.of_true x3 ?_; conv => whnf))
          exact RetK.empty (okF.wv trivial)
        · refine CaseB.of_false hc ?_
          conv => whnf
          refine DrawK.mk1 tok mixed [0, 0, 3, 7, 15, 15, 63, 127, 255, 511, 1023, 1023, 4095, 1023, 1023, 32767, 65535, 131071, 131071, 524287, 1048575, 2097151, 4194303, 8388607, 16777215, 33554431, 67108863] [(0, 0, []), (1, 0, []), (2, 1, [0]), (3, 0, []), (4, 0, []), (5, 0, []), (6, 1, [0]), (7, 0, []), (8, 0, []), (9, 0, []), (10, 0, []), (13, 0, []), (11, 1, [0]), (12, 1, [0]), (14, 1, [0]), (15, 1, [0]), (16, 0, []), (17, 1, [0]), (18, 1, [0]), (19, 1, [0]), (20, 0, []), (21, 0, []), (22, 0, []), (23, 0, []), (24, 1, [0]), (25, 0, []), (26, 0, [])] (by kernel_rfl) ?_
          conv => whnf
          repeat (first
            | (refine CallR.mk' _ hC ?_; conv => whnf)
            | (refine CallR.mk' _ hD ?_; conv => whnf)
            | (refine CallR.mk' _ hA ?_; conv => whnf)
            | (refine CallR.mk' _ hB ?_; conv => whnf)
            | (refine CallR.mk' _ hE ?_; conv => whnf)
            | (refine CallR.mk' _ hF ?_; conv => whnf)
            | (refine CaseB.of_true x1 ?_; conv => whnf)
            | (refine CaseB.of_true x2 ?_; conv => whnf)
            | (refine CaseB.of_true hb ?_; conv => whnf)
            | (refine CaseB.of_true x3 ?_; conv => whnf))
          exact RetK.empty (okF.wv trivial)
/-- baileylaw06.CaveatWeaker, of no caveats -/
theorem c6n (k n : Int) (s : List UInt8) (d : DeedS) : SCalls Proofs.Try.prog 6 [.s (.lf .sl0), vC k n s, vD d] [] (.s (.lf .tt)) [] := by
  obtain ⟨cs, hcs⟩ : ∃ cs : List CV, cs = [] := ⟨_, rfl⟩
  have hl : cs.length ≤ maxLen := by rw [hcs]; simp
  have h30 := (c30L cs hl).lend (cs := [.s (.lf .sl0)]) (fun _ => True) [some ⟨23, [.one (.int .i64 k), .one (.int .i64 n), .one (.str s)]⟩, some (obD d)] ⟨WV.lf (by rw [hcs]; exact fun _ _ _ _ _ hx => rep_sl0_ro hx), trivial⟩ (plainF.wv trivial)
  have h25 := c25.free [some ⟨23, [.one (.int .i64 k), .one (.int .i64 n), .one (.str s)]⟩, some (obD d)] trivial trivial
  refine SCalls.intro tok Proofs.Try.func6 ?_
  conv => whnf
  refine CallK.mk' _ _ h30 ?_
  conv => whnf
  cases fa : fewL cs with
  | false =>
    refine CaseB.of_true rfl ?_
    conv => whnf
    refine CallK.mk' _ _ h25 ?_
    conv => whnf
    exact RetK.empty (okF.wv trivial)
  | true =>
    have hfew : cs.length ≤ 30 := by unfold fewL at fa; simp at fa; omega
    refine CaseB.of_false rfl ?_
    conv => whnf
    by_cases h2 : 200 < (s.length : Int)
    · refine CaseB.of_true (decide_eq_true h2) ?_
      conv => whnf
      refine CallK.mk' _ _ h25 ?_
      conv => whnf
      exact RetK.empty (okF.wv trivial)
    refine CaseB.of_false (decide_eq_false h2) ?_
    conv => whnf
    obtain ⟨M, hM⟩ : ∃ M : List CV, M = cs ++ [⟨k, n, s⟩] := ⟨_, rfl⟩
    have hMl : M.length = cs.length + 1 := by rw [hM]; simp
    have hm : maxLen = 9223372036854775807 := rfl
    have hrow : ∀ i j, i < 1 → j < 3 → (fun i j => cellD ([] ++ ([Seg.one (LV.int IntKind.i64 k), Seg.one (LV.int IntKind.i64 n), Seg.one (LV.str s)] ++ [])) (i * 3 + j)) i j = rowC M i j := by
      intro i j hi hj
      obtain rfl : i = 0 := by omega
      rw [hM, hcs]
      have : j = 0 ∨ j = 1 ∨ j = 2 := by omega
      rcases this with rfl | rfl | rfl <;> rfl
    have hA := (c37 M (by omega) d).lend (cs := [.s (.lf (.own 2 0 3 0 1)), vD d]) (fun _ => False) [some ⟨23, [.one (.int .i64 k), .one (.int .i64 n), .one (.str s)]⟩, some (obD d), some ⟨23, [.recs 3 1 ((fun i j => cellD ([] ++ ([Seg.one (LV.int IntKind.i64 k), Seg.one (LV.int IntKind.i64 n), Seg.one (LV.str s)] ++ [])) (i * 3 + j)))]⟩] ⟨WV.lf (WL.lentC rfl rfl (by rw [hMl, hcs]; rfl) hrow ⟨fun h => h, fun i ob h => by simp at h⟩), freeF.wv ⟨trivial, trivial, trivial, trivial, trivial, trivial, trivial⟩, trivial⟩ (plainF.wv trivial)
    have hB := (c37 cs hl d).lend (cs := [.s (.lf .sl0), vD d]) (fun _ => False) [some ⟨23, [.one (.int .i64 k), .one (.int .i64 n), .one (.str s)]⟩, some (obD d), some ⟨23, [.recs 3 1 ((fun i j => cellD ([] ++ ([Seg.one (LV.int IntKind.i64 k), Seg.one (LV.int IntKind.i64 n), Seg.one (LV.str s)] ++ [])) (i * 3 + j)))]⟩] ⟨WV.lf (by rw [hcs]; exact fun _ _ _ _ _ hx => rep_sl0_ro hx), freeF.wv ⟨trivial, trivial, trivial, trivial, trivial, trivial, trivial⟩, trivial⟩ (plainF.wv trivial)
    have hC := (c33 M cs (by omega)).lend (cs := [.s (.lf (.own 2 0 3 0 1)), .s (.lf .sl0)]) (fun _ => False) [some ⟨23, [.one (.int .i64 k), .one (.int .i64 n), .one (.str s)]⟩, some (obD d), some ⟨23, [.recs 3 1 ((fun i j => cellD ([] ++ ([Seg.one (LV.int IntKind.i64 k), Seg.one (LV.int IntKind.i64 n), Seg.one (LV.str s)] ++ [])) (i * 3 + j)))]⟩] ⟨WV.lf (WL.lentC rfl rfl (by rw [hMl, hcs]; rfl) hrow ⟨fun h => h, fun i ob h => by simp at h⟩), WV.lf (by rw [hcs]; exact fun _ _ _ _ _ hx => rep_sl0_ro hx), trivial⟩ (plainF.wv trivial)
    have hD := (c33 cs M hl).lend (cs := [.s (.lf .sl0), .s (.lf (.own 2 0 3 0 1))]) (fun _ => False) [some ⟨23, [.one (.int .i64 k), .one (.int .i64 n), .one (.str s)]⟩, some (obD d), some ⟨23, [.recs 3 1 ((fun i j => cellD ([] ++ ([Seg.one (LV.int IntKind.i64 k), Seg.one (LV.int IntKind.i64 n), Seg.one (LV.str s)] ++ [])) (i * 3 + j)))]⟩] ⟨WV.lf (by rw [hcs]; exact fun _ _ _ _ _ hx => rep_sl0_ro hx), WV.lf (WL.lentC rfl rfl (by rw [hMl, hcs]; rfl) hrow ⟨fun h => h, fun i ob h => by simp at h⟩), trivial⟩ (plainF.wv trivial)
    have hE := (c35 k n s d).free [some ⟨23, [.one (.int .i64 k), .one (.int .i64 n), .one (.str s)]⟩, some (obD d), some ⟨23, [.recs 3 1 ((fun i j => cellD ([] ++ ([Seg.one (LV.int IntKind.i64 k), Seg.one (LV.int IntKind.i64 n), Seg.one (LV.str s)] ++ [])) (i * 3 + j)))]⟩] ⟨⟨trivial, trivial, trivial, trivial⟩, ⟨trivial, trivial, trivial, trivial, trivial, trivial, trivial⟩, trivial⟩ trivial
    have hF := c25.free [some ⟨23, [.one (.int .i64 k), .one (.int .i64 n), .one (.str s)]⟩, some (obD d), some ⟨23, [.recs 3 1 ((fun i j => cellD ([] ++ ([Seg.one (LV.int IntKind.i64 k), Seg.one (LV.int IntKind.i64 n), Seg.one (LV.str s)] ++ [])) (i * 3 + j)))]⟩] trivial trivial
    have x1 : extF M cs = true := by unfold extF; rw [hM]; simp
    have x2 : (!extF cs M) = true := by unfold extF; rw [decide_eq_false (by rw [hMl]; omega)]; rfl
    have hall : (M.all fun c => holdsC c d) = ((cs.all fun c => holdsC c d) && holdsF k n s d) := by rw [hM, List.all_append]; simp [holdsC]
    refine DrawK.mkL tok mixed [0, 1, 0, 4, 15, 31] [1, 3, 4] [
      ([0, 1, 0, 7, 15, 31], [(0, 0, []), (1, 2, []), (2, 1, [0, 1]), (3, 2, []), (4, 2, []), (5, 0, [])]),
      ([0, 13, 0, 4, 15, 31], [(0, 0, []), (2, 1, [0]), (3, 2, []), (1, 2, []), (4, 2, []), (5, 0, [])])] (by kernel_rfl) ⟨?_, ?_, trivial⟩
    · conv => whnf
      refine CallK.mk' _ _ (c39n.free _ ⟨trivial, trivial⟩ trivial) ?_
      conv => whnf
      refine And.intro rfl ?_
      conv => whnf
      refine Or.inr ?_
      conv => whnf
      refine And.intro (by show (0 + 1) * 32 ≤ _; omega) ?_
      conv => whnf
      refine CallK.mk' _ _ hA ?_
      conv => whnf
      cases hb : (cs.all fun c => holdsC c d) with
      | false =>
        have x0 : (M.all fun c => holdsC c d) = false := by rw [hall, hb]; rfl
        have x3 : ((M.all fun c => holdsC c d) == false) = true := by rw [x0]; rfl
        refine CaseB.of_false x0 ?_
        conv => whnf
        refine DrawK.mk1 tok mixed [0, 0, 3, 7, 15, 15, 63, 127, 255, 511, 1023, 1023, 4095, 1023, 1023, 32767, 65535, 131071, 131071, 524287, 1048575, 2097151, 4194303, 8388607, 16777215, 33554431, 67108863] [(0, 0, []), (1, 0, []), (2, 1, [0]), (3, 0, []), (4, 0, []), (5, 0, []), (6, 1, [0]), (7, 0, []), (8, 0, []), (9, 0, []), (10, 0, []), (13, 0, []), (11, 1, [0]), (12, 1, [0]), (14, 1, [0]), (15, 1, [0]), (16, 0, []), (17, 1, [0]), (18, 1, [0]), (19, 1, [0]), (20, 0, []), (21, 0, []), (22, 0, []), (23, 0, []), (24, 1, [0]), (25, 0, []), (26, 0, [])] (by kernel_rfl) ?_
        conv => whnf
        repeat (first
          | (refine CallR.mk' _ hC ?_; conv => whnf)
          | (refine CallR.mk' _ hD ?_; conv => whnf)
          | (refine CallR.mk' _ hA ?_; conv => whnf)
          | (refine CallR.mk' _ hB ?_; conv => whnf)
          | (refine CallR.mk' _ hE ?_; conv => whnf)
          | (refine CallR.mk' _ hF ?_; conv => whnf)
          | (refine CaseB.of_true x1 ?_; conv => whnf)
          | (refine CaseB.of_true x2 ?_; conv => whnf)
          | (refine CaseB.of_false hb ?_; conv => whnf)
          | (refine CaseB.of_true x3 ?_; conv => whnf))
        exact RetK.empty (okF.wv trivial)
      | true =>
        have x3 : ((M.all fun c => holdsC c d) == holdsF k n s d) = true := by rw [hall, hb]; simp
        rcases Bool.eq_false_or_eq_true (M.all fun c => holdsC c d) with hc | hc
        · refine CaseB.of_true hc ?_
          conv => whnf
          refine CallK.mk' _ _ hB ?_
          conv => whnf
          refine CaseB.of_false (by rw [hb]; rfl) ?_
          conv => whnf
          refine DrawK.mk1 tok mixed [0, 0, 3, 7, 15, 15, 63, 127, 255, 511, 1023, 1023, 4095, 1023, 1023, 32767, 65535, 131071, 131071, 524287, 1048575, 2097151, 4194303, 8388607, 16777215, 33554431, 67108863] [(0, 0, []), (1, 0, []), (2, 1, [0]), (3, 0, []), (4, 0, []), (5, 0, []), (6, 1, [0]), (7, 0, []), (8, 0, []), (9, 0, []), (10, 0, []), (13, 0, []), (11, 1, [0]), (12, 1, [0]), (14, 1, [0]), (15, 1, [0]), (16, 0, []), (17, 1, [0]), (18, 1, [0]), (19, 1, [0]), (20, 0, []), (21, 0, []), (22, 0, []), (23, 0, []), (24, 1, [0]), (25, 0, []), (26, 0, [])] (by kernel_rfl) ?_
          conv => whnf
          repeat (first
            | (refine CallR.mk' _ hC ?_; conv => whnf)
            | (refine CallR.mk' _ hD ?_; conv => whnf)
            | (refine CallR.mk' _ hA ?_; conv => whnf)
            | (refine CallR.mk' _ hB ?_; conv => whnf)
            | (refine CallR.mk' _ hE ?_; conv => whnf)
            | (refine CallR.mk' _ hF ?_; conv => whnf)
            | (refine CaseB.of_true x1 ?_; conv => whnf)
            | (refine CaseB.of_true x2 ?_; conv => whnf)
            | (refine CaseB.of_true hb ?_; conv => whnf)
            | (refine CaseB.of_true x3 ?_; conv => whnf))
          exact RetK.empty (okF.wv trivial)
        · refine CaseB.of_false hc ?_
          conv => whnf
          refine DrawK.mk1 tok mixed [0, 0, 3, 7, 15, 15, 63, 127, 255, 511, 1023, 1023, 4095, 1023, 1023, 32767, 65535, 131071, 131071, 524287, 1048575, 2097151, 4194303, 8388607, 16777215, 33554431, 67108863] [(0, 0, []), (1, 0, []), (2, 1, [0]), (3, 0, []), (4, 0, []), (5, 0, []), (6, 1, [0]), (7, 0, []), (8, 0, []), (9, 0, []), (10, 0, []), (13, 0, []), (11, 1, [0]), (12, 1, [0]), (14, 1, [0]), (15, 1, [0]), (16, 0, []), (17, 1, [0]), (18, 1, [0]), (19, 1, [0]), (20, 0, []), (21, 0, []), (22, 0, []), (23, 0, []), (24, 1, [0]), (25, 0, []), (26, 0, [])] (by kernel_rfl) ?_
          conv => whnf
          repeat (first
            | (refine CallR.mk' _ hC ?_; conv => whnf)
            | (refine CallR.mk' _ hD ?_; conv => whnf)
            | (refine CallR.mk' _ hA ?_; conv => whnf)
            | (refine CallR.mk' _ hB ?_; conv => whnf)
            | (refine CallR.mk' _ hE ?_; conv => whnf)
            | (refine CallR.mk' _ hF ?_; conv => whnf)
            | (refine CaseB.of_true x1 ?_; conv => whnf)
            | (refine CaseB.of_true x2 ?_; conv => whnf)
            | (refine CaseB.of_true hb ?_; conv => whnf)
            | (refine CaseB.of_true x3 ?_; conv => whnf))
          exact RetK.empty (okF.wv trivial)
    · conv => whnf
      refine Or.inr ?_
      conv => whnf
      refine CallK.mk' _ _ (c39n.free _ ⟨trivial, trivial⟩ trivial) ?_
      conv => whnf
      refine And.intro (by show (0 + 1) * 32 ≤ _; omega) ?_
      conv => whnf
      refine CallK.mk' _ _ hA ?_
      conv => whnf
      cases hb : (cs.all fun c => holdsC c d) with
      | false =>
        have x0 : (M.all fun c => holdsC c d) = false := by rw [hall, hb]; rfl
        have x3 : ((M.all fun c => holdsC c d) == false) = true := by rw [x0]; rfl
        refine CaseB.of_false x0 ?_
        conv => whnf
        refine DrawK.mk1 tok mixed [0, 0, 3, 7, 15, 15, 63, 127, 255, 511, 1023, 1023, 4095, 1023, 1023, 32767, 65535, 131071, 131071, 524287, 1048575, 2097151, 4194303, 8388607, 16777215, 33554431, 67108863] [(0, 0, []), (1, 0, []), (2, 1, [0]), (3, 0, []), (4, 0, []), (5, 0, []), (6, 1, [0]), (7, 0, []), (8, 0, []), (9, 0, []), (10, 0, []), (13, 0, []), (11, 1, [0]), (12, 1, [0]), (14, 1, [0]), (15, 1, [0]), (16, 0, []), (17, 1, [0]), (18, 1, [0]), (19, 1, [0]), (20, 0, []), (21, 0, []), (22, 0, []), (23, 0, []), (24, 1, [0]), (25, 0, []), (26, 0, [])] (by kernel_rfl) ?_
        conv => whnf
        repeat (first
          | (refine CallR.mk' _ hC ?_; conv => whnf)
          | (refine CallR.mk' _ hD ?_; conv => whnf)
          | (refine CallR.mk' _ hA ?_; conv => whnf)
          | (refine CallR.mk' _ hB ?_; conv => whnf)
          | (refine CallR.mk' _ hE ?_; conv => whnf)
          | (refine CallR.mk' _ hF ?_; conv => whnf)
          | (refine CaseB.of_true x1 ?_; conv => whnf)
          | (refine CaseB.of_true x2 ?_; conv => whnf)
          | (refine CaseB.of_false hb ?_; conv => whnf)
          | (refine CaseB.of_true x3 ?_; conv => whnf))
        exact RetK.empty (okF.wv trivial)
      | true =>
        have x3 : ((M.all fun c => holdsC c d) == holdsF k n s d) = true := by rw [hall, hb]; simp
        rcases Bool.eq_false_or_eq_true (M.all fun c => holdsC c d) with hc | hc
        · refine CaseB.of_true hc ?_
          conv => whnf
          refine CallK.mk' _ _ hB ?_
          conv => whnf
          refine CaseB.of_false (by rw [hb]; rfl) ?_
          conv => whnf
          refine DrawK.mk1 tok mixed [0, 0, 3, 7, 15, 15, 63, 127, 255, 511, 1023, 1023, 4095, 1023, 1023, 32767, 65535, 131071, 131071, 524287, 1048575, 2097151, 4194303, 8388607, 16777215, 33554431, 67108863] [(0, 0, []), (1, 0, []), (2, 1, [0]), (3, 0, []), (4, 0, []), (5, 0, []), (6, 1, [0]), (7, 0, []), (8, 0, []), (9, 0, []), (10, 0, []), (13, 0, []), (11, 1, [0]), (12, 1, [0]), (14, 1, [0]), (15, 1, [0]), (16, 0, []), (17, 1, [0]), (18, 1, [0]), (19, 1, [0]), (20, 0, []), (21, 0, []), (22, 0, []), (23, 0, []), (24, 1, [0]), (25, 0, []), (26, 0, [])] (by kernel_rfl) ?_
          conv => whnf
          repeat (first
            | (refine CallR.mk' _ hC ?_; conv => whnf)
            | (refine CallR.mk' _ hD ?_; conv => whnf)
            | (refine CallR.mk' _ hA ?_; conv => whnf)
            | (refine CallR.mk' _ hB ?_; conv => whnf)
            | (refine CallR.mk' _ hE ?_; conv => whnf)
            | (refine CallR.mk' _ hF ?_; conv => whnf)
            | (refine CaseB.of_true x1 ?_; conv => whnf)
            | (refine CaseB.of_true x2 ?_; conv => whnf)
            | (refine CaseB.of_true hb ?_; conv => whnf)
            | (refine CaseB.of_true x3 ?_; conv => whnf))
          exact RetK.empty (okF.wv trivial)
        · refine CaseB.of_false hc ?_
          conv => whnf
          refine DrawK.mk1 tok mixed [0, 0, 3, 7, 15, 15, 63, 127, 255, 511, 1023, 1023, 4095, 1023, 1023, 32767, 65535, 131071, 131071, 524287, 1048575, 2097151, 4194303, 8388607, 16777215, 33554431, 67108863] [(0, 0, []), (1, 0, []), (2, 1, [0]), (3, 0, []), (4, 0, []), (5, 0, []), (6, 1, [0]), (7, 0, []), (8, 0, []), (9, 0, []), (10, 0, []), (13, 0, []), (11, 1, [0]), (12, 1, [0]), (14, 1, [0]), (15, 1, [0]), (16, 0, []), (17, 1, [0]), (18, 1, [0]), (19, 1, [0]), (20, 0, []), (21, 0, []), (22, 0, []), (23, 0, []), (24, 1, [0]), (25, 0, []), (26, 0, [])] (by kernel_rfl) ?_
          conv => whnf
          repeat (first
            | (refine CallR.mk' _ hC ?_; conv => whnf)
            | (refine CallR.mk' _ hD ?_; conv => whnf)
            | (refine CallR.mk' _ hA ?_; conv => whnf)
            | (refine CallR.mk' _ hB ?_; conv => whnf)
            | (refine CallR.mk' _ hE ?_; conv => whnf)
            | (refine CallR.mk' _ hF ?_; conv => whnf)
            | (refine CaseB.of_true x1 ?_; conv => whnf)
            | (refine CaseB.of_true x2 ?_; conv => whnf)
            | (refine CaseB.of_true hb ?_; conv => whnf)
            | (refine CaseB.of_true x3 ?_; conv => whnf))
          exact RetK.empty (okF.wv trivial)
theorem rd_cvs_t {w : World} {v : Value} {len : Nat} {f : Nat → Nat → LV} (h : ∀ i, i < len → RdL Γ 5 23 (f i) 0) (hl : len ≤ maxLen) (hr : repF w L0 (.s (.lf (.ro true false 3 len f))) v) : ∃ cs : List CV, cs.length ≤ maxLen ∧ repF w L0 (vRt cs) v := by
  obtain ⟨k, n, s, R⟩ := rd_row h
  refine ⟨(List.range len).map fun i => ⟨k i, n i, s i⟩, by simpa using hl, ?_⟩
  have hlen : ((List.range len).map fun i => (⟨k i, n i, s i⟩ : CV)).length = len := by simp
  have hg : ∀ i, i < len → ((List.range len).map fun i => (⟨k i, n i, s i⟩ : CV)).getD i cv0 = ⟨k i, n i, s i⟩ := fun i hi => by simp [List.getD, hi]
  show roRep _ _ _ _ _ _ _ _
  rw [hlen]
  rcases hr with ⟨hr, _⟩ | ⟨a, cap, h0, h1, h2, h3, h4, h5⟩
  · simp at hr
  · refine .inr ⟨a, cap, h0, h1, h2, h3, h4, fun i hi j hj => ?_⟩
    obtain ⟨c, e1, e2, e3⟩ := h5 i hi j hj
    refine ⟨c, e1, e2, ?_⟩
    have : j = 0 ∨ j = 1 ∨ j = 2 := by omega
    rcases this with rfl | rfl | rfl
    · rw [R.c0 i hi] at e3; show rep _ _ (.int .i64 _) _; rw [hg i hi]; exact e3
    · rw [R.c1 i hi] at e3; show rep _ _ (.int .i64 _) _; rw [hg i hi]; exact e3
    · rw [R.c2 i hi] at e3; show rep _ _ (.str _) _; rw [hg i hi]; exact e3

end Go.Sym.Md

set_option linter.unusedVariables false
set_option linter.unusedSimpArgs false
set_option maxRecDepth 10000
namespace Go.Sym.Md
open Go Go.Sym

/-! ### Pieces -/
structure PcV where
  s : List UInt8
  z : Int
  deriving DecidableEq
def pc0 : PcV := ⟨[], 0⟩
def rowP (ps : List PcV) (i j : Nat) : LV :=
  match j with
  | 0 => .str (ps.getD i pc0).s
  | _ => .int .i64 (ps.getD i pc0).z
abbrev vQ (ps : List PcV) : FV := .s (.lf (.ro false false 2 ps.length (rowP ps)))
abbrev vQl (ps : List PcV) : LV := .ro false false 2 ps.length (rowP ps)
theorem rowP_ok {ps : List PcV} {H : Hp} : okF H (vQ ps) := by
  intro i hi j hj
  have : j = 0 ∨ j = 1 := by omega
  rcases this with rfl | rfl <;> trivial
theorem rowP_free {ps : List PcV} : freeF (vQ ps) := by
  intro i hi j hj
  have : j = 0 ∨ j = 1 := by omega
  rcases this with rfl | rfl <;> trivial

abbrev vKl (cs : List CV) : LV := .ro false false 3 cs.length (rowC cs)

def okP (p : PcV) : Bool := decide ((p.s.length : Int) = 32) && decide (1 ≤ p.z ∧ p.z ≤ 256)
def sumP : List PcV → Int
  | [] => 0
  | p :: l => p.z + sumP l
def allP : List PcV → Bool
  | [] => true
  | p :: l => okP p && allP l
def okPs (ps : List PcV) : Bool := decide (ps.length ≤ 8) && allP ps
def bytesP (ps : List PcV) : Int × Int := if okPs ps then (sumP ps, 0) else (0, 1)

theorem sumP_app (l m : List PcV) : sumP (l ++ m) = sumP l + sumP m := by
  induction l with
  | nil => simp [sumP]
  | cons p l ih => simp [sumP, ih]; omega
theorem allP_app (l m : List PcV) : allP (l ++ m) = (allP l && allP m) := by
  induction l with
  | nil => simp [allP]
  | cons p l ih => simp [allP, ih, Bool.and_assoc]
theorem sumP_range : ∀ {l : List PcV}, allP l = true → 0 ≤ sumP l ∧ sumP l ≤ 256 * l.length
  | [], _ => by simp [sumP]
  | p :: l, h => by
    simp only [allP, okP, Bool.and_eq_true, decide_eq_true_eq] at h
    have := sumP_range h.2
    simp only [sumP, List.length_cons]
    omega
theorem take_pc {l : List PcV} {i : Nat} (h : i < l.length) : l.take (i + 1) = l.take i ++ [l.getD i pc0] := by
  rw [List.take_add_one, List.getD_eq_getElem?_getD, List.getElem?_eq_getElem h]; rfl
theorem allP_bad {l : List PcV} {i : Nat} (h : i < l.length) (hb : okP (l.getD i pc0) = false) : allP l = false := by
  have e : l = l.take (i + 1) ++ l.drop (i + 1) := (List.take_append_drop _ _).symm
  rw [e, allP_app, take_pc h, allP_app]
  have e2 : allP [l.getD i pc0] = false := by unfold allP; rw [hb]; rfl
  rw [e2, Bool.and_false, Bool.false_and]
end Go.Sym.Md

set_option linter.unusedVariables false
set_option linter.unusedSimpArgs false
set_option maxRecDepth 10000
namespace Go.Sym.Md
open Go Go.Sym

/-- What must throws. -/
abbrev wrV : Value := .iface 220 (.agg #[.int .i64 1])
abbrev wrCh : Ch := [{ v := wrV, recovered := false }]

theorem wr_rep (w : World) (L : NM) : rep w L (.ifc 220 (.aggl 1 fun _ => .int .i64 1)) wrV := by
  refine ⟨_, rfl, #[.int .i64 1], rfl, rfl, fun i hi => ?_⟩
  obtain rfl : i = 0 := by omega
  exact ⟨_, rfl, rfl, rfl, by decide, by decide⟩
theorem wr_one (w : World) (L : NM) (x : Value) (h : rep w L (LV.aggl (tot [Seg.one (LV.int IntKind.i64 1)]) (cellD [Seg.one (LV.int IntKind.i64 1)])) x) : x = .agg #[.int .i64 1] := by
  obtain ⟨arr, rfl, h1, h2⟩ := h
  have h1 : arr.size = 1 := h1
  obtain ⟨y, g1, _, g2⟩ := h2 0 (by decide)
  have g2 : y = .int .i64 1 ∧ _ := g2
  rw [g2.1] at g1
  congr 1
  apply Array.ext
  · exact h1
  · intro i a b
    obtain rfl : i = 0 := by omega
    rw [Array.getElem?_eq_getElem a] at g1
    simpa using g1

/-- command.must -/
theorem c174t (b : Bool) (h : b = true) : SCalls Proofs.Try.prog 174 [.s (.lf (.bool b))] [] (.tup []) [] := by
  refine SCalls.intro tok Proofs.Try.func174 ?_
  conv => whnf
  refine CaseB.of_false (by rw [h]; rfl) ?_
  conv => whnf
  exact RetK.empty (okF.wv trivial)
theorem c174f (b : Bool) (h : b = false) (H : Hp) : PCalls Proofs.Try.prog 174 [.s (.lf (.bool b))] H wrCh := by
  refine PCalls.intro tok Proofs.Try.func174 ?_
  conv => whnf
  refine CaseB.of_true (by rw [h]; rfl) ?_
  conv => whnf
  exact ⟨⟨_, wr_one, rfl, rfl⟩⟩

theorem c174ff (H : Hp) : PCalls Proofs.Try.prog 174 [.s (.lf .ff)] H wrCh := by
  refine PCalls.intro tok Proofs.Try.func174 ?_
  conv => whnf
  exact ⟨⟨_, wr_one, rfl, rfl⟩⟩

abbrev eO (e : Int) : OB := ⟨25, [.one (.int .i64 e)]⟩
/-- command.caught, of nothing -/
theorem c173n (ob : OB) (e : Int) : SCallsM Proofs.Try.prog 173 [.s (.lf (.ptr 1 0))] [some ob, some (eO e)] .returning [some ob, some (eO e)] := by
  refine SCallsM.intro tok Proofs.Try.func173 ?_
  conv => whnf
  refine RecK.none ?_
  conv => whnf
  refine OpK.mk' _ _ (sem_eqnil tok rfl rfl rfl _) ?_
  conv => whnf
  exact ⟨rfl, rfl⟩
/-- command.caught, of what must throws -/
theorem c173w (ob : OB) (e : Int) : SCallsM Proofs.Try.prog 173 [.s (.lf (.ptr 1 0))] [some ob, some (eO e)] (.panicking wrCh) [some ob, some (eO 1), some ⟨220, [.one (.int .i64 1)]⟩] := by
  refine SCallsM.intro tok Proofs.Try.func173 ?_
  conv => whnf
  refine RecK.some (.ifc 220 (.aggl 1 fun _ => .int .i64 1)) wr_rep ?_
  conv => whnf
  refine OpK.mk' _ _ (sem_eqifc tok rfl rfl rfl _) ?_
  conv => whnf
  refine OpK.mk' _ _ (sem_assert tok rfl rfl rfl (.agg [.one (.int .i64 1)]) (fun w L y h => ?_) _) ?_
  · obtain ⟨arr, rfl, h1, h2⟩ := h
    refine ⟨arr, rfl, h1, fun o ho => ?_⟩
    obtain rfl : o = 0 := by have : o < 1 := ho; omega
    exact h2 0 (by decide)
  conv => whnf
  exact ⟨rfl, rfl⟩
end Go.Sym.Md

set_option linter.unusedVariables false
set_option linter.unusedSimpArgs false
set_option maxRecDepth 10000
namespace Go.Sym.Md
open Go Go.Sym

/-! ### Commands -/
structure CmS where
  cl : Int
  sq : Int
  kd : Int
  id : Int
  ep : Int
  cs : List CV
  sp : List UInt8
  nm : List UInt8
  nu : Int
  by' : Int
  tm : Int
  ps : List PcV

theorem rowP_wl {D : Rel} [ROk D] {ps : List PcV} {i j : Nat} (hj : j < 2) : WL D (rowP ps i j) (rowP ps i j) := by
  have : j = 0 ∨ j = 1 := by omega
  rcases this with rfl | rfl
  · exact WL.str rfl
  · exact WL.int rfl
/-- A command's cells, with its lists. -/
abbrev segsMu (c : CmS) (u v : LV) : List Seg := [.one (.int .i64 c.cl), .one (.int .i64 c.sq), .one (.int .i64 c.kd), .one (.int .i64 c.id), .one (.int .i64 c.ep), .one u, .one (.str c.sp), .one (.str c.nm), .one (.int .i64 c.nu), .one (.int .i64 c.by'), .one (.int .i64 c.tm), .one v]
abbrev segsM (c : CmS) : List Seg := segsMu c (vKl c.cs) (vQl c.ps)
abbrev vM (c : CmS) : FV := .s (.agg (segsM c))
abbrev obM (c : CmS) : OB := ⟨60, segsM c⟩
theorem obM_ws {D : Rel} [ROk D] (c : CmS) : WSs D (segsM c) (segsM c) := ⟨.one (WL.int rfl), .one (WL.int rfl), .one (WL.int rfl), .one (WL.int rfl), .one (WL.int rfl), .one (WL.ro rfl (by simp) (by simp) fun i hi j hj => rowC_wl hj), .one (WL.str rfl), .one (WL.str rfl), .one (WL.int rfl), .one (WL.int rfl), .one (WL.int rfl), .one (WL.ro rfl (by simp) (by simp) fun i hi j hj => rowP_wl hj), trivial⟩
theorem vM_free (c : CmS) : freeF (vM c) := ⟨trivial, trivial, trivial, trivial, trivial, rowC_free (cs := c.cs), trivial, trivial, trivial, trivial, trivial, rowP_free (ps := c.ps), trivial⟩
theorem vM_ok (c : CmS) {H : Hp} : okF H (vM c) := ⟨trivial, trivial, trivial, trivial, trivial, rowC_ok (cs := c.cs), trivial, trivial, trivial, trivial, trivial, rowP_ok (ps := c.ps), trivial⟩

def headS : List Seg := [.one (.ptr 0 0), .one (.int .i64 0), .one (.int .i64 7), .one (.ptr 0 1), .one (.int .i64 1), .one (.int .i64 2147483648), .one (.ptr 0 2), .one (.int .i64 1), .one (.int .i64 14), .one (.ptr 0 3), .one (.int .i64 1), .one (.int .i64 2147483648), .one (.ptr 0 4), .one (.int .i64 0), .one (.int .i64 2147483648)]
def tailS : List Seg := [.one (.ptr 0 8), .one (.int .i64 0), .one (.int .i64 2147483648), .one (.ptr 0 9), .one (.int .i64 0), .one (.int .i64 1099511627776), .one (.ptr 0 10), .one (.int .i64 0), .one (.int .i64 1099511627776)]
def rowF (l : List Seg) (i j : Nat) : LV := cellD l (i * 3 + j)
abbrev rowsO (l : List Seg) (n : Nat) : OB := ⟨189, [.recs 3 n (rowF l)]⟩
def rowsB (m : Nat) (l : List Seg) (n : Nat) : Bool := allB n fun i => allB 3 fun j => okLB (List.replicate m none) (rowF l i j)
theorem okLB_len {H H' : Hp} (h : H.length = H'.length) : ∀ {v : LV}, okLB H v = okLB H' v := by
  intro v
  induction v with
  | _ => first | rfl | simp_all [okLB, knownB]
theorem rows_wl {H H' : Hp} {hid : Nat → Prop} {m n i j : Nat} {l : List Seg} (hm : H'.length = m) (h : rowsB m l n = true) (hi : i < n) (hj : j < 3) : WL (Down H H' id hid) (rowF l i j) (rowF l i j) :=
  okL.wl (okLB_ok (by rw [okLB_len (H' := List.replicate m none) (by simp [hm])]; exact allB_get (allB_get h hi) hj))
theorem rows_ws {H H' : Hp} {hid : Nat → Prop} {m n : Nat} {l : List Seg} (hm : H'.length = m) (h : rowsB m l n = true) : WSs (Down H H' id hid) (rowsO l n).segs (rowsO l n).segs := ⟨.recs rfl fun i hi j hj => rows_wl hm h hi hj, trivial⟩

/-- command.head -/
theorem c169 (c : CmS) : SCalls Proofs.Try.prog 169 [.s (.lf (.ptr 0 0))] [some (obM c)] (.s (.lf (.own 1 0 3 0 5))) [some (obM c), some (rowsO headS 5)] := by
  refine SCalls.intro tok Proofs.Try.func169 ?_
  conv => whnf
  refine DrawK.mk1 tok mixed [0, 1, 3, 7, 0, 16, 48, 112, 0, 256, 768, 1792, 0, 4096, 12288, 28672, 0, 65536, 196608, 458752, 1048575, 2097151] [(0, 0, []), (4, 0, []), (8, 0, []), (12, 0, []), (16, 0, []), (1, 1, [0]), (2, 1, [0]), (3, 0, []), (5, 1, [0]), (6, 1, [0]), (7, 0, []), (9, 1, [0]), (10, 1, [0]), (11, 0, []), (13, 1, [0]), (14, 1, [0]), (15, 0, []), (17, 1, [0]), (18, 1, [0]), (19, 0, []), (20, 2, []), (21, 0, [])] (by kernel_rfl) ?_
  conv => whnf
  refine Or.inl ?_
  conv => whnf
  exact RetK.of ⟨rfl, obM_ws c, rfl, ⟨.recs rfl fun i hi j hj => rows_wl (l := headS) (n := 5) (m := 2) rfl rfl hi hj, trivial⟩, trivial⟩ (by simp) (WV.lf (WL.own rfl rfl rfl rfl))

/-- command.tail -/
theorem c171 (c : CmS) : SCalls Proofs.Try.prog 171 [.s (.lf (.ptr 0 0))] [some (obM c)] (.s (.lf (.own 1 0 3 0 3))) [some (obM c), some (rowsO tailS 3)] := by
  refine SCalls.intro tok Proofs.Try.func171 ?_
  conv => whnf
  refine DrawK.mk1 tok mixed [0, 1, 3, 7, 0, 16, 48, 112, 0, 256, 768, 1792, 4095, 8191] [(0, 0, []), (4, 0, []), (8, 0, []), (1, 1, [0]), (2, 1, [0]), (3, 0, []), (5, 1, [0]), (6, 1, [0]), (7, 0, []), (9, 1, [0]), (10, 1, [0]), (11, 0, []), (12, 2, []), (13, 0, [])] (by kernel_rfl) ?_
  conv => whnf
  refine Or.inl ?_
  conv => whnf
  exact RetK.of ⟨rfl, obM_ws c, rfl, ⟨.recs rfl fun i hi j hj => rows_wl (l := tailS) (n := 3) (m := 2) rfl rfl hi hj, trivial⟩, trivial⟩ (by simp) (WV.lf (WL.own rfl rfl rfl rfl))
end Go.Sym.Md

set_option linter.unusedVariables false
set_option linter.unusedSimpArgs false
set_option maxRecDepth 10000
namespace Go.Sym.Md
open Go Go.Sym

abbrev vPc (p : PcV) : FV := .s (.agg [.one (.str p.s), .one (.int .i64 p.z)])
abbrev obPc (p : PcV) : OB := ⟨58, [.one (.str p.s), .one (.int .i64 p.z)]⟩

/-- manifest.Piece -/
theorem c196 (p : PcV) : SCalls Proofs.Try.prog 196 [vPc p] [] (.s (.lf (.bool (okP p)))) [] := by
  refine SCalls.intro tok Proofs.Try.func196 ?_
  conv => whnf
  by_cases h : (p.s.length : Int) = 32
  · refine CaseB.of_true (decide_eq_true h) ?_
    conv => whnf
    refine CallK.mk' _ _ ((c122 p.z 1 256).free _ ⟨trivial, trivial, trivial, trivial⟩ trivial) ?_
    conv => whnf
    refine RetK.empty (WV.lf (WL.bool ?_))
    unfold okP
    rw [decide_eq_true h]; rfl
  · refine CaseB.of_false (decide_eq_false h) ?_
    conv => whnf
    refine RetK.empty (WV.lf (WL.ff ?_))
    unfold okP
    rw [decide_eq_false h]; rfl

/-- baileyref20.Piece -/
theorem c197 (p : PcV) : SCalls Proofs.Try.prog 197 [vPc p] [] (.s (.lf (.bool (okP p)))) [] := by
  refine SCalls.intro tok Proofs.Try.func197 ?_
  conv => whnf
  by_cases h : (p.s.length : Int) = 32
  · refine CaseB.of_true (decide_eq_true h) ?_
    conv => whnf
    by_cases h1 : 1 ≤ p.z
    · refine CaseB.of_true (decide_eq_true h1) ?_
      conv => whnf
      refine RetK.empty (WV.lf (WL.bool ?_))
      unfold okP
      rw [decide_eq_true h]
      by_cases h2 : p.z ≤ 256
      · rw [decide_eq_true h2, decide_eq_true ⟨h1, h2⟩]; rfl
      · rw [decide_eq_false h2, decide_eq_false (fun k => h2 k.2)]; rfl
    · refine CaseB.of_false (decide_eq_false h1) ?_
      conv => whnf
      refine RetK.empty (WV.lf (WL.ff ?_))
      unfold okP
      rw [show decide (1 ≤ p.z ∧ p.z ≤ 256) = false from decide_eq_false (fun k => h1 k.1), Bool.and_false]
  · refine CaseB.of_false (decide_eq_false h) ?_
    conv => whnf
    refine RetK.empty (WV.lf (WL.ff ?_))
    unfold okP
    rw [decide_eq_false h]; rfl

/-- Whether a text is a name, or none. -/
def textOk (s : List UInt8) : Bool := decide (s = []) || nameF s
/-- command.text -/
theorem c175 (s : List UInt8) : SCalls Proofs.Try.prog 175 [.s (.lf (.str s))] [] (.s (.lf (.bool (textOk s)))) [] := by
  refine SCalls.intro tok Proofs.Try.func175 ?_
  conv => whnf
  by_cases h : s = []
  · refine CaseB.of_true (decide_eq_true h) ?_
    conv => whnf
    refine RetK.empty (WV.lf (WL.tt ?_))
    unfold textOk
    rw [decide_eq_true h]; rfl
  · refine CaseB.of_false (decide_eq_false h) ?_
    conv => whnf
    refine CallK.mk' _ _ (c28 s) ?_
    conv => whnf
    refine RetK.empty (WV.lf (WL.bool ?_))
    unfold textOk
    rw [decide_eq_false h]; rfl
/-- baileyref23.text -/
theorem c177 (s : List UInt8) : SCalls Proofs.Try.prog 177 [.s (.lf (.str s))] [] (.s (.lf (.bool (textOk s)))) [] := by
  refine SCalls.intro tok Proofs.Try.func177 ?_
  conv => whnf
  by_cases h : s = []
  · refine CaseB.of_true (decide_eq_true h) ?_
    conv => whnf
    refine RetK.empty (WV.lf (WL.tt ?_))
    unfold textOk
    rw [decide_eq_true h]; rfl
  · refine CaseB.of_false (decide_eq_false h) ?_
    conv => whnf
    refine CallK.mk' _ _ (c29 s) ?_
    conv => whnf
    refine RetK.empty (WV.lf (WL.bool ?_))
    unfold textOk
    rw [decide_eq_false h]; rfl

/-- baileyref01.Within -/
theorem c208 (n a b : Int) : SCalls Proofs.Try.prog 208 [vI n, vI a, vI b] [] (.s (.lf (.bool (decide (a ≤ n ∧ n ≤ b))))) [] := by
  refine SCalls.intro tok Proofs.Try.func208 ?_
  conv => whnf
  by_cases h : a ≤ n
  · refine CaseB.of_true (decide_eq_true h) ?_
    conv => whnf
    exact RetK.empty (WV.lf (WL.bool (by simp [h])))
  · refine CaseB.of_false (decide_eq_false h) ?_
    conv => whnf
    exact RetK.empty (WV.lf (WL.ff (by simp [h])))
/-- baileyref23.in -/
theorem c176 (n a b : Int) : SCalls Proofs.Try.prog 176 [vI n, vI a, vI b] [] (.s (.lf (.bool (decide (a ≤ n ∧ n ≤ b))))) [] := by
  refine SCalls.intro tok Proofs.Try.func176 ?_
  conv => whnf
  refine CallK.mk' _ _ (c208 n a b) ?_
  conv => whnf
  exact RetK.empty (okF.wv trivial)

theorem bytesP_long {ps : List PcV} (h : 8 < ps.length) : bytesP ps = (0, 1) := by unfold bytesP okPs; rw [decide_eq_false (by omega)]; rfl
theorem bytesP_bad {ps : List PcV} {i : Nat} (h : i < ps.length) (hb : okP (ps.getD i pc0) = false) : bytesP ps = (0, 1) := by unfold bytesP okPs; rw [allP_bad h hb, Bool.and_false]; rfl
theorem bytesP_ok {ps : List PcV} (h : ps.length ≤ 8) (ha : allP ps = true) : bytesP ps = (sumP ps, 0) := by unfold bytesP okPs; rw [ha, decide_eq_true h]; rfl
theorem take_step {ps : List PcV} {i : Nat} (h : i < ps.length) (ha : allP (ps.take i) = true) (ho : okP (ps.getD i pc0) = true) : allP (ps.take (i + 1)) = true ∧ sumP (ps.take (i + 1)) = sumP (ps.take i) + (ps.getD i pc0).z := by
  rw [take_pc h, allP_app, sumP_app, ha]
  simp only [allP, sumP, ho]
  exact ⟨rfl, by omega⟩
theorem okP_z {p : PcV} (h : okP p = true) : 1 ≤ p.z ∧ p.z ≤ 256 := by
  simp only [okP, Bool.and_eq_true, decide_eq_true_eq] at h
  exact h.2

/-- manifest.Bytes -/
theorem c151 (ps : List PcV) : SCalls Proofs.Try.prog 151 [vQ ps] [] (.tup [.lf (.int .i64 (bytesP ps).1), .lf (.int .i64 (bytesP ps).2)]) [] := by
  refine SCalls.intro tok Proofs.Try.func151 ?_
  conv => whnf
  by_cases h8 : 8 < (ps.length : Int)
  · refine CaseB.of_true (decide_eq_true h8) ?_
    conv => whnf
    rw [bytesP_long (by omega)]
    exact RetK.empty (okF.wv ⟨trivial, trivial, trivial⟩)
  refine CaseB.of_false (decide_eq_false h8) ?_
  conv => whnf
  refine LoopK.mk1 (fun i : Nat => [(12, vI i), (11, vI ps.length), (10, vQ ps), (4, vI (sumP (ps.take i))), (3, vI 0), (2, vI 0)]) (fun i => []) (fun i => i ≤ ps.length ∧ allP (ps.take i) = true) (fun i => ps.length - i) 0 ⟨by omega, rfl⟩ ?_ ?_
  · exact Weak.of ⟨⟩ (by simp) ⟨okF.wv trivial, okF.wv trivial, okF.wv rowP_ok, WV.lf (WL.int rfl), okF.wv trivial, okF.wv trivial, trivial⟩
  rintro i ⟨hi, ha⟩
  conv => whnf
  have hs := sumP_range ha
  have hs2 : ((ps.take i).length : Int) ≤ 8 := by rw [List.length_take]; omega
  by_cases hi' : i < ps.length
  · refine CaseB.of_true (decide_eq_true (by omega)) ?_
    conv => whnf
    refine And.intro (by omega) ?_
    conv => whnf
    refine CallK.mk' _ _ ((c196 (ps.getD i pc0)).free _ ⟨⟨trivial, trivial, trivial⟩, trivial⟩ trivial) ?_
    conv => whnf
    cases ho : okP (ps.getD i pc0) with
    | false =>
      refine CaseB.of_true rfl ?_
      conv => whnf
      rw [bytesP_bad hi' ho]
      exact RetK.empty (okF.wv ⟨trivial, trivial, trivial⟩)
    | true =>
      refine CaseB.of_false rfl ?_
      conv => whnf
      obtain ⟨g1, g2⟩ := take_step hi' ha ho
      have hz := okP_z ho
      refine ⟨i + 1, ⟨by omega, g1⟩, by show ps.length - (i + 1) < ps.length - i; omega, Weak.of ⟨⟩ (by simp) ⟨WV.lf (WL.int (by rw [wrap_i64 (by omega) (by omega)]; omega)), okF.wv trivial, okF.wv rowP_ok, WV.lf (WL.int (by rw [Int.toNat_natCast, wrap_i64 (by omega) (by omega), g2])), okF.wv trivial, okF.wv trivial, trivial⟩⟩
  · refine CaseB.of_false (decide_eq_false (by omega)) ?_
    conv => whnf
    rw [List.take_of_length_le (by omega)] at ha ⊢
    rw [bytesP_ok (by omega) ha]
    exact RetK.empty (okF.wv ⟨trivial, trivial, trivial⟩)

/-- baileyref20.Bytes -/
theorem c152 (ps : List PcV) (hl : ps.length ≤ maxLen) : SCalls Proofs.Try.prog 152 [vQ ps] [] (.tup [.lf (.int .i64 (bytesP ps).1), .lf (.int .i64 (bytesP ps).2)]) [] := by
  have hm : maxLen = 9223372036854775807 := rfl
  refine SCalls.intro tok Proofs.Try.func152 ?_
  conv => whnf
  refine LoopK.mk1 (fun i : Nat => [(5, vI i), (4, vI (sumP (ps.take i))), (3, vI 0), (2, vI 0), (0, vQ ps)]) (fun i => []) (fun i => i ≤ ps.length ∧ i ≤ 8 ∧ allP (ps.take i) = true) (fun i => ps.length - i) 0 ⟨by omega, by omega, rfl⟩ ?_ ?_
  · exact Weak.of ⟨⟩ (by simp) ⟨okF.wv trivial, WV.lf (WL.int rfl), okF.wv trivial, okF.wv trivial, okF.wv rowP_ok, trivial⟩
  rintro i ⟨hi, hi8, ha⟩
  conv => whnf
  have hs := sumP_range ha
  have hs2 : ((ps.take i).length : Int) ≤ 8 := by rw [List.length_take]; omega
  by_cases hi' : i < ps.length
  · refine CaseB.of_true (decide_eq_true (by omega)) ?_
    conv => whnf
    by_cases h8 : 8 ≤ (i : Int)
    · refine CaseB.of_true (decide_eq_true h8) ?_
      conv => whnf
      rw [bytesP_long (by omega)]
      exact RetK.empty (okF.wv ⟨trivial, trivial, trivial⟩)
    refine CaseB.of_false (decide_eq_false h8) ?_
    conv => whnf
    refine And.intro (by omega) ?_
    conv => whnf
    refine CallK.mk' _ _ (c197 (ps.getD i pc0)) ?_
    conv => whnf
    cases ho : okP (ps.getD i pc0) with
    | false =>
      refine CaseB.of_true rfl ?_
      conv => whnf
      rw [bytesP_bad hi' ho]
      exact RetK.empty (okF.wv ⟨trivial, trivial, trivial⟩)
    | true =>
      refine CaseB.of_false rfl ?_
      conv => whnf
      refine And.intro (by omega) ?_
      conv => whnf
      obtain ⟨g1, g2⟩ := take_step hi' ha ho
      have hz := okP_z ho
      refine ⟨i + 1, ⟨by omega, by omega, g1⟩, by show ps.length - (i + 1) < ps.length - i; omega, Weak.of ⟨⟩ (by simp) ⟨WV.lf (WL.int (by rw [wrap_i64 (by omega) (by omega)]; omega)), WV.lf (WL.int ?_), okF.wv trivial, okF.wv trivial, okF.wv rowP_ok, trivial⟩⟩
      rw [Int.toNat_natCast, wrap_i64 (by omega) (by omega), g2]
  · refine CaseB.of_false (decide_eq_false (by omega)) ?_
    conv => whnf
    rw [List.take_of_length_le (by omega)] at ha ⊢
    rw [bytesP_ok (by omega) ha]
    exact RetK.empty (okF.wv ⟨trivial, trivial, trivial⟩)
end Go.Sym.Md

set_option linter.unusedVariables false
set_option linter.unusedSimpArgs false
set_option maxRecDepth 10000
namespace Go.Sym.Md
open Go Go.Sym

/-! ### Whether a command may be -/
def rv (c : CmS) (k : Nat) : Int :=
  match k with
  | 0 => c.cl
  | 1 => c.sq
  | 2 => c.kd
  | 3 => c.id
  | 4 => c.ep
  | 5 => c.nu
  | 6 => c.by'
  | _ => c.tm
def rlow (k : Nat) : Int :=
  match k with
  | 0 => 0
  | 1 => 1
  | 2 => 1
  | 3 => 1
  | _ => 0
def rhigh (k : Nat) : Int :=
  match k with
  | 0 => 7
  | 1 => 2147483648
  | 2 => 14
  | 3 => 2147483648
  | 4 => 2147483648
  | 5 => 2147483648
  | _ => 1099511627776
def rOk (c : CmS) (k : Nat) : Bool := decide (rlow k ≤ rv c k ∧ rv c k ≤ rhigh k)
def okR (c : CmS) : Nat → Bool
  | 0 => true
  | k + 1 => okR c k && rOk c k
def okCs : List CV → Bool
  | [] => true
  | v :: l => okC v.k v.n v.s && okCs l
def okM (c : CmS) : Bool := okR c 8 && (decide (c.cs.length ≤ 8) && okCs c.cs) && (textOk c.sp && textOk c.nm) && okPs c.ps
def checkM (c : CmS) : Int := if okM c then 0 else 1
def rowsS : List Seg := headS ++ tailS

theorem c169g (c : CmS) (T : Hp) : SCalls Proofs.Try.prog 169 [.s (.lf (.ptr 0 0))] (some (obM c) :: T) (.s (.lf (.own (T.length + 1) 0 3 0 5))) (some (obM c) :: (T ++ [some (rowsO headS 5)])) :=
  (c169 c).frame1m (H := some (obM c) :: T) (nm := 0) (o2 := some (obM c)) (Hn := [some (rowsO headS 5)]) rfl rfl (obM_ws c) ⟨WV.lf (WL.ptr rfl rfl), trivial⟩
    ⟨rfl, obM_ws c, rfl, okGsB_up (H := [none]) (fun nm h => by obtain rfl : nm = 0 := by simp at h; omega
                                                                exact ρ1_self _ _) (l := (rowsO headS 5).segs) rfl, trivial⟩
    (WV.lf (WL.uown (by rw [show (some (obM c) :: T).length = T.length + 1 from rfl, ρ1_ge (by omega) (Nat.le_refl _), Nat.sub_self]) rfl rfl))
theorem c171g (c : CmS) (T : Hp) : SCalls Proofs.Try.prog 171 [.s (.lf (.ptr 0 0))] (some (obM c) :: T) (.s (.lf (.own (T.length + 1) 0 3 0 3))) (some (obM c) :: (T ++ [some (rowsO tailS 3)])) :=
  (c171 c).frame1m (H := some (obM c) :: T) (nm := 0) (o2 := some (obM c)) (Hn := [some (rowsO tailS 3)]) rfl rfl (obM_ws c) ⟨WV.lf (WL.ptr rfl rfl), trivial⟩
    ⟨rfl, obM_ws c, rfl, okGsB_up (H := [none]) (fun nm h => by obtain rfl : nm = 0 := by simp at h; omega
                                                                exact ρ1_self _ _) (l := (rowsO tailS 3).segs) rfl, trivial⟩
    (WV.lf (WL.uown (by rw [show (some (obM c) :: T).length = T.length + 1 from rfl, ρ1_ge (by omega) (Nat.le_refl _), Nat.sub_self]) rfl rfl))

theorem wl_eq {D : Rel} {u v : LV} (e : u = v) (h : WL D v v) : WL D u v := by rw [e]; exact h
abbrev rowsO8 : OB := rowsO rowsS 8
theorem rows8_cat {i j : Nat} (hi : i < 8) (hj : j < 3) : catRow 3 5 (fun i j => rowF headS (0 + i) j) (fun i j => rowF tailS (0 + i) j) i j = rowF rowsS i j := by
  have h1 : i = 0 ∨ i = 1 ∨ i = 2 ∨ i = 3 ∨ i = 4 ∨ i = 5 ∨ i = 6 ∨ i = 7 := by omega
  have h2 : j = 0 ∨ j = 1 ∨ j = 2 := by omega
  rcases h1 with rfl | rfl | rfl | rfl | rfl | rfl | rfl | rfl <;> rcases h2 with rfl | rfl | rfl <;> rfl
theorem eO_ws {D : Rel} (e : Int) : WSs D (eO e).segs (eO e).segs := plainGs.ws ⟨trivial, trivial⟩
theorem ce_ws (c : CmS) (e : Int) (ρ : Nat → Option Nat) (i : Nat) (ob : OB) (h : ([some (obM c), some (eO e)] : Hp)[i]? = some (some ob)) : WSs (Up ρ True) ob.segs ob.segs := by
  match i, h with
  | 0, h => simp at h; subst h; exact obM_ws c
  | 1, h => simp at h; subst h; exact eO_ws e
theorem c173nk (c : CmS) (e : Int) (k : Hp) : SCallsM Proofs.Try.prog 173 [.s (.lf (.ptr 1 0))] (some (obM c) :: some (eO e) :: k) .returning (some (obM c) :: some (eO e) :: k) :=
  (c173n (obM c) e).tailW [some (obM c), some (eO e)] k rfl rfl ⟨rfl, obM_ws c, rfl, eO_ws e, trivial⟩ rfl (fun ρ _ i ob h => ce_ws c e ρ i ob h) rfl
theorem c173wk (c : CmS) (e : Int) (k : Hp) : SCallsM Proofs.Try.prog 173 [.s (.lf (.ptr 1 0))] (some (obM c) :: some (eO e) :: k) (.panicking wrCh) (some (obM c) :: some (eO 1) :: k) :=
  ((c173w (obM c) e).after (H'' := [some (obM c), some (eO 1)]) (RetK.of ⟨rfl, obM_ws c, rfl, eO_ws 1, trivial⟩ (by simp) (WV.any _))).tailW [some (obM c), some (eO e)] k rfl rfl ⟨rfl, obM_ws c, rfl, eO_ws e, trivial⟩ rfl (fun ρ _ i ob h => ce_ws c 1 ρ i ob h) rfl
theorem okR_bad {c : CmS} {k : Nat} (hb : rOk c k = false) : ∀ {n : Nat}, k < n → okR c n = false
  | 0, h => by omega
  | n + 1, h => by
    unfold okR
    by_cases e : k = n
    · rw [← e, hb, Bool.and_false]
    · rw [okR_bad hb (by omega : k < n), Bool.false_and]
theorem okR_step {c : CmS} {k : Nat} (h : okR c k = true) (hb : rOk c k = true) : okR c (k + 1) = true := by unfold okR; rw [h, hb]; rfl
theorem checkM_row {c : CmS} {k : Nat} (hb : rOk c k = false) (h : k < 8) : checkM c = 1 := by
  unfold checkM okM
  rw [okR_bad hb h]; rfl
abbrev hpC (c : CmS) : Hp := [some (obM c), some (eO 0), none, some (rowsO tailS 3), some rowsO8]
theorem ceW (c : CmS) {H0 : Hp} {ob : OB} : HpW (DownI H0 (hpC c)) [some (obM c), some (eO 0), none, some (rowsO tailS 3), some rowsO8, some ob] (hpC c) :=
  ⟨rfl, obM_ws c, rfl, eO_ws 0, rfl, rows_ws (m := 5) rfl rfl, rfl, rows_ws (m := 5) rfl rfl, trivial⟩
theorem okCs_bad : ∀ {l : List CV} {i : Nat}, i < l.length → okC (l.getD i cv0).k (l.getD i cv0).n (l.getD i cv0).s = false → okCs l = false
  | [], _, h, _ => by simp at h
  | v :: l, 0, _, hb => by
    unfold okCs
    rw [show okC v.k v.n v.s = false from hb]; rfl
  | v :: l, i + 1, h, hb => by
    unfold okCs
    rw [okCs_bad (l := l) (i := i) (by simpa using h) (by simpa using hb), Bool.and_false]
theorem okCs_take : ∀ {l : List CV} {i : Nat}, i < l.length → okCs (l.take i) = true → okC (l.getD i cv0).k (l.getD i cv0).n (l.getD i cv0).s = true → okCs (l.take (i + 1)) = true
  | [], _, h, _, _ => by simp at h
  | v :: l, 0, _, _, hb => by
    show okCs [v] = true
    unfold okCs
    rw [show okC v.k v.n v.s = true from hb]; rfl
  | v :: l, i + 1, h, ha, hb => by
    simp only [List.take_succ_cons] at ha ⊢
    unfold okCs at ha ⊢
    simp only [Bool.and_eq_true] at ha ⊢
    exact ⟨ha.1, okCs_take (l := l) (i := i) (by simpa using h) ha.2 (by simpa using hb)⟩
theorem checkM_len {c : CmS} (hb : decide ((c.cs.length : Int) ≤ 8) = false) : checkM c = 1 := by
  unfold checkM okM
  rw [show decide (c.cs.length ≤ 8) = false from decide_eq_false (by simp at hb; omega), Bool.false_and, Bool.and_false]; rfl
theorem checkM_cs {c : CmS} {i : Nat} (h : i < c.cs.length) (hb : okC (c.cs.getD i cv0).k (c.cs.getD i cv0).n (c.cs.getD i cv0).s = false) : checkM c = 1 := by
  unfold checkM okM
  rw [okCs_bad h hb, Bool.and_false, Bool.and_false]; rfl
theorem checkM_text {c : CmS} (hb : (textOk c.sp && textOk c.nm) = false) : checkM c = 1 := by
  unfold checkM okM
  rw [hb, Bool.and_false]; rfl
theorem checkM_ps {c : CmS} (hb : okPs c.ps = false) : checkM c = 1 := by
  unfold checkM okM
  rw [hb, Bool.and_false]; rfl
theorem checkM_ok {c : CmS} (h1 : okR c 8 = true) (h2 : c.cs.length ≤ 8) (h3 : okCs c.cs = true) (h4 : (textOk c.sp && textOk c.nm) = true) (h5 : okPs c.ps = true) : checkM c = 0 := by
  unfold checkM okM
  rw [h1, decide_eq_true h2, h3, h4, h5]; rfl
theorem ceW0 (c : CmS) {H0 : Hp} : HpW (DownI H0 (hpC c)) (hpC c) (hpC c) :=
  ⟨rfl, obM_ws c, rfl, eO_ws 0, rfl, rows_ws (m := 5) rfl rfl, rfl, rows_ws (m := 5) rfl rfl, trivial⟩
/-- command.Check -/
theorem c112 (c : CmS) : SCalls Proofs.Try.prog 112 [vM c] [] (vI (checkM c)) [] := by
  refine SCalls.introDP tok Proofs.Try.func112 ?_
  conv => whnf
  refine CallP.mk' (.s (.lf (.own 2 0 3 0 5))) _ (c169g c [some (eO 0)]) ?_
  conv => whnf
  refine CallP.mk' (.s (.lf (.own 3 0 3 0 3))) _ (c171g c [some (eO 0), some (rowsO headS 5)]) ?_
  conv => whnf
  refine And.intro (by decide) ?_
  conv => whnf
  refine And.intro (by decide) ?_
  conv => whnf
  refine And.intro ⟨rfl, by decide⟩ ?_
  conv => whnf
  refine LoopK.mk1 (fun k : Nat => [(13, vI k), (12, vI 8), (11, .s (.lf (.own 4 0 3 0 8))), (2, .s (.lf (.ptr 1 0))), (1, .s (.lf (.ptr 0 0)))]) (fun k => [some (obM c), some (eO 0), none, some (rowsO tailS 3), some rowsO8]) (fun k => k ≤ 8 ∧ okR c k = true) (fun k => 8 - k) 0 ⟨by omega, rfl⟩ ?_ ?_
  · exact Weak.of ⟨rfl, obM_ws c, rfl, plainGs.ws ⟨trivial, trivial⟩, rfl, rows_ws (m := 5) rfl rfl, rfl, ⟨.recs rfl fun i hi j hj => wl_eq (rows8_cat hi hj) (rows_wl (l := rowsS) (n := 8) (m := 5) rfl rfl hi hj), trivial⟩, trivial⟩ (by simp) ⟨okF.wv trivial, okF.wv trivial, WV.lf (WL.own rfl rfl rfl rfl), okF.wv rfl, okF.wv rfl, trivial⟩
  rintro k ⟨hk8, hk⟩
  conv => whnf
  by_cases hlt : k < 8
  · refine CaseB.of_true (decide_eq_true (by omega)) ?_
    conv => whnf
    refine And.intro (by omega) ?_
    conv => whnf
    refine And.intro (by omega) ?_
    have h8 : k = 0 ∨ k = 1 ∨ k = 2 ∨ k = 3 ∨ k = 4 ∨ k = 5 ∨ k = 6 ∨ k = 7 := by omega
    rcases h8 with rfl | rfl | rfl | rfl | rfl | rfl | rfl | rfl
    · conv => whnf
      refine DrawP.last tok mixed [0, 1, 3, 7, 0, 16, 0, 64, 255, 511] [(0, 1, [0]), (1, 1, [0]), (2, 1, [0]), (3, 1, [0]), (4, 1, [0]), (5, 1, [0]), (6, 1, [0]), (7, 1, [0]), (8, 1, [0]), (9, 0, [])] 9 _ rfl (by kernel_rfl) (by kernel_rfl) ?_
      conv => whnf
      refine CallR.mk' _ ((c122 _ _ _).free _ ⟨trivial, trivial, trivial, trivial⟩ trivial) ?_
      conv => whnf
      cases hb : rOk c 0 with
      | true =>
        refine CallP.mk' _ _ ((c174t _ hb).free _ ⟨trivial, trivial⟩ trivial) ?_
        conv => whnf
        exact ⟨1, ⟨by omega, okR_step hk hb⟩, by decide, Weak.of (ceW c) (by simp) ⟨okF.wv trivial, okF.wv trivial, WV.lf (WL.own rfl rfl rfl rfl), okF.wv rfl, okF.wv rfl, trivial⟩⟩
      | false =>
        refine CallP.pan _ (c174f _ hb _) ?_
        conv => whnf
        refine CallKM.mk' _ (c173wk c 0 _) ?_
        conv => whnf
        rw [checkM_row hb (by omega)]
        exact RetK.empty (okF.wv trivial)
    · conv => whnf
      refine DrawP.last tok mixed [0, 1, 3, 7, 0, 16, 0, 64, 255, 511] [(0, 1, [0]), (1, 1, [0]), (2, 1, [0]), (3, 1, [0]), (4, 1, [0]), (5, 1, [0]), (6, 1, [0]), (7, 1, [0]), (8, 1, [0]), (9, 0, [])] 9 _ rfl (by kernel_rfl) (by kernel_rfl) ?_
      conv => whnf
      refine CallR.mk' _ ((c122 _ _ _).free _ ⟨trivial, trivial, trivial, trivial⟩ trivial) ?_
      conv => whnf
      cases hb : rOk c 1 with
      | true =>
        refine CallP.mk' _ _ ((c174t _ hb).free _ ⟨trivial, trivial⟩ trivial) ?_
        conv => whnf
        exact ⟨2, ⟨by omega, okR_step hk hb⟩, by decide, Weak.of (ceW c) (by simp) ⟨okF.wv trivial, okF.wv trivial, WV.lf (WL.own rfl rfl rfl rfl), okF.wv rfl, okF.wv rfl, trivial⟩⟩
      | false =>
        refine CallP.pan _ (c174f _ hb _) ?_
        conv => whnf
        refine CallKM.mk' _ (c173wk c 0 _) ?_
        conv => whnf
        rw [checkM_row hb (by omega)]
        exact RetK.empty (okF.wv trivial)
    · conv => whnf
      refine DrawP.last tok mixed [0, 1, 3, 7, 0, 16, 0, 64, 255, 511] [(0, 1, [0]), (1, 1, [0]), (2, 1, [0]), (3, 1, [0]), (4, 1, [0]), (5, 1, [0]), (6, 1, [0]), (7, 1, [0]), (8, 1, [0]), (9, 0, [])] 9 _ rfl (by kernel_rfl) (by kernel_rfl) ?_
      conv => whnf
      refine CallR.mk' _ ((c122 _ _ _).free _ ⟨trivial, trivial, trivial, trivial⟩ trivial) ?_
      conv => whnf
      cases hb : rOk c 2 with
      | true =>
        refine CallP.mk' _ _ ((c174t _ hb).free _ ⟨trivial, trivial⟩ trivial) ?_
        conv => whnf
        exact ⟨3, ⟨by omega, okR_step hk hb⟩, by decide, Weak.of (ceW c) (by simp) ⟨okF.wv trivial, okF.wv trivial, WV.lf (WL.own rfl rfl rfl rfl), okF.wv rfl, okF.wv rfl, trivial⟩⟩
      | false =>
        refine CallP.pan _ (c174f _ hb _) ?_
        conv => whnf
        refine CallKM.mk' _ (c173wk c 0 _) ?_
        conv => whnf
        rw [checkM_row hb (by omega)]
        exact RetK.empty (okF.wv trivial)
    · conv => whnf
      refine DrawP.last tok mixed [0, 1, 3, 7, 0, 16, 0, 64, 255, 511] [(0, 1, [0]), (1, 1, [0]), (2, 1, [0]), (3, 1, [0]), (4, 1, [0]), (5, 1, [0]), (6, 1, [0]), (7, 1, [0]), (8, 1, [0]), (9, 0, [])] 9 _ rfl (by kernel_rfl) (by kernel_rfl) ?_
      conv => whnf
      refine CallR.mk' _ ((c122 _ _ _).free _ ⟨trivial, trivial, trivial, trivial⟩ trivial) ?_
      conv => whnf
      cases hb : rOk c 3 with
      | true =>
        refine CallP.mk' _ _ ((c174t _ hb).free _ ⟨trivial, trivial⟩ trivial) ?_
        conv => whnf
        exact ⟨4, ⟨by omega, okR_step hk hb⟩, by decide, Weak.of (ceW c) (by simp) ⟨okF.wv trivial, okF.wv trivial, WV.lf (WL.own rfl rfl rfl rfl), okF.wv rfl, okF.wv rfl, trivial⟩⟩
      | false =>
        refine CallP.pan _ (c174f _ hb _) ?_
        conv => whnf
        refine CallKM.mk' _ (c173wk c 0 _) ?_
        conv => whnf
        rw [checkM_row hb (by omega)]
        exact RetK.empty (okF.wv trivial)
    · conv => whnf
      refine DrawP.last tok mixed [0, 1, 3, 7, 0, 16, 0, 64, 255, 511] [(0, 1, [0]), (1, 1, [0]), (2, 1, [0]), (3, 1, [0]), (4, 1, [0]), (5, 1, [0]), (6, 1, [0]), (7, 1, [0]), (8, 1, [0]), (9, 0, [])] 9 _ rfl (by kernel_rfl) (by kernel_rfl) ?_
      conv => whnf
      refine CallR.mk' _ ((c122 _ _ _).free _ ⟨trivial, trivial, trivial, trivial⟩ trivial) ?_
      conv => whnf
      cases hb : rOk c 4 with
      | true =>
        refine CallP.mk' _ _ ((c174t _ hb).free _ ⟨trivial, trivial⟩ trivial) ?_
        conv => whnf
        exact ⟨5, ⟨by omega, okR_step hk hb⟩, by decide, Weak.of (ceW c) (by simp) ⟨okF.wv trivial, okF.wv trivial, WV.lf (WL.own rfl rfl rfl rfl), okF.wv rfl, okF.wv rfl, trivial⟩⟩
      | false =>
        refine CallP.pan _ (c174f _ hb _) ?_
        conv => whnf
        refine CallKM.mk' _ (c173wk c 0 _) ?_
        conv => whnf
        rw [checkM_row hb (by omega)]
        exact RetK.empty (okF.wv trivial)
    · conv => whnf
      refine DrawP.last tok mixed [0, 1, 3, 7, 0, 16, 0, 64, 255, 511] [(0, 1, [0]), (1, 1, [0]), (2, 1, [0]), (3, 1, [0]), (4, 1, [0]), (5, 1, [0]), (6, 1, [0]), (7, 1, [0]), (8, 1, [0]), (9, 0, [])] 9 _ rfl (by kernel_rfl) (by kernel_rfl) ?_
      conv => whnf
      refine CallR.mk' _ ((c122 _ _ _).free _ ⟨trivial, trivial, trivial, trivial⟩ trivial) ?_
      conv => whnf
      cases hb : rOk c 5 with
      | true =>
        refine CallP.mk' _ _ ((c174t _ hb).free _ ⟨trivial, trivial⟩ trivial) ?_
        conv => whnf
        exact ⟨6, ⟨by omega, okR_step hk hb⟩, by decide, Weak.of (ceW c) (by simp) ⟨okF.wv trivial, okF.wv trivial, WV.lf (WL.own rfl rfl rfl rfl), okF.wv rfl, okF.wv rfl, trivial⟩⟩
      | false =>
        refine CallP.pan _ (c174f _ hb _) ?_
        conv => whnf
        refine CallKM.mk' _ (c173wk c 0 _) ?_
        conv => whnf
        rw [checkM_row hb (by omega)]
        exact RetK.empty (okF.wv trivial)
    · conv => whnf
      refine DrawP.last tok mixed [0, 1, 3, 7, 0, 16, 0, 64, 255, 511] [(0, 1, [0]), (1, 1, [0]), (2, 1, [0]), (3, 1, [0]), (4, 1, [0]), (5, 1, [0]), (6, 1, [0]), (7, 1, [0]), (8, 1, [0]), (9, 0, [])] 9 _ rfl (by kernel_rfl) (by kernel_rfl) ?_
      conv => whnf
      refine CallR.mk' _ ((c122 _ _ _).free _ ⟨trivial, trivial, trivial, trivial⟩ trivial) ?_
      conv => whnf
      cases hb : rOk c 6 with
      | true =>
        refine CallP.mk' _ _ ((c174t _ hb).free _ ⟨trivial, trivial⟩ trivial) ?_
        conv => whnf
        exact ⟨7, ⟨by omega, okR_step hk hb⟩, by decide, Weak.of (ceW c) (by simp) ⟨okF.wv trivial, okF.wv trivial, WV.lf (WL.own rfl rfl rfl rfl), okF.wv rfl, okF.wv rfl, trivial⟩⟩
      | false =>
        refine CallP.pan _ (c174f _ hb _) ?_
        conv => whnf
        refine CallKM.mk' _ (c173wk c 0 _) ?_
        conv => whnf
        rw [checkM_row hb (by omega)]
        exact RetK.empty (okF.wv trivial)
    · conv => whnf
      refine DrawP.last tok mixed [0, 1, 3, 7, 0, 16, 0, 64, 255, 511] [(0, 1, [0]), (1, 1, [0]), (2, 1, [0]), (3, 1, [0]), (4, 1, [0]), (5, 1, [0]), (6, 1, [0]), (7, 1, [0]), (8, 1, [0]), (9, 0, [])] 9 _ rfl (by kernel_rfl) (by kernel_rfl) ?_
      conv => whnf
      refine CallR.mk' _ ((c122 _ _ _).free _ ⟨trivial, trivial, trivial, trivial⟩ trivial) ?_
      conv => whnf
      cases hb : rOk c 7 with
      | true =>
        refine CallP.mk' _ _ ((c174t _ hb).free _ ⟨trivial, trivial⟩ trivial) ?_
        conv => whnf
        exact ⟨8, ⟨by omega, okR_step hk hb⟩, by decide, Weak.of (ceW c) (by simp) ⟨okF.wv trivial, okF.wv trivial, WV.lf (WL.own rfl rfl rfl rfl), okF.wv rfl, okF.wv rfl, trivial⟩⟩
      | false =>
        refine CallP.pan _ (c174f _ hb _) ?_
        conv => whnf
        refine CallKM.mk' _ (c173wk c 0 _) ?_
        conv => whnf
        rw [checkM_row hb (by omega)]
        exact RetK.empty (okF.wv trivial)
  · refine CaseB.of_false (decide_eq_false (by omega)) ?_
    conv => whnf
    obtain rfl : k = 8 := by omega
    cases hb : decide ((c.cs.length : Int) ≤ 8) with
    | false =>
      refine CallP.pan _ (c174f _ rfl _) ?_
      conv => whnf
      refine CallKM.mk' _ (c173wk c 0 _) ?_
      conv => whnf
      rw [checkM_len hb]
      exact RetK.empty (okF.wv trivial)
    | true =>
    refine CallP.mk' _ _ ((c174t _ rfl).free _ ⟨trivial, trivial⟩ trivial) ?_
    conv => whnf
    have hb8 : c.cs.length ≤ 8 := by simp at hb; omega
    refine LoopK.mk1 (fun i : Nat => [(36, vI i), (35, vI c.cs.length), (34, .s (.lf (vKl c.cs))), (2, .s (.lf (.ptr 1 0))), (1, .s (.lf (.ptr 0 0)))]) (fun i => hpC c) (fun i => i ≤ c.cs.length ∧ okCs (c.cs.take i) = true) (fun i => c.cs.length - i) 0 ⟨by omega, rfl⟩ ?_ ?_
    · exact Weak.of (ceW0 c) (by simp) ⟨okF.wv trivial, okF.wv trivial, okF.wv (rowC_ok (cs := c.cs)), okF.wv rfl, okF.wv rfl, trivial⟩
    rintro i ⟨hi, ha⟩
    conv => whnf
    by_cases hi' : i < c.cs.length
    · refine CaseB.of_true (decide_eq_true (by omega)) ?_
      conv => whnf
      refine And.intro (by omega) ?_
      conv => whnf
      refine CallP.mk' _ _ ((c26 (c.cs.getD i cv0).k (c.cs.getD i cv0).n (c.cs.getD i cv0).s).free _ ⟨⟨trivial, trivial, trivial, trivial⟩, trivial⟩ trivial) ?_
      conv => whnf
      cases hb1 : okC (c.cs.getD i cv0).k (c.cs.getD i cv0).n (c.cs.getD i cv0).s with
      | false =>
        have hb2 : decide (checkF (c.cs.getD i cv0).k (c.cs.getD i cv0).n (c.cs.getD i cv0).s = 0) = false := by unfold checkF; rw [hb1]; rfl
        refine CallP.pan _ (c174f _ hb2 _) ?_
        conv => whnf
        refine CallKM.mk' _ (c173wk c 0 _) ?_
        conv => whnf
        rw [checkM_cs hi' hb1]
        exact RetK.empty (okF.wv trivial)
      | true =>
        have hb2 : decide (checkF (c.cs.getD i cv0).k (c.cs.getD i cv0).n (c.cs.getD i cv0).s = 0) = true := by unfold checkF; rw [hb1]; rfl
        refine CallP.mk' _ _ ((c174t _ hb2).free _ ⟨trivial, trivial⟩ trivial) ?_
        conv => whnf
        exact ⟨i + 1, ⟨by omega, okCs_take hi' ha hb1⟩, by show c.cs.length - (i + 1) < c.cs.length - i; omega, Weak.of (ceW c) (by simp) ⟨WV.lf (WL.int (by rw [wrap_i64 (by omega) (by omega)]; omega)), okF.wv trivial, okF.wv (rowC_ok (cs := c.cs)), okF.wv rfl, okF.wv rfl, trivial⟩⟩
    refine CaseB.of_false (decide_eq_false (by omega)) ?_
    conv => whnf
    rw [List.take_of_length_le (by omega)] at ha
    refine CallP.mk' _ _ ((c175 c.sp).free _ ⟨trivial, trivial⟩ trivial) ?_
    conv => whnf
    cases ht : textOk c.sp with
    | false =>
      refine CaseB.of_false rfl ?_
      conv => whnf
      refine CallP.pan _ (c174ff _) ?_
      conv => whnf
      refine CallKM.mk' _ (c173wk c 0 _) ?_
      conv => whnf
      rw [checkM_text (c := c) (by rw [ht]; rfl)]
      exact RetK.empty (okF.wv trivial)
    | true =>
    refine CaseB.of_true rfl ?_
    conv => whnf
    refine CallK.mk' _ _ ((c175 c.nm).free _ ⟨trivial, trivial⟩ trivial) ?_
    conv => whnf
    cases ht2 : textOk c.nm with
    | false =>
      refine CallP.pan _ (c174f _ rfl _) ?_
      conv => whnf
      refine CallKM.mk' _ (c173wk c 0 _) ?_
      conv => whnf
      rw [checkM_text (c := c) (by rw [ht, ht2]; rfl)]
      exact RetK.empty (okF.wv trivial)
    | true =>
    refine CallP.mk' _ _ ((c174t _ rfl).free _ ⟨trivial, trivial⟩ trivial) ?_
    conv => whnf
    refine CallP.mk' _ _ ((c151 c.ps).free _ ⟨rowP_free (ps := c.ps), trivial⟩ ⟨trivial, trivial, trivial⟩) ?_
    conv => whnf
    cases hp : okPs c.ps with
    | false =>
      have hb2 : decide ((bytesP c.ps).2 = 0) = false := by unfold bytesP; rw [hp]; rfl
      refine CallP.pan _ (c174f _ hb2 _) ?_
      conv => whnf
      refine CallKM.mk' _ (c173wk c 0 _) ?_
      conv => whnf
      rw [checkM_ps hp]
      exact RetK.empty (okF.wv trivial)
    | true =>
    have hb2 : decide ((bytesP c.ps).2 = 0) = true := by unfold bytesP; rw [hp]; rfl
    refine CallP.mk' _ _ ((c174t _ hb2).free _ ⟨trivial, trivial⟩ trivial) ?_
    conv => whnf
    refine CallKM.mk' _ (c173nk c 0 _) ?_
    conv => whnf
    rw [checkM_ok hk hb8 ha (by rw [ht, ht2]; rfl) hp]
    exact RetK.empty (okF.wv trivial)
end Go.Sym.Md

