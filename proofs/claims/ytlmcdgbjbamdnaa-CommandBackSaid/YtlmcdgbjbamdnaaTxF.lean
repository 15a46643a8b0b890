/- Contracts of the program's functions, proved by the framework (text TxF), without conditions but those that each theorem states. -/
import Derived.Test.YtlmcdgbjbamdnaaTxE
import Derived.Test.YtlmcdgbjbamdnaaFw8
set_option linter.unusedVariables false
set_option linter.unusedSimpArgs false
set_option maxRecDepth 10000
namespace Go.Sym.Md
open Go Go.Sym

/-- slices.Equal, of pieces. -/
theorem c209 (a b : List PcV) (ha : a.length ≤ maxLen) : SCalls Proofs.Try.prog 209 [vQ a, vQ b] [] (.s (.lf (.bool (decide (a = b))))) [] := by
  have hm : maxLen = 9223372036854775807 := rfl
  refine SCalls.intro tok Proofs.Try.func209 ?_
  conv => whnf
  by_cases hl : a.length = b.length
  · refine CaseB.of_false (by simp [hl]) ?_
    conv => whnf
    refine LoopK.mk1 (fun i : Nat => [(0, vQ a), (1, vQ b), (12, vI a.length), (13, vI i)]) (fun i => []) (fun i => i ≤ a.length ∧ a.take i = b.take i) (fun i => a.length - i) 0 ⟨by omega, rfl⟩ ?_ ?_
    · exact Weak.of ⟨⟩ (by simp) ⟨okF.wv rowP_ok, okF.wv rowP_ok, okF.wv trivial, okF.wv trivial, trivial⟩
    intro i hi
    obtain ⟨hi, ht⟩ := hi
    conv => whnf
    by_cases hi' : i < a.length
    · refine CaseB.of_true (decide_eq_true (by omega)) ?_
      conv => whnf
      refine DrawK.mk1 tok mixed [0, 0, 3, 7, 0, 0, 48, 112, 255] [(0, 0, []), (1, 0, []), (4, 0, []), (5, 0, []), (2, 1, [0]), (3, 1, [0]), (6, 1, [0]), (7, 1, [0]), (8, 1, [0])] (by kernel_rfl) ?_
      conv => whnf
      repeat (refine And.intro (by omega) ?_; conv => whnf)
      have hx0 : a[i]? = some (a.getD i pc0) := by rw [List.getD_eq_getElem?_getD, List.getElem?_eq_getElem hi']; rfl
      have hy0 : b[i]? = some (b.getD i pc0) := by rw [List.getD_eq_getElem?_getD, List.getElem?_eq_getElem (by omega)]; rfl
      by_cases he : a.getD i pc0 = b.getD i pc0
      · refine CaseB.of_false (pc_neq_f (by rw [Int.toNat_natCast]; exact he)) ?_
        conv => whnf
        refine ⟨i + 1, ⟨by omega, ?_⟩, by show a.length - (i + 1) < a.length - i; omega, Weak.of ⟨⟩ (by simp) ⟨okF.wv rowP_ok, okF.wv rowP_ok, okF.wv trivial, WV.lf (WL.int (by rw [wrap_i64 (by omega) (by omega)]; omega)), trivial⟩⟩
        rw [List.take_add_one, List.take_add_one, ht, hx0, hy0, he]
      · refine CaseB.of_true (pc_neq_t (by rw [Int.toNat_natCast]; exact he)) ?_
        conv => whnf
        refine RetK.empty (WV.lf (WL.ff (decide_eq_false fun e => he (by rw [e]))))
    · refine CaseB.of_false (decide_eq_false (by omega)) ?_
      conv => whnf
      refine RetK.empty (WV.lf (WL.tt (decide_eq_true ?_)))
      rw [List.take_of_length_le (by omega), List.take_of_length_le (by omega)] at ht
      exact ht
  · refine CaseB.of_true (by simp; omega) ?_
    conv => whnf
    exact RetK.empty (WV.lf (WL.ff (decide_eq_false fun e => hl (by rw [e]))))

/-- manifest.SamePieces -/
theorem c178 (a b : List PcV) (ha : a.length ≤ maxLen) : SCalls Proofs.Try.prog 178 [vQ a, vQ b] [] (.s (.lf (.bool (decide (a = b))))) [] := by
  refine SCalls.intro tok Proofs.Try.func178 ?_
  conv => whnf
  refine CallK.mk' _ _ (c209 a b ha) ?_
  conv => whnf
  exact RetK.empty (okF.wv trivial)

def headS1 : List Seg := [.one (.ptr 1 0), .one (.int .i64 0), .one (.int .i64 7), .one (.ptr 1 1), .one (.int .i64 1), .one (.int .i64 2147483648), .one (.ptr 1 2), .one (.int .i64 1), .one (.int .i64 14), .one (.ptr 1 3), .one (.int .i64 1), .one (.int .i64 2147483648), .one (.ptr 1 4), .one (.int .i64 0), .one (.int .i64 2147483648)]
def tailS1 : List Seg := [.one (.ptr 1 8), .one (.int .i64 0), .one (.int .i64 2147483648), .one (.ptr 1 9), .one (.int .i64 0), .one (.int .i64 1099511627776), .one (.ptr 1 10), .one (.int .i64 0), .one (.int .i64 1099511627776)]
def rowsS1 : List Seg := headS1 ++ tailS1
theorem rows8_cat1 {i j : Nat} (hi : i < 8) (hj : j < 3) : catRow 3 5 (fun i j => rowF headS1 (0 + i) j) (fun i j => rowF tailS1 (0 + i) j) i j = rowF rowsS1 i j := by
  have h1 : i = 0 ∨ i = 1 ∨ i = 2 ∨ i = 3 ∨ i = 4 ∨ i = 5 ∨ i = 6 ∨ i = 7 := by omega
  have h2 : j = 0 ∨ j = 1 ∨ j = 2 := by omega
  rcases h1 with rfl | rfl | rfl | rfl | rfl | rfl | rfl | rfl <;> rcases h2 with rfl | rfl | rfl <;> rfl
theorem ren5 {ρ : Nat → Option Nat} {nb : Prop} (hρ : ρ 1 = some 0) {i j : Nat} (hi : i < 5) (hj : j < 3) : WL (Up ρ nb) (rowF headS i j) (rowF headS1 i j) := by
  have h1 : i = 0 ∨ i = 1 ∨ i = 2 ∨ i = 3 ∨ i = 4 := by omega
  have h2 : j = 0 ∨ j = 1 ∨ j = 2 := by omega
  rcases h1 with rfl | rfl | rfl | rfl | rfl <;> rcases h2 with rfl | rfl | rfl <;> first | exact WL.uptr hρ | exact WL.int rfl
theorem ren3 {ρ : Nat → Option Nat} {nb : Prop} (hρ : ρ 1 = some 0) {i j : Nat} (hi : i < 3) (hj : j < 3) : WL (Up ρ nb) (rowF tailS i j) (rowF tailS1 i j) := by
  have h1 : i = 0 ∨ i = 1 ∨ i = 2 := by omega
  have h2 : j = 0 ∨ j = 1 ∨ j = 2 := by omega
  rcases h1 with rfl | rfl | rfl <;> rcases h2 with rfl | rfl | rfl <;> first | exact WL.uptr hρ | exact WL.int rfl
theorem c169k (c : CmS) (a : OB) (T : Hp) : SCalls Proofs.Try.prog 169 [.s (.lf (.ptr 1 0))] (some a :: some (obM c) :: T) (.s (.lf (.own (T.length + 2) 0 3 0 5))) (some a :: some (obM c) :: (T ++ [some (rowsO headS1 5)])) :=
  (c169 c).frame1m (H := some a :: some (obM c) :: T) (nm := 1) (o2 := some (obM c)) (Hn := [some (rowsO headS1 5)]) rfl rfl (obM_ws c) ⟨WV.lf (WL.ptr rfl rfl), trivial⟩
    ⟨rfl, obM_ws c, rfl, ⟨.recs rfl fun i hi j hj => ren5 (ρ1_self _ _) hi hj, trivial⟩, trivial⟩
    (WV.lf (WL.uown (by rw [show (some a :: some (obM c) :: T).length = T.length + 2 from rfl, ρ1_ge (by omega) (Nat.le_refl _), Nat.sub_self]) rfl rfl))
theorem c171k (c : CmS) (a : OB) (T : Hp) : SCalls Proofs.Try.prog 171 [.s (.lf (.ptr 1 0))] (some a :: some (obM c) :: T) (.s (.lf (.own (T.length + 2) 0 3 0 3))) (some a :: some (obM c) :: (T ++ [some (rowsO tailS1 3)])) :=
  (c171 c).frame1m (H := some a :: some (obM c) :: T) (nm := 1) (o2 := some (obM c)) (Hn := [some (rowsO tailS1 3)]) rfl rfl (obM_ws c) ⟨WV.lf (WL.ptr rfl rfl), trivial⟩
    ⟨rfl, obM_ws c, rfl, ⟨.recs rfl fun i hi j hj => ren3 (ρ1_self _ _) hi hj, trivial⟩, trivial⟩
    (WV.lf (WL.uown (by rw [show (some a :: some (obM c) :: T).length = T.length + 2 from rfl, ρ1_ge (by omega) (Nat.le_refl _), Nat.sub_self]) rfl rfl))

abbrev hpS (a b : CmS) : Hp := [some (obM a), some (obM b), none, some (rowsO tailS 3), some rowsO8, none, some (rowsO tailS1 3), some (rowsO rowsS1 8)]
theorem hpSW (a b : CmS) {H0 : Hp} : HpW (DownI H0 (hpS a b)) (hpS a b) (hpS a b) :=
  ⟨rfl, obM_ws a, rfl, obM_ws b, rfl, rows_ws (m := 8) rfl rfl, rfl, rows_ws (m := 8) rfl rfl, rfl, rows_ws (m := 8) rfl rfl, rfl, rows_ws (m := 8) rfl rfl, trivial⟩
set_option maxHeartbeats 4000000 in
/-- command.Same -/
theorem c114 (a b : CmS) (ha : a.cs.length ≤ maxLen) (hp : a.ps.length ≤ maxLen) : SCalls Proofs.Try.prog 114 [vM a, vM b] [] (.s (.lf (.bool (decide (a = b))))) [] := by
  refine SCalls.intro tok Proofs.Try.func114 ?_
  conv => whnf
  refine CallK.mk' (.s (.lf (.own 2 0 3 0 5))) [some (obM a), some (obM b), some (rowsO headS 5)] (c169g a [some (obM b)]) ?_
  conv => whnf
  refine CallK.mk' (.s (.lf (.own 3 0 3 0 3))) [some (obM a), some (obM b), some (rowsO headS 5), some (rowsO tailS 3)] (c171g a [some (obM b), some (rowsO headS 5)]) ?_
  conv => whnf
  refine And.intro (by decide) ?_
  conv => whnf
  refine And.intro (by decide) ?_
  conv => whnf
  refine And.intro ⟨rfl, by decide⟩ ?_
  conv => whnf
  refine CallK.mk' (.s (.lf (.own 5 0 3 0 5))) _ (c169k b (obM a) [none, some (rowsO tailS 3), some _]) ?_
  conv => whnf
  refine CallK.mk' (.s (.lf (.own 6 0 3 0 3))) _ (c171k b (obM a) [none, some (rowsO tailS 3), some _, some (rowsO headS1 5)]) ?_
  conv => whnf
  refine And.intro (by decide) ?_
  conv => whnf
  refine And.intro (by decide) ?_
  conv => whnf
  refine And.intro ⟨rfl, by decide⟩ ?_
  conv => whnf
  refine LoopK.mk1 (fun k : Nat => [(16, vI k), (15, vI 8), (5, .s (.lf (.own 4 0 3 0 8))), (6, .s (.lf (.own 7 0 3 0 8))), (2, .s (.lf (.ptr 0 0))), (3, .s (.lf (.ptr 1 0)))]) (fun k => hpS a b) (fun k => k ≤ 8 ∧ ∀ j, j < k → rv a j = rv b j) (fun k => 8 - k) 0 ⟨by omega, fun j hj => by omega⟩ ?_ ?_
  · exact Weak.of ⟨rfl, obM_ws a, rfl, obM_ws b, rfl, rows_ws (m := 8) rfl rfl, rfl, ⟨.recs rfl fun i hi j hj => wl_eq (rows8_cat hi hj) (rows_wl (l := rowsS) (n := 8) (m := 8) rfl rfl hi hj), trivial⟩, rfl, rows_ws (m := 8) rfl rfl, rfl, ⟨.recs rfl fun i hi j hj => wl_eq (rows8_cat1 hi hj) (rows_wl (l := rowsS1) (n := 8) (m := 8) rfl rfl hi hj), trivial⟩, trivial⟩ (by simp) ⟨okF.wv trivial, okF.wv trivial, WV.lf (WL.own rfl rfl rfl rfl), WV.lf (WL.own rfl rfl rfl rfl), okF.wv rfl, okF.wv rfl, trivial⟩
  rintro k ⟨hk8, hk⟩
  conv => whnf
  by_cases hlt : k < 8
  · refine CaseB.of_true (decide_eq_true (by omega)) ?_
    conv => whnf
    have h8 : k = 0 ∨ k = 1 ∨ k = 2 ∨ k = 3 ∨ k = 4 ∨ k = 5 ∨ k = 6 ∨ k = 7 := by omega
    rcases h8 with rfl | rfl | rfl | rfl | rfl | rfl | rfl | rfl
    · refine DrawK.mk1 tok mixed [0, 0, 3, 7, 15, 31, 63, 0, 0, 384, 896, 1920, 3968, 8064, 16383] [(0, 0, []), (1, 0, []), (7, 0, []), (8, 0, []), (2, 1, [0]), (3, 1, [0]), (4, 1, [0]), (5, 1, [0]), (6, 1, [0]), (9, 1, [0]), (10, 1, [0]), (11, 1, [0]), (12, 1, [0]), (13, 1, [0]), (14, 0, [])] (by kernel_rfl) ?_
      conv => whnf
      repeat (refine And.intro (by omega) ?_; conv => whnf)
      by_cases he : a.cl = b.cl
      · refine CaseB.of_false (by simp [he]) ?_
        conv => whnf
        refine ⟨1, ⟨by omega, fun j hj => ?_⟩, by decide, Weak.of (hpSW a b) (by simp) ⟨WV.lf (WL.int rfl), okF.wv trivial, WV.lf (WL.own rfl rfl rfl rfl), WV.lf (WL.own rfl rfl rfl rfl), okF.wv rfl, okF.wv rfl, trivial⟩⟩
        by_cases hj' : j = 0
        · rw [hj']; exact he
        · exact hk j (by omega)
      · refine CaseB.of_true (by simp [he]) ?_
        conv => whnf
        exact RetK.empty (WV.lf (WL.ff (decide_eq_false fun e => he (by rw [e]))))
    · refine DrawK.mk1 tok mixed [0, 0, 3, 7, 15, 31, 63, 0, 0, 384, 896, 1920, 3968, 8064, 16383] [(0, 0, []), (1, 0, []), (7, 0, []), (8, 0, []), (2, 1, [0]), (3, 1, [0]), (4, 1, [0]), (5, 1, [0]), (6, 1, [0]), (9, 1, [0]), (10, 1, [0]), (11, 1, [0]), (12, 1, [0]), (13, 1, [0]), (14, 0, [])] (by kernel_rfl) ?_
      conv => whnf
      repeat (refine And.intro (by omega) ?_; conv => whnf)
      by_cases he : a.sq = b.sq
      · refine CaseB.of_false (by simp [he]) ?_
        conv => whnf
        refine ⟨2, ⟨by omega, fun j hj => ?_⟩, by decide, Weak.of (hpSW a b) (by simp) ⟨WV.lf (WL.int rfl), okF.wv trivial, WV.lf (WL.own rfl rfl rfl rfl), WV.lf (WL.own rfl rfl rfl rfl), okF.wv rfl, okF.wv rfl, trivial⟩⟩
        by_cases hj' : j = 1
        · rw [hj']; exact he
        · exact hk j (by omega)
      · refine CaseB.of_true (by simp [he]) ?_
        conv => whnf
        exact RetK.empty (WV.lf (WL.ff (decide_eq_false fun e => he (by rw [e]))))
    · refine DrawK.mk1 tok mixed [0, 0, 3, 7, 15, 31, 63, 0, 0, 384, 896, 1920, 3968, 8064, 16383] [(0, 0, []), (1, 0, []), (7, 0, []), (8, 0, []), (2, 1, [0]), (3, 1, [0]), (4, 1, [0]), (5, 1, [0]), (6, 1, [0]), (9, 1, [0]), (10, 1, [0]), (11, 1, [0]), (12, 1, [0]), (13, 1, [0]), (14, 0, [])] (by kernel_rfl) ?_
      conv => whnf
      repeat (refine And.intro (by omega) ?_; conv => whnf)
      by_cases he : a.kd = b.kd
      · refine CaseB.of_false (by simp [he]) ?_
        conv => whnf
        refine ⟨3, ⟨by omega, fun j hj => ?_⟩, by decide, Weak.of (hpSW a b) (by simp) ⟨WV.lf (WL.int rfl), okF.wv trivial, WV.lf (WL.own rfl rfl rfl rfl), WV.lf (WL.own rfl rfl rfl rfl), okF.wv rfl, okF.wv rfl, trivial⟩⟩
        by_cases hj' : j = 2
        · rw [hj']; exact he
        · exact hk j (by omega)
      · refine CaseB.of_true (by simp [he]) ?_
        conv => whnf
        exact RetK.empty (WV.lf (WL.ff (decide_eq_false fun e => he (by rw [e]))))
    · refine DrawK.mk1 tok mixed [0, 0, 3, 7, 15, 31, 63, 0, 0, 384, 896, 1920, 3968, 8064, 16383] [(0, 0, []), (1, 0, []), (7, 0, []), (8, 0, []), (2, 1, [0]), (3, 1, [0]), (4, 1, [0]), (5, 1, [0]), (6, 1, [0]), (9, 1, [0]), (10, 1, [0]), (11, 1, [0]), (12, 1, [0]), (13, 1, [0]), (14, 0, [])] (by kernel_rfl) ?_
      conv => whnf
      repeat (refine And.intro (by omega) ?_; conv => whnf)
      by_cases he : a.id = b.id
      · refine CaseB.of_false (by simp [he]) ?_
        conv => whnf
        refine ⟨4, ⟨by omega, fun j hj => ?_⟩, by decide, Weak.of (hpSW a b) (by simp) ⟨WV.lf (WL.int rfl), okF.wv trivial, WV.lf (WL.own rfl rfl rfl rfl), WV.lf (WL.own rfl rfl rfl rfl), okF.wv rfl, okF.wv rfl, trivial⟩⟩
        by_cases hj' : j = 3
        · rw [hj']; exact he
        · exact hk j (by omega)
      · refine CaseB.of_true (by simp [he]) ?_
        conv => whnf
        exact RetK.empty (WV.lf (WL.ff (decide_eq_false fun e => he (by rw [e]))))
    · refine DrawK.mk1 tok mixed [0, 0, 3, 7, 15, 31, 63, 0, 0, 384, 896, 1920, 3968, 8064, 16383] [(0, 0, []), (1, 0, []), (7, 0, []), (8, 0, []), (2, 1, [0]), (3, 1, [0]), (4, 1, [0]), (5, 1, [0]), (6, 1, [0]), (9, 1, [0]), (10, 1, [0]), (11, 1, [0]), (12, 1, [0]), (13, 1, [0]), (14, 0, [])] (by kernel_rfl) ?_
      conv => whnf
      repeat (refine And.intro (by omega) ?_; conv => whnf)
      by_cases he : a.ep = b.ep
      · refine CaseB.of_false (by simp [he]) ?_
        conv => whnf
        refine ⟨5, ⟨by omega, fun j hj => ?_⟩, by decide, Weak.of (hpSW a b) (by simp) ⟨WV.lf (WL.int rfl), okF.wv trivial, WV.lf (WL.own rfl rfl rfl rfl), WV.lf (WL.own rfl rfl rfl rfl), okF.wv rfl, okF.wv rfl, trivial⟩⟩
        by_cases hj' : j = 4
        · rw [hj']; exact he
        · exact hk j (by omega)
      · refine CaseB.of_true (by simp [he]) ?_
        conv => whnf
        exact RetK.empty (WV.lf (WL.ff (decide_eq_false fun e => he (by rw [e]))))
    · refine DrawK.mk1 tok mixed [0, 0, 3, 7, 15, 31, 63, 0, 0, 384, 896, 1920, 3968, 8064, 16383] [(0, 0, []), (1, 0, []), (7, 0, []), (8, 0, []), (2, 1, [0]), (3, 1, [0]), (4, 1, [0]), (5, 1, [0]), (6, 1, [0]), (9, 1, [0]), (10, 1, [0]), (11, 1, [0]), (12, 1, [0]), (13, 1, [0]), (14, 0, [])] (by kernel_rfl) ?_
      conv => whnf
      repeat (refine And.intro (by omega) ?_; conv => whnf)
      by_cases he : a.nu = b.nu
      · refine CaseB.of_false (by simp [he]) ?_
        conv => whnf
        refine ⟨6, ⟨by omega, fun j hj => ?_⟩, by decide, Weak.of (hpSW a b) (by simp) ⟨WV.lf (WL.int rfl), okF.wv trivial, WV.lf (WL.own rfl rfl rfl rfl), WV.lf (WL.own rfl rfl rfl rfl), okF.wv rfl, okF.wv rfl, trivial⟩⟩
        by_cases hj' : j = 5
        · rw [hj']; exact he
        · exact hk j (by omega)
      · refine CaseB.of_true (by simp [he]) ?_
        conv => whnf
        exact RetK.empty (WV.lf (WL.ff (decide_eq_false fun e => he (by rw [e]))))
    · refine DrawK.mk1 tok mixed [0, 0, 3, 7, 15, 31, 63, 0, 0, 384, 896, 1920, 3968, 8064, 16383] [(0, 0, []), (1, 0, []), (7, 0, []), (8, 0, []), (2, 1, [0]), (3, 1, [0]), (4, 1, [0]), (5, 1, [0]), (6, 1, [0]), (9, 1, [0]), (10, 1, [0]), (11, 1, [0]), (12, 1, [0]), (13, 1, [0]), (14, 0, [])] (by kernel_rfl) ?_
      conv => whnf
      repeat (refine And.intro (by omega) ?_; conv => whnf)
      by_cases he : a.by' = b.by'
      · refine CaseB.of_false (by simp [he]) ?_
        conv => whnf
        refine ⟨7, ⟨by omega, fun j hj => ?_⟩, by decide, Weak.of (hpSW a b) (by simp) ⟨WV.lf (WL.int rfl), okF.wv trivial, WV.lf (WL.own rfl rfl rfl rfl), WV.lf (WL.own rfl rfl rfl rfl), okF.wv rfl, okF.wv rfl, trivial⟩⟩
        by_cases hj' : j = 6
        · rw [hj']; exact he
        · exact hk j (by omega)
      · refine CaseB.of_true (by simp [he]) ?_
        conv => whnf
        exact RetK.empty (WV.lf (WL.ff (decide_eq_false fun e => he (by rw [e]))))
    · refine DrawK.mk1 tok mixed [0, 0, 3, 7, 15, 31, 63, 0, 0, 384, 896, 1920, 3968, 8064, 16383] [(0, 0, []), (1, 0, []), (7, 0, []), (8, 0, []), (2, 1, [0]), (3, 1, [0]), (4, 1, [0]), (5, 1, [0]), (6, 1, [0]), (9, 1, [0]), (10, 1, [0]), (11, 1, [0]), (12, 1, [0]), (13, 1, [0]), (14, 0, [])] (by kernel_rfl) ?_
      conv => whnf
      repeat (refine And.intro (by omega) ?_; conv => whnf)
      by_cases he : a.tm = b.tm
      · refine CaseB.of_false (by simp [he]) ?_
        conv => whnf
        refine ⟨8, ⟨by omega, fun j hj => ?_⟩, by decide, Weak.of (hpSW a b) (by simp) ⟨WV.lf (WL.int rfl), okF.wv trivial, WV.lf (WL.own rfl rfl rfl rfl), WV.lf (WL.own rfl rfl rfl rfl), okF.wv rfl, okF.wv rfl, trivial⟩⟩
        by_cases hj' : j = 7
        · rw [hj']; exact he
        · exact hk j (by omega)
      · refine CaseB.of_true (by simp [he]) ?_
        conv => whnf
        exact RetK.empty (WV.lf (WL.ff (decide_eq_false fun e => he (by rw [e]))))
  refine CaseB.of_false (decide_eq_false (by omega)) ?_
  conv => whnf
  obtain rfl : k = 8 := by omega
  have e0 : a.cl = b.cl := hk 0 (by decide)
  have e1 : a.sq = b.sq := hk 1 (by decide)
  have e2 : a.kd = b.kd := hk 2 (by decide)
  have e3 : a.id = b.id := hk 3 (by decide)
  have e4 : a.ep = b.ep := hk 4 (by decide)
  have e5 : a.nu = b.nu := hk 5 (by decide)
  have e6 : a.by' = b.by' := hk 6 (by decide)
  have e7 : a.tm = b.tm := hk 7 (by decide)
  refine CallK.mk' _ _ ((c31 a.cs b.cs ha).free _ ⟨rowC_free (cs := a.cs), rowC_free (cs := b.cs), trivial⟩ trivial) ?_
  conv => whnf
  by_cases hcs : a.cs = b.cs
  rotate_left
  · refine CaseB.of_false (decide_eq_false hcs) ?_
    conv => whnf
    exact RetK.empty (WV.lf (WL.ff (decide_eq_false fun e => hcs (by rw [e]))))
  refine CaseB.of_true (decide_eq_true hcs) ?_
  conv => whnf
  by_cases hsp : a.sp = b.sp
  rotate_left
  · refine CaseB.of_false (decide_eq_false hsp) ?_
    conv => whnf
    exact RetK.empty (WV.lf (WL.ff (decide_eq_false fun e => hsp (by rw [e]))))
  refine CaseB.of_true (decide_eq_true hsp) ?_
  conv => whnf
  by_cases hnm : a.nm = b.nm
  rotate_left
  · refine CaseB.of_false (decide_eq_false hnm) ?_
    conv => whnf
    exact RetK.empty (WV.lf (WL.ff (decide_eq_false fun e => hnm (by rw [e]))))
  refine CaseB.of_true (decide_eq_true hnm) ?_
  conv => whnf
  refine CallK.mk' _ _ ((c178 a.ps b.ps hp).free _ ⟨rowP_free (ps := a.ps), rowP_free (ps := b.ps), trivial⟩ trivial) ?_
  conv => whnf
  exact RetK.empty (WV.lf (WL.bool (by rw [decide_eq_decide, cm_eq]; simp [e0, e1, e2, e3, e4, e5, e6, e7, hcs, hsp, hnm])))
end Go.Sym.Md

set_option linter.unusedVariables false
set_option linter.unusedSimpArgs false
set_option maxRecDepth 10000
namespace Go.Sym.Md
open Go Go.Sym

/-! ### Pieces are read -/
def readP (r : Rd) : PcV × Rd :=
  (⟨(textR r 32).1, (numR (textR r 32).2 256).1⟩, if okP ⟨(textR r 32).1, (numR (textR r 32).2 256).1⟩ then (numR (textR r 32).2 256).2 else failR (numR (textR r 32).2 256).2 3)
def readsP : Nat → Rd → List PcV × Rd
  | 0, r => ([], r)
  | n + 1, r => if r.e ≠ 0 then ([], r) else ((readP r).1 :: (readsP n (readP r).2).1, (readsP n (readP r).2).2)
def allPc (r : Rd) : List PcV × Rd := readsP (numR r 8).1.toNat (numR r 8).2
def keptP (x : List PcV × Rd) : List PcV := if x.2.e ≠ 0 then [] else x.1

theorem readP_ok {r : Rd} (h : r.ok) : (readP r).2.ok := by
  have h2 := numR_ok (textR_ok h 32) 256
  unfold readP
  simp only []
  split
  · exact h2
  · exact failR_ok h2 (by decide) (by decide)
theorem readsP_ok : ∀ (n : Nat) {r : Rd}, r.ok → (readsP n r).2.ok
  | 0, r, h => h
  | n + 1, r, h => by
    unfold readsP
    split
    · exact h
    · exact readsP_ok n (readP_ok h)
theorem allPc_ok {r : Rd} (h : r.ok) : (allPc r).2.ok := readsP_ok _ (numR_ok h 8)
theorem readsP_err (n : Nat) {r : Rd} (h : r.e ≠ 0) : readsP n r = ([], r) := by
  cases n with
  | zero => rfl
  | succ n => unfold readsP; rw [if_pos h]
theorem readsP_len : ∀ (n : Nat) (r : Rd), (readsP n r).1.length ≤ n
  | 0, r => by simp [readsP]
  | n + 1, r => by
    unfold readsP
    split
    · simp
    · simp only [List.length_cons]
      have := readsP_len n (readP r).2
      omega
theorem allPc_len {r : Rd} (h : r.ok) : (allPc r).1.length ≤ 8 := by
  have h1 := numR_range h 8
  have h2 := readsP_len (numR r 8).1.toNat (numR r 8).2
  unfold allPc
  omega

theorem rowP_snoc (cs : List PcV) (c : PcV) (i j : Nat) (hi : i < cs.length + 1) (hj : j < 2) : catRow 2 cs.length (fun i j => rowP cs (0 + i) j) (fun i j => cellD ([] ++ ([Seg.one (LV.str c.s), Seg.one (LV.int IntKind.i64 c.z)] ++ [])) (i * 2 + j)) i j = rowP (cs ++ [c]) i j := by
  unfold catRow
  by_cases h : i < cs.length
  · rw [show Nat.blt i cs.length = true by simp [Nat.blt, Nat.ble_eq]; omega]
    show rowP cs (0 + i) j = _
    unfold rowP
    rw [Nat.zero_add, show (cs ++ [c]).getD i pc0 = cs.getD i pc0 by rw [List.getD_eq_getElem?_getD, List.getD_eq_getElem?_getD, List.getElem?_append_left h]]
  · have e : i = cs.length := by omega
    subst e
    rw [show Nat.blt cs.length cs.length = false by cases hb : Nat.blt cs.length cs.length <;> first | rfl | (have := blt_true hb; omega)]
    show cellD _ ((cs.length - cs.length) * 2 + j) = _
    unfold rowP
    rw [Nat.sub_self, show (cs ++ [c]).getD cs.length pc0 = c by rw [List.getD_eq_getElem?_getD, List.getElem?_append_right (Nat.le_refl _), Nat.sub_self]; rfl]
    have : j = 0 ∨ j = 1 := by omega
    rcases this with rfl | rfl <;> rfl

attribute [local irreducible] numF checkF hasF okC boundF numR textR readC okP

/-- manifest.readPiece -/
theorem c211 (r : Rd) (h : r.ok) : SCalls Proofs.Try.prog 211 [.s (.lf (.ptr 0 0))] [some (obR r)] (vPc (readP r).1) [some (obR (readP r).2)] := by
  have o1 := textR_ok h 32
  have k1 := c145 r 32 h
  have hR : readP r = readP r := rfl
  conv at hR => rhs; unfold readP
  obtain ⟨s, hs⟩ : ∃ s, (textR r 32).1 = s := ⟨_, rfl⟩
  obtain ⟨r1, hr1⟩ : ∃ r1, (textR r 32).2 = r1 := ⟨_, rfl⟩
  rw [hs, hr1] at k1 hR
  rw [hr1] at o1
  have o2 := numR_ok o1 256
  have k2 := c140 r1 256 o1
  obtain ⟨z, hz⟩ : ∃ z, (numR r1 256).1 = z := ⟨_, rfl⟩
  obtain ⟨r2, hr2⟩ : ∃ r2, (numR r1 256).2 = r2 := ⟨_, rfl⟩
  rw [hz, hr2] at k2 hR
  rw [hr2] at o2
  rw [hR]
  refine SCalls.intro tok Proofs.Try.func211 ?_
  conv => whnf
  refine CallK.mk' _ _ (frR _ k1 ⟨trivial, trivial⟩ trivial) ?_
  conv => whnf
  refine CallK.mk' _ _ (frR _ k2 ⟨trivial, trivial⟩ trivial) ?_
  conv => whnf
  refine CallK.mk' _ _ ((c196 ⟨s, z⟩).free _ ⟨⟨trivial, trivial, trivial⟩, trivial⟩ trivial) ?_
  conv => whnf
  cases hok : okP ⟨s, z⟩ with
  | false =>
    refine CaseB.of_true rfl ?_
    conv => whnf
    refine CallK.mk' _ _ (frR _ (c146 r2 3) ⟨trivial, trivial⟩ trivial) ?_
    conv => whnf
    exact RetK.of ⟨rfl, obR_ws _, trivial⟩ (by simp) (WV.agg ⟨.one (WL.str rfl), .one (WL.int rfl), trivial⟩)
  | true =>
    refine CaseB.of_false rfl ?_
    conv => whnf
    exact RetK.of ⟨rfl, obR_ws _, trivial⟩ (by simp) (WV.agg ⟨.one (WL.str rfl), .one (WL.int rfl), trivial⟩)

theorem wl_of_eqP {D : Rel} {u v : LV} (h : u = v) (hv : WL D v v) : WL D u v := by subst h; exact hv
def acPV (nm : Nat) : List PcV → FV
  | [] => .s (.lf .sl0)
  | a :: l => .s (.lf (.own nm 0 2 0 (a :: l).length))
def acPH : List PcV → Hp
  | [] => []
  | a :: l => [some ⟨58, [.recs 2 (a :: l).length (rowP (a :: l))]⟩]

/-- manifest.listed, of pieces -/
theorem c210 (r : Rd) (hr : r.ok) : SCalls Proofs.Try.prog 210 [.s (.lf (.ptr 0 0)), vI 8, .s (.lf (.fn 211 0 fun _ => .any))] [some (obR r)] (.s (.lf (vQl (keptP (allPc r))))) [some (obR (allPc r).2)] := by
  have hn8 := numR_range hr 8
  have hno := numR_ok hr 8
  have h140 := c140 r 8 hr
  obtain ⟨n, hn⟩ : ∃ n : Nat, (numR r 8).1 = n := ⟨(numR r 8).1.toNat, by omega⟩
  obtain ⟨r1, hr1⟩ : ∃ r1, (numR r 8).2 = r1 := ⟨_, rfl⟩
  have hA : allPc r = readsP n r1 := by unfold allPc; rw [hn, hr1, Int.toNat_natCast]
  have hz1 := numR_err (r := r) (m := 8)
  rw [hr1, hn] at hz1
  rw [hn, hr1] at h140
  rw [hr1] at hno
  rw [hn] at hn8
  rw [hA]
  refine SCalls.intro tok Proofs.Try.func210 ?_
  conv => whnf
  refine CallK.mk' _ _ h140 ?_
  conv => whnf
  refine LoopK.mk3 (fun (m : Nat) (q : Rd) (acc : List PcV) => [(8, vI m), (7, acPV 1 acc), (2, .s (.lf (.fn 211 0 fun _ => .any))), (0, .s (.lf (.ptr 0 0)))]) (fun m q acc => some (obR q) :: acPH acc)
    (fun m q acc => q.ok ∧ (q.e ≠ 0 → n = 0) ∧ acc ++ (readsP m q).1 = (readsP n r1).1 ∧ (readsP m q).2 = (readsP n r1).2 ∧ acc.length + m = n) (fun m q acc => m) n r1 [] ⟨hno, fun h => by have := hz1 h; omega, rfl, rfl, by simp⟩ ?_ ?_
  · exact Weak.of ⟨rfl, obR_ws _, trivial⟩ (by simp) ⟨okF.wv trivial, okF.wv trivial, WV.lf (okL.wl (fun i hi => by omega)), okF.wv rfl, trivial⟩
  rintro m q acc ⟨hq, hqe, ha, hb', hl⟩
  conv => whnf
  cases m with
  | zero =>
    refine CaseB.of_false (decide_eq_false (by omega)) ?_
    conv => whnf
    have hS : readsP 0 q = ([], q) := rfl
    rw [hS, List.append_nil] at ha
    rw [hS] at hb'
    have hK : keptP (readsP n r1) = acc := by
      unfold keptP
      rw [← hb', ← ha]
      by_cases h : q.e = 0
      · rw [if_neg (fun k => k h)]
      · have hn0 := hqe h
        rw [if_pos h]
        exact (List.length_eq_zero_iff.1 (by omega)).symm
    have hW : (readsP n r1).2 = q := hb'.symm
    rw [hW, hK]
    cases acc with
    | nil =>
      conv => whnf
      exact RetK.of ⟨rfl, obR_ws _, trivial⟩ (by simp) (WV.lf WL.sl0ro)
    | cons a l =>
      conv => whnf
      exact RetK.of ⟨rfl, obR_ws _, trivial⟩ (by simp) (WV.lf (lentP (ty := 58) rfl rfl rfl (fun _ _ _ _ => rfl) (gone_one (by decide))))
  | succ m =>
    refine CaseB.of_true (decide_eq_true (by omega)) ?_
    conv => whnf
    have he : q.e = 0 := by
      by_cases h : q.e = 0
      · exact h
      · have := hqe h; omega
    have hS : readsP (m + 1) q = ((readP q).1 :: (readsP m (readP q).2).1, (readsP m (readP q).2).2) := by conv => lhs; unfold readsP; rw [if_neg (fun h => h he)]
    rw [hS] at ha hb'
    have hq2 := readP_ok hq
    have h211 := c211 q hq
    obtain ⟨c, hc⟩ : ∃ c, (readP q).1 = c := ⟨_, rfl⟩
    obtain ⟨q2, hq2'⟩ : ∃ q2, (readP q).2 = q2 := ⟨_, rfl⟩
    rw [hc, hq2'] at ha h211
    rw [hq2'] at hb' hq2
    have ha' : acc ++ [c] ++ (readsP m q2).1 = (readsP n r1).1 := by rw [← ha]; simp
    cases acc with
    | nil =>
      conv => whnf
      refine CallK.mk' _ _ (frR _ h211 trivial ⟨trivial, trivial, trivial⟩) ?_
      conv => whnf
      refine CallK.mk' _ _ (frR _ (c68 q2) trivial trivial) ?_
      conv => whnf
      by_cases he2 : q2.e = 0
      rotate_left
      · refine CaseB.of_true (decide_eq_true he2) ?_
        conv => whnf
        have hS2 := readsP_err m he2
        rw [hS2] at hb'
        have hW : (readsP n r1).2 = q2 := hb'.symm
        have hK : keptP (readsP n r1) = [] := by unfold keptP; rw [hW, if_pos he2]
        rw [hW, hK]
        exact RetK.of ⟨rfl, obR_ws _, trivial⟩ (by simp) (WV.lf WL.sl0ro)
      refine CaseB.of_false (decide_eq_false (fun h => h he2)) ?_
      conv => whnf
      refine Or.inr ?_
      conv => whnf
      refine And.intro (by show (0 + 1) * 24 ≤ _; omega) ?_
      conv => whnf
      refine ⟨(m, q2, [c]), ⟨hq2, fun h => absurd he2 h, ha', hb', by simp only [List.length_nil, List.length_cons] at hl ⊢; omega⟩, by show m < m + 1; omega, ?_⟩
      exact Weak.perm [0, 2] ⟨⟨rfl, obR_ws _⟩, ⟨rfl, .recs rfl fun i hi j hj => by
          have hi : i < 0 + 1 := hi
          obtain rfl : i = 0 := by omega
          have : j = 0 ∨ j = 1 := by have : j < 2 := hj; omega
          rcases this with rfl | rfl
          · exact plainL.wl (v := .str c.s) trivial
          · exact plainL.wl (v := .int .i64 c.z) trivial, trivial⟩, trivial⟩
        ⟨WV.lf (WL.int (by rw [wrap_i64 (by omega) (by omega)]; omega)), WV.lf (WL.own rfl rfl rfl rfl), WV.lf (freeL.wl (v := .fn 211 0 fun _ => .any) (fun i hi => by omega)), WV.lf (WL.ptr rfl rfl), trivial⟩ rfl (by show 2 ≤ 2; omega) rfl (by show 1 ≤ 2; omega)
    | cons a l =>
      conv => whnf
      refine CallK.mk' _ _ (frR _ h211 trivial ⟨trivial, trivial, trivial⟩) ?_
      conv => whnf
      refine CallK.mk' _ _ (frR _ (c68 q2) trivial trivial) ?_
      conv => whnf
      by_cases he2 : q2.e = 0
      rotate_left
      · refine CaseB.of_true (decide_eq_true he2) ?_
        conv => whnf
        have hS2 := readsP_err m he2
        rw [hS2] at hb'
        have hW : (readsP n r1).2 = q2 := hb'.symm
        have hK : keptP (readsP n r1) = [] := by unfold keptP; rw [hW, if_pos he2]
        rw [hW, hK]
        exact RetK.of ⟨rfl, obR_ws _, trivial⟩ (by simp) (WV.lf WL.sl0ro)
      refine CaseB.of_false (decide_eq_false (fun h => h he2)) ?_
      conv => whnf
      refine Or.inr ?_
      conv => whnf
      refine And.intro (by omega) ?_
      conv => whnf
      refine And.intro ⟨rfl, by show ((a :: l).length + 1) * 24 ≤ _; omega⟩ ?_
      conv => whnf
      refine ⟨(m, q2, a :: l ++ [c]), ⟨hq2, fun h => absurd he2 h, ha', hb', by show (a :: l ++ [c]).length + m = n; rw [List.length_append]; simp only [List.length_cons, List.length_nil] at hl ⊢; omega⟩, by show m < m + 1; omega, ?_⟩
      have hlc : (a :: l).length + 1 = (a :: (l ++ [c])).length := by simp
      exact Weak.perm [0, 3] ⟨⟨rfl, obR_ws _⟩, ⟨rfl, .recs hlc fun i hi j hj => wl_of_eqP (rowP_snoc (a :: l) c i j hi hj) (rowP_wl hj), trivial⟩, trivial⟩
        ⟨WV.lf (WL.int (by rw [wrap_i64 (by omega) (by omega)]; omega)), WV.lf (WL.own rfl rfl rfl hlc), WV.lf (freeL.wl (v := .fn 211 0 fun _ => .any) (fun i hi => by omega)), WV.lf (WL.ptr rfl rfl), trivial⟩ rfl (by show 2 ≤ 2; omega) rfl (by show 1 ≤ 2; omega)

/-- manifest.ReadPieces -/
theorem c180 (r : Rd) (hr : r.ok) : SCalls Proofs.Try.prog 180 [.s (.lf (.ptr 0 0))] [some (obR r)] (.s (.lf (vQl (keptP (allPc r))))) [some (obR (allPc r).2)] := by
  refine SCalls.intro tok Proofs.Try.func180 ?_
  conv => whnf
  refine CallK.mk' _ _ (c210 r hr) ?_
  conv => whnf
  exact RetK.of ⟨rfl, obR_ws _, trivial⟩ (by simp) (okF.wv rowP_ok)
/-- baileyref20.ReadPieces -/
theorem c181 (r : Rd) (hr : r.ok) : SCalls Proofs.Try.prog 181 [.s (.lf (.ptr 0 0))] [some (obQ r)] (.s (.lf (vQl (keptP (allPc r))))) [some (obQ (allPc r).2)] := by
  have hn8 := numR_range hr 8
  have hno := numR_ok hr 8
  have h147 := c147 r 8 hr
  obtain ⟨n, hn⟩ : ∃ n : Nat, (numR r 8).1 = n := ⟨(numR r 8).1.toNat, by omega⟩
  obtain ⟨r1, hr1⟩ : ∃ r1, (numR r 8).2 = r1 := ⟨_, rfl⟩
  have hA : allPc r = readsP n r1 := by unfold allPc; rw [hn, hr1, Int.toNat_natCast]
  rw [hn, hr1] at h147
  rw [hr1] at hno
  rw [hn] at hn8
  rw [hA]
  refine SCalls.intro tok Proofs.Try.func181 ?_
  conv => whnf
  refine CallK.mk' _ _ h147 ?_
  conv => whnf
  refine LoopK.mk3 (fun (m : Nat) (q : Rd) (acc : List PcV) => [(5, vI ((n - m : Nat) : Int)), (4, vI n), (3, acPV 1 acc), (2, .s (.lf .sl0)), (0, .s (.lf (.ptr 0 0)))]) (fun m q acc => some (obQ q) :: acPH acc)
    (fun m q acc => q.ok ∧ acc ++ (readsP m q).1 = (readsP n r1).1 ∧ (readsP m q).2 = (readsP n r1).2 ∧ acc.length + m = n) (fun m q acc => m) n r1 [] ⟨hno, rfl, rfl, by simp⟩ ?_ ?_
  · exact Weak.of ⟨rfl, okGs.ws (by exact ⟨trivial, trivial, trivial⟩), trivial⟩ (by simp) ⟨WV.lf (WL.int (by omega)), okF.wv trivial, okF.wv trivial, okF.wv trivial, okF.wv rfl, trivial⟩
  rintro m q acc ⟨hq, ha, hb', hl⟩
  conv => whnf
  cases m with
  | zero =>
    repeat (refine CaseB.of_false (decide_eq_false (show ¬ ((n - 0 : Nat) : Int) < (n : Int) by omega)) ?_; conv => whnf)
    have hS : readsP 0 q = ([], q) := rfl
    rw [hS, List.append_nil] at ha
    rw [hS] at hb'
    refine CallK.mk' _ _ (frQ _ (c69 q) trivial trivial) ?_
    conv => whnf
    have hK : keptP (readsP n r1) = if q.e ≠ 0 then [] else acc := by unfold keptP; rw [← hb', ← ha]
    have hW : (readsP n r1).2 = q := hb'.symm
    rw [hW, hK]
    by_cases hz : q.e = 0
    · refine CaseB.of_false (decide_eq_false (fun h => h hz)) ?_
      conv => whnf
      rw [if_neg (fun h => h hz)]
      cases acc with
      | nil => exact RetK.of ⟨rfl, okGs.ws (by exact ⟨trivial, trivial, trivial⟩), trivial⟩ (by simp) (WV.lf WL.sl0ro)
      | cons a l => exact RetK.of ⟨rfl, okGs.ws (by exact ⟨trivial, trivial, trivial⟩), trivial⟩ (by simp) (WV.lf (lentP (ty := 58) rfl rfl rfl (fun _ _ _ _ => rfl) (gone_one (by decide))))
    · refine CaseB.of_true (decide_eq_true hz) ?_
      conv => whnf
      rw [if_pos hz]
      cases acc with
      | nil => exact RetK.of ⟨rfl, okGs.ws (by exact ⟨trivial, trivial, trivial⟩), trivial⟩ (by simp) (WV.lf WL.sl0ro)
      | cons a l => exact RetK.of ⟨rfl, okGs.ws (by exact ⟨trivial, trivial, trivial⟩), trivial⟩ (by simp) (WV.lf WL.sl0ro)
  | succ m =>
    repeat (refine CaseB.of_true (decide_eq_true (show ((n - (m + 1) : Nat) : Int) < (n : Int) by omega)) ?_; conv => whnf)
    refine CallK.mk' _ _ (frQ _ (c69 q) trivial trivial) ?_
    conv => whnf
    by_cases he : q.e = 0
    · repeat ((first | refine CaseB.of_true (decide_eq_true he) ?_ | refine CaseB.of_true (decide_eq_true (show ((n - (m + 1) : Nat) : Int) < (n : Int) by omega)) ?_); conv => whnf)
      have hS : readsP (m + 1) q = ((readP q).1 :: (readsP m (readP q).2).1, (readsP m (readP q).2).2) := by conv => lhs; unfold readsP; rw [if_neg (fun h => h he)]
      rw [hS] at ha hb'
      have hq2 := readP_ok hq
      have o1 := textR_ok hq 32
      have k1 := c149 q 32 hq
      have hR : readP q = readP q := rfl
      conv at hR => rhs; unfold readP
      obtain ⟨s, hs⟩ : ∃ s, (textR q 32).1 = s := ⟨_, rfl⟩
      obtain ⟨r3, hr3⟩ : ∃ r3, (textR q 32).2 = r3 := ⟨_, rfl⟩
      rw [hs, hr3] at k1 hR
      rw [hr3] at o1
      have o2 := numR_ok o1 256
      have k2 := c147 r3 256 o1
      obtain ⟨z, hz⟩ : ∃ z, (numR r3 256).1 = z := ⟨_, rfl⟩
      obtain ⟨r2, hr2⟩ : ∃ r2, (numR r3 256).2 = r2 := ⟨_, rfl⟩
      rw [hz, hr2] at k2 hR
      rw [hr2] at o2
      rw [hR] at ha hb' hq2
      have ha' : acc ++ [⟨s, z⟩] ++ (readsP m (if okP ⟨s, z⟩ = true then r2 else failR r2 3)).1 = (readsP n r1).1 := by rw [← ha]; simp
      obtain ⟨c, hc⟩ : ∃ c : PcV, c = ⟨s, z⟩ := ⟨_, rfl⟩
      obtain ⟨q2, hq2'⟩ : ∃ q2, (if okP ⟨s, z⟩ = true then r2 else failR r2 3) = q2 := ⟨_, rfl⟩
      rw [hq2', ← hc] at ha'
      rw [hq2'] at hq2 hb'
      cases acc with
      | nil =>
        conv => whnf
        refine CallK.mk' _ _ (frQ _ k1 ⟨trivial, trivial⟩ trivial) ?_
        conv => whnf
        refine CallK.mk' _ _ (frQ _ k2 ⟨trivial, trivial⟩ trivial) ?_
        conv => whnf
        refine CallK.mk' _ _ (frQ _ (c69 r2) trivial trivial) ?_
        conv => whnf
        by_cases he2 : r2.e = 0
        rotate_left
        · refine CaseB.of_false (decide_eq_false he2) ?_
          conv => whnf
          have hF : (if okP ⟨s, z⟩ = true then r2 else failR r2 3) = r2 := by rw [failR_err he2]; split <;> rfl
          rw [hF] at hq2'
          refine Or.inr ?_
          conv => whnf
          refine And.intro (by show (0 + 1) * 24 ≤ _; omega) ?_
          conv => whnf
          refine ⟨(m, q2, [c]), ⟨hq2, ha', hb', by simp only [List.length_nil, List.length_cons] at hl ⊢; omega⟩, by show m < m + 1; omega, ?_⟩
          rw [← hq2', hc]
          exact Weak.perm [0, 2] ⟨⟨rfl, obQ_ws _⟩, ⟨rfl, .recs rfl fun i hi j hj => by
              have hi : i < 0 + 1 := hi
              obtain rfl : i = 0 := by omega
              have : j = 0 ∨ j = 1 := by have : j < 2 := hj; omega
              rcases this with rfl | rfl
              · exact plainL.wl (v := .str s) trivial
              · exact plainL.wl (v := .int .i64 z) trivial, trivial⟩, trivial⟩
            ⟨WV.lf (WL.int (by rw [wrap_i64 (by omega) (by omega)]; show ((n - (m + 1) : Nat) : Int) + 1 = ((n - m : Nat) : Int); omega)), freeF.wv trivial, WV.lf (WL.own rfl rfl rfl rfl), freeF.wv trivial, WV.lf (WL.ptr rfl rfl), trivial⟩ rfl (by show 2 ≤ 2; omega) rfl (by show 1 ≤ 2; omega)
        refine CaseB.of_true (decide_eq_true he2) ?_
        conv => whnf
        refine CallK.mk' _ _ ((c197 ⟨s, z⟩).free _ ⟨⟨trivial, trivial, trivial⟩, trivial⟩ trivial) ?_
        conv => whnf
        cases hok : okP ⟨s, z⟩ with
        | false =>
          refine CaseB.of_true rfl ?_
          conv => whnf
          refine CallK.mk' _ _ (frQ _ (c148 r2 o2 3) ⟨trivial, trivial⟩ trivial) ?_
          conv => whnf
          rw [hok] at hq2'
          simp only [Bool.false_eq_true, if_false] at hq2'
          refine Or.inr ?_
          conv => whnf
          refine And.intro (by show (0 + 1) * 24 ≤ _; omega) ?_
          conv => whnf
          refine ⟨(m, q2, [c]), ⟨hq2, ha', hb', by simp only [List.length_nil, List.length_cons] at hl ⊢; omega⟩, by show m < m + 1; omega, ?_⟩
          rw [← hq2', hc]
          exact Weak.perm [0, 2] ⟨⟨rfl, obQ_ws _⟩, ⟨rfl, .recs rfl fun i hi j hj => by
              have hi : i < 0 + 1 := hi
              obtain rfl : i = 0 := by omega
              have : j = 0 ∨ j = 1 := by have : j < 2 := hj; omega
              rcases this with rfl | rfl
              · exact plainL.wl (v := .str s) trivial
              · exact plainL.wl (v := .int .i64 z) trivial, trivial⟩, trivial⟩
            ⟨WV.lf (WL.int (by rw [wrap_i64 (by omega) (by omega)]; show ((n - (m + 1) : Nat) : Int) + 1 = ((n - m : Nat) : Int); omega)), freeF.wv trivial, WV.lf (WL.own rfl rfl rfl rfl), freeF.wv trivial, WV.lf (WL.ptr rfl rfl), trivial⟩ rfl (by show 2 ≤ 2; omega) rfl (by show 1 ≤ 2; omega)
        | true =>
          refine CaseB.of_false rfl ?_
          conv => whnf
          rw [hok] at hq2'
          simp only [if_true] at hq2'
          refine Or.inr ?_
          conv => whnf
          refine And.intro (by show (0 + 1) * 24 ≤ _; omega) ?_
          conv => whnf
          refine ⟨(m, q2, [c]), ⟨hq2, ha', hb', by simp only [List.length_nil, List.length_cons] at hl ⊢; omega⟩, by show m < m + 1; omega, ?_⟩
          rw [← hq2', hc]
          exact Weak.perm [0, 2] ⟨⟨rfl, obQ_ws _⟩, ⟨rfl, .recs rfl fun i hi j hj => by
              have hi : i < 0 + 1 := hi
              obtain rfl : i = 0 := by omega
              have : j = 0 ∨ j = 1 := by have : j < 2 := hj; omega
              rcases this with rfl | rfl
              · exact plainL.wl (v := .str s) trivial
              · exact plainL.wl (v := .int .i64 z) trivial, trivial⟩, trivial⟩
            ⟨WV.lf (WL.int (by rw [wrap_i64 (by omega) (by omega)]; show ((n - (m + 1) : Nat) : Int) + 1 = ((n - m : Nat) : Int); omega)), freeF.wv trivial, WV.lf (WL.own rfl rfl rfl rfl), freeF.wv trivial, WV.lf (WL.ptr rfl rfl), trivial⟩ rfl (by show 2 ≤ 2; omega) rfl (by show 1 ≤ 2; omega)
      | cons a l =>
        conv => whnf
        refine CallK.mk' _ _ (frQ _ k1 ⟨trivial, trivial⟩ trivial) ?_
        conv => whnf
        refine CallK.mk' _ _ (frQ _ k2 ⟨trivial, trivial⟩ trivial) ?_
        conv => whnf
        refine CallK.mk' _ _ (frQ _ (c69 r2) trivial trivial) ?_
        conv => whnf
        by_cases he2 : r2.e = 0
        rotate_left
        · refine CaseB.of_false (decide_eq_false he2) ?_
          conv => whnf
          have hF : (if okP ⟨s, z⟩ = true then r2 else failR r2 3) = r2 := by rw [failR_err he2]; split <;> rfl
          rw [hF] at hq2'
          refine Or.inr ?_
          conv => whnf
          refine And.intro (by omega) ?_
          conv => whnf
          refine And.intro ⟨rfl, by show ((a :: l).length + 1) * 24 ≤ _; omega⟩ ?_
          conv => whnf
          refine ⟨(m, q2, a :: l ++ [c]), ⟨hq2, ha', hb', by show (a :: l ++ [c]).length + m = n; rw [List.length_append]; simp only [List.length_cons, List.length_nil] at hl ⊢; omega⟩, by show m < m + 1; omega, ?_⟩
          rw [← hq2', hc]
          have hlc : (a :: l).length + 1 = (a :: (l ++ [⟨s, z⟩])).length := by simp
          exact Weak.perm [0, 3] ⟨⟨rfl, obQ_ws _⟩, ⟨rfl, .recs hlc fun i hi j hj => wl_of_eqP (rowP_snoc (a :: l) ⟨s, z⟩ i j hi hj) (rowP_wl hj), trivial⟩, trivial⟩
            ⟨WV.lf (WL.int (by rw [wrap_i64 (by omega) (by omega)]; show ((n - (m + 1) : Nat) : Int) + 1 = ((n - m : Nat) : Int); omega)), freeF.wv trivial, WV.lf (WL.own rfl rfl rfl hlc), freeF.wv trivial, WV.lf (WL.ptr rfl rfl), trivial⟩ rfl (by show 2 ≤ 2; omega) rfl (by show 1 ≤ 2; omega)
        refine CaseB.of_true (decide_eq_true he2) ?_
        conv => whnf
        refine CallK.mk' _ _ ((c197 ⟨s, z⟩).free _ ⟨⟨trivial, trivial, trivial⟩, trivial⟩ trivial) ?_
        conv => whnf
        cases hok : okP ⟨s, z⟩ with
        | false =>
          refine CaseB.of_true rfl ?_
          conv => whnf
          refine CallK.mk' _ _ (frQ _ (c148 r2 o2 3) ⟨trivial, trivial⟩ trivial) ?_
          conv => whnf
          rw [hok] at hq2'
          simp only [Bool.false_eq_true, if_false] at hq2'
          refine Or.inr ?_
          conv => whnf
          refine And.intro (by omega) ?_
          conv => whnf
          refine And.intro ⟨rfl, by show ((a :: l).length + 1) * 24 ≤ _; omega⟩ ?_
          conv => whnf
          refine ⟨(m, q2, a :: l ++ [c]), ⟨hq2, ha', hb', by show (a :: l ++ [c]).length + m = n; rw [List.length_append]; simp only [List.length_cons, List.length_nil] at hl ⊢; omega⟩, by show m < m + 1; omega, ?_⟩
          rw [← hq2', hc]
          have hlc : (a :: l).length + 1 = (a :: (l ++ [⟨s, z⟩])).length := by simp
          exact Weak.perm [0, 3] ⟨⟨rfl, obQ_ws _⟩, ⟨rfl, .recs hlc fun i hi j hj => wl_of_eqP (rowP_snoc (a :: l) ⟨s, z⟩ i j hi hj) (rowP_wl hj), trivial⟩, trivial⟩
            ⟨WV.lf (WL.int (by rw [wrap_i64 (by omega) (by omega)]; show ((n - (m + 1) : Nat) : Int) + 1 = ((n - m : Nat) : Int); omega)), freeF.wv trivial, WV.lf (WL.own rfl rfl rfl hlc), freeF.wv trivial, WV.lf (WL.ptr rfl rfl), trivial⟩ rfl (by show 2 ≤ 2; omega) rfl (by show 1 ≤ 2; omega)
        | true =>
          refine CaseB.of_false rfl ?_
          conv => whnf
          rw [hok] at hq2'
          simp only [if_true] at hq2'
          refine Or.inr ?_
          conv => whnf
          refine And.intro (by omega) ?_
          conv => whnf
          refine And.intro ⟨rfl, by show ((a :: l).length + 1) * 24 ≤ _; omega⟩ ?_
          conv => whnf
          refine ⟨(m, q2, a :: l ++ [c]), ⟨hq2, ha', hb', by show (a :: l ++ [c]).length + m = n; rw [List.length_append]; simp only [List.length_cons, List.length_nil] at hl ⊢; omega⟩, by show m < m + 1; omega, ?_⟩
          rw [← hq2', hc]
          have hlc : (a :: l).length + 1 = (a :: (l ++ [⟨s, z⟩])).length := by simp
          exact Weak.perm [0, 3] ⟨⟨rfl, obQ_ws _⟩, ⟨rfl, .recs hlc fun i hi j hj => wl_of_eqP (rowP_snoc (a :: l) ⟨s, z⟩ i j hi hj) (rowP_wl hj), trivial⟩, trivial⟩
            ⟨WV.lf (WL.int (by rw [wrap_i64 (by omega) (by omega)]; show ((n - (m + 1) : Nat) : Int) + 1 = ((n - m : Nat) : Int); omega)), freeF.wv trivial, WV.lf (WL.own rfl rfl rfl hlc), freeF.wv trivial, WV.lf (WL.ptr rfl rfl), trivial⟩ rfl (by show 2 ≤ 2; omega) rfl (by show 1 ≤ 2; omega)
    · repeat ((first | refine CaseB.of_false (decide_eq_false he) ?_ | refine CaseB.of_true (decide_eq_true (show ((n - (m + 1) : Nat) : Int) < (n : Int) by omega)) ?_); conv => whnf)
      have hS := readsP_err (m + 1) he
      rw [hS, List.append_nil] at ha
      rw [hS] at hb'
      refine CallK.mk' _ _ (frQ _ (c69 q) trivial trivial) ?_
      conv => whnf
      have hK : keptP (readsP n r1) = if q.e ≠ 0 then [] else acc := by unfold keptP; rw [← hb', ← ha]
      have hW : (readsP n r1).2 = q := hb'.symm
      rw [hW, hK]
      by_cases hz : q.e = 0
      · refine CaseB.of_false (decide_eq_false (fun h => h hz)) ?_
        conv => whnf
        rw [if_neg (fun h => h hz)]
        cases acc with
        | nil => exact RetK.of ⟨rfl, okGs.ws (by exact ⟨trivial, trivial, trivial⟩), trivial⟩ (by simp) (WV.lf WL.sl0ro)
        | cons a l => exact RetK.of ⟨rfl, okGs.ws (by exact ⟨trivial, trivial, trivial⟩), trivial⟩ (by simp) (WV.lf (lentP (ty := 58) rfl rfl rfl (fun _ _ _ _ => rfl) (gone_one (by decide))))
      · refine CaseB.of_true (decide_eq_true hz) ?_
        conv => whnf
        rw [if_pos hz]
        cases acc with
        | nil => exact RetK.of ⟨rfl, okGs.ws (by exact ⟨trivial, trivial, trivial⟩), trivial⟩ (by simp) (WV.lf WL.sl0ro)
        | cons a l => exact RetK.of ⟨rfl, okGs.ws (by exact ⟨trivial, trivial, trivial⟩), trivial⟩ (by simp) (WV.lf WL.sl0ro)
end Go.Sym.Md

set_option linter.unusedVariables false
set_option linter.unusedSimpArgs false
set_option maxRecDepth 10000
namespace Go.Sym.Md
open Go Go.Sym

/-! ### Numbers are read -/
def setM (c : CmS) (k : Nat) (z : Int) : CmS :=
  match k with
  | 0 => { c with cl := z }
  | 1 => { c with sq := z }
  | 2 => { c with kd := z }
  | 3 => { c with id := z }
  | 4 => { c with ep := z }
  | 5 => { c with nu := z }
  | 6 => { c with by' := z }
  | _ => { c with tm := z }
/-- The reader behind some numbers, from a row on. -/
def tkR (off : Nat) (r : Rd) : Nat → Rd
  | 0 => r
  | k + 1 => (numR (tkR off r k) (rhigh (off + k))).2
def tkC (off : Nat) (c : CmS) (r : Rd) : Nat → CmS
  | 0 => c
  | k + 1 => setM (tkC off c r k) (off + k) (numR (tkR off r k) (rhigh (off + k))).1
theorem tkR_ok (off : Nat) {r : Rd} (h : r.ok) : ∀ k, (tkR off r k).ok
  | 0 => h
  | k + 1 => numR_ok (tkR_ok off h k) _
attribute [local irreducible] numF checkF hasF okC boundF numR textR readC okP

set_option maxHeartbeats 4000000 in
/-- command.take, of a command's head -/
theorem c179h (c : CmS) (u v : LV) (hu : freeL u) (hv : freeL v) (r : Rd) (h : r.ok) : SCalls Proofs.Try.prog 179 [.s (.lf (.ptr 0 0)), .s (.lf (.own 2 0 3 0 5))] [some (obR r), some ⟨60, segsMu c u v⟩, some (rowsO headS1 5)] (.tup []) [some (obR (tkR 0 r 5)), some ⟨60, segsMu (tkC 0 c r 5) u v⟩, some (rowsO headS1 5)] := by
  refine SCalls.intro tok Proofs.Try.func179 ?_
  conv => whnf
  refine LoopK.mk1 (fun k : Nat => [(8, vI k), (7, vI 5), (6, .s (.lf (.own 2 0 3 0 5))), (0, .s (.lf (.ptr 0 0)))]) (fun k => [some (obR (tkR 0 r k)), some ⟨60, segsMu (tkC 0 c r k) u v⟩, some (rowsO headS1 5)]) (fun k => k ≤ 5) (fun k => 5 - k) 0 (by omega) ?_ ?_
  · exact Weak.of ⟨rfl, obR_ws _, rfl, cmW (freeL.wl hu) (freeL.wl hv), rfl, rows_ws (m := 3) rfl rfl, trivial⟩ (by simp) ⟨okF.wv trivial, okF.wv trivial, WV.lf (WL.own rfl rfl rfl rfl), okF.wv rfl, trivial⟩
  intro k hk
  conv => whnf
  by_cases hlt : k < 5
  · refine CaseB.of_true (decide_eq_true (by omega)) ?_
    conv => whnf
    refine And.intro (by omega) ?_
    conv => whnf
    refine And.intro (by omega) ?_
    have h8 : k = 0 ∨ k = 1 ∨ k = 2 ∨ k = 3 ∨ k = 4 := by omega
    rcases h8 with rfl | rfl | rfl | rfl | rfl
    · conv => whnf
      have hq := tkR_ok 0 h 0
      refine DrawK.mk1 tok mixed [0, 1, 0, 0, 8, 28, 63, 127] [(2, 0, []), (3, 1, [0]), (4, 1, [0]), (5, 2, []), (0, 1, [0, 1]), (1, 1, [0, 1]), (6, 1, [0]), (7, 2, [])] (by kernel_rfl) ?_
      conv => whnf
      refine CallK.mk' (vI (numR (tkR 0 r 0) (rhigh 0)).1) _ (frR _ (c140 (tkR 0 r 0) (rhigh 0) hq) ⟨trivial, trivial⟩ trivial) ?_
      conv => whnf
      repeat (refine And.intro rfl ?_; conv => whnf)
      exact ⟨1, by omega, by decide, Weak.of ⟨rfl, obR_ws _, rfl, cmW (c := tkC 0 c r 1) (freeL.wl hu) (freeL.wl hv), rfl, rows_ws (m := 3) rfl rfl, trivial⟩ (by simp) ⟨WV.lf (WL.int rfl), okF.wv trivial, WV.lf (WL.own rfl rfl rfl rfl), okF.wv rfl, trivial⟩⟩
    · conv => whnf
      have hq := tkR_ok 0 h 1
      refine DrawK.mk1 tok mixed [0, 1, 0, 0, 8, 28, 63, 127] [(2, 0, []), (3, 1, [0]), (4, 1, [0]), (5, 2, []), (0, 1, [0, 1]), (1, 1, [0, 1]), (6, 1, [0]), (7, 2, [])] (by kernel_rfl) ?_
      conv => whnf
      refine CallK.mk' (vI (numR (tkR 0 r 1) (rhigh 1)).1) _ (frR _ (c140 (tkR 0 r 1) (rhigh 1) hq) ⟨trivial, trivial⟩ trivial) ?_
      conv => whnf
      repeat (refine And.intro rfl ?_; conv => whnf)
      exact ⟨2, by omega, by decide, Weak.of ⟨rfl, obR_ws _, rfl, cmW (c := tkC 0 c r 2) (freeL.wl hu) (freeL.wl hv), rfl, rows_ws (m := 3) rfl rfl, trivial⟩ (by simp) ⟨WV.lf (WL.int rfl), okF.wv trivial, WV.lf (WL.own rfl rfl rfl rfl), okF.wv rfl, trivial⟩⟩
    · conv => whnf
      have hq := tkR_ok 0 h 2
      refine DrawK.mk1 tok mixed [0, 1, 0, 0, 8, 28, 63, 127] [(2, 0, []), (3, 1, [0]), (4, 1, [0]), (5, 2, []), (0, 1, [0, 1]), (1, 1, [0, 1]), (6, 1, [0]), (7, 2, [])] (by kernel_rfl) ?_
      conv => whnf
      refine CallK.mk' (vI (numR (tkR 0 r 2) (rhigh 2)).1) _ (frR _ (c140 (tkR 0 r 2) (rhigh 2) hq) ⟨trivial, trivial⟩ trivial) ?_
      conv => whnf
      repeat (refine And.intro rfl ?_; conv => whnf)
      exact ⟨3, by omega, by decide, Weak.of ⟨rfl, obR_ws _, rfl, cmW (c := tkC 0 c r 3) (freeL.wl hu) (freeL.wl hv), rfl, rows_ws (m := 3) rfl rfl, trivial⟩ (by simp) ⟨WV.lf (WL.int rfl), okF.wv trivial, WV.lf (WL.own rfl rfl rfl rfl), okF.wv rfl, trivial⟩⟩
    · conv => whnf
      have hq := tkR_ok 0 h 3
      refine DrawK.mk1 tok mixed [0, 1, 0, 0, 8, 28, 63, 127] [(2, 0, []), (3, 1, [0]), (4, 1, [0]), (5, 2, []), (0, 1, [0, 1]), (1, 1, [0, 1]), (6, 1, [0]), (7, 2, [])] (by kernel_rfl) ?_
      conv => whnf
      refine CallK.mk' (vI (numR (tkR 0 r 3) (rhigh 3)).1) _ (frR _ (c140 (tkR 0 r 3) (rhigh 3) hq) ⟨trivial, trivial⟩ trivial) ?_
      conv => whnf
      repeat (refine And.intro rfl ?_; conv => whnf)
      exact ⟨4, by omega, by decide, Weak.of ⟨rfl, obR_ws _, rfl, cmW (c := tkC 0 c r 4) (freeL.wl hu) (freeL.wl hv), rfl, rows_ws (m := 3) rfl rfl, trivial⟩ (by simp) ⟨WV.lf (WL.int rfl), okF.wv trivial, WV.lf (WL.own rfl rfl rfl rfl), okF.wv rfl, trivial⟩⟩
    · conv => whnf
      have hq := tkR_ok 0 h 4
      refine DrawK.mk1 tok mixed [0, 1, 0, 0, 8, 28, 63, 127] [(2, 0, []), (3, 1, [0]), (4, 1, [0]), (5, 2, []), (0, 1, [0, 1]), (1, 1, [0, 1]), (6, 1, [0]), (7, 2, [])] (by kernel_rfl) ?_
      conv => whnf
      refine CallK.mk' (vI (numR (tkR 0 r 4) (rhigh 4)).1) _ (frR _ (c140 (tkR 0 r 4) (rhigh 4) hq) ⟨trivial, trivial⟩ trivial) ?_
      conv => whnf
      repeat (refine And.intro rfl ?_; conv => whnf)
      exact ⟨5, by omega, by decide, Weak.of ⟨rfl, obR_ws _, rfl, cmW (c := tkC 0 c r 5) (freeL.wl hu) (freeL.wl hv), rfl, rows_ws (m := 3) rfl rfl, trivial⟩ (by simp) ⟨WV.lf (WL.int rfl), okF.wv trivial, WV.lf (WL.own rfl rfl rfl rfl), okF.wv rfl, trivial⟩⟩
  · refine CaseB.of_false (decide_eq_false (by omega)) ?_
    conv => whnf
    obtain rfl : k = 5 := by omega
    exact RetK.of ⟨rfl, obR_ws _, rfl, cmW (freeL.wl hu) (freeL.wl hv), rfl, rows_ws (m := 3) rfl rfl, trivial⟩ (by simp) (okF.wv trivial)

set_option maxHeartbeats 4000000 in
/-- command.take, of a command's tail -/
theorem c179t (c : CmS) (u v : LV) (hu : freeL u) (hv : freeL v) (r : Rd) (h : r.ok) : SCalls Proofs.Try.prog 179 [.s (.lf (.ptr 0 0)), .s (.lf (.own 2 0 3 0 3))] [some (obR r), some ⟨60, segsMu c u v⟩, some (rowsO tailS1 3)] (.tup []) [some (obR (tkR 5 r 3)), some ⟨60, segsMu (tkC 5 c r 3) u v⟩, some (rowsO tailS1 3)] := by
  refine SCalls.intro tok Proofs.Try.func179 ?_
  conv => whnf
  refine LoopK.mk1 (fun k : Nat => [(8, vI k), (7, vI 3), (6, .s (.lf (.own 2 0 3 0 3))), (0, .s (.lf (.ptr 0 0)))]) (fun k => [some (obR (tkR 5 r k)), some ⟨60, segsMu (tkC 5 c r k) u v⟩, some (rowsO tailS1 3)]) (fun k => k ≤ 3) (fun k => 3 - k) 0 (by omega) ?_ ?_
  · exact Weak.of ⟨rfl, obR_ws _, rfl, cmW (freeL.wl hu) (freeL.wl hv), rfl, rows_ws (m := 3) rfl rfl, trivial⟩ (by simp) ⟨okF.wv trivial, okF.wv trivial, WV.lf (WL.own rfl rfl rfl rfl), okF.wv rfl, trivial⟩
  intro k hk
  conv => whnf
  by_cases hlt : k < 3
  · refine CaseB.of_true (decide_eq_true (by omega)) ?_
    conv => whnf
    refine And.intro (by omega) ?_
    conv => whnf
    refine And.intro (by omega) ?_
    have h8 : k = 0 ∨ k = 1 ∨ k = 2 := by omega
    rcases h8 with rfl | rfl | rfl
    · conv => whnf
      have hq := tkR_ok 5 h 0
      refine DrawK.mk1 tok mixed [0, 1, 0, 0, 8, 28, 63, 127] [(2, 0, []), (3, 1, [0]), (4, 1, [0]), (5, 2, []), (0, 1, [0, 1]), (1, 1, [0, 1]), (6, 1, [0]), (7, 2, [])] (by kernel_rfl) ?_
      conv => whnf
      refine CallK.mk' (vI (numR (tkR 5 r 0) (rhigh 5)).1) _ (frR _ (c140 (tkR 5 r 0) (rhigh 5) hq) ⟨trivial, trivial⟩ trivial) ?_
      conv => whnf
      repeat (refine And.intro rfl ?_; conv => whnf)
      exact ⟨1, by omega, by decide, Weak.of ⟨rfl, obR_ws _, rfl, cmW (c := tkC 5 c r 1) (freeL.wl hu) (freeL.wl hv), rfl, rows_ws (m := 3) rfl rfl, trivial⟩ (by simp) ⟨WV.lf (WL.int rfl), okF.wv trivial, WV.lf (WL.own rfl rfl rfl rfl), okF.wv rfl, trivial⟩⟩
    · conv => whnf
      have hq := tkR_ok 5 h 1
      refine DrawK.mk1 tok mixed [0, 1, 0, 0, 8, 28, 63, 127] [(2, 0, []), (3, 1, [0]), (4, 1, [0]), (5, 2, []), (0, 1, [0, 1]), (1, 1, [0, 1]), (6, 1, [0]), (7, 2, [])] (by kernel_rfl) ?_
      conv => whnf
      refine CallK.mk' (vI (numR (tkR 5 r 1) (rhigh 6)).1) _ (frR _ (c140 (tkR 5 r 1) (rhigh 6) hq) ⟨trivial, trivial⟩ trivial) ?_
      conv => whnf
      repeat (refine And.intro rfl ?_; conv => whnf)
      exact ⟨2, by omega, by decide, Weak.of ⟨rfl, obR_ws _, rfl, cmW (c := tkC 5 c r 2) (freeL.wl hu) (freeL.wl hv), rfl, rows_ws (m := 3) rfl rfl, trivial⟩ (by simp) ⟨WV.lf (WL.int rfl), okF.wv trivial, WV.lf (WL.own rfl rfl rfl rfl), okF.wv rfl, trivial⟩⟩
    · conv => whnf
      have hq := tkR_ok 5 h 2
      refine DrawK.mk1 tok mixed [0, 1, 0, 0, 8, 28, 63, 127] [(2, 0, []), (3, 1, [0]), (4, 1, [0]), (5, 2, []), (0, 1, [0, 1]), (1, 1, [0, 1]), (6, 1, [0]), (7, 2, [])] (by kernel_rfl) ?_
      conv => whnf
      refine CallK.mk' (vI (numR (tkR 5 r 2) (rhigh 7)).1) _ (frR _ (c140 (tkR 5 r 2) (rhigh 7) hq) ⟨trivial, trivial⟩ trivial) ?_
      conv => whnf
      repeat (refine And.intro rfl ?_; conv => whnf)
      exact ⟨3, by omega, by decide, Weak.of ⟨rfl, obR_ws _, rfl, cmW (c := tkC 5 c r 3) (freeL.wl hu) (freeL.wl hv), rfl, rows_ws (m := 3) rfl rfl, trivial⟩ (by simp) ⟨WV.lf (WL.int rfl), okF.wv trivial, WV.lf (WL.own rfl rfl rfl rfl), okF.wv rfl, trivial⟩⟩
  · refine CaseB.of_false (decide_eq_false (by omega)) ?_
    conv => whnf
    obtain rfl : k = 3 := by omega
    exact RetK.of ⟨rfl, obR_ws _, rfl, cmW (freeL.wl hu) (freeL.wl hv), rfl, rows_ws (m := 3) rfl rfl, trivial⟩ (by simp) (okF.wv trivial)

end Go.Sym.Md

set_option linter.unusedVariables false
set_option linter.unusedSimpArgs false
set_option maxRecDepth 10000
namespace Go.Sym.Md
open Go Go.Sym

/-! ### Commands are read -/
def headP (m : Nat) : List Seg := [.one (.ptr m 0), .one (.int .i64 0), .one (.int .i64 7), .one (.ptr m 1), .one (.int .i64 1), .one (.int .i64 2147483648), .one (.ptr m 2), .one (.int .i64 1), .one (.int .i64 14), .one (.ptr m 3), .one (.int .i64 1), .one (.int .i64 2147483648), .one (.ptr m 4), .one (.int .i64 0), .one (.int .i64 2147483648)]
def tailP (m : Nat) : List Seg := [.one (.ptr m 8), .one (.int .i64 0), .one (.int .i64 2147483648), .one (.ptr m 9), .one (.int .i64 0), .one (.int .i64 1099511627776), .one (.ptr m 10), .one (.int .i64 0), .one (.int .i64 1099511627776)]
theorem headP_wl {D : Rel} {m m' : Nat} (h : ∀ k, WL D (.ptr m k) (.ptr m' k)) {i j : Nat} (hi : i < 5) (hj : j < 3) : WL D (rowF (headP m) i j) (rowF (headP m') i j) := by
  have h1 : i = 0 ∨ i = 1 ∨ i = 2 ∨ i = 3 ∨ i = 4 := by omega
  have h2 : j = 0 ∨ j = 1 ∨ j = 2 := by omega
  rcases h1 with rfl | rfl | rfl | rfl | rfl <;> rcases h2 with rfl | rfl | rfl <;> first | exact h _ | exact WL.int rfl
theorem tailP_wl {D : Rel} {m m' : Nat} (h : ∀ k, WL D (.ptr m k) (.ptr m' k)) {i j : Nat} (hi : i < 3) (hj : j < 3) : WL D (rowF (tailP m) i j) (rowF (tailP m') i j) := by
  have h1 : i = 0 ∨ i = 1 ∨ i = 2 := by omega
  have h2 : j = 0 ∨ j = 1 ∨ j = 2 := by omega
  rcases h1 with rfl | rfl | rfl <;> rcases h2 with rfl | rfl | rfl <;> first | exact h _ | exact WL.int rfl
abbrev obU (c : CmS) (u v : LV) : OB := ⟨60, segsMu c u v⟩

/-- command.head, of a command with any lists -/
theorem c169u (c : CmS) (u v : LV) (hu : freeL u) (hv : freeL v) : SCalls Proofs.Try.prog 169 [.s (.lf (.ptr 0 0))] [some (obU c u v)] (.s (.lf (.own 1 0 3 0 5))) [some (obU c u v), some (rowsO (headP 0) 5)] := by
  refine SCalls.intro tok Proofs.Try.func169 ?_
  conv => whnf
  refine DrawK.mk1 tok mixed [0, 1, 3, 7, 0, 16, 48, 112, 0, 256, 768, 1792, 0, 4096, 12288, 28672, 0, 65536, 196608, 458752, 1048575, 2097151] [(0, 0, []), (4, 0, []), (8, 0, []), (12, 0, []), (16, 0, []), (1, 1, [0]), (2, 1, [0]), (3, 0, []), (5, 1, [0]), (6, 1, [0]), (7, 0, []), (9, 1, [0]), (10, 1, [0]), (11, 0, []), (13, 1, [0]), (14, 1, [0]), (15, 0, []), (17, 1, [0]), (18, 1, [0]), (19, 0, []), (20, 2, []), (21, 0, [])] (by kernel_rfl) ?_
  conv => whnf
  refine Or.inl ?_
  conv => whnf
  exact RetK.of ⟨rfl, cmW (freeL.wl hu) (freeL.wl hv), rfl, ⟨.recs rfl fun i hi j hj => rows_wl (l := headP 0) (n := 5) (m := 2) rfl rfl hi hj, trivial⟩, trivial⟩ (by simp) (WV.lf (WL.own rfl rfl rfl rfl))
/-- command.tail, of the same -/
theorem c171u (c : CmS) (u v : LV) (hu : freeL u) (hv : freeL v) : SCalls Proofs.Try.prog 171 [.s (.lf (.ptr 0 0))] [some (obU c u v)] (.s (.lf (.own 1 0 3 0 3))) [some (obU c u v), some (rowsO (tailP 0) 3)] := by
  refine SCalls.intro tok Proofs.Try.func171 ?_
  conv => whnf
  refine DrawK.mk1 tok mixed [0, 1, 3, 7, 0, 16, 48, 112, 0, 256, 768, 1792, 4095, 8191] [(0, 0, []), (4, 0, []), (8, 0, []), (1, 1, [0]), (2, 1, [0]), (3, 0, []), (5, 1, [0]), (6, 1, [0]), (7, 0, []), (9, 1, [0]), (10, 1, [0]), (11, 0, []), (12, 2, []), (13, 0, [])] (by kernel_rfl) ?_
  conv => whnf
  refine Or.inl ?_
  conv => whnf
  exact RetK.of ⟨rfl, cmW (freeL.wl hu) (freeL.wl hv), rfl, ⟨.recs rfl fun i hi j hj => rows_wl (l := tailP 0) (n := 3) (m := 2) rfl rfl hi hj, trivial⟩, trivial⟩ (by simp) (WV.lf (WL.own rfl rfl rfl rfl))

/-- The same, of the third block of a heap. -/
theorem c169d (z : OB) (R : OB) (c : CmS) (u v : LV) (hu : freeL u) (hv : freeL v) (T : Hp) : SCalls Proofs.Try.prog 169 [.s (.lf (.ptr 2 0))] (some z :: some R :: some (obU c u v) :: T) (.s (.lf (.own (T.length + 3) 0 3 0 5))) (some z :: some R :: some (obU c u v) :: (T ++ [some (rowsO (headP 2) 5)])) :=
  (c169u c u v hu hv).frame1m (H := some z :: some R :: some (obU c u v) :: T) (nm := 2) (o2 := some (obU c u v)) (Hn := [some (rowsO (headP 2) 5)]) rfl rfl (cmW (freeL.wl hu) (freeL.wl hv)) ⟨WV.lf (WL.ptr rfl rfl), trivial⟩
    ⟨rfl, cmW (freeL.wl hu) (freeL.wl hv), rfl, ⟨.recs rfl fun i hi j hj => headP_wl (fun k => WL.uptr (ρ1_self _ _)) hi hj, trivial⟩, trivial⟩
    (WV.lf (WL.uown (by rw [show (some z :: some R :: some (obU c u v) :: T).length = T.length + 3 from rfl, ρ1_ge (by omega) (Nat.le_refl _), Nat.sub_self]) rfl rfl))
theorem c171d (z : OB) (R : OB) (c : CmS) (u v : LV) (hu : freeL u) (hv : freeL v) (T : Hp) : SCalls Proofs.Try.prog 171 [.s (.lf (.ptr 2 0))] (some z :: some R :: some (obU c u v) :: T) (.s (.lf (.own (T.length + 3) 0 3 0 3))) (some z :: some R :: some (obU c u v) :: (T ++ [some (rowsO (tailP 2) 3)])) :=
  (c171u c u v hu hv).frame1m (H := some z :: some R :: some (obU c u v) :: T) (nm := 2) (o2 := some (obU c u v)) (Hn := [some (rowsO (tailP 2) 3)]) rfl rfl (cmW (freeL.wl hu) (freeL.wl hv)) ⟨WV.lf (WL.ptr rfl rfl), trivial⟩
    ⟨rfl, cmW (freeL.wl hu) (freeL.wl hv), rfl, ⟨.recs rfl fun i hi j hj => tailP_wl (fun k => WL.uptr (ρ1_self _ _)) hi hj, trivial⟩, trivial⟩
    (WV.lf (WL.uown (by rw [show (some z :: some R :: some (obU c u v) :: T).length = T.length + 3 from rfl, ρ1_ge (by omega) (Nat.le_refl _), Nat.sub_self]) rfl rfl))

theorem frR1 {f : FuncId} {l : List FV} {a b : Rd} {ret : FV} (z : OB) (T : Hp) (h : SCalls Proofs.Try.prog f (.s (.lf (.ptr 0 0)) :: l) [some (obR a)] ret [some (obR b)]) (hl : freeFs l) (hr : freeF ret) : SCalls Proofs.Try.prog f (.s (.lf (.ptr 1 0)) :: l) (some z :: some (obR a) :: T) ret (some z :: some (obR b) :: T) :=
  h.frame1 (H := some z :: some (obR a) :: T) (nm := 1) (ob2 := obR b) rfl rfl (obR_ws _) ⟨WV.lf (WL.ptr rfl rfl), hl.wvs⟩ rfl (obR_ws _) hr.wv

theorem nbeq {a b : Nat} (h : a ≠ b) : Nat.beq a b = false := by
  cases e : Nat.beq a b
  · rfl
  · exact absurd (beq_true e) h
theorem take_at {n : Nat} {l1 l2 : List Seg} {z : OB} {c c' : CmS} {u v : LV} {r r' : Rd} {len : Nat} (T : Hp) (h : SCalls Proofs.Try.prog 179 [.s (.lf (.ptr 0 0)), .s (.lf (.own 2 0 3 0 len))] [some (obR r), some (obU c u v), some (rowsO l1 len)] (.tup []) [some (obR r'), some (obU c' u v), some (rowsO l1 len)])
    (hu : freeL u) (hv : freeL v) (hn : (some z :: some (obR r) :: some (obU c u v) :: T)[n]? = some (some (rowsO l2 len))) (h3 : 3 ≤ n)
    (hr : ∀ {D : Rel} {m m' : Nat}, (m = 2 ∧ m' = 1 → (∀ k, WL D (.ptr m k) (.ptr m' k)) → WSs D (rowsO l2 len).segs (rowsO l1 len).segs) ∧ (m = 1 ∧ m' = 2 → (∀ k, WL D (.ptr m k) (.ptr m' k)) → WSs D (rowsO l1 len).segs (rowsO l2 len).segs)) :
    SCalls Proofs.Try.prog 179 [.s (.lf (.ptr 1 0)), .s (.lf (.own n 0 3 0 len))] (some z :: some (obR r) :: some (obU c u v) :: T) (.tup []) (some z :: some (obR r') :: some (obU c' u v) :: T) := by
  have hlen : n < T.length + 3 := by have := (List.getElem?_eq_some_iff.1 hn).1; simpa using this
  have b1 : Nat.beq 1 n = false := nbeq (by omega)
  have b2 : Nat.beq 2 n = false := nbeq (by omega)
  have hρ : ∀ i, i < 3 → ρs [1, 2, n] 3 (T.length + 3) (nthN [1, 2, n] i) = some i := fun i hi => by
    match i, hi with
    | 0, _ => unfold ρs; rw [show Nat.blt (nthN [1, 2, n] 0) (T.length + 3) = true from Nat.ble_eq_true_of_le (by show 1 + 1 ≤ _; omega)]; rfl
    | 1, _ => unfold ρs; rw [show Nat.blt (nthN [1, 2, n] 1) (T.length + 3) = true from Nat.ble_eq_true_of_le (by show 2 + 1 ≤ _; omega)]; rfl
    | 2, _ =>
      unfold ρs
      rw [show Nat.blt (nthN [1, 2, n] 2) (T.length + 3) = true from Nat.ble_eq_true_of_le (by show n + 1 ≤ _; omega)]
      show idxN [1, 2, n] n = some 2
      unfold idxN; rw [b1]
      show Option.map _ (idxN [2, n] n) = _
      unfold idxN; rw [b2]
      show Option.map _ (Option.map _ (idxN [n] n)) = _
      unfold idxN; rw [Nat.beq_refl]; rfl
  have hn' : (some z :: some (obR r') :: some (obU c' u v) :: T)[n]? = some (some (rowsO l2 len)) := by
    match n, h3, hn with
    | k + 3, _, hn => simpa using hn
  have b1' : Nat.beq n 1 = false := nbeq (by omega)
  have b2' : Nat.beq n 2 = false := nbeq (by omega)
  refine h.atm (H := some z :: some (obR r) :: some (obU c u v) :: T) (H' := some z :: some (obR r') :: some (obU c' u v) :: T) (cs := [.s (.lf (.ptr 1 0)), .s (.lf (.own n 0 3 0 len))]) (rc := .tup []) [1, 2, n] rfl rfl rfl (by simp [nodupB, memB, b1, b2, b1', b2', show Nat.beq 1 2 = false from rfl]) rfl (fun i ob hi => ?_) (fun i ob hi => ?_) (fun nm hnm hm => ?_) rfl ⟨WV.lf (WL.ptr rfl rfl), WV.lf (WL.own rfl rfl rfl rfl), trivial⟩ (freeF.wv (v := .tup []) trivial)
  · match i, hi with
    | 0, hi => simp at hi; subst hi; exact ⟨obR r, rfl, rfl, (obR_ws r).ws⟩
    | 1, hi => simp at hi; subst hi; exact ⟨obU c u v, rfl, rfl, (cmW (freeL.wl hu) (freeL.wl hv)).ws⟩
    | 2, hi => simp at hi; subst hi; exact ⟨rowsO l2 len, hn, rfl, ((hr (m := 2) (m' := 1)).1 ⟨rfl, rfl⟩ (fun k => WL.ptr (by exact rfl) (by exact rfl))).ws⟩
  · match i, hi with
    | 0, hi => simp at hi; subst hi; exact ⟨obR r', rfl, rfl, (obR_ws r').ws⟩
    | 1, hi => simp at hi; subst hi; exact ⟨obU c' u v, rfl, rfl, (cmW (freeL.wl hu) (freeL.wl hv)).ws⟩
    | 2, hi => simp at hi; subst hi; exact ⟨rowsO l2 len, hn', rfl, ((hr (m := 1) (m' := 2)).2 ⟨rfl, rfl⟩ (fun k => WL.uptr (hρ 1 (by decide)))).ws⟩
  · match nm, hm with
    | 0, _ => rfl
    | 1, hm => simp at hm
    | 2, hm => simp at hm
    | k + 3, _ => rfl

theorem c179hd (z : OB) (c : CmS) (u v : LV) (hu : freeL u) (hv : freeL v) (r : Rd) (h : r.ok) (T : Hp) (n : Nat) (hn : (some z :: some (obR r) :: some (obU c u v) :: T)[n]? = some (some (rowsO (headP 2) 5))) (h3 : 3 ≤ n) :
    SCalls Proofs.Try.prog 179 [.s (.lf (.ptr 1 0)), .s (.lf (.own n 0 3 0 5))] (some z :: some (obR r) :: some (obU c u v) :: T) (.tup []) (some z :: some (obR (tkR 0 r 5)) :: some (obU (tkC 0 c r 5) u v) :: T) :=
  take_at T (l1 := headP 1) (l2 := headP 2) (c179h c u v hu hv r h) hu hv hn h3 ⟨fun ⟨a, b⟩ hp => by subst a b; exact ⟨.recs rfl fun i hi j hj => headP_wl hp hi hj, trivial⟩, fun ⟨a, b⟩ hp => by subst a b; exact ⟨.recs rfl fun i hi j hj => headP_wl hp hi hj, trivial⟩⟩
theorem c179td (z : OB) (c : CmS) (u v : LV) (hu : freeL u) (hv : freeL v) (r : Rd) (h : r.ok) (T : Hp) (n : Nat) (hn : (some z :: some (obR r) :: some (obU c u v) :: T)[n]? = some (some (rowsO (tailP 2) 3))) (h3 : 3 ≤ n) :
    SCalls Proofs.Try.prog 179 [.s (.lf (.ptr 1 0)), .s (.lf (.own n 0 3 0 3))] (some z :: some (obR r) :: some (obU c u v) :: T) (.tup []) (some z :: some (obR (tkR 5 r 3)) :: some (obU (tkC 5 c r 3) u v) :: T) :=
  take_at T (l1 := tailP 1) (l2 := tailP 2) (c179t c u v hu hv r h) hu hv hn h3 ⟨fun ⟨a, b⟩ hp => by subst a b; exact ⟨.recs rfl fun i hi j hj => tailP_wl hp hi hj, trivial⟩, fun ⟨a, b⟩ hp => by subst a b; exact ⟨.recs rfl fun i hi j hj => tailP_wl hp hi hj, trivial⟩⟩
end Go.Sym.Md

