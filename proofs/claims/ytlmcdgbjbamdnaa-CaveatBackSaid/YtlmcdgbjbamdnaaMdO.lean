/- Contracts of the program's functions, proved by the framework (text MdO), without conditions but those that each theorem states. -/
import Derived.Test.YtlmcdgbjbamdnaaMdN
set_option linter.unusedVariables false
set_option linter.unusedSimpArgs false
set_option maxRecDepth 10000
namespace Go.Sym.Md
open Go Go.Sym

/-! ### Lists of caveats are read -/
def readsC : Nat → Rd → List CV × Rd
  | 0, r => ([], r)
  | n + 1, r => if r.e ≠ 0 then ([], r) else ((readC r).1 :: (readsC n (readC r).2).1, (readsC n (readC r).2).2)
def allC (r : Rd) : List CV × Rd := readsC (numR r 8).1.toNat (numR r 8).2
def endF (r : Rd) : Int := if 0 < r.l.length then 3 else r.e
def parseC (b : List UInt8) : List CV × Int := if endF (allC ⟨b, 0⟩).2 = 0 then ((allC ⟨b, 0⟩).1, 0) else ([], endF (allC ⟨b, 0⟩).2)

theorem readsC_ok : ∀ (n : Nat) {r : Rd}, r.ok → (readsC n r).2.ok
  | 0, r, h => h
  | n + 1, r, h => by
    unfold readsC
    split
    · exact h
    · exact readsC_ok n (readC_ok h)
theorem allC_ok {r : Rd} (h : r.ok) : (allC r).2.ok := readsC_ok _ (numR_ok h 8)
theorem readsC_err (n : Nat) {r : Rd} (h : r.e ≠ 0) : readsC n r = ([], r) := by
  cases n with
  | zero => rfl
  | succ n => unfold readsC; rw [if_pos h]
theorem readsC_len : ∀ (n : Nat) (r : Rd), (readsC n r).1.length ≤ n
  | 0, r => by simp [readsC]
  | n + 1, r => by
    unfold readsC
    split
    · simp
    · simp only [List.length_cons]
      have := readsC_len n (readC r).2
      omega

theorem rowC_snoc (cs : List CV) (c : CV) (i j : Nat) (hi : i < cs.length + 1) (hj : j < 3) : catRow 3 cs.length (fun i j => rowC cs (0 + i) j) (fun i j => cellD ([] ++ ([Seg.one (LV.int IntKind.i64 c.k), Seg.one (LV.int IntKind.i64 c.n), Seg.one (LV.str c.s)] ++ [])) (i * 3 + j)) i j = rowC (cs ++ [c]) i j := by
  unfold catRow
  by_cases h : i < cs.length
  · rw [show Nat.blt i cs.length = true by simp [Nat.blt, Nat.ble_eq]; omega]
    show rowC cs (0 + i) j = _
    unfold rowC
    rw [Nat.zero_add, show (cs ++ [c]).getD i cv0 = cs.getD i cv0 by rw [List.getD_eq_getElem?_getD, List.getD_eq_getElem?_getD, List.getElem?_append_left h]]
  · have e : i = cs.length := by omega
    subst e
    rw [show Nat.blt cs.length cs.length = false by cases hb : Nat.blt cs.length cs.length <;> first | rfl | (have := blt_true hb; omega)]
    show cellD _ ((cs.length - cs.length) * 3 + j) = _
    unfold rowC
    rw [Nat.sub_self, show (cs ++ [c]).getD cs.length cv0 = c by rw [List.getD_eq_getElem?_getD, List.getElem?_append_right (Nat.le_refl _), Nat.sub_self]; rfl]
    have : j = 0 ∨ j = 1 ∨ j = 2 := by omega
    rcases this with rfl | rfl | rfl <;> rfl

attribute [local irreducible] numF checkF hasF okC boundF numR textR readC

theorem wl_of_eq {D : Rel} {u v : LV} (h : u = v) (hv : WL D v v) : WL D u v := by subst h; exact hv

def accV (nm : Nat) : List CV → FV
  | [] => .s (.lf .sl0)
  | a :: l => .s (.lf (.own nm 0 3 0 (a :: l).length))
def accH : List CV → Hp
  | [] => []
  | a :: l => [some ⟨23, [.recs 3 (a :: l).length (rowC (a :: l))]⟩]

/-- caveat.Parse -/
theorem c62 (b : List UInt8) (hb : b.length ≤ 1000000000) : SCalls Proofs.Try.prog 62 [.s (.lf (.rob false false b))] [] (.tup [.lf (.ro false false 3 (parseC b).1.length (rowC (parseC b).1)), .lf (.int .i64 (parseC b).2)]) [] := by
  have h0 : (⟨b, 0⟩ : Rd).ok := ⟨fun h => absurd rfl h, by show IntKind.i64.min ≤ 0; decide, by show (0 : Int) ≤ IntKind.i64.max; decide, by show b.length ≤ _; omega⟩
  refine SCalls.intro tok Proofs.Try.func62 ?_
  conv => whnf
  refine CallK.mk' _ _ (c64 b (by omega)) ?_
  conv => whnf
  refine CallK.mk' _ _ (c140 ⟨b, 0⟩ 8 h0) ?_
  conv => whnf
  have hn8 := numR_range h0 8
  have hno := numR_ok h0 8
  obtain ⟨n, hn⟩ : ∃ n : Nat, (numR ⟨b, 0⟩ 8).1 = n := ⟨(numR ⟨b, 0⟩ 8).1.toNat, by omega⟩
  obtain ⟨r1, hr1⟩ : ∃ r1, (numR ⟨b, 0⟩ 8).2 = r1 := ⟨_, rfl⟩
  have hA : allC ⟨b, 0⟩ = readsC n r1 := by unfold allC; rw [hn, hr1, Int.toNat_natCast]
  have hE : parseC b = if endF (readsC n r1).2 = 0 then ((readsC n r1).1, 0) else ([], endF (readsC n r1).2) := by unfold parseC; rw [hA]
  rw [hn, hr1]
  rw [hr1] at hno
  rw [hn] at hn8
  refine LoopK.mk3 (fun (m : Nat) (q : Rd) (acc : List CV) => [(6, vI m), (5, accV 1 acc), (4, .s (.lf (.ptr 0 0))), (3, vI 0), (2, .s (.lf .sl0))]) (fun m q acc => some (obR q) :: accH acc)
    (fun m q acc => q.ok ∧ acc ++ (readsC m q).1 = (readsC n r1).1 ∧ (readsC m q).2 = (readsC n r1).2 ∧ acc.length + m = n) (fun m q acc => m) n r1 [] ⟨hno, rfl, rfl, by simp⟩ ?_ ?_
  · exact Weak.of ⟨rfl, okGs.ws (by exact ⟨trivial, trivial, trivial, trivial⟩), trivial⟩ (by simp) ⟨okF.wv trivial, okF.wv trivial, okF.wv rfl, okF.wv trivial, okF.wv trivial, trivial⟩
  rintro m q acc ⟨hq, ha, hb', hl⟩
  conv => whnf
  cases m with
  | zero =>
    repeat (refine CaseB.of_false (decide_eq_false (show ¬ (0 : Int) < ((0 : Nat) : Int) by omega)) ?_; conv => whnf)
    have hS : readsC 0 q = ([], q) := rfl
    rw [hS, List.append_nil] at ha
    rw [hS] at hb'
    refine CallK.mk' _ _ (frR _ (c85 q hq) trivial trivial) ?_
    conv => whnf
    rw [show (if 0 < q.l.length then 3 else q.e) = endF q from rfl]
    rw [← hb', ← ha] at hE
    by_cases hz : endF q = 0
    · refine CaseB.of_false (decide_eq_false (fun h => h hz)) ?_
      conv => whnf
      rw [if_pos hz] at hE
      rw [hE]
      cases acc with
      | nil => exact RetK.empty (WV.tup ⟨WL.sl0ro, WL.int rfl, trivial⟩)
      | cons a l => exact RetK.empty (WV.tup ⟨WL.lentC (ty := 23) rfl rfl rfl (fun _ _ _ _ => rfl) (gone_none fun h => h), WL.int rfl, trivial⟩)
    · refine CaseB.of_true (decide_eq_true hz) ?_
      conv => whnf
      rw [if_neg hz] at hE
      rw [hE]
      exact RetK.empty (WV.tup ⟨WL.sl0ro, WL.int rfl, trivial⟩)
  | succ m =>
    repeat (refine CaseB.of_true (decide_eq_true (show (0 : Int) < ((m + 1 : Nat) : Int) by omega)) ?_; conv => whnf)
    refine CallK.mk' _ _ (frR _ (c68 q) trivial trivial) ?_
    conv => whnf
    by_cases he : q.e = 0
    · repeat ((first | refine CaseB.of_true (decide_eq_true he) ?_ | refine CaseB.of_true (decide_eq_true (show (0 : Int) < ((m + 1 : Nat) : Int) by omega)) ?_); conv => whnf)
      have hS : readsC (m + 1) q = ((readC q).1 :: (readsC m (readC q).2).1, (readsC m (readC q).2).2) := by conv => lhs; unfold readsC; rw [if_neg (fun h => h he)]
      rw [hS] at ha hb'
      have hq2 := readC_ok hq
      have h66 := c66 q hq
      obtain ⟨c, hc⟩ : ∃ c, (readC q).1 = c := ⟨_, rfl⟩
      obtain ⟨q2, hq2'⟩ : ∃ q2, (readC q).2 = q2 := ⟨_, rfl⟩
      rw [hc, hq2'] at ha h66
      rw [hq2'] at hb' hq2
      have ha' : acc ++ [c] ++ (readsC m q2).1 = (readsC n r1).1 := by rw [← ha]; simp
      cases acc with
      | nil =>
        conv => whnf
        refine CallK.mk' _ _ (frR _ h66 trivial ⟨trivial, trivial, trivial, trivial⟩) ?_
        conv => whnf
        refine Or.inr ?_
        conv => whnf
        refine And.intro (by show (0 + 1) * 32 ≤ _; omega) ?_
        conv => whnf
        refine ⟨(m, q2, [c]), ⟨hq2, ha', hb', by simp only [List.length_nil, List.length_cons] at hl ⊢; omega⟩, by show m < m + 1; omega, ?_⟩
        exact Weak.of ⟨rfl, okGs.ws (by exact ⟨trivial, trivial, trivial, trivial⟩), rfl, ⟨.recs rfl fun i hi j hj => by
            have hi : i < 0 + 1 := hi
            obtain rfl : i = 0 := by omega
            have : j = 0 ∨ j = 1 ∨ j = 2 := by have : j < 3 := hj; omega
            rcases this with rfl | rfl | rfl
            · exact plainL.wl (v := .int .i64 c.k) trivial
            · exact plainL.wl (v := .int .i64 c.n) trivial
            · exact plainL.wl (v := .str c.s) trivial, trivial⟩, trivial⟩ (by simp)
          ⟨WV.lf (WL.int (by rw [wrap_i64 (by omega) (by omega)]; show ((m + 1 : Nat) : Int) - 1 = (m : Int); omega)), WV.lf (WL.own rfl rfl rfl rfl), okF.wv rfl, okF.wv trivial, okF.wv trivial, trivial⟩
      | cons a l =>
        conv => whnf
        refine CallK.mk' _ _ (frR _ h66 trivial ⟨trivial, trivial, trivial, trivial⟩) ?_
        conv => whnf
        refine Or.inr ?_
        conv => whnf
        refine And.intro (by omega) ?_
        conv => whnf
        refine And.intro ⟨rfl, by show ((a :: l).length + 1) * 32 ≤ _; omega⟩ ?_
        conv => whnf
        refine ⟨(m, q2, a :: l ++ [c]), ⟨hq2, ha', hb', by show (a :: l ++ [c]).length + m = n; rw [List.length_append]; simp only [List.length_cons, List.length_nil] at hl ⊢; omega⟩, by show m < m + 1; omega, ?_⟩
        have hlc : (a :: l).length + 1 = (a :: (l ++ [c])).length := by simp
        exact Weak.perm [0, 2] ⟨⟨rfl, obR_ws _⟩, ⟨rfl, .recs hlc fun i hi j hj => wl_of_eq (rowC_snoc (a :: l) c i j hi hj) (rowC_wl hj), trivial⟩, trivial⟩
          ⟨WV.lf (WL.int (by rw [wrap_i64 (by omega) (by omega)]; show ((m + 1 : Nat) : Int) - 1 = (m : Int); omega)), WV.lf (WL.own rfl rfl rfl hlc), WV.lf (WL.ptr rfl rfl), freeF.wv trivial, freeF.wv trivial, trivial⟩ rfl (by show 2 ≤ 2; omega) rfl (Nat.zero_le _)
    · repeat ((first | refine CaseB.of_false (decide_eq_false he) ?_ | refine CaseB.of_true (decide_eq_true (show (0 : Int) < ((m + 1 : Nat) : Int) by omega)) ?_); conv => whnf)
      have hS := readsC_err (m + 1) he
      rw [hS, List.append_nil] at ha
      rw [hS] at hb'
      refine CallK.mk' _ _ (frR _ (c85 q hq) trivial trivial) ?_
      conv => whnf
      rw [show (if 0 < q.l.length then 3 else q.e) = endF q from rfl]
      rw [← hb', ← ha] at hE
      by_cases hz : endF q = 0
      · refine CaseB.of_false (decide_eq_false (fun h => h hz)) ?_
        conv => whnf
        rw [if_pos hz] at hE
        rw [hE]
        cases acc with
        | nil => exact RetK.empty (WV.tup ⟨WL.sl0ro, WL.int rfl, trivial⟩)
        | cons a l => exact RetK.empty (WV.tup ⟨WL.lentC (ty := 23) rfl rfl rfl (fun _ _ _ _ => rfl) (gone_none fun h => h), WL.int rfl, trivial⟩)
      · refine CaseB.of_true (decide_eq_true hz) ?_
        conv => whnf
        rw [if_neg hz] at hE
        rw [hE]
        exact RetK.empty (WV.tup ⟨WL.sl0ro, WL.int rfl, trivial⟩)

/-- What ReadAll gives. -/
def keptC (x : List CV × Rd) : List CV := if x.2.e ≠ 0 then [] else x.1

/-- baileyref06.ReadAll -/
theorem c141 (r : Rd) (hr : r.ok) : SCalls Proofs.Try.prog 141 [.s (.lf (.ptr 0 0))] [some (obQ r)] (.s (.lf (.ro false false 3 (keptC (allC r)).length (rowC (keptC (allC r)))))) [some (obQ (allC r).2)] := by
  have hn8 := numR_range hr 8
  have hno := numR_ok hr 8
  have h147 := c147 r 8 hr
  obtain ⟨n, hn⟩ : ∃ n : Nat, (numR r 8).1 = n := ⟨(numR r 8).1.toNat, by omega⟩
  obtain ⟨r1, hr1⟩ : ∃ r1, (numR r 8).2 = r1 := ⟨_, rfl⟩
  have hA : allC r = readsC n r1 := by unfold allC; rw [hn, hr1, Int.toNat_natCast]
  rw [hn, hr1] at h147
  rw [hr1] at hno
  rw [hn] at hn8
  rw [hA]
  refine SCalls.intro tok Proofs.Try.func141 ?_
  conv => whnf
  refine CallK.mk' _ _ h147 ?_
  conv => whnf
  refine LoopK.mk3 (fun (m : Nat) (q : Rd) (acc : List CV) => [(5, vI ((n - m : Nat) : Int)), (4, vI n), (3, accV 1 acc), (2, .s (.lf .sl0)), (0, .s (.lf (.ptr 0 0)))]) (fun m q acc => some (obQ q) :: accH acc)
    (fun m q acc => q.ok ∧ acc ++ (readsC m q).1 = (readsC n r1).1 ∧ (readsC m q).2 = (readsC n r1).2 ∧ acc.length + m = n) (fun m q acc => m) n r1 [] ⟨hno, rfl, rfl, by simp⟩ ?_ ?_
  · exact Weak.of ⟨rfl, okGs.ws (by exact ⟨trivial, trivial, trivial⟩), trivial⟩ (by simp) ⟨WV.lf (WL.int (by omega)), okF.wv trivial, okF.wv trivial, okF.wv trivial, okF.wv rfl, trivial⟩
  rintro m q acc ⟨hq, ha, hb', hl⟩
  conv => whnf
  cases m with
  | zero =>
    repeat (refine CaseB.of_false (decide_eq_false (show ¬ ((n - 0 : Nat) : Int) < (n : Int) by omega)) ?_; conv => whnf)
    have hS : readsC 0 q = ([], q) := rfl
    rw [hS, List.append_nil] at ha
    rw [hS] at hb'
    refine CallK.mk' _ _ (frQ _ (c69 q) trivial trivial) ?_
    conv => whnf
    have hK : keptC (readsC n r1) = if q.e ≠ 0 then [] else acc := by unfold keptC; rw [← hb', ← ha]
    have hW : (readsC n r1).2 = q := hb'.symm
    rw [hW, hK]
    by_cases hz : q.e = 0
    · refine CaseB.of_false (decide_eq_false (fun h => h hz)) ?_
      conv => whnf
      rw [if_neg (fun h => h hz)]
      cases acc with
      | nil => exact RetK.of ⟨rfl, okGs.ws (by exact ⟨trivial, trivial, trivial⟩), trivial⟩ (by simp) (WV.lf WL.sl0ro)
      | cons a l => exact RetK.of ⟨rfl, okGs.ws (by exact ⟨trivial, trivial, trivial⟩), trivial⟩ (by simp) (WV.lf (WL.lentC (ty := 23) rfl rfl rfl (fun _ _ _ _ => rfl) (gone_one (by decide))))
    · refine CaseB.of_true (decide_eq_true hz) ?_
      conv => whnf
      rw [if_pos hz]
      cases acc with
      | nil => exact RetK.of ⟨rfl, okGs.ws (by exact ⟨trivial, trivial, trivial⟩), trivial⟩ (by simp) (WV.lf WL.sl0ro)
      | cons a l => exact RetK.of ⟨rfl, okGs.ws (by exact ⟨trivial, trivial, trivial⟩), trivial⟩ (by simp) (WV.lf WL.sl0ro)
  | succ m =>
    repeat (refine CaseB.of_true (decide_eq_true (show ((n - (m + 1) : Nat) : Int) < (n : Int) by omega)) ?_; conv => whnf)
    refine CallK.mk' _ _ (frQ _ (c69 q) trivial trivial) ?_
    conv => whnf
    by_cases he : q.e = 0
    · repeat ((first | refine CaseB.of_true (decide_eq_true he) ?_ | refine CaseB.of_true (decide_eq_true (show ((n - (m + 1) : Nat) : Int) < (n : Int) by omega)) ?_); conv => whnf)
      have hS : readsC (m + 1) q = ((readC q).1 :: (readsC m (readC q).2).1, (readsC m (readC q).2).2) := by conv => lhs; unfold readsC; rw [if_neg (fun h => h he)]
      rw [hS] at ha hb'
      have hq2 := readC_ok hq
      have h66 := c67 q hq
      obtain ⟨c, hc⟩ : ∃ c, (readC q).1 = c := ⟨_, rfl⟩
      obtain ⟨q2, hq2'⟩ : ∃ q2, (readC q).2 = q2 := ⟨_, rfl⟩
      rw [hc, hq2'] at ha h66
      rw [hq2'] at hb' hq2
      have ha' : acc ++ [c] ++ (readsC m q2).1 = (readsC n r1).1 := by rw [← ha]; simp
      cases acc with
      | nil =>
        conv => whnf
        refine CallK.mk' _ _ (frQ _ h66 trivial ⟨trivial, trivial, trivial, trivial⟩) ?_
        conv => whnf
        refine Or.inr ?_
        conv => whnf
        refine And.intro (by show (0 + 1) * 32 ≤ _; omega) ?_
        conv => whnf
        refine ⟨(m, q2, [c]), ⟨hq2, ha', hb', by simp only [List.length_nil, List.length_cons] at hl ⊢; omega⟩, by show m < m + 1; omega, ?_⟩
        exact Weak.of ⟨rfl, okGs.ws (by exact ⟨trivial, trivial, trivial⟩), rfl, ⟨.recs rfl fun i hi j hj => by
            have hi : i < 0 + 1 := hi
            obtain rfl : i = 0 := by omega
            have : j = 0 ∨ j = 1 ∨ j = 2 := by have : j < 3 := hj; omega
            rcases this with rfl | rfl | rfl
            · exact plainL.wl (v := .int .i64 c.k) trivial
            · exact plainL.wl (v := .int .i64 c.n) trivial
            · exact plainL.wl (v := .str c.s) trivial, trivial⟩, trivial⟩ (by simp)
          ⟨WV.lf (WL.int (by rw [wrap_i64 (by omega) (by omega)]; show ((n - (m + 1) : Nat) : Int) + 1 = ((n - m : Nat) : Int); omega)), okF.wv trivial, WV.lf (WL.own rfl rfl rfl rfl), okF.wv trivial, okF.wv rfl, trivial⟩
      | cons a l =>
        conv => whnf
        refine CallK.mk' _ _ (frQ _ h66 trivial ⟨trivial, trivial, trivial, trivial⟩) ?_
        conv => whnf
        refine Or.inr ?_
        conv => whnf
        refine And.intro (by omega) ?_
        conv => whnf
        refine And.intro ⟨rfl, by show ((a :: l).length + 1) * 32 ≤ _; omega⟩ ?_
        conv => whnf
        refine ⟨(m, q2, a :: l ++ [c]), ⟨hq2, ha', hb', by show (a :: l ++ [c]).length + m = n; rw [List.length_append]; simp only [List.length_cons, List.length_nil] at hl ⊢; omega⟩, by show m < m + 1; omega, ?_⟩
        have hlc : (a :: l).length + 1 = (a :: (l ++ [c])).length := by simp
        exact Weak.perm [0, 2] ⟨⟨rfl, obQ_ws _⟩, ⟨rfl, .recs hlc fun i hi j hj => wl_of_eq (rowC_snoc (a :: l) c i j hi hj) (rowC_wl hj), trivial⟩, trivial⟩
          ⟨WV.lf (WL.int (by rw [wrap_i64 (by omega) (by omega)]; show ((n - (m + 1) : Nat) : Int) + 1 = ((n - m : Nat) : Int); omega)), freeF.wv trivial, WV.lf (WL.own rfl rfl rfl hlc), freeF.wv trivial, WV.lf (WL.ptr rfl rfl), trivial⟩ rfl (by show 2 ≤ 2; omega) rfl (by show 1 ≤ 2; omega)
    · repeat ((first | refine CaseB.of_false (decide_eq_false he) ?_ | refine CaseB.of_true (decide_eq_true (show ((n - (m + 1) : Nat) : Int) < (n : Int) by omega)) ?_); conv => whnf)
      have hS := readsC_err (m + 1) he
      rw [hS, List.append_nil] at ha
      rw [hS] at hb'
      refine CallK.mk' _ _ (frQ _ (c69 q) trivial trivial) ?_
      conv => whnf
      have hK : keptC (readsC n r1) = if q.e ≠ 0 then [] else acc := by unfold keptC; rw [← hb', ← ha]
      have hW : (readsC n r1).2 = q := hb'.symm
      rw [hW, hK]
      by_cases hz : q.e = 0
      · refine CaseB.of_false (decide_eq_false (fun h => h hz)) ?_
        conv => whnf
        rw [if_neg (fun h => h hz)]
        cases acc with
        | nil => exact RetK.of ⟨rfl, okGs.ws (by exact ⟨trivial, trivial, trivial⟩), trivial⟩ (by simp) (WV.lf WL.sl0ro)
        | cons a l => exact RetK.of ⟨rfl, okGs.ws (by exact ⟨trivial, trivial, trivial⟩), trivial⟩ (by simp) (WV.lf (WL.lentC (ty := 23) rfl rfl rfl (fun _ _ _ _ => rfl) (gone_one (by decide))))
      · refine CaseB.of_true (decide_eq_true hz) ?_
        conv => whnf
        rw [if_pos hz]
        cases acc with
        | nil => exact RetK.of ⟨rfl, okGs.ws (by exact ⟨trivial, trivial, trivial⟩), trivial⟩ (by simp) (WV.lf WL.sl0ro)
        | cons a l => exact RetK.of ⟨rfl, okGs.ws (by exact ⟨trivial, trivial, trivial⟩), trivial⟩ (by simp) (WV.lf WL.sl0ro)

theorem endF_err {q : Rd} (hq : q.ok) (h : q.e ≠ 0) : endF q = q.e := by unfold endF; rw [if_neg (by rw [hq.nil h]; simp)]

/-- baileyref06.Parse -/
theorem c63 (b : List UInt8) (hb : b.length ≤ 1000000000) : SCalls Proofs.Try.prog 63 [.s (.lf (.rob false false b))] [] (.tup [.lf (.ro false false 3 (parseC b).1.length (rowC (parseC b).1)), .lf (.int .i64 (parseC b).2)]) [] := by
  have h0 : (⟨b, 0⟩ : Rd).ok := ⟨fun h => absurd rfl h, by show IntKind.i64.min ≤ 0; decide, by show (0 : Int) ≤ IntKind.i64.max; decide, by show b.length ≤ _; omega⟩
  have hk := allC_ok h0
  refine SCalls.intro tok Proofs.Try.func63 ?_
  conv => whnf
  refine CallK.mk' _ _ (c65 b (by omega)) ?_
  conv => whnf
  refine CallK.mk' _ _ (c141 ⟨b, 0⟩ h0) ?_
  conv => whnf
  refine CallK.mk' _ _ (c142 _ hk) ?_
  conv => whnf
  rw [show (if 0 < (allC ⟨b, 0⟩).2.l.length then 3 else (allC ⟨b, 0⟩).2.e) = endF (allC ⟨b, 0⟩).2 from rfl]
  by_cases hz : endF (allC ⟨b, 0⟩).2 = 0
  · refine CaseB.of_false (decide_eq_false (fun h => h hz)) ?_
    conv => whnf
    have hE : parseC b = ((allC ⟨b, 0⟩).1, 0) := by unfold parseC; rw [if_pos hz]
    have he : (allC ⟨b, 0⟩).2.e = 0 := by
      by_cases h : (allC ⟨b, 0⟩).2.e = 0
      · exact h
      · rw [endF_err hk h] at hz; exact hz
    have hK : keptC (allC ⟨b, 0⟩) = (allC ⟨b, 0⟩).1 := by unfold keptC; rw [if_neg (fun h => h he)]
    rw [hE, hK]
    exact RetK.empty (WV.tup ⟨WL.ro rfl (by simp) (by simp) fun i hi j hj => rowC_wl hj, WL.int rfl, trivial⟩)
  · refine CaseB.of_true (decide_eq_true hz) ?_
    conv => whnf
    have hE : parseC b = ([], endF (allC ⟨b, 0⟩).2) := by unfold parseC; rw [if_neg hz]
    rw [hE]
    exact RetK.empty (WV.tup ⟨WL.sl0ro, WL.int rfl, trivial⟩)
end Go.Sym.Md
