/- Contracts of the program's functions, proved by the framework (text MdU), without conditions but those that each theorem states. -/
import Derived.Test.YtlmcdgbjbamdnaaMdX
set_option linter.unusedVariables false
set_option linter.unusedSimpArgs false
set_option maxRecDepth 10000
namespace Go.Sym.Md
open Go Go.Sym Go.Lib

/-! ### Lists of caveats -/
structure CV where
  k : Int
  n : Int
  s : List UInt8
  deriving DecidableEq

def cv0 : CV := ⟨0, 0, []⟩
def rowC (cs : List CV) (i j : Nat) : LV :=
  match j with
  | 0 => .int .i64 (cs.getD i cv0).k
  | 1 => .int .i64 (cs.getD i cv0).n
  | _ => .str (cs.getD i cv0).s
abbrev vR (cs : List CV) : FV := .s (.lf (.ro false false 3 cs.length (rowC cs)))

theorem rowC_ok {cs : List CV} {H : Hp} : okF H (vR cs) := by
  intro i hi j hj
  have : j = 0 ∨ j = 1 ∨ j = 2 := by omega
  rcases this with rfl | rfl | rfl <;> trivial
theorem rowC_free {cs : List CV} : freeF (vR cs) := by
  intro i hi j hj
  have : j = 0 ∨ j = 1 ∨ j = 2 := by omega
  rcases this with rfl | rfl | rfl <;> trivial

theorem rd_cvs {w : World} {v : Value} {len : Nat} {f : Nat → Nat → LV} (h : ∀ i, i < len → RdL Γ 5 23 (f i) 0) (hl : len ≤ maxLen) (hr : repF w L0 (.s (.lf (.ro false false 3 len f))) v) : ∃ cs : List CV, cs.length ≤ maxLen ∧ repF w L0 (vR cs) v := by
  obtain ⟨k, n, s, R⟩ := rd_row h
  refine ⟨(List.range len).map fun i => ⟨k i, n i, s i⟩, by simpa using hl, ?_⟩
  have hlen : ((List.range len).map fun i => (⟨k i, n i, s i⟩ : CV)).length = len := by simp
  have hg : ∀ i, i < len → ((List.range len).map fun i => (⟨k i, n i, s i⟩ : CV)).getD i cv0 = ⟨k i, n i, s i⟩ := fun i hi => by simp [List.getD, hi]
  show roRep _ _ _ _ _ _ _ _
  rw [hlen]
  rcases hr with hr | ⟨a, cap, h0, h1, h2, h3, h4, h5⟩
  · exact .inl hr
  · refine .inr ⟨a, cap, h0, h1, h2, h3, h4, fun i hi j hj => ?_⟩
    obtain ⟨c, e1, e2, e3⟩ := h5 i hi j hj
    refine ⟨c, e1, e2, ?_⟩
    have : j = 0 ∨ j = 1 ∨ j = 2 := by omega
    rcases this with rfl | rfl | rfl
    · rw [R.c0 i hi] at e3; show rep _ _ (.int .i64 _) _; rw [hg i hi]; exact e3
    · rw [R.c1 i hi] at e3; show rep _ _ (.int .i64 _) _; rw [hg i hi]; exact e3
    · rw [R.c2 i hi] at e3; show rep _ _ (.str _) _; rw [hg i hi]; exact e3

theorem cv_eq (a b : CV) : a = b ↔ a.k = b.k ∧ a.n = b.n ∧ a.s = b.s := by
  cases a; cases b; simp

theorem cv_neq_f {x y : CV} (h : x = y) : (!(decide (x.k = y.k) && (decide (x.n = y.n) && (decide (x.s = y.s) && true)))) = false := by subst h; simp
theorem cv_neq_t {x y : CV} (h : ¬ x = y) : (!(decide (x.k = y.k) && (decide (x.n = y.n) && (decide (x.s = y.s) && true)))) = true := by
  rw [cv_eq] at h
  simp only [Bool.and_true]
  by_cases h1 : x.k = y.k <;> by_cases h2 : x.n = y.n <;> by_cases h3 : x.s = y.s <;> simp_all

/-- slices.Equal, of caveats. -/
theorem c127 (a b : List CV) (ha : a.length ≤ maxLen) : SCalls Proofs.Try.prog 127 [vR a, vR b] [] (.s (.lf (.bool (decide (a = b))))) [] := by
  have hm : maxLen = 9223372036854775807 := rfl
  refine SCalls.intro tok Proofs.Try.func127 ?_
  conv => whnf
  by_cases hl : a.length = b.length
  · refine CaseB.of_false (by simp [hl]) ?_
    conv => whnf
    refine LoopK.mk1 (fun i : Nat => [(0, vR a), (1, vR b), (12, vI a.length), (13, vI i)]) (fun i => []) (fun i => i ≤ a.length ∧ a.take i = b.take i) (fun i => a.length - i) 0 ⟨by omega, rfl⟩ ?_ ?_
    · exact Weak.of ⟨⟩ (by simp) ⟨okF.wv rowC_ok, okF.wv rowC_ok, okF.wv trivial, okF.wv trivial, trivial⟩
    intro i hi
    obtain ⟨hi, ht⟩ := hi
    conv => whnf
    by_cases hi' : i < a.length
    · refine CaseB.of_true (decide_eq_true (by omega)) ?_
      conv => whnf
      refine DrawK.mk1 tok mixed [0, 0, 3, 7, 0, 0, 48, 112, 255] [(0, 0, []), (1, 0, []), (4, 0, []), (5, 0, []), (2, 1, [0]), (3, 1, [0]), (6, 1, [0]), (7, 1, [0]), (8, 1, [0])] (by kernel_rfl) ?_
      conv => whnf
      repeat (refine And.intro (by omega) ?_; conv => whnf)
      have hx0 : a[i]? = some (a.getD i cv0) := by rw [List.getD_eq_getElem?_getD, List.getElem?_eq_getElem hi']; rfl
      have hy0 : b[i]? = some (b.getD i cv0) := by rw [List.getD_eq_getElem?_getD, List.getElem?_eq_getElem (by omega)]; rfl
      by_cases he : a.getD i cv0 = b.getD i cv0
      · refine CaseB.of_false (cv_neq_f (by rw [Int.toNat_natCast]; exact he)) ?_
        conv => whnf
        refine ⟨i + 1, ⟨by omega, ?_⟩, by show a.length - (i + 1) < a.length - i; omega, Weak.of ⟨⟩ (by simp) ⟨okF.wv rowC_ok, okF.wv rowC_ok, okF.wv trivial, WV.lf (WL.int (by rw [wrap_i64 (by omega) (by omega)]; omega)), trivial⟩⟩
        rw [List.take_add_one, List.take_add_one, ht, hx0, hy0, he]
      · refine CaseB.of_true (cv_neq_t (by rw [Int.toNat_natCast]; exact he)) ?_
        conv => whnf
        refine RetK.empty (WV.lf (WL.ff (decide_eq_false fun e => he (by rw [e]))))
    · refine CaseB.of_false (decide_eq_false (by omega)) ?_
      conv => whnf
      refine RetK.empty (WV.lf (WL.tt (decide_eq_true ?_)))
      rw [List.take_of_length_le (by omega), List.take_of_length_le (by omega)] at ht
      exact ht
  · refine CaseB.of_true (by simp; omega) ?_
    conv => whnf
    exact RetK.empty (WV.lf (WL.ff (decide_eq_false fun e => hl (by rw [e]))))

/-- caveat.Same -/
theorem c31 (a b : List CV) (ha : a.length ≤ maxLen) : SCalls Proofs.Try.prog 31 [vR a, vR b] [] (.s (.lf (.bool (decide (a = b))))) [] := by
  refine SCalls.intro tok Proofs.Try.func31 ?_
  conv => whnf
  refine CallK.mk' _ _ (c127 a b ha) ?_
  conv => whnf
  exact RetK.empty (okF.wv trivial)

/-- baileyref06.Same -/
theorem c32 (a b : List CV) (ha : a.length ≤ maxLen) : SCalls Proofs.Try.prog 32 [vR a, vR b] [] (.s (.lf (.bool (decide (a = b))))) [] := by
  have hm : maxLen = 9223372036854775807 := rfl
  refine SCalls.intro tok Proofs.Try.func32 ?_
  conv => whnf
  by_cases hl : a.length = b.length
  · refine CaseB.of_false (by simp [hl]) ?_
    conv => whnf
    refine LoopK.mk1 (fun i : Nat => [(0, vR a), (1, vR b), (5, vI i)]) (fun i => []) (fun i => i ≤ a.length ∧ a.take i = b.take i) (fun i => a.length - i) 0 ⟨by omega, rfl⟩ ?_ ?_
    · exact Weak.of ⟨⟩ (by simp) ⟨okF.wv rowC_ok, okF.wv rowC_ok, okF.wv trivial, trivial⟩
    intro i hi
    obtain ⟨hi, ht⟩ := hi
    conv => whnf
    by_cases hi' : i < a.length
    · refine CaseB.of_true (decide_eq_true (by omega)) ?_
      conv => whnf
      refine DrawK.mk1 tok mixed [0, 0, 3, 7, 0, 0, 48, 112, 255] [(0, 0, []), (1, 0, []), (4, 0, []), (5, 0, []), (2, 1, [0]), (3, 1, [0]), (6, 1, [0]), (7, 1, [0]), (8, 1, [0])] (by kernel_rfl) ?_
      conv => whnf
      repeat (refine And.intro (by omega) ?_; conv => whnf)
      have hx0 : a[i]? = some (a.getD i cv0) := by rw [List.getD_eq_getElem?_getD, List.getElem?_eq_getElem hi']; rfl
      have hy0 : b[i]? = some (b.getD i cv0) := by rw [List.getD_eq_getElem?_getD, List.getElem?_eq_getElem (by omega)]; rfl
      by_cases he : a.getD i cv0 = b.getD i cv0
      · refine CaseB.of_false (cv_neq_f (by rw [Int.toNat_natCast]; exact he)) ?_
        conv => whnf
        refine ⟨i + 1, ⟨by omega, ?_⟩, by show a.length - (i + 1) < a.length - i; omega, Weak.of ⟨⟩ (by simp) ⟨okF.wv rowC_ok, okF.wv rowC_ok, WV.lf (WL.int (by rw [wrap_i64 (by omega) (by omega)]; omega)), trivial⟩⟩
        rw [List.take_add_one, List.take_add_one, ht, hx0, hy0, he]
      · refine CaseB.of_true (cv_neq_t (by rw [Int.toNat_natCast]; exact he)) ?_
        conv => whnf
        refine RetK.empty (WV.lf (WL.ff (decide_eq_false fun e => he (by rw [e]))))
    · refine CaseB.of_false (decide_eq_false (by omega)) ?_
      conv => whnf
      refine RetK.empty (WV.lf (WL.tt (decide_eq_true ?_)))
      rw [List.take_of_length_le (by omega), List.take_of_length_le (by omega)] at ht
      exact ht
  · refine CaseB.of_true (by simp; omega) ?_
    conv => whnf
    exact RetK.empty (WV.lf (WL.ff (decide_eq_false fun e => hl (by rw [e]))))

/-- Whether a list begins with another one. -/
def extF (long short : List CV) : Bool := decide (short.length ≤ long.length ∧ long.take short.length = short)

theorem row_take {D : Rel} [ROk D] {a : List CV} {n i j : Nat} (hi : i < n) (hj : j < 3) : WL D (rowC a (Int.toNat 0 + i) j) (rowC (a.take n) i j) := by
  have e : (a.take n).getD i cv0 = a.getD i cv0 := by rw [List.getD_eq_getElem?_getD, List.getD_eq_getElem?_getD, List.getElem?_take, if_pos hi]
  have : rowC a (Int.toNat 0 + i) j = rowC (a.take n) i j := by
    unfold rowC
    rw [show Int.toNat 0 + i = i from Nat.zero_add i, e]
  rw [this]
  have : j = 0 ∨ j = 1 ∨ j = 2 := by omega
  rcases this with rfl | rfl | rfl <;> exact freeL.wl trivial

/-- caveat.Extends -/
theorem c33 (a b : List CV) (ha : a.length ≤ maxLen) : SCalls Proofs.Try.prog 33 [vR a, vR b] [] (.s (.lf (.bool (extF a b)))) [] := by
  have hm : maxLen = 9223372036854775807 := rfl
  refine SCalls.intro tok Proofs.Try.func33 ?_
  conv => whnf
  by_cases hl : (b.length : Int) ≤ (a.length : Int)
  · refine CaseB.of_true (decide_eq_true hl) ?_
    conv => whnf
    refine And.intro ⟨by omega, by omega, by omega⟩ ?_
    conv => whnf
    have hl' : (Int.toNat (b.length : Int)) - Int.toNat 0 = (a.take b.length).length := by rw [Int.toNat_natCast, List.length_take, show Int.toNat 0 = 0 from rfl]; omega
    refine CallK.mk' _ _ ((c31 (a.take b.length) b (by rw [List.length_take]; omega)).lend (fun _ => True) [] ⟨WV.lf (WL.ro (hl') (by simp) (by simp) fun i hi j hj => row_take (by omega) hj), freeF.wv rowC_free, trivial⟩ (plainF.wv trivial)) ?_
    conv => whnf
    exact RetK.empty (WV.lf (WL.bool (by unfold extF; rw [decide_eq_decide]; exact ⟨fun h => ⟨by omega, h⟩, fun h => h.2⟩)))
  · refine CaseB.of_false (decide_eq_false hl) ?_
    conv => whnf
    exact RetK.empty (WV.lf (WL.ff (decide_eq_false fun e => by omega)))

/-- baileyref06.Extends -/
theorem c34 (a b : List CV) (ha : a.length ≤ maxLen) : SCalls Proofs.Try.prog 34 [vR a, vR b] [] (.s (.lf (.bool (extF a b)))) [] := by
  have hm : maxLen = 9223372036854775807 := rfl
  refine SCalls.intro tok Proofs.Try.func34 ?_
  conv => whnf
  by_cases hl : (b.length : Int) ≤ (a.length : Int)
  · refine CaseB.of_true (decide_eq_true hl) ?_
    conv => whnf
    have hmin : min (b.length : Int) (a.length : Int) = (b.length : Int) := by omega
    rw [hmin]
    refine And.intro ⟨by omega, by omega, by omega⟩ ?_
    conv => whnf
    have hl' : (Int.toNat (b.length : Int)) - Int.toNat 0 = (a.take b.length).length := by rw [Int.toNat_natCast, List.length_take, show Int.toNat 0 = 0 from rfl]; omega
    refine CallK.mk' _ _ ((c32 (a.take b.length) b (by rw [List.length_take]; omega)).lend (fun _ => True) [] ⟨WV.lf (WL.ro (hl') (by simp) (by simp) fun i hi j hj => row_take (by omega) hj), freeF.wv rowC_free, trivial⟩ (plainF.wv trivial)) ?_
    conv => whnf
    exact RetK.empty (WV.lf (WL.bool (by unfold extF; rw [decide_eq_decide]; exact ⟨fun h => ⟨by omega, h⟩, fun h => h.2⟩)))
  · refine CaseB.of_false (decide_eq_false hl) ?_
    conv => whnf
    exact RetK.empty (WV.lf (WL.ff (decide_eq_false fun e => by omega)))

/-- Whether caveats are few and short. -/
def fewL (cs : List CV) : Bool := decide (cs.length ≤ 30) && cs.all fun c => decide (c.s.length ≤ 200)

/-- baileylaw06.few -/
theorem c30L (cs : List CV) (hlen : cs.length ≤ maxLen) : SCalls Proofs.Try.prog 30 [vR cs] [] (.s (.lf (.bool (fewL cs)))) [] := by
  have hm : maxLen = 9223372036854775807 := rfl
  refine SCalls.intro tok Proofs.Try.func30 ?_
  conv => whnf
  refine LoopK.mk1 (fun i : Nat => [(5, vR cs), (6, vI cs.length), (7, vI i)]) (fun _ => []) (fun i => i ≤ cs.length ∧ i ≤ 30 ∧ (cs.take i).all (fun c => decide (c.s.length ≤ 200)) = true) (fun i => cs.length - i) 0 ⟨by omega, by omega, rfl⟩ ?_ ?_
  · exact Weak.of ⟨⟩ (by simp) ⟨okF.wv rowC_ok, okF.wv trivial, okF.wv trivial, trivial⟩
  intro i hi
  obtain ⟨hi, hi30, hs⟩ := hi
  conv => whnf
  by_cases hl : i < cs.length
  · refine CaseB.of_true (decide_eq_true (by omega)) ?_
    conv => whnf
    refine And.intro (by omega) ?_
    conv => whnf
    have hx0 : cs[i]? = some (cs.getD i cv0) := by rw [List.getD_eq_getElem?_getD, List.getElem?_eq_getElem hl]; rfl
    by_cases h30 : 30 ≤ (i : Int)
    · refine CaseB.of_true (decide_eq_true h30) ?_
      conv => whnf
      exact RetK.empty (WV.lf (WL.ff (by unfold fewL; rw [decide_eq_false (by omega)]; rfl)))
    refine CaseB.of_false (decide_eq_false h30) ?_
    conv => whnf
    by_cases h200 : 200 < ((cs.getD (Int.toNat (i : Int)) cv0).s.length : Int)
    · refine CaseB.of_true (decide_eq_true h200) ?_
      conv => whnf
      rw [Int.toNat_natCast] at h200
      refine RetK.empty (WV.lf (WL.ff ?_))
      unfold fewL
      rw [Bool.and_eq_false_iff]
      right
      rw [List.all_eq_false]
      exact ⟨_, List.mem_of_getElem? hx0, by rw [decide_eq_false (by omega)]; simp⟩
    refine CaseB.of_false (decide_eq_false h200) ?_
    conv => whnf
    rw [Int.toNat_natCast] at h200
    refine ⟨i + 1, ⟨by omega, by omega, ?_⟩, by show cs.length - (i + 1) < cs.length - i; omega, ?_⟩
    · rw [List.take_add_one, hx0, List.all_append, hs]
      show (true && (decide ((cs.getD i cv0).s.length ≤ 200) && true)) = true
      rw [decide_eq_true (by omega)]
      rfl
    · exact Weak.of HpW.nil (by simp) ⟨okF.wv rowC_ok, okF.wv trivial, WV.lf (WL.int (by rw [wrap_i64 (by omega) (by omega)]; omega)), trivial⟩
  · refine CaseB.of_false (decide_eq_false (by omega)) ?_
    conv => whnf
    rw [List.take_of_length_le (by omega)] at hs
    exact RetK.empty (WV.lf (WL.tt (by unfold fewL; rw [hs, decide_eq_true (by omega)]; rfl)))

/-- baileylaw06.CaveatSame -/
theorem c4 (a b : List CV) (ha : a.length ≤ maxLen) (hb : b.length ≤ maxLen) : SCalls Proofs.Try.prog 4 [vR a, vR b] [] (.s (.lf .tt)) [] := by
  refine SCalls.intro tok Proofs.Try.func4 ?_
  conv => whnf
  refine CallK.mk' _ _ (c30L a ha) ?_
  conv => whnf
  cases fa : fewL a with
  | false =>
    refine CaseB.of_true rfl ?_
    conv => whnf
    refine CallK.mk' _ _ c25 ?_
    conv => whnf
    exact RetK.empty (okF.wv trivial)
  | true =>
    refine CaseB.of_false rfl ?_
    conv => whnf
    refine CallK.mk' _ _ (c30L b hb) ?_
    conv => whnf
    cases fb : fewL b with
    | false =>
      refine CaseB.of_true rfl ?_
      conv => whnf
      refine CallK.mk' _ _ c25 ?_
      conv => whnf
      exact RetK.empty (okF.wv trivial)
    | true =>
      refine CaseB.of_false rfl ?_
      conv => whnf
      refine CallK.mk' _ _ (c31 a b ha) ?_
      conv => whnf
      refine CallK.mk' _ _ (c32 a b ha) ?_
      conv => whnf
      refine CaseB.of_true (beq_self_eq_true _) ?_
      conv => whnf
      refine CallK.mk' _ _ (c31 a a ha) ?_
      conv => whnf
      refine CaseB.of_true (decide_eq_true rfl) ?_
      conv => whnf
      refine CallK.mk' _ _ (c33 a b ha) ?_
      conv => whnf
      refine CallK.mk' _ _ (c34 a b ha) ?_
      conv => whnf
      refine CaseB.of_true (beq_self_eq_true _) ?_
      conv => whnf
      refine CallK.mk' _ _ c25 ?_
      conv => whnf
      exact RetK.empty (okF.wv trivial)
end Go.Sym.Md
