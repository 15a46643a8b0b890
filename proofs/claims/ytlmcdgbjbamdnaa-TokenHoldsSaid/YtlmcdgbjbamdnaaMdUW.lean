/- Contracts of the program's functions, proved by the framework (text MdUW), without conditions but those that each theorem states. -/
import Derived.Test.YtlmcdgbjbamdnaaMdRX
set_option linter.unusedVariables false
set_option linter.unusedSimpArgs false
set_option maxRecDepth 10000
namespace Go.Sym.Md
open Go Go.Sym Go.Lib

/-! ### Lists of caveats -/
structure CV where
  k : Int
  n : Int
  s : List UInt8
  deriving DecidableEq

def cv0 : CV := ⟨0, 0, []⟩
def rowC (cs : List CV) (i j : Nat) : LV :=
  match j with
  | 0 => .int .i64 (cs.getD i cv0).k
  | 1 => .int .i64 (cs.getD i cv0).n
  | _ => .str (cs.getD i cv0).s
abbrev vR (cs : List CV) : FV := .s (.lf (.ro false false 3 cs.length (rowC cs)))

theorem rowC_ok {cs : List CV} {H : Hp} : okF H (vR cs) := by
  intro i hi j hj
  have : j = 0 ∨ j = 1 ∨ j = 2 := by omega
  rcases this with rfl | rfl | rfl <;> trivial
theorem rowC_free {cs : List CV} : freeF (vR cs) := by
  intro i hi j hj
  have : j = 0 ∨ j = 1 ∨ j = 2 := by omega
  rcases this with rfl | rfl | rfl <;> trivial

theorem rd_cvs {w : World} {v : Value} {len : Nat} {f : Nat → Nat → LV} (h : ∀ i, i < len → RdL Γ 5 23 (f i) 0) (hl : len ≤ maxLen) (hr : repF w L0 (.s (.lf (.ro false false 3 len f))) v) : ∃ cs : List CV, cs.length ≤ maxLen ∧ repF w L0 (vR cs) v := by
  obtain ⟨k, n, s, R⟩ := rd_row h
  refine ⟨(List.range len).map fun i => ⟨k i, n i, s i⟩, by simpa using hl, ?_⟩
  have hlen : ((List.range len).map fun i => (⟨k i, n i, s i⟩ : CV)).length = len := by simp
  have hg : ∀ i, i < len → ((List.range len).map fun i => (⟨k i, n i, s i⟩ : CV)).getD i cv0 = ⟨k i, n i, s i⟩ := fun i hi => by simp [List.getD, hi]
  show roRep _ _ _ _ _ _ _ _
  rw [hlen]
  rcases hr with hr | ⟨a, cap, h0, h1, h2, h3, h4, h5⟩
  · exact .inl hr
  · refine .inr ⟨a, cap, h0, h1, h2, h3, h4, fun i hi j hj => ?_⟩
    obtain ⟨c, e1, e2, e3⟩ := h5 i hi j hj
    refine ⟨c, e1, e2, ?_⟩
    have : j = 0 ∨ j = 1 ∨ j = 2 := by omega
    rcases this with rfl | rfl | rfl
    · rw [R.c0 i hi] at e3; show rep _ _ (.int .i64 _) _; rw [hg i hi]; exact e3
    · rw [R.c1 i hi] at e3; show rep _ _ (.int .i64 _) _; rw [hg i hi]; exact e3
    · rw [R.c2 i hi] at e3; show rep _ _ (.str _) _; rw [hg i hi]; exact e3

theorem cv_eq (a b : CV) : a = b ↔ a.k = b.k ∧ a.n = b.n ∧ a.s = b.s := by
  cases a; cases b; simp

theorem cv_neq_f {x y : CV} (h : x = y) : (!(decide (x.k = y.k) && (decide (x.n = y.n) && (decide (x.s = y.s) && true)))) = false := by subst h; simp
theorem cv_neq_t {x y : CV} (h : ¬ x = y) : (!(decide (x.k = y.k) && (decide (x.n = y.n) && (decide (x.s = y.s) && true)))) = true := by
  rw [cv_eq] at h
  simp only [Bool.and_true]
  by_cases h1 : x.k = y.k <;> by_cases h2 : x.n = y.n <;> by_cases h3 : x.s = y.s <;> simp_all

/-- slices.Equal, of caveats. -/
theorem c127 (a b : List CV) (ha : a.length ≤ maxLen) : SCalls Proofs.Try.prog 127 [vR a, vR b] [] (.s (.lf (.bool (decide (a = b))))) [] := by
  have hm : maxLen = 9223372036854775807 := rfl
  refine SCalls.intro tok Proofs.Try.func127 ?_
  conv => whnf
  by_cases hl : a.length = b.length
  · refine CaseB.of_false (by simp [hl]) ?_
    conv => whnf
    refine LoopK.mk1 (fun i : Nat => [(0, vR a), (1, vR b), (12, vI a.length), (13, vI i)]) (fun i => []) (fun i => i ≤ a.length ∧ a.take i = b.take i) (fun i => a.length - i) 0 ⟨by omega, rfl⟩ ?_ ?_
    · exact Weak.of ⟨⟩ (by simp) ⟨okF.wv rowC_ok, okF.wv rowC_ok, okF.wv trivial, okF.wv trivial, trivial⟩
    intro i hi
    obtain ⟨hi, ht⟩ := hi
    conv => whnf
    by_cases hi' : i < a.length
    · refine CaseB.of_true (decide_eq_true (by omega)) ?_
      conv => whnf
      refine DrawK.mk1 tok mixed [0, 0, 3, 7, 0, 0, 48, 112, 255] [(0, 0, []), (1, 0, []), (4, 0, []), (5, 0, []), (2, 1, [0]), (3, 1, [0]), (6, 1, [0]), (7, 1, [0]), (8, 1, [0])] (by kernel_rfl) ?_
      conv => whnf
      repeat (refine And.intro (by omega) ?_; conv => whnf)
      have hx0 : a[i]? = some (a.getD i cv0) := by rw [List.getD_eq_getElem?_getD, List.getElem?_eq_getElem hi']; rfl
      have hy0 : b[i]? = some (b.getD i cv0) := by rw [List.getD_eq_getElem?_getD, List.getElem?_eq_getElem (by omega)]; rfl
      by_cases he : a.getD i cv0 = b.getD i cv0
      · refine CaseB.of_false (cv_neq_f (by rw [Int.toNat_natCast]; exact he)) ?_
        conv => whnf
        refine ⟨i + 1, ⟨by omega, ?_⟩, by show a.length - (i + 1) < a.length - i; omega, Weak.of ⟨⟩ (by simp) ⟨okF.wv rowC_ok, okF.wv rowC_ok, okF.wv trivial, WV.lf (WL.int (by rw [wrap_i64 (by omega) (by omega)]; omega)), trivial⟩⟩
        rw [List.take_add_one, List.take_add_one, ht, hx0, hy0, he]
      · refine CaseB.of_true (cv_neq_t (by rw [Int.toNat_natCast]; exact he)) ?_
        conv => whnf
        refine RetK.empty (WV.lf (WL.ff (decide_eq_false fun e => he (by rw [e]))))
    · refine CaseB.of_false (decide_eq_false (by omega)) ?_
      conv => whnf
      refine RetK.empty (WV.lf (WL.tt (decide_eq_true ?_)))
      rw [List.take_of_length_le (by omega), List.take_of_length_le (by omega)] at ht
      exact ht
  · refine CaseB.of_true (by simp; omega) ?_
    conv => whnf
    exact RetK.empty (WV.lf (WL.ff (decide_eq_false fun e => hl (by rw [e]))))

/-- caveat.Same -/
theorem c31 (a b : List CV) (ha : a.length ≤ maxLen) : SCalls Proofs.Try.prog 31 [vR a, vR b] [] (.s (.lf (.bool (decide (a = b))))) [] := by
  refine SCalls.intro tok Proofs.Try.func31 ?_
  conv => whnf
  refine CallK.mk' _ _ (c127 a b ha) ?_
  conv => whnf
  exact RetK.empty (okF.wv trivial)

/-- baileyref06.Same -/
theorem c32 (a b : List CV) (ha : a.length ≤ maxLen) : SCalls Proofs.Try.prog 32 [vR a, vR b] [] (.s (.lf (.bool (decide (a = b))))) [] := by
  have hm : maxLen = 9223372036854775807 := rfl
  refine SCalls.intro tok Proofs.Try.func32 ?_
  conv => whnf
  by_cases hl : a.length = b.length
  · refine CaseB.of_false (by simp [hl]) ?_
    conv => whnf
    refine LoopK.mk1 (fun i : Nat => [(0, vR a), (1, vR b), (5, vI i)]) (fun i => []) (fun i => i ≤ a.length ∧ a.take i = b.take i) (fun i => a.length - i) 0 ⟨by omega, rfl⟩ ?_ ?_
    · exact Weak.of ⟨⟩ (by simp) ⟨okF.wv rowC_ok, okF.wv rowC_ok, okF.wv trivial, trivial⟩
    intro i hi
    obtain ⟨hi, ht⟩ := hi
    conv => whnf
    by_cases hi' : i < a.length
    · refine CaseB.of_true (decide_eq_true (by omega)) ?_
      conv => whnf
      refine DrawK.mk1 tok mixed [0, 0, 3, 7, 0, 0, 48, 112, 255] [(0, 0, []), (1, 0, []), (4, 0, []), (5, 0, []), (2, 1, [0]), (3, 1, [0]), (6, 1, [0]), (7, 1, [0]), (8, 1, [0])] (by kernel_rfl) ?_
      conv => whnf
      repeat (refine And.intro (by omega) ?_; conv => whnf)
      have hx0 : a[i]? = some (a.getD i cv0) := by rw [List.getD_eq_getElem?_getD, List.getElem?_eq_getElem hi']; rfl
      have hy0 : b[i]? = some (b.getD i cv0) := by rw [List.getD_eq_getElem?_getD, List.getElem?_eq_getElem (by omega)]; rfl
      by_cases he : a.getD i cv0 = b.getD i cv0
      · refine CaseB.of_false (cv_neq_f (by rw [Int.toNat_natCast]; exact he)) ?_
        conv => whnf
        refine ⟨i + 1, ⟨by omega, ?_⟩, by show a.length - (i + 1) < a.length - i; omega, Weak.of ⟨⟩ (by simp) ⟨okF.wv rowC_ok, okF.wv rowC_ok, WV.lf (WL.int (by rw [wrap_i64 (by omega) (by omega)]; omega)), trivial⟩⟩
        rw [List.take_add_one, List.take_add_one, ht, hx0, hy0, he]
      · refine CaseB.of_true (cv_neq_t (by rw [Int.toNat_natCast]; exact he)) ?_
        conv => whnf
        refine RetK.empty (WV.lf (WL.ff (decide_eq_false fun e => he (by rw [e]))))
    · refine CaseB.of_false (decide_eq_false (by omega)) ?_
      conv => whnf
      refine RetK.empty (WV.lf (WL.tt (decide_eq_true ?_)))
      rw [List.take_of_length_le (by omega), List.take_of_length_le (by omega)] at ht
      exact ht
  · refine CaseB.of_true (by simp; omega) ?_
    conv => whnf
    exact RetK.empty (WV.lf (WL.ff (decide_eq_false fun e => hl (by rw [e]))))

/-- Whether a list begins with another one. -/
def extF (long short : List CV) : Bool := decide (short.length ≤ long.length ∧ long.take short.length = short)

theorem row_take {D : Rel} [ROk D] {a : List CV} {n i j : Nat} (hi : i < n) (hj : j < 3) : WL D (rowC a (Int.toNat 0 + i) j) (rowC (a.take n) i j) := by
  have e : (a.take n).getD i cv0 = a.getD i cv0 := by rw [List.getD_eq_getElem?_getD, List.getD_eq_getElem?_getD, List.getElem?_take, if_pos hi]
  have : rowC a (Int.toNat 0 + i) j = rowC (a.take n) i j := by
    unfold rowC
    rw [show Int.toNat 0 + i = i from Nat.zero_add i, e]
  rw [this]
  have : j = 0 ∨ j = 1 ∨ j = 2 := by omega
  rcases this with rfl | rfl | rfl <;> exact freeL.wl trivial

/-- caveat.Extends -/
theorem c33 (a b : List CV) (ha : a.length ≤ maxLen) : SCalls Proofs.Try.prog 33 [vR a, vR b] [] (.s (.lf (.bool (extF a b)))) [] := by
  have hm : maxLen = 9223372036854775807 := rfl
  refine SCalls.intro tok Proofs.Try.func33 ?_
  conv => whnf
  by_cases hl : (b.length : Int) ≤ (a.length : Int)
  · refine CaseB.of_true (decide_eq_true hl) ?_
    conv => whnf
    refine And.intro ⟨by omega, by omega, by omega⟩ ?_
    conv => whnf
    have hl' : (Int.toNat (b.length : Int)) - Int.toNat 0 = (a.take b.length).length := by rw [Int.toNat_natCast, List.length_take, show Int.toNat 0 = 0 from rfl]; omega
    refine CallK.mk' _ _ ((c31 (a.take b.length) b (by rw [List.length_take]; omega)).lend (fun _ => True) [] ⟨WV.lf (WL.ro (hl') (by simp) (by simp) fun i hi j hj => row_take (by omega) hj), freeF.wv rowC_free, trivial⟩ (plainF.wv trivial)) ?_
    conv => whnf
    exact RetK.empty (WV.lf (WL.bool (by unfold extF; rw [decide_eq_decide]; exact ⟨fun h => ⟨by omega, h⟩, fun h => h.2⟩)))
  · refine CaseB.of_false (decide_eq_false hl) ?_
    conv => whnf
    exact RetK.empty (WV.lf (WL.ff (decide_eq_false fun e => by omega)))

/-- baileyref06.Extends -/
theorem c34 (a b : List CV) (ha : a.length ≤ maxLen) : SCalls Proofs.Try.prog 34 [vR a, vR b] [] (.s (.lf (.bool (extF a b)))) [] := by
  have hm : maxLen = 9223372036854775807 := rfl
  refine SCalls.intro tok Proofs.Try.func34 ?_
  conv => whnf
  by_cases hl : (b.length : Int) ≤ (a.length : Int)
  · refine CaseB.of_true (decide_eq_true hl) ?_
    conv => whnf
    have hmin : min (b.length : Int) (a.length : Int) = (b.length : Int) := by omega
    rw [hmin]
    refine And.intro ⟨by omega, by omega, by omega⟩ ?_
    conv => whnf
    have hl' : (Int.toNat (b.length : Int)) - Int.toNat 0 = (a.take b.length).length := by rw [Int.toNat_natCast, List.length_take, show Int.toNat 0 = 0 from rfl]; omega
    refine CallK.mk' _ _ ((c32 (a.take b.length) b (by rw [List.length_take]; omega)).lend (fun _ => True) [] ⟨WV.lf (WL.ro (hl') (by simp) (by simp) fun i hi j hj => row_take (by omega) hj), freeF.wv rowC_free, trivial⟩ (plainF.wv trivial)) ?_
    conv => whnf
    exact RetK.empty (WV.lf (WL.bool (by unfold extF; rw [decide_eq_decide]; exact ⟨fun h => ⟨by omega, h⟩, fun h => h.2⟩)))
  · refine CaseB.of_false (decide_eq_false hl) ?_
    conv => whnf
    exact RetK.empty (WV.lf (WL.ff (decide_eq_false fun e => by omega)))

/-- Whether caveats are few and short. -/
def fewL (cs : List CV) : Bool := decide (cs.length ≤ 30) && cs.all fun c => decide (c.s.length ≤ 200)

/-- baileylaw06.few -/
theorem c30L (cs : List CV) (hlen : cs.length ≤ maxLen) : SCalls Proofs.Try.prog 30 [vR cs] [] (.s (.lf (.bool (fewL cs)))) [] := by
  have hm : maxLen = 9223372036854775807 := rfl
  refine SCalls.intro tok Proofs.Try.func30 ?_
  conv => whnf
  refine LoopK.mk1 (fun i : Nat => [(5, vR cs), (6, vI cs.length), (7, vI i)]) (fun _ => []) (fun i => i ≤ cs.length ∧ i ≤ 30 ∧ (cs.take i).all (fun c => decide (c.s.length ≤ 200)) = true) (fun i => cs.length - i) 0 ⟨by omega, by omega, rfl⟩ ?_ ?_
  · exact Weak.of ⟨⟩ (by simp) ⟨okF.wv rowC_ok, okF.wv trivial, okF.wv trivial, trivial⟩
  intro i hi
  obtain ⟨hi, hi30, hs⟩ := hi
  conv => whnf
  by_cases hl : i < cs.length
  · refine CaseB.of_true (decide_eq_true (by omega)) ?_
    conv => whnf
    refine And.intro (by omega) ?_
    conv => whnf
    have hx0 : cs[i]? = some (cs.getD i cv0) := by rw [List.getD_eq_getElem?_getD, List.getElem?_eq_getElem hl]; rfl
    by_cases h30 : 30 ≤ (i : Int)
    · refine CaseB.of_true (decide_eq_true h30) ?_
      conv => whnf
      exact RetK.empty (WV.lf (WL.ff (by unfold fewL; rw [decide_eq_false (by omega)]; rfl)))
    refine CaseB.of_false (decide_eq_false h30) ?_
    conv => whnf
    by_cases h200 : 200 < ((cs.getD (Int.toNat (i : Int)) cv0).s.length : Int)
    · refine CaseB.of_true (decide_eq_true h200) ?_
      conv => whnf
      rw [Int.toNat_natCast] at h200
      refine RetK.empty (WV.lf (WL.ff ?_))
      unfold fewL
      rw [Bool.and_eq_false_iff]
      right
      rw [List.all_eq_false]
      exact ⟨_, List.mem_of_getElem? hx0, by rw [decide_eq_false (by omega)]; simp⟩
    refine CaseB.of_false (decide_eq_false h200) ?_
    conv => whnf
    rw [Int.toNat_natCast] at h200
    refine ⟨i + 1, ⟨by omega, by omega, ?_⟩, by show cs.length - (i + 1) < cs.length - i; omega, ?_⟩
    · rw [List.take_add_one, hx0, List.all_append, hs]
      show (true && (decide ((cs.getD i cv0).s.length ≤ 200) && true)) = true
      rw [decide_eq_true (by omega)]
      rfl
    · exact Weak.of HpW.nil (by simp) ⟨okF.wv rowC_ok, okF.wv trivial, WV.lf (WL.int (by rw [wrap_i64 (by omega) (by omega)]; omega)), trivial⟩
  · refine CaseB.of_false (decide_eq_false (by omega)) ?_
    conv => whnf
    rw [List.take_of_length_le (by omega)] at hs
    exact RetK.empty (WV.lf (WL.tt (by unfold fewL; rw [hs, decide_eq_true (by omega)]; rfl)))

/-- baileylaw06.CaveatSame -/
theorem c4 (a b : List CV) (ha : a.length ≤ maxLen) (hb : b.length ≤ maxLen) : SCalls Proofs.Try.prog 4 [vR a, vR b] [] (.s (.lf .tt)) [] := by
  refine SCalls.intro tok Proofs.Try.func4 ?_
  conv => whnf
  refine CallK.mk' _ _ (c30L a ha) ?_
  conv => whnf
  cases fa : fewL a with
  | false =>
    refine CaseB.of_true rfl ?_
    conv => whnf
    refine CallK.mk' _ _ c25 ?_
    conv => whnf
    exact RetK.empty (okF.wv trivial)
  | true =>
    refine CaseB.of_false rfl ?_
    conv => whnf
    refine CallK.mk' _ _ (c30L b hb) ?_
    conv => whnf
    cases fb : fewL b with
    | false =>
      refine CaseB.of_true rfl ?_
      conv => whnf
      refine CallK.mk' _ _ c25 ?_
      conv => whnf
      exact RetK.empty (okF.wv trivial)
    | true =>
      refine CaseB.of_false rfl ?_
      conv => whnf
      refine CallK.mk' _ _ (c31 a b ha) ?_
      conv => whnf
      refine CallK.mk' _ _ (c32 a b ha) ?_
      conv => whnf
      refine CaseB.of_true (beq_self_eq_true _) ?_
      conv => whnf
      refine CallK.mk' _ _ (c31 a a ha) ?_
      conv => whnf
      refine CaseB.of_true (decide_eq_true rfl) ?_
      conv => whnf
      refine CallK.mk' _ _ (c33 a b ha) ?_
      conv => whnf
      refine CallK.mk' _ _ (c34 a b ha) ?_
      conv => whnf
      refine CaseB.of_true (beq_self_eq_true _) ?_
      conv => whnf
      refine CallK.mk' _ _ c25 ?_
      conv => whnf
      exact RetK.empty (okF.wv trivial)
end Go.Sym.Md

set_option linter.unusedVariables false
set_option linter.unusedSimpArgs false
set_option maxRecDepth 10000
namespace Go.Sym.Md
open Go Go.Sym Go.Lib
attribute [local irreducible] holdsF okC

abbrev obD (d : DeedS) : OB := ⟨33, [.one (.int .i64 d.a), .one (.int .i64 d.t), .one (.int .i64 d.c), .one (.int .i64 d.b), .one (.str d.sp), .one (.str d.sn)]⟩
theorem obD_ws {D : Rel} (d : DeedS) : WSs D (obD d).segs (obD d).segs := plainGs.ws ⟨trivial, trivial, trivial, trivial, trivial, trivial, trivial⟩
def holdsC (c : CV) (d : DeedS) : Bool := holdsF c.k c.n c.s d

/-- caveat.All's broken -/
theorem c129 (k n : Int) (s : List UInt8) (d : DeedS) : SCalls Proofs.Try.prog 129 [vC k n s, .s (.lf (.ptr 0 0))] [some (obD d)] (.s (.lf (.bool (!holdsF k n s d)))) [some (obD d)] := by
  refine SCalls.intro tok Proofs.Try.func129 ?_
  conv => whnf
  refine CallK.mk' _ _ ((c35 k n s d).free _ ⟨⟨trivial, trivial, trivial, trivial⟩, ⟨trivial, trivial, trivial, trivial, trivial, trivial, trivial⟩, trivial⟩ trivial) ?_
  conv => whnf
  exact RetK.of ⟨rfl, obD_ws d, trivial⟩ (by simp) (okF.wv trivial)

def idxF (d : DeedS) : List CV → Nat → Int
  | [], _ => -1
  | c :: l, i => if holdsC c d then idxF d l (i + 1) else (i : Int)

theorem idxF_all (d : DeedS) : ∀ (cs : List CV) (i : Nat), decide (0 ≤ idxF d cs i) = !(cs.all fun c => holdsC c d)
  | [], i => rfl
  | c :: l, i => by
    unfold idxF
    cases h : holdsC c d with
    | true => rw [if_pos rfl, idxF_all d l (i + 1), List.all_cons, h, Bool.true_and]
    | false => rw [if_neg (by simp), List.all_cons, h, Bool.false_and]; simp

abbrev vB : LV := .fn 129 1 fun i => nthL [LV.ptr 0 0] i
theorem vB_ok {o : OB} {l : Hp} : okF (some o :: l) (.s (.lf vB)) := by
  intro i hi
  obtain rfl : i = 0 := by omega
  exact rfl
theorem idxF_cons (d : DeedS) (c : CV) (l : List CV) (i : Nat) : idxF d (c :: l) i = if holdsC c d then idxF d l (i + 1) else (i : Int) := rfl

/-- slices.IndexFunc -/
theorem c184 (cs : List CV) (hl : cs.length ≤ maxLen) (d : DeedS) : SCalls Proofs.Try.prog 184 [vR cs, .s (.lf vB)] [some (obD d)] (vI (idxF d cs 0)) [some (obD d)] := by
  have hm : maxLen = 9223372036854775807 := rfl
  refine SCalls.intro tok Proofs.Try.func184 ?_
  conv => whnf
  refine LoopK.mk1 (fun i : Nat => [(0, vR cs), (1, .s (.lf vB)), (7, vI cs.length), (8, vI i)]) (fun i => [some (obD d)]) (fun i => i ≤ cs.length ∧ idxF d cs 0 = idxF d (cs.drop i) i) (fun i => cs.length - i) 0 ⟨by omega, rfl⟩ ?_ ?_
  · exact Weak.of ⟨rfl, obD_ws d, trivial⟩ (by simp) ⟨okF.wv rowC_ok, okF.wv vB_ok, okF.wv trivial, okF.wv trivial, trivial⟩
  intro i hi
  obtain ⟨hi, ht⟩ := hi
  conv => whnf
  by_cases hi' : i < cs.length
  · refine CaseB.of_true (decide_eq_true (by omega)) ?_
    conv => whnf
    refine And.intro (by omega) ?_
    conv => whnf
    have hd : cs.drop i = cs.getD i cv0 :: cs.drop (i + 1) := by rw [List.drop_eq_getElem_cons hi', List.getD_eq_getElem?_getD, List.getElem?_eq_getElem hi']; rfl
    rw [hd, idxF_cons] at ht
    refine CallK.mk' _ _ (c129 _ _ _ d) ?_
    conv => whnf
    have e0 : holdsF (cs.getD (Int.toNat (i : Int)) cv0).k (cs.getD (Int.toNat (i : Int)) cv0).n (cs.getD (Int.toNat (i : Int)) cv0).s d = holdsC (cs.getD i cv0) d := by rw [Int.toNat_natCast]; rfl
    cases hh : holdsC (cs.getD i cv0) d with
    | false =>
      refine CaseB.of_true (by rw [e0, hh]; rfl) ?_
      conv => whnf
      rw [hh] at ht
      exact RetK.of ⟨rfl, obD_ws d, trivial⟩ (by simp) (WV.lf (WL.int ht.symm))
    | true =>
      refine CaseB.of_false (by rw [e0, hh]; rfl) ?_
      conv => whnf
      rw [hh] at ht
      refine ⟨i + 1, ⟨by omega, ht⟩, by show cs.length - (i + 1) < cs.length - i; omega, ?_⟩
      exact Weak.of ⟨rfl, obD_ws d, trivial⟩ (by simp) ⟨okF.wv rowC_ok, okF.wv vB_ok, okF.wv trivial, WV.lf (WL.int (by rw [wrap_i64 (by omega) (by omega)]; omega)), trivial⟩
  · refine CaseB.of_false (decide_eq_false (by omega)) ?_
    conv => whnf
    rw [List.drop_of_length_le (by omega)] at ht
    exact RetK.of ⟨rfl, obD_ws d, trivial⟩ (by simp) (WV.lf (WL.int ht.symm))

/-- slices.ContainsFunc -/
theorem c130 (cs : List CV) (hl : cs.length ≤ maxLen) (d : DeedS) : SCalls Proofs.Try.prog 130 [vR cs, .s (.lf vB)] [some (obD d)] (.s (.lf (.bool (!(cs.all fun c => holdsC c d))))) [some (obD d)] := by
  refine SCalls.intro tok Proofs.Try.func130 ?_
  conv => whnf
  refine CallK.mk' _ _ (c184 cs hl d) ?_
  conv => whnf
  exact RetK.of ⟨rfl, obD_ws d, trivial⟩ (by simp) (WV.lf (WL.bool (idxF_all d cs 0)))

/-- caveat.All -/
theorem c37 (cs : List CV) (hl : cs.length ≤ maxLen) (d : DeedS) : SCalls Proofs.Try.prog 37 [vR cs, vD d] [] (.s (.lf (.bool (cs.all fun c => holdsC c d)))) [] := by
  refine SCalls.intro tok Proofs.Try.func37 ?_
  conv => whnf
  refine CallK.mk' _ _ (c130 cs hl d) ?_
  conv => whnf
  exact RetK.empty (WV.lf (WL.bool (Bool.not_not _)))

/-- baileyref06.All -/
theorem c38 (cs : List CV) (hl : cs.length ≤ maxLen) (d : DeedS) : SCalls Proofs.Try.prog 38 [vR cs, vD d] [] (.s (.lf (.bool (cs.all fun c => holdsC c d)))) [] := by
  have hm : maxLen = 9223372036854775807 := rfl
  refine SCalls.intro tok Proofs.Try.func38 ?_
  conv => whnf
  refine LoopK.mk1 (fun i : Nat => [(0, vR cs), (3, .s (.lf (.ptr 0 0))), (5, vI i)]) (fun i => [some (obD d)]) (fun i => i ≤ cs.length ∧ (cs.take i).all (fun c => holdsC c d) = true) (fun i => cs.length - i) 0 ⟨by omega, rfl⟩ ?_ ?_
  · exact Weak.of ⟨rfl, obD_ws d, trivial⟩ (by simp) ⟨okF.wv rowC_ok, okF.wv rfl, okF.wv trivial, trivial⟩
  intro i hi
  obtain ⟨hi, ht⟩ := hi
  conv => whnf
  by_cases hi' : i < cs.length
  · refine CaseB.of_true (decide_eq_true (by omega)) ?_
    conv => whnf
    refine DrawK.mk1 tok mixed [0, 0, 3, 7, 0, 31, 63] [(0, 0, []), (1, 0, []), (2, 1, [0]), (3, 1, [0]), (4, 1, [0]), (5, 1, [0]), (6, 0, [])] (by kernel_rfl) ?_
    conv => whnf
    refine And.intro (by omega) ?_
    conv => whnf
    have hx0 : cs[i]? = some (cs.getD i cv0) := by rw [List.getD_eq_getElem?_getD, List.getElem?_eq_getElem hi']; rfl
    refine CallR.mk' _ ((c36 _ _ _ d).free _ ⟨⟨trivial, trivial, trivial, trivial⟩, ⟨trivial, trivial, trivial, trivial, trivial, trivial, trivial⟩, trivial⟩ trivial) ?_
    conv => whnf
    have e0 : holdsF (cs.getD (Int.toNat (i : Int)) cv0).k (cs.getD (Int.toNat (i : Int)) cv0).n (cs.getD (Int.toNat (i : Int)) cv0).s d = holdsC (cs.getD i cv0) d := by rw [Int.toNat_natCast]; rfl
    cases hh : holdsC (cs.getD i cv0) d with
    | false =>
      refine CaseB.of_true (by rw [e0, hh]; rfl) ?_
      conv => whnf
      refine RetK.empty (WV.lf (WL.ff ?_))
      rw [List.all_eq_false]
      exact ⟨_, List.mem_of_getElem? hx0, by rw [hh]; simp⟩
    | true =>
      refine CaseB.of_false (by rw [e0, hh]; rfl) ?_
      conv => whnf
      refine ⟨i + 1, ⟨by omega, ?_⟩, by show cs.length - (i + 1) < cs.length - i; omega, ?_⟩
      · rw [List.take_add_one, hx0, List.all_append, ht]
        show (true && (holdsC (cs.getD i cv0) d && true)) = true
        rw [hh]
        rfl
      · exact Weak.of ⟨rfl, obD_ws d, trivial⟩ (by simp) ⟨okF.wv rowC_ok, okF.wv rfl, WV.lf (WL.int (by rw [wrap_i64 (by omega) (by omega)]; omega)), trivial⟩
  · refine CaseB.of_false (decide_eq_false (by omega)) ?_
    conv => whnf
    rw [List.take_of_length_le (by omega)] at ht
    exact RetK.empty (WV.lf (WL.tt ht))

/-- baileylaw06.CaveatHolds -/
theorem c5 (k n : Int) (s : List UInt8) (cs : List CV) (hl : cs.length ≤ maxLen) (d : DeedS) : SCalls Proofs.Try.prog 5 [vC k n s, vR cs, vD d] [] (.s (.lf .tt)) [] := by
  have h35 := (c35 k n s d).free [some ⟨23, [.one (.int .i64 k), .one (.int .i64 n), .one (.str s)]⟩, some (obD d)] ⟨⟨trivial, trivial, trivial, trivial⟩, ⟨trivial, trivial, trivial, trivial, trivial, trivial, trivial⟩, trivial⟩ trivial
  have h36 := (c36 k n s d).free [some ⟨23, [.one (.int .i64 k), .one (.int .i64 n), .one (.str s)]⟩, some (obD d)] ⟨⟨trivial, trivial, trivial, trivial⟩, ⟨trivial, trivial, trivial, trivial, trivial, trivial, trivial⟩, trivial⟩ trivial
  have h37 := (c37 cs hl d).free [some ⟨23, [.one (.int .i64 k), .one (.int .i64 n), .one (.str s)]⟩, some (obD d)] ⟨rowC_free, ⟨trivial, trivial, trivial, trivial, trivial, trivial, trivial⟩, trivial⟩ trivial
  have h38 := (c38 cs hl d).free [some ⟨23, [.one (.int .i64 k), .one (.int .i64 n), .one (.str s)]⟩, some (obD d)] ⟨rowC_free, ⟨trivial, trivial, trivial, trivial, trivial, trivial, trivial⟩, trivial⟩ trivial
  have h25 := c25.free [some ⟨23, [.one (.int .i64 k), .one (.int .i64 n), .one (.str s)]⟩, some (obD d)] trivial trivial
  refine SCalls.intro tok Proofs.Try.func5 ?_
  conv => whnf
  refine CallK.mk' _ _ ((c30L cs hl).free _ ⟨rowC_free, trivial⟩ trivial) ?_
  conv => whnf
  cases fa : fewL cs with
  | false =>
    refine CaseB.of_true rfl ?_
    conv => whnf
    refine CallK.mk' _ _ h25 ?_
    conv => whnf
    exact RetK.empty (okF.wv trivial)
  | true =>
    refine CaseB.of_false rfl ?_
    conv => whnf
    by_cases h2 : 200 < (s.length : Int)
    · refine CaseB.of_true (decide_eq_true h2) ?_
      conv => whnf
      refine CallK.mk' _ _ h25 ?_
      conv => whnf
      exact RetK.empty (okF.wv trivial)
    refine CaseB.of_false (decide_eq_false h2) ?_
    conv => whnf
    refine DrawK.mk1 tok mixed [0, 0, 3, 0, 0, 31, 63, 127, 255, 255, 1023, 255, 255, 8191, 16383, 32767, 65535, 131071, 262143, 524287] [(0, 1, [0]), (1, 1, [0]), (2, 1, [0]), (3, 1, [0]), (4, 1, [0]), (5, 1, [0]), (6, 0, []), (7, 0, []), (8, 0, []), (11, 0, []), (9, 1, [0]), (10, 1, [0]), (12, 1, [0]), (13, 1, [0]), (14, 0, []), (15, 0, []), (16, 0, []), (17, 1, [0]), (18, 0, []), (19, 0, [])] (by kernel_rfl) ?_
    conv => whnf
    refine CallR.mk' _ h35 ?_
    conv => whnf
    refine CallR.mk' _ h36 ?_
    conv => whnf
    repeat (first
      | (refine CaseB.of_true (beq_self_eq_true _) ?_; conv => whnf)
      | (refine CallR.mk' _ h37 ?_; conv => whnf)
      | (refine CallR.mk' _ h38 ?_; conv => whnf)
      | (refine CallR.mk' _ h25 ?_; conv => whnf))
    exact RetK.empty (okF.wv trivial)
end Go.Sym.Md

set_option linter.unusedVariables false
set_option linter.unusedSimpArgs false
set_option maxRecDepth 10000
namespace Go.Sym.Md
open Go Go.Sym Go.Lib
attribute [local irreducible] holdsF okC

abbrev vRt (cs : List CV) : FV := .s (.lf (.ro true false 3 cs.length (rowC cs)))

theorem rowC_wl {D : Rel} {cs : List CV} {i j : Nat} (hj : j < 3) : WL D (rowC cs i j) (rowC cs i j) := by
  have : j = 0 ∨ j = 1 ∨ j = 2 := by omega
  rcases this with rfl | rfl | rfl <;> exact plainL.wl trivial

/-- slices.Clone, of no caveats. -/
theorem c39n : SCalls Proofs.Try.prog 39 [.s (.lf .sl0)] [] (.s (.lf .sl0)) [] := by
  refine SCalls.intro tok Proofs.Try.func39 ?_
  conv => whnf
  exact RetK.empty (okF.wv trivial)

/-- slices.Clone, of caveats. -/
theorem c39 (cs : List CV) (hl : cs.length ≤ 1000000) : SCalls Proofs.Try.prog 39 [vRt cs] [] (.s (.lf (.own 0 0 3 0 cs.length))) [some ⟨23, [.recs 3 cs.length (rowC cs)]⟩] := by
  refine SCalls.intro tok Proofs.Try.func39 ?_
  conv => whnf
  refine Or.inl ?_
  conv => whnf
  refine And.intro (by omega) ?_
  conv => whnf
  refine And.intro ⟨rfl, by show (0 + cs.length) * 32 ≤ _; omega⟩ ?_
  conv => whnf
  refine RetK.perm [1] ⟨⟨rfl, .recs (Nat.zero_add _) fun i hi j hj => ?_, trivial⟩, trivial⟩ (WV.lf (WL.own rfl rfl rfl (Nat.zero_add _))) rfl (by simp) rfl (by simp)
  exact rowC_wl hj

/-- A row of caveats of the call's own, lent. -/
theorem WL.lentC {H H' : Hp} {μ : Nat → Nat} {hid : Nat → Prop} {nm len n : Nat} {f : Nat → Nat → LV} {ty : TypeId} {cs : List CV} (hob : hget H nm = some ⟨ty, [.recs 3 n f]⟩) (hn : len = n) (hl : len = cs.length)
    (hf : ∀ i j, i < len → j < 3 → f i j = rowC cs i j) (hg : gone H' μ hid nm) : WL (Down H H' μ hid) (.own nm 0 3 0 len) (.ro false false 3 cs.length (rowC cs)) := by
  subst hn
  intro w L L' x h hx
  rw [← hl]
  refine rep_ro_weak (WL.freezeR (ob := ⟨ty, [.recs 3 len f]⟩) (p := []) (q := []) hob rfl rfl (fun i hi j hj => ⟨?_, ?_⟩) hg w L L' x h hx)
  · show 0 * 3 + (i * 3 + j) < len * 3
    omega
  · show WL _ (f ((0 * 3 + (i * 3 + j)) / 3) ((0 * 3 + (i * 3 + j)) % 3)) _
    rw [show (0 * 3 + (i * 3 + j)) / 3 = i by omega, show (0 * 3 + (i * 3 + j)) % 3 = j by omega, hf i j hi hj]
    exact rowC_wl hj

/-- baileylaw06.CaveatWeaker -/
theorem c6 (cs : List CV) (hl : cs.length ≤ maxLen) (k n : Int) (s : List UInt8) (d : DeedS) : SCalls Proofs.Try.prog 6 [vRt cs, vC k n s, vD d] [] (.s (.lf .tt)) [] := by
  have h30 := (c30L cs hl).lend (cs := [vRt cs]) (fun _ => True) [some ⟨23, [.one (.int .i64 k), .one (.int .i64 n), .one (.str s)]⟩, some (obD d)] ⟨WV.lf (WL.ro rfl (by simp) (by simp) fun i hi j hj => rowC_wl hj), trivial⟩ (plainF.wv trivial)
  have h25 := c25.free [some ⟨23, [.one (.int .i64 k), .one (.int .i64 n), .one (.str s)]⟩, some (obD d)] trivial trivial
  refine SCalls.intro tok Proofs.Try.func6 ?_
  conv => whnf
  refine CallK.mk' _ _ h30 ?_
  conv => whnf
  cases fa : fewL cs with
  | false =>
    refine CaseB.of_true rfl ?_
    conv => whnf
    refine CallK.mk' _ _ h25 ?_
    conv => whnf
    exact RetK.empty (okF.wv trivial)
  | true =>
    have hfew : cs.length ≤ 30 := by unfold fewL at fa; simp at fa; omega
    refine CaseB.of_false rfl ?_
    conv => whnf
    by_cases h2 : 200 < (s.length : Int)
    · refine CaseB.of_true (decide_eq_true h2) ?_
      conv => whnf
      refine CallK.mk' _ _ h25 ?_
      conv => whnf
      exact RetK.empty (okF.wv trivial)
    refine CaseB.of_false (decide_eq_false h2) ?_
    conv => whnf
    obtain ⟨M, hM⟩ : ∃ M : List CV, M = cs ++ [⟨k, n, s⟩] := ⟨_, rfl⟩
    have hMl : M.length = cs.length + 1 := by rw [hM]; simp
    have hm : maxLen = 9223372036854775807 := rfl
    have hrow : ∀ i j, i < cs.length + 1 → j < 3 → catRow 3 cs.length (fun i j => rowC cs (0 + i) j) (fun i j => cellD ([] ++ ([Seg.one (LV.int IntKind.i64 k), Seg.one (LV.int IntKind.i64 n), Seg.one (LV.str s)] ++ [])) (i * 3 + j)) i j = rowC M i j := by
      intro i j hi hj
      rw [hM]
      unfold catRow
      by_cases h : i < cs.length
      · rw [show Nat.blt i cs.length = true by simp [Nat.blt, Nat.ble_eq]; omega]
        show rowC cs (0 + i) j = _
        unfold rowC
        rw [Nat.zero_add, show (cs ++ [(⟨k, n, s⟩ : CV)]).getD i cv0 = cs.getD i cv0 by rw [List.getD_eq_getElem?_getD, List.getD_eq_getElem?_getD, List.getElem?_append_left h]]
      · have e : i = cs.length := by omega
        subst e
        rw [show Nat.blt cs.length cs.length = false by cases hb : Nat.blt cs.length cs.length <;> first | rfl | (have := blt_true hb; omega)]
        show cellD _ ((cs.length - cs.length) * 3 + j) = _
        unfold rowC
        rw [Nat.sub_self, show (cs ++ [(⟨k, n, s⟩ : CV)]).getD cs.length cv0 = ⟨k, n, s⟩ by rw [List.getD_eq_getElem?_getD, List.getElem?_append_right (Nat.le_refl _), Nat.sub_self]; rfl]
        have : j = 0 ∨ j = 1 ∨ j = 2 := by omega
        rcases this with rfl | rfl | rfl <;> rfl
    have hA := (c37 M (by omega) d).lend (cs := [.s (.lf (.own 3 0 3 0 (cs.length + 1))), vD d]) (fun _ => False) [some ⟨23, [.one (.int .i64 k), .one (.int .i64 n), .one (.str s)]⟩, some (obD d), none, some ⟨23, [.recs 3 (cs.length + 1) (catRow 3 cs.length (fun i j => rowC cs (0 + i) j) (fun i j => cellD ([] ++ ([Seg.one (LV.int IntKind.i64 k), Seg.one (LV.int IntKind.i64 n), Seg.one (LV.str s)] ++ [])) (i * 3 + j)))]⟩] ⟨WV.lf (WL.lentC rfl rfl hMl.symm hrow ⟨fun h => h, fun i ob h => by simp at h⟩), freeF.wv ⟨trivial, trivial, trivial, trivial, trivial, trivial, trivial⟩, trivial⟩ (plainF.wv trivial)
    have hB := (c37 cs hl d).lend (cs := [vRt cs, vD d]) (fun _ => False) [some ⟨23, [.one (.int .i64 k), .one (.int .i64 n), .one (.str s)]⟩, some (obD d), none, some ⟨23, [.recs 3 (cs.length + 1) (catRow 3 cs.length (fun i j => rowC cs (0 + i) j) (fun i j => cellD ([] ++ ([Seg.one (LV.int IntKind.i64 k), Seg.one (LV.int IntKind.i64 n), Seg.one (LV.str s)] ++ [])) (i * 3 + j)))]⟩] ⟨WV.lf (WL.ro rfl (by simp) (by simp) fun i hi j hj => rowC_wl hj), freeF.wv ⟨trivial, trivial, trivial, trivial, trivial, trivial, trivial⟩, trivial⟩ (plainF.wv trivial)
    have hC := (c33 M cs (by omega)).lend (cs := [.s (.lf (.own 3 0 3 0 (cs.length + 1))), vRt cs]) (fun _ => False) [some ⟨23, [.one (.int .i64 k), .one (.int .i64 n), .one (.str s)]⟩, some (obD d), none, some ⟨23, [.recs 3 (cs.length + 1) (catRow 3 cs.length (fun i j => rowC cs (0 + i) j) (fun i j => cellD ([] ++ ([Seg.one (LV.int IntKind.i64 k), Seg.one (LV.int IntKind.i64 n), Seg.one (LV.str s)] ++ [])) (i * 3 + j)))]⟩] ⟨WV.lf (WL.lentC rfl rfl hMl.symm hrow ⟨fun h => h, fun i ob h => by simp at h⟩), WV.lf (WL.ro rfl (by simp) (by simp) fun i hi j hj => rowC_wl hj), trivial⟩ (plainF.wv trivial)
    have hD := (c33 cs M hl).lend (cs := [vRt cs, .s (.lf (.own 3 0 3 0 (cs.length + 1)))]) (fun _ => False) [some ⟨23, [.one (.int .i64 k), .one (.int .i64 n), .one (.str s)]⟩, some (obD d), none, some ⟨23, [.recs 3 (cs.length + 1) (catRow 3 cs.length (fun i j => rowC cs (0 + i) j) (fun i j => cellD ([] ++ ([Seg.one (LV.int IntKind.i64 k), Seg.one (LV.int IntKind.i64 n), Seg.one (LV.str s)] ++ [])) (i * 3 + j)))]⟩] ⟨WV.lf (WL.ro rfl (by simp) (by simp) fun i hi j hj => rowC_wl hj), WV.lf (WL.lentC rfl rfl hMl.symm hrow ⟨fun h => h, fun i ob h => by simp at h⟩), trivial⟩ (plainF.wv trivial)
    have hE := (c35 k n s d).free [some ⟨23, [.one (.int .i64 k), .one (.int .i64 n), .one (.str s)]⟩, some (obD d), none, some ⟨23, [.recs 3 (cs.length + 1) (catRow 3 cs.length (fun i j => rowC cs (0 + i) j) (fun i j => cellD ([] ++ ([Seg.one (LV.int IntKind.i64 k), Seg.one (LV.int IntKind.i64 n), Seg.one (LV.str s)] ++ [])) (i * 3 + j)))]⟩] ⟨⟨trivial, trivial, trivial, trivial⟩, ⟨trivial, trivial, trivial, trivial, trivial, trivial, trivial⟩, trivial⟩ trivial
    have hF := c25.free [some ⟨23, [.one (.int .i64 k), .one (.int .i64 n), .one (.str s)]⟩, some (obD d), none, some ⟨23, [.recs 3 (cs.length + 1) (catRow 3 cs.length (fun i j => rowC cs (0 + i) j) (fun i j => cellD ([] ++ ([Seg.one (LV.int IntKind.i64 k), Seg.one (LV.int IntKind.i64 n), Seg.one (LV.str s)] ++ [])) (i * 3 + j)))]⟩] trivial trivial
    have x1 : extF M cs = true := by unfold extF; rw [hM]; simp
    have x2 : (!extF cs M) = true := by unfold extF; rw [decide_eq_false (by rw [hMl]; omega)]; rfl
    have hall : (M.all fun c => holdsC c d) = ((cs.all fun c => holdsC c d) && holdsF k n s d) := by rw [hM, List.all_append]; simp [holdsC]
    refine DrawK.mkL tok mixed [0, 1, 0, 4, 15, 31] [1, 3, 4] [
      ([0, 1, 0, 7, 15, 31], [(0, 0, []), (1, 2, []), (2, 1, [0, 1]), (3, 2, []), (4, 2, []), (5, 0, [])]),
      ([0, 13, 0, 4, 15, 31], [(0, 0, []), (2, 1, [0]), (3, 2, []), (1, 2, []), (4, 2, []), (5, 0, [])])] (by kernel_rfl) ⟨?_, ?_, trivial⟩
    · conv => whnf
      refine CallK.mk' (.s (.lf (.own 2 0 3 0 cs.length))) _ ((c39 cs (by omega)).made [some ⟨23, [.one (.int .i64 k), .one (.int .i64 n), .one (.str s)]⟩, some (obD d)] (Hn := [some ⟨23, [.recs 3 cs.length (rowC cs)]⟩]) ⟨WV.lf (WL.ro rfl (by simp) (by simp) fun i hi j hj => rowC_wl hj), trivial⟩ (WV.lf (WL.uown rfl rfl rfl)) ⟨rfl, ⟨.recs rfl fun i hi j hj => rowC_wl hj, trivial⟩, trivial⟩) ?_
      conv => whnf
      refine And.intro rfl ?_
      conv => whnf
      refine Or.inr ?_
      conv => whnf
      refine And.intro (by omega) ?_
      conv => whnf
      refine And.intro ⟨rfl, by show (cs.length + 1) * 32 ≤ _; omega⟩ ?_
      conv => whnf
      refine CallK.mk' _ _ hA ?_
      conv => whnf
      cases hb : (cs.all fun c => holdsC c d) with
      | false =>
        have x0 : (M.all fun c => holdsC c d) = false := by rw [hall, hb]; rfl
        have x3 : ((M.all fun c => holdsC c d) == false) = true := by rw [x0]; rfl
        refine CaseB.of_false x0 ?_
        conv => whnf
        refine DrawK.mk1 tok mixed [0, 0, 3, 7, 15, 15, 63, 127, 255, 511, 1023, 1023, 4095, 1023, 1023, 32767, 65535, 131071, 131071, 524287, 1048575, 2097151, 4194303, 8388607, 16777215, 33554431, 67108863] [(0, 0, []), (1, 0, []), (2, 1, [0]), (3, 0, []), (4, 0, []), (5, 0, []), (6, 1, [0]), (7, 0, []), (8, 0, []), (9, 0, []), (10, 0, []), (13, 0, []), (11, 1, [0]), (12, 1, [0]), (14, 1, [0]), (15, 1, [0]), (16, 0, []), (17, 1, [0]), (18, 1, [0]), (19, 1, [0]), (20, 0, []), (21, 0, []), (22, 0, []), (23, 0, []), (24, 1, [0]), (25, 0, []), (26, 0, [])] (by kernel_rfl) ?_
        conv => whnf
        repeat (first
          | (refine CallR.mk' _ hC ?_; conv => whnf)
          | (refine CallR.mk' _ hD ?_; conv => whnf)
          | (refine CallR.mk' _ hA ?_; conv => whnf)
          | (refine CallR.mk' _ hB ?_; conv => whnf)
          | (refine CallR.mk' _ hE ?_; conv => whnf)
          | (refine CallR.mk' _ hF ?_; conv => whnf)
          | (refine CaseB.of_true x1 ?_; conv => whnf)
          | (refine CaseB.of_true x2 ?_; conv => whnf)
          | (refine CaseB.of_false hb ?_; conv => whnf)
          | (refine CaseB.of_true x3 ?_; conv => whnf))
        exact RetK.empty (okF.wv trivial)
      | true =>
        have x3 : ((M.all fun c => holdsC c d) == holdsF k n s d) = true := by rw [hall, hb]; simp
        rcases Bool.eq_false_or_eq_true (M.all fun c => holdsC c d) with hc | hc
        · refine CaseB.of_true hc ?_
          conv => whnf
          refine CallK.mk' _ _ hB ?_
          conv => whnf
          refine CaseB.of_false (by rw [hb]; rfl) ?_
          conv => whnf
          refine DrawK.mk1 tok mixed [0, 0, 3, 7, 15, 15, 63, 127, 255, 511, 1023, 1023, 4095, 1023, 1023, 32767, 65535, 131071, 131071, 524287, 1048575, 2097151, 4194303, 8388607, 16777215, 33554431, 67108863] [(0, 0, []), (1, 0, []), (2, 1, [0]), (3, 0, []), (4, 0, []), (5, 0, []), (6, 1, [0]), (7, 0, []), (8, 0, []), (9, 0, []), (10, 0, []), (13, 0, []), (11, 1, [0]), (12, 1, [0]), (14, 1, [0]), (15, 1, [0]), (16, 0, []), (17, 1, [0]), (18, 1, [0]), (19, 1, [0]), (20, 0, []), (21, 0, []), (22, 0, []), (23, 0, []), (24, 1, [0]), (25, 0, []), (26, 0, [])] (by kernel_rfl) ?_
          conv => whnf
          repeat (first
            | (refine CallR.mk' _ hC ?_; conv => whnf)
            | (refine CallR.mk' _ hD ?_; conv => whnf)
            | (refine CallR.mk' _ hA ?_; conv => whnf)
            | (refine CallR.mk' _ hB ?_; conv => whnf)
            | (refine CallR.mk' _ hE ?_; conv => whnf)
            | (refine CallR.mk' _ hF ?_; conv => whnf)
            | (refine CaseB.of_true x1 ?_; conv => whnf)
            | (refine CaseB.of_true x2 ?_; conv => whnf)
            | (refine CaseB.of_true hb ?_; conv => whnf)
            | (refine CaseB.of_true x3 ?_; conv => whnf))
          exact RetK.empty (okF.wv trivial)
        · refine CaseB.of_false hc ?_
          conv => whnf
          refine DrawK.mk1 tok mixed [0, 0, 3, 7, 15, 15, 63, 127, 255, 511, 1023, 1023, 4095, 1023, 1023, 32767, 65535, 131071, 131071, 524287, 1048575, 2097151, 4194303, 8388607, 16777215, 33554431, 67108863] [(0, 0, []), (1, 0, []), (2, 1, [0]), (3, 0, []), (4, 0, []), (5, 0, []), (6, 1, [0]), (7, 0, []), (8, 0, []), (9, 0, []), (10, 0, []), (13, 0, []), (11, 1, [0]), (12, 1, [0]), (14, 1, [0]), (15, 1, [0]), (16, 0, []), (17, 1, [0]), (18, 1, [0]), (19, 1, [0]), (20, 0, []), (21, 0, []), (22, 0, []), (23, 0, []), (24, 1, [0]), (25, 0, []), (26, 0, [])] (by kernel_rfl) ?_
          conv => whnf
          repeat (first
            | (refine CallR.mk' _ hC ?_; conv => whnf)
            | (refine CallR.mk' _ hD ?_; conv => whnf)
            | (refine CallR.mk' _ hA ?_; conv => whnf)
            | (refine CallR.mk' _ hB ?_; conv => whnf)
            | (refine CallR.mk' _ hE ?_; conv => whnf)
            | (refine CallR.mk' _ hF ?_; conv => whnf)
            | (refine CaseB.of_true x1 ?_; conv => whnf)
            | (refine CaseB.of_true x2 ?_; conv => whnf)
            | (refine CaseB.of_true hb ?_; conv => whnf)
            | (refine CaseB.of_true x3 ?_; conv => whnf))
          exact RetK.empty (okF.wv trivial)
    · conv => whnf
      refine Or.inr ?_
      conv => whnf
      refine CallK.mk' (.s (.lf (.own 2 0 3 0 cs.length))) _ ((c39 cs (by omega)).made [some ⟨23, [.one (.int .i64 k), .one (.int .i64 n), .one (.str s)]⟩, some (obD d)] (Hn := [some ⟨23, [.recs 3 cs.length (rowC cs)]⟩]) ⟨WV.lf (WL.ro rfl (by simp) (by simp) fun i hi j hj => rowC_wl hj), trivial⟩ (WV.lf (WL.uown rfl rfl rfl)) ⟨rfl, ⟨.recs rfl fun i hi j hj => rowC_wl hj, trivial⟩, trivial⟩) ?_
      conv => whnf
      refine And.intro (by omega) ?_
      conv => whnf
      refine And.intro ⟨rfl, by show (cs.length + 1) * 32 ≤ _; omega⟩ ?_
      conv => whnf
      refine CallK.mk' _ _ hA ?_
      conv => whnf
      cases hb : (cs.all fun c => holdsC c d) with
      | false =>
        have x0 : (M.all fun c => holdsC c d) = false := by rw [hall, hb]; rfl
        have x3 : ((M.all fun c => holdsC c d) == false) = true := by rw [x0]; rfl
        refine CaseB.of_false x0 ?_
        conv => whnf
        refine DrawK.mk1 tok mixed [0, 0, 3, 7, 15, 15, 63, 127, 255, 511, 1023, 1023, 4095, 1023, 1023, 32767, 65535, 131071, 131071, 524287, 1048575, 2097151, 4194303, 8388607, 16777215, 33554431, 67108863] [(0, 0, []), (1, 0, []), (2, 1, [0]), (3, 0, []), (4, 0, []), (5, 0, []), (6, 1, [0]), (7, 0, []), (8, 0, []), (9, 0, []), (10, 0, []), (13, 0, []), (11, 1, [0]), (12, 1, [0]), (14, 1, [0]), (15, 1, [0]), (16, 0, []), (17, 1, [0]), (18, 1, [0]), (19, 1, [0]), (20, 0, []), (21, 0, []), (22, 0, []), (23, 0, []), (24, 1, [0]), (25, 0, []), (26, 0, [])] (by kernel_rfl) ?_
        conv => whnf
        repeat (first
          | (refine CallR.mk' _ hC ?_; conv => whnf)
          | (refine CallR.mk' _ hD ?_; conv => whnf)
          | (refine CallR.mk' _ hA ?_; conv => whnf)
          | (refine CallR.mk' _ hB ?_; conv => whnf)
          | (refine CallR.mk' _ hE ?_; conv => whnf)
          | (refine CallR.mk' _ hF ?_; conv => whnf)
          | (refine CaseB.of_true x1 ?_; conv => whnf)
          | (refine CaseB.of_true x2 ?_; conv => whnf)
          | (refine CaseB.of_false hb ?_; conv => whnf)
          | (refine CaseB.of_true x3 ?_; conv => whnf))
        exact RetK.empty (okF.wv trivial)
      | true =>
        have x3 : ((M.all fun c => holdsC c d) == holdsF k n s d) = true := by rw [hall, hb]; simp
        rcases Bool.eq_false_or_eq_true (M.all fun c => holdsC c d) with hc | hc
        · refine CaseB.of_true hc ?_
          conv => whnf
          refine CallK.mk' _ _ hB ?_
          conv => whnf
          refine CaseB.of_false (by rw [hb]; rfl) ?_
          conv => whnf
          refine DrawK.mk1 tok mixed [0, 0, 3, 7, 15, 15, 63, 127, 255, 511, 1023, 1023, 4095, 1023, 1023, 32767, 65535, 131071, 131071, 524287, 1048575, 2097151, 4194303, 8388607, 16777215, 33554431, 67108863] [(0, 0, []), (1, 0, []), (2, 1, [0]), (3, 0, []), (4, 0, []), (5, 0, []), (6, 1, [0]), (7, 0, []), (8, 0, []), (9, 0, []), (10, 0, []), (13, 0, []), (11, 1, [0]), (12, 1, [0]), (14, 1, [0]), (15, 1, [0]), (16, 0, []), (17, 1, [0]), (18, 1, [0]), (19, 1, [0]), (20, 0, []), (21, 0, []), (22, 0, []), (23, 0, []), (24, 1, [0]), (25, 0, []), (26, 0, [])] (by kernel_rfl) ?_
          conv => whnf
          repeat (first
            | (refine CallR.mk' _ hC ?_; conv => whnf)
            | (refine CallR.mk' _ hD ?_; conv => whnf)
            | (refine CallR.mk' _ hA ?_; conv => whnf)
            | (refine CallR.mk' _ hB ?_; conv => whnf)
            | (refine CallR.mk' _ hE ?_; conv => whnf)
            | (refine CallR.mk' _ hF ?_; conv => whnf)
            | (refine CaseB.of_true x1 ?_; conv => whnf)
            | (refine CaseB.of_true x2 ?_; conv => whnf)
            | (refine CaseB.of_true hb ?_; conv => whnf)
            | (refine CaseB.of_true x3 ?_; conv => whnf))
          exact RetK.empty (okF.wv trivial)
        · refine CaseB.of_false hc ?_
          conv => whnf
          refine DrawK.mk1 tok mixed [0, 0, 3, 7, 15, 15, 63, 127, 255, 511, 1023, 1023, 4095, 1023, 1023, 32767, 65535, 131071, 131071, 524287, 1048575, 2097151, 4194303, 8388607, 16777215, 33554431, 67108863] [(0, 0, []), (1, 0, []), (2, 1, [0]), (3, 0, []), (4, 0, []), (5, 0, []), (6, 1, [0]), (7, 0, []), (8, 0, []), (9, 0, []), (10, 0, []), (13, 0, []), (11, 1, [0]), (12, 1, [0]), (14, 1, [0]), (15, 1, [0]), (16, 0, []), (17, 1, [0]), (18, 1, [0]), (19, 1, [0]), (20, 0, []), (21, 0, []), (22, 0, []), (23, 0, []), (24, 1, [0]), (25, 0, []), (26, 0, [])] (by kernel_rfl) ?_
          conv => whnf
          repeat (first
            | (refine CallR.mk' _ hC ?_; conv => whnf)
            | (refine CallR.mk' _ hD ?_; conv => whnf)
            | (refine CallR.mk' _ hA ?_; conv => whnf)
            | (refine CallR.mk' _ hB ?_; conv => whnf)
            | (refine CallR.mk' _ hE ?_; conv => whnf)
            | (refine CallR.mk' _ hF ?_; conv => whnf)
            | (refine CaseB.of_true x1 ?_; conv => whnf)
            | (refine CaseB.of_true x2 ?_; conv => whnf)
            | (refine CaseB.of_true hb ?_; conv => whnf)
            | (refine CaseB.of_true x3 ?_; conv => whnf))
          exact RetK.empty (okF.wv trivial)
/-- baileylaw06.CaveatWeaker, of no caveats -/
theorem c6n (k n : Int) (s : List UInt8) (d : DeedS) : SCalls Proofs.Try.prog 6 [.s (.lf .sl0), vC k n s, vD d] [] (.s (.lf .tt)) [] := by
  obtain ⟨cs, hcs⟩ : ∃ cs : List CV, cs = [] := ⟨_, rfl⟩
  have hl : cs.length ≤ maxLen := by rw [hcs]; simp
  have h30 := (c30L cs hl).lend (cs := [.s (.lf .sl0)]) (fun _ => True) [some ⟨23, [.one (.int .i64 k), .one (.int .i64 n), .one (.str s)]⟩, some (obD d)] ⟨WV.lf (by rw [hcs]; exact fun _ _ _ _ _ hx => rep_sl0_ro hx), trivial⟩ (plainF.wv trivial)
  have h25 := c25.free [some ⟨23, [.one (.int .i64 k), .one (.int .i64 n), .one (.str s)]⟩, some (obD d)] trivial trivial
  refine SCalls.intro tok Proofs.Try.func6 ?_
  conv => whnf
  refine CallK.mk' _ _ h30 ?_
  conv => whnf
  cases fa : fewL cs with
  | false =>
    refine CaseB.of_true rfl ?_
    conv => whnf
    refine CallK.mk' _ _ h25 ?_
    conv => whnf
    exact RetK.empty (okF.wv trivial)
  | true =>
    have hfew : cs.length ≤ 30 := by unfold fewL at fa; simp at fa; omega
    refine CaseB.of_false rfl ?_
    conv => whnf
    by_cases h2 : 200 < (s.length : Int)
    · refine CaseB.of_true (decide_eq_true h2) ?_
      conv => whnf
      refine CallK.mk' _ _ h25 ?_
      conv => whnf
      exact RetK.empty (okF.wv trivial)
    refine CaseB.of_false (decide_eq_false h2) ?_
    conv => whnf
    obtain ⟨M, hM⟩ : ∃ M : List CV, M = cs ++ [⟨k, n, s⟩] := ⟨_, rfl⟩
    have hMl : M.length = cs.length + 1 := by rw [hM]; simp
    have hm : maxLen = 9223372036854775807 := rfl
    have hrow : ∀ i j, i < 1 → j < 3 → (fun i j => cellD ([] ++ ([Seg.one (LV.int IntKind.i64 k), Seg.one (LV.int IntKind.i64 n), Seg.one (LV.str s)] ++ [])) (i * 3 + j)) i j = rowC M i j := by
      intro i j hi hj
      obtain rfl : i = 0 := by omega
      rw [hM, hcs]
      have : j = 0 ∨ j = 1 ∨ j = 2 := by omega
      rcases this with rfl | rfl | rfl <;> rfl
    have hA := (c37 M (by omega) d).lend (cs := [.s (.lf (.own 2 0 3 0 1)), vD d]) (fun _ => False) [some ⟨23, [.one (.int .i64 k), .one (.int .i64 n), .one (.str s)]⟩, some (obD d), some ⟨23, [.recs 3 1 ((fun i j => cellD ([] ++ ([Seg.one (LV.int IntKind.i64 k), Seg.one (LV.int IntKind.i64 n), Seg.one (LV.str s)] ++ [])) (i * 3 + j)))]⟩] ⟨WV.lf (WL.lentC rfl rfl (by rw [hMl, hcs]; rfl) hrow ⟨fun h => h, fun i ob h => by simp at h⟩), freeF.wv ⟨trivial, trivial, trivial, trivial, trivial, trivial, trivial⟩, trivial⟩ (plainF.wv trivial)
    have hB := (c37 cs hl d).lend (cs := [.s (.lf .sl0), vD d]) (fun _ => False) [some ⟨23, [.one (.int .i64 k), .one (.int .i64 n), .one (.str s)]⟩, some (obD d), some ⟨23, [.recs 3 1 ((fun i j => cellD ([] ++ ([Seg.one (LV.int IntKind.i64 k), Seg.one (LV.int IntKind.i64 n), Seg.one (LV.str s)] ++ [])) (i * 3 + j)))]⟩] ⟨WV.lf (by rw [hcs]; exact fun _ _ _ _ _ hx => rep_sl0_ro hx), freeF.wv ⟨trivial, trivial, trivial, trivial, trivial, trivial, trivial⟩, trivial⟩ (plainF.wv trivial)
    have hC := (c33 M cs (by omega)).lend (cs := [.s (.lf (.own 2 0 3 0 1)), .s (.lf .sl0)]) (fun _ => False) [some ⟨23, [.one (.int .i64 k), .one (.int .i64 n), .one (.str s)]⟩, some (obD d), some ⟨23, [.recs 3 1 ((fun i j => cellD ([] ++ ([Seg.one (LV.int IntKind.i64 k), Seg.one (LV.int IntKind.i64 n), Seg.one (LV.str s)] ++ [])) (i * 3 + j)))]⟩] ⟨WV.lf (WL.lentC rfl rfl (by rw [hMl, hcs]; rfl) hrow ⟨fun h => h, fun i ob h => by simp at h⟩), WV.lf (by rw [hcs]; exact fun _ _ _ _ _ hx => rep_sl0_ro hx), trivial⟩ (plainF.wv trivial)
    have hD := (c33 cs M hl).lend (cs := [.s (.lf .sl0), .s (.lf (.own 2 0 3 0 1))]) (fun _ => False) [some ⟨23, [.one (.int .i64 k), .one (.int .i64 n), .one (.str s)]⟩, some (obD d), some ⟨23, [.recs 3 1 ((fun i j => cellD ([] ++ ([Seg.one (LV.int IntKind.i64 k), Seg.one (LV.int IntKind.i64 n), Seg.one (LV.str s)] ++ [])) (i * 3 + j)))]⟩] ⟨WV.lf (by rw [hcs]; exact fun _ _ _ _ _ hx => rep_sl0_ro hx), WV.lf (WL.lentC rfl rfl (by rw [hMl, hcs]; rfl) hrow ⟨fun h => h, fun i ob h => by simp at h⟩), trivial⟩ (plainF.wv trivial)
    have hE := (c35 k n s d).free [some ⟨23, [.one (.int .i64 k), .one (.int .i64 n), .one (.str s)]⟩, some (obD d), some ⟨23, [.recs 3 1 ((fun i j => cellD ([] ++ ([Seg.one (LV.int IntKind.i64 k), Seg.one (LV.int IntKind.i64 n), Seg.one (LV.str s)] ++ [])) (i * 3 + j)))]⟩] ⟨⟨trivial, trivial, trivial, trivial⟩, ⟨trivial, trivial, trivial, trivial, trivial, trivial, trivial⟩, trivial⟩ trivial
    have hF := c25.free [some ⟨23, [.one (.int .i64 k), .one (.int .i64 n), .one (.str s)]⟩, some (obD d), some ⟨23, [.recs 3 1 ((fun i j => cellD ([] ++ ([Seg.one (LV.int IntKind.i64 k), Seg.one (LV.int IntKind.i64 n), Seg.one (LV.str s)] ++ [])) (i * 3 + j)))]⟩] trivial trivial
    have x1 : extF M cs = true := by unfold extF; rw [hM]; simp
    have x2 : (!extF cs M) = true := by unfold extF; rw [decide_eq_false (by rw [hMl]; omega)]; rfl
    have hall : (M.all fun c => holdsC c d) = ((cs.all fun c => holdsC c d) && holdsF k n s d) := by rw [hM, List.all_append]; simp [holdsC]
    refine DrawK.mkL tok mixed [0, 1, 0, 4, 15, 31] [1, 3, 4] [
      ([0, 1, 0, 7, 15, 31], [(0, 0, []), (1, 2, []), (2, 1, [0, 1]), (3, 2, []), (4, 2, []), (5, 0, [])]),
      ([0, 13, 0, 4, 15, 31], [(0, 0, []), (2, 1, [0]), (3, 2, []), (1, 2, []), (4, 2, []), (5, 0, [])])] (by kernel_rfl) ⟨?_, ?_, trivial⟩
    · conv => whnf
      refine CallK.mk' _ _ (c39n.free _ ⟨trivial, trivial⟩ trivial) ?_
      conv => whnf
      refine And.intro rfl ?_
      conv => whnf
      refine Or.inr ?_
      conv => whnf
      refine And.intro (by show (0 + 1) * 32 ≤ _; omega) ?_
      conv => whnf
      refine CallK.mk' _ _ hA ?_
      conv => whnf
      cases hb : (cs.all fun c => holdsC c d) with
      | false =>
        have x0 : (M.all fun c => holdsC c d) = false := by rw [hall, hb]; rfl
        have x3 : ((M.all fun c => holdsC c d) == false) = true := by rw [x0]; rfl
        refine CaseB.of_false x0 ?_
        conv => whnf
        refine DrawK.mk1 tok mixed [0, 0, 3, 7, 15, 15, 63, 127, 255, 511, 1023, 1023, 4095, 1023, 1023, 32767, 65535, 131071, 131071, 524287, 1048575, 2097151, 4194303, 8388607, 16777215, 33554431, 67108863] [(0, 0, []), (1, 0, []), (2, 1, [0]), (3, 0, []), (4, 0, []), (5, 0, []), (6, 1, [0]), (7, 0, []), (8, 0, []), (9, 0, []), (10, 0, []), (13, 0, []), (11, 1, [0]), (12, 1, [0]), (14, 1, [0]), (15, 1, [0]), (16, 0, []), (17, 1, [0]), (18, 1, [0]), (19, 1, [0]), (20, 0, []), (21, 0, []), (22, 0, []), (23, 0, []), (24, 1, [0]), (25, 0, []), (26, 0, [])] (by kernel_rfl) ?_
        conv => whnf
        repeat (first
          | (refine CallR.mk' _ hC ?_; conv => whnf)
          | (refine CallR.mk' _ hD ?_; conv => whnf)
          | (refine CallR.mk' _ hA ?_; conv => whnf)
          | (refine CallR.mk' _ hB ?_; conv => whnf)
          | (refine CallR.mk' _ hE ?_; conv => whnf)
          | (refine CallR.mk' _ hF ?_; conv => whnf)
          | (refine CaseB.of_true x1 ?_; conv => whnf)
          | (refine CaseB.of_true x2 ?_; conv => whnf)
          | (refine CaseB.of_false hb ?_; conv => whnf)
          | (refine CaseB.of_true x3 ?_; conv => whnf))
        exact RetK.empty (okF.wv trivial)
      | true =>
        have x3 : ((M.all fun c => holdsC c d) == holdsF k n s d) = true := by rw [hall, hb]; simp
        rcases Bool.eq_false_or_eq_true (M.all fun c => holdsC c d) with hc | hc
        · refine CaseB.of_true hc ?_
          conv => whnf
          refine CallK.mk' _ _ hB ?_
          conv => whnf
          refine CaseB.of_false (by rw [hb]; rfl) ?_
          conv => whnf
          refine DrawK.mk1 tok mixed [0, 0, 3, 7, 15, 15, 63, 127, 255, 511, 1023, 1023, 4095, 1023, 1023, 32767, 65535, 131071, 131071, 524287, 1048575, 2097151, 4194303, 8388607, 16777215, 33554431, 67108863] [(0, 0, []), (1, 0, []), (2, 1, [0]), (3, 0, []), (4, 0, []), (5, 0, []), (6, 1, [0]), (7, 0, []), (8, 0, []), (9, 0, []), (10, 0, []), (13, 0, []), (11, 1, [0]), (12, 1, [0]), (14, 1, [0]), (15, 1, [0]), (16, 0, []), (17, 1, [0]), (18, 1, [0]), (19, 1, [0]), (20, 0, []), (21, 0, []), (22, 0, []), (23, 0, []), (24, 1, [0]), (25, 0, []), (26, 0, [])] (by kernel_rfl) ?_
          conv => whnf
          repeat (first
            | (refine CallR.mk' _ hC ?_; conv => whnf)
            | (refine CallR.mk' _ hD ?_; conv => whnf)
            | (refine CallR.mk' _ hA ?_; conv => whnf)
            | (refine CallR.mk' _ hB ?_; conv => whnf)
            | (refine CallR.mk' _ hE ?_; conv => whnf)
            | (refine CallR.mk' _ hF ?_; conv => whnf)
            | (refine CaseB.of_true x1 ?_; conv => whnf)
            | (refine CaseB.of_true x2 ?_; conv => whnf)
            | (refine CaseB.of_true hb ?_; conv => whnf)
            | (refine CaseB.of_true x3 ?_; conv => whnf))
          exact RetK.empty (okF.wv trivial)
        · refine CaseB.of_false hc ?_
          conv => whnf
          refine DrawK.mk1 tok mixed [0, 0, 3, 7, 15, 15, 63, 127, 255, 511, 1023, 1023, 4095, 1023, 1023, 32767, 65535, 131071, 131071, 524287, 1048575, 2097151, 4194303, 8388607, 16777215, 33554431, 67108863] [(0, 0, []), (1, 0, []), (2, 1, [0]), (3, 0, []), (4, 0, []), (5, 0, []), (6, 1, [0]), (7, 0, []), (8, 0, []), (9, 0, []), (10, 0, []), (13, 0, []), (11, 1, [0]), (12, 1, [0]), (14, 1, [0]), (15, 1, [0]), (16, 0, []), (17, 1, [0]), (18, 1, [0]), (19, 1, [0]), (20, 0, []), (21, 0, []), (22, 0, []), (23, 0, []), (24, 1, [0]), (25, 0, []), (26, 0, [])] (by kernel_rfl) ?_
          conv => whnf
          repeat (first
            | (refine CallR.mk' _ hC ?_; conv => whnf)
            | (refine CallR.mk' _ hD ?_; conv => whnf)
            | (refine CallR.mk' _ hA ?_; conv => whnf)
            | (refine CallR.mk' _ hB ?_; conv => whnf)
            | (refine CallR.mk' _ hE ?_; conv => whnf)
            | (refine CallR.mk' _ hF ?_; conv => whnf)
            | (refine CaseB.of_true x1 ?_; conv => whnf)
            | (refine CaseB.of_true x2 ?_; conv => whnf)
            | (refine CaseB.of_true hb ?_; conv => whnf)
            | (refine CaseB.of_true x3 ?_; conv => whnf))
          exact RetK.empty (okF.wv trivial)
    · conv => whnf
      refine Or.inr ?_
      conv => whnf
      refine CallK.mk' _ _ (c39n.free _ ⟨trivial, trivial⟩ trivial) ?_
      conv => whnf
      refine And.intro (by show (0 + 1) * 32 ≤ _; omega) ?_
      conv => whnf
      refine CallK.mk' _ _ hA ?_
      conv => whnf
      cases hb : (cs.all fun c => holdsC c d) with
      | false =>
        have x0 : (M.all fun c => holdsC c d) = false := by rw [hall, hb]; rfl
        have x3 : ((M.all fun c => holdsC c d) == false) = true := by rw [x0]; rfl
        refine CaseB.of_false x0 ?_
        conv => whnf
        refine DrawK.mk1 tok mixed [0, 0, 3, 7, 15, 15, 63, 127, 255, 511, 1023, 1023, 4095, 1023, 1023, 32767, 65535, 131071, 131071, 524287, 1048575, 2097151, 4194303, 8388607, 16777215, 33554431, 67108863] [(0, 0, []), (1, 0, []), (2, 1, [0]), (3, 0, []), (4, 0, []), (5, 0, []), (6, 1, [0]), (7, 0, []), (8, 0, []), (9, 0, []), (10, 0, []), (13, 0, []), (11, 1, [0]), (12, 1, [0]), (14, 1, [0]), (15, 1, [0]), (16, 0, []), (17, 1, [0]), (18, 1, [0]), (19, 1, [0]), (20, 0, []), (21, 0, []), (22, 0, []), (23, 0, []), (24, 1, [0]), (25, 0, []), (26, 0, [])] (by kernel_rfl) ?_
        conv => whnf
        repeat (first
          | (refine CallR.mk' _ hC ?_; conv => whnf)
          | (refine CallR.mk' _ hD ?_; conv => whnf)
          | (refine CallR.mk' _ hA ?_; conv => whnf)
          | (refine CallR.mk' _ hB ?_; conv => whnf)
          | (refine CallR.mk' _ hE ?_; conv => whnf)
          | (refine CallR.mk' _ hF ?_; conv => whnf)
          | (refine CaseB.of_true x1 ?_; conv => whnf)
          | (refine CaseB.of_true x2 ?_; conv => whnf)
          | (refine CaseB.of_false hb ?_; conv => whnf)
          | (refine CaseB.of_true x3 ?_; conv => whnf))
        exact RetK.empty (okF.wv trivial)
      | true =>
        have x3 : ((M.all fun c => holdsC c d) == holdsF k n s d) = true := by rw [hall, hb]; simp
        rcases Bool.eq_false_or_eq_true (M.all fun c => holdsC c d) with hc | hc
        · refine CaseB.of_true hc ?_
          conv => whnf
          refine CallK.mk' _ _ hB ?_
          conv => whnf
          refine CaseB.of_false (by rw [hb]; rfl) ?_
          conv => whnf
          refine DrawK.mk1 tok mixed [0, 0, 3, 7, 15, 15, 63, 127, 255, 511, 1023, 1023, 4095, 1023, 1023, 32767, 65535, 131071, 131071, 524287, 1048575, 2097151, 4194303, 8388607, 16777215, 33554431, 67108863] [(0, 0, []), (1, 0, []), (2, 1, [0]), (3, 0, []), (4, 0, []), (5, 0, []), (6, 1, [0]), (7, 0, []), (8, 0, []), (9, 0, []), (10, 0, []), (13, 0, []), (11, 1, [0]), (12, 1, [0]), (14, 1, [0]), (15, 1, [0]), (16, 0, []), (17, 1, [0]), (18, 1, [0]), (19, 1, [0]), (20, 0, []), (21, 0, []), (22, 0, []), (23, 0, []), (24, 1, [0]), (25, 0, []), (26, 0, [])] (by kernel_rfl) ?_
          conv => whnf
          repeat (first
            | (refine CallR.mk' _ hC ?_; conv => whnf)
            | (refine CallR.mk' _ hD ?_; conv => whnf)
            | (refine CallR.mk' _ hA ?_; conv => whnf)
            | (refine CallR.mk' _ hB ?_; conv => whnf)
            | (refine CallR.mk' _ hE ?_; conv => whnf)
            | (refine CallR.mk' _ hF ?_; conv => whnf)
            | (refine CaseB.of_true x1 ?_; conv => whnf)
            | (refine CaseB.of_true x2 ?_; conv => whnf)
            | (refine CaseB.of_true hb ?_; conv => whnf)
            | (refine CaseB.of_true x3 ?_; conv => whnf))
          exact RetK.empty (okF.wv trivial)
        · refine CaseB.of_false hc ?_
          conv => whnf
          refine DrawK.mk1 tok mixed [0, 0, 3, 7, 15, 15, 63, 127, 255, 511, 1023, 1023, 4095, 1023, 1023, 32767, 65535, 131071, 131071, 524287, 1048575, 2097151, 4194303, 8388607, 16777215, 33554431, 67108863] [(0, 0, []), (1, 0, []), (2, 1, [0]), (3, 0, []), (4, 0, []), (5, 0, []), (6, 1, [0]), (7, 0, []), (8, 0, []), (9, 0, []), (10, 0, []), (13, 0, []), (11, 1, [0]), (12, 1, [0]), (14, 1, [0]), (15, 1, [0]), (16, 0, []), (17, 1, [0]), (18, 1, [0]), (19, 1, [0]), (20, 0, []), (21, 0, []), (22, 0, []), (23, 0, []), (24, 1, [0]), (25, 0, []), (26, 0, [])] (by kernel_rfl) ?_
          conv => whnf
          repeat (first
            | (refine CallR.mk' _ hC ?_; conv => whnf)
            | (refine CallR.mk' _ hD ?_; conv => whnf)
            | (refine CallR.mk' _ hA ?_; conv => whnf)
            | (refine CallR.mk' _ hB ?_; conv => whnf)
            | (refine CallR.mk' _ hE ?_; conv => whnf)
            | (refine CallR.mk' _ hF ?_; conv => whnf)
            | (refine CaseB.of_true x1 ?_; conv => whnf)
            | (refine CaseB.of_true x2 ?_; conv => whnf)
            | (refine CaseB.of_true hb ?_; conv => whnf)
            | (refine CaseB.of_true x3 ?_; conv => whnf))
          exact RetK.empty (okF.wv trivial)
theorem rd_cvs_t {w : World} {v : Value} {len : Nat} {f : Nat → Nat → LV} (h : ∀ i, i < len → RdL Γ 5 23 (f i) 0) (hl : len ≤ maxLen) (hr : repF w L0 (.s (.lf (.ro true false 3 len f))) v) : ∃ cs : List CV, cs.length ≤ maxLen ∧ repF w L0 (vRt cs) v := by
  obtain ⟨k, n, s, R⟩ := rd_row h
  refine ⟨(List.range len).map fun i => ⟨k i, n i, s i⟩, by simpa using hl, ?_⟩
  have hlen : ((List.range len).map fun i => (⟨k i, n i, s i⟩ : CV)).length = len := by simp
  have hg : ∀ i, i < len → ((List.range len).map fun i => (⟨k i, n i, s i⟩ : CV)).getD i cv0 = ⟨k i, n i, s i⟩ := fun i hi => by simp [List.getD, hi]
  show roRep _ _ _ _ _ _ _ _
  rw [hlen]
  rcases hr with ⟨hr, _⟩ | ⟨a, cap, h0, h1, h2, h3, h4, h5⟩
  · simp at hr
  · refine .inr ⟨a, cap, h0, h1, h2, h3, h4, fun i hi j hj => ?_⟩
    obtain ⟨c, e1, e2, e3⟩ := h5 i hi j hj
    refine ⟨c, e1, e2, ?_⟩
    have : j = 0 ∨ j = 1 ∨ j = 2 := by omega
    rcases this with rfl | rfl | rfl
    · rw [R.c0 i hi] at e3; show rep _ _ (.int .i64 _) _; rw [hg i hi]; exact e3
    · rw [R.c1 i hi] at e3; show rep _ _ (.int .i64 _) _; rw [hg i hi]; exact e3
    · rw [R.c2 i hi] at e3; show rep _ _ (.str _) _; rw [hg i hi]; exact e3

end Go.Sym.Md

