/- Contracts of the program's functions, proved by the framework (text MdBD), without conditions but those that each theorem states. -/
import Derived.Test.YtlmcdgbjbamdnaaMdA
set_option linter.unusedVariables false
set_option linter.unusedSimpArgs false
set_option maxRecDepth 10000
namespace Go.Sym.Md
open Go Go.Sym

theorem mixed : Tables.follows Proofs.Try.prog.toTables .mixedOrders = true := by kernel_rfl

/-! ### Caveats: the words -/
def hasF (k : Int) : Int := if k = 2 ∨ k = 3 then 1 else if k = 1 ∨ k = 4 ∨ k = 5 ∨ k = 6 then 2 else 0
def boundF (k : Int) : Int := if k = 1 then 255 else if k = 5 then 7 else 1099511627776
def letterF (x : UInt8) : Bool := decide ((97 ≤ x.toNat ∧ x.toNat ≤ 122) ∨ (48 ≤ x.toNat ∧ x.toNat ≤ 57) ∨ x.toNat = 45 ∨ x.toNat = 95)
def nameF (s : List UInt8) : Bool := decide (1 ≤ s.length ∧ s.length ≤ 16) && s.all letterF
/-- Whether a caveat may be. -/
def okC (k n : Int) (s : List UInt8) : Bool := if hasF k = 1 then nameF s && decide (n = 0) else if hasF k = 2 then decide (s = []) && decide (0 ≤ n ∧ n ≤ boundF k) else false
def checkF (k n : Int) (s : List UInt8) : Int := if okC k n s then 0 else 1

/-- A caveat. -/
abbrev vC (k n : Int) (s : List UInt8) : FV := .s (.agg [.one (.int .i64 k), .one (.int .i64 n), .one (.str s)])

/-- caveat.has -/
theorem c121 (k : Int) : SCalls Proofs.Try.prog 121 [vI k] [] (vI (hasF k)) [] := by
  refine SCalls.intro tok Proofs.Try.func121 ?_
  conv => whnf
  by_cases h2 : k = 2 <;> by_cases h3 : k = 3 <;> by_cases h1 : k = 1 <;> by_cases h4 : k = 4 <;> by_cases h5 : k = 5 <;> by_cases h6 : k = 6 <;> try omega
  all_goals
    repeat (first
      | (refine CaseB.of_true (decide_eq_true (by omega)) ?_; conv => whnf)
      | (refine CaseB.of_false (decide_eq_false (by omega)) ?_; conv => whnf))
    exact RetK.empty (WV.lf (WL.int (by unfold hasF; simp [*])))

/-- caveat.bound -/
theorem c123 (k : Int) : SCalls Proofs.Try.prog 123 [vI k] [] (vI (boundF k)) [] := by
  refine SCalls.intro tok Proofs.Try.func123 ?_
  conv => whnf
  by_cases h1 : k = 1 <;> by_cases h5 : k = 5 <;> by_cases h4 : k = 4 <;> try omega
  all_goals
    repeat (first
      | (refine CaseB.of_true (decide_eq_true (by omega)) ?_; conv => whnf)
      | (refine CaseB.of_false (decide_eq_false (by omega)) ?_; conv => whnf))
    exact RetK.empty (WV.lf (WL.int (by unfold boundF; simp [*])))

/-- nums.Within -/
theorem c122 (n a b : Int) : SCalls Proofs.Try.prog 122 [vI n, vI a, vI b] [] (.s (.lf (.bool (decide (a ≤ n ∧ n ≤ b))))) [] := by
  refine SCalls.intro tok Proofs.Try.func122 ?_
  conv => whnf
  by_cases h1 : a ≤ n
  · refine CaseB.of_true (decide_eq_true h1) ?_
    conv => whnf
    exact RetK.empty (WV.lf (WL.bool (by simp [h1])))
  · refine CaseB.of_false (decide_eq_false h1) ?_
    conv => whnf
    exact RetK.empty (WV.lf (WL.ff (by simp [h1])))

/-- caveat.letter -/
theorem c126 (x : UInt8) : SCalls Proofs.Try.prog 126 [.s (.lf (.int .u8 (x.toNat : Int)))] [] (.s (.lf (.bool (letterF x)))) [] := by
  refine SCalls.intro tok Proofs.Try.func126 ?_
  conv => whnf
  by_cases h1 : 97 ≤ x.toNat <;> by_cases h2 : x.toNat ≤ 122 <;> by_cases h3 : 48 ≤ x.toNat <;> by_cases h4 : x.toNat ≤ 57 <;> by_cases h5 : x.toNat = 45 <;> by_cases h6 : x.toNat = 95 <;> try omega
  all_goals
    repeat (first
      | (refine CaseB.of_true (decide_eq_true (by omega)) ?_; conv => whnf)
      | (refine CaseB.of_false (decide_eq_false (by omega)) ?_; conv => whnf))
    first
      | exact RetK.empty (WV.lf (WL.tt (decide_eq_true (by omega))))
      | exact RetK.empty (WV.lf (WL.ff (decide_eq_false (by omega))))

/-- baileyref06.named -/
theorem c124 (k : Int) : SCalls Proofs.Try.prog 124 [vI k] [] (.s (.lf (.bool (decide (k = 2 ∨ k = 3))))) [] := by
  refine SCalls.intro tok Proofs.Try.func124 ?_
  conv => whnf
  by_cases h2 : k = 2
  · refine CaseB.of_true (decide_eq_true h2) ?_
    conv => whnf
    exact RetK.empty (WV.lf (WL.tt (decide_eq_true (by omega))))
  · refine CaseB.of_false (decide_eq_false h2) ?_
    conv => whnf
    exact RetK.empty (WV.lf (WL.bool (by simp [h2])))

/-- baileyref06.most -/
theorem c125 (k : Int) : SCalls Proofs.Try.prog 125 [vI k] [] (vI (boundF k)) [] := by
  refine SCalls.intro tok Proofs.Try.func125 ?_
  conv => whnf
  by_cases h1 : k = 1 <;> by_cases h5 : k = 5 <;> try omega
  all_goals
    repeat (first
      | (refine CaseB.of_true (decide_eq_true (by omega)) ?_; conv => whnf)
      | (refine CaseB.of_false (decide_eq_false (by omega)) ?_; conv => whnf))
    exact RetK.empty (WV.lf (WL.int (by unfold boundF; simp [*])))
end Go.Sym.Md

set_option linter.unusedVariables false
set_option linter.unusedSimpArgs false
set_option maxRecDepth 10000
namespace Go.Sym.Md
open Go Go.Sym

theorem take_all {p : UInt8 → Bool} {s : List UInt8} {i : Nat} (hi : i < s.length) : (s.take (i + 1)).all p = ((s.take i).all p && p (s.getD i 0)) := by
  rw [List.take_add_one, List.all_append, List.getElem?_eq_getElem hi, List.getD_eq_getElem?_getD, List.getElem?_eq_getElem hi]
  simp

theorem all_take_false {p : UInt8 → Bool} {s : List UInt8} {i : Nat} (hi : i < s.length) (h : p (s.getD i 0) = false) : s.all p = false := by
  rw [List.all_eq_false]
  refine ⟨s.getD i 0, ?_, by rw [h]; simp⟩
  rw [List.getD_eq_getElem?_getD, List.getElem?_eq_getElem hi]
  exact List.getElem_mem hi

/-- caveat.Name -/
theorem c28 (s : List UInt8) : SCalls Proofs.Try.prog 28 [.s (.lf (.str s))] [] (.s (.lf (.bool (nameF s)))) [] := by
  refine SCalls.intro tok Proofs.Try.func28 ?_
  conv => whnf
  refine CallK.mk' _ _ (c122 s.length 1 16) ?_
  conv => whnf
  by_cases hl : 1 ≤ s.length ∧ s.length ≤ 16
  · refine CaseB.of_false (by simp; omega) ?_
    conv => whnf
    refine LoopK.mk1 (fun i : Nat => [(0, .s (.lf (.str s))), (9, vI s.length), (10, vI i)]) (fun _ => []) (fun i => i ≤ s.length ∧ (s.take i).all letterF = true) (fun i => s.length - i) 0 ⟨by omega, by simp⟩ ?_ ?_
    · exact Weak.of ⟨⟩ (by simp) ⟨okF.wv trivial, okF.wv trivial, okF.wv trivial, trivial⟩
    intro i hi
    obtain ⟨hi, ha⟩ := hi
    conv => whnf
    by_cases hi' : i < s.length
    · refine CaseB.of_true (decide_eq_true (by omega)) ?_
      conv => whnf
      refine And.intro (by omega) ?_
      conv => whnf
      refine CallK.mk' _ _ (c126 (s.getD (Int.toNat (i : Int)) 0)) ?_
      conv => whnf
      by_cases hx : letterF (s.getD i 0) = true
      · refine CaseB.of_false (by rw [Int.toNat_natCast, hx]; rfl) ?_
        conv => whnf
        refine ⟨i + 1, ⟨by omega, by rw [take_all hi', ha, hx]; rfl⟩, by show s.length - (i + 1) < s.length - i; omega, ?_⟩
        exact Weak.of ⟨⟩ (by simp) ⟨okF.wv trivial, okF.wv trivial, WV.lf (WL.int (by rw [wrap_i64 (by omega) (by omega)]; omega)), trivial⟩
      · refine CaseB.of_true (by rw [Int.toNat_natCast]; simpa using hx) ?_
        conv => whnf
        exact RetK.empty (WV.lf (WL.ff (by unfold nameF; rw [all_take_false hi' (by simpa using hx), Bool.and_false])))
    · refine CaseB.of_false (decide_eq_false (by omega)) ?_
      conv => whnf
      rw [List.take_of_length_le (by omega)] at ha
      exact RetK.empty (WV.lf (WL.tt (by unfold nameF; rw [ha, decide_eq_true hl]; rfl)))
  · refine CaseB.of_true (by simp; omega) ?_
    conv => whnf
    exact RetK.empty (WV.lf (WL.ff (by unfold nameF; rw [decide_eq_false hl]; rfl)))

/-- baileyref06.Name -/
theorem c29 (s : List UInt8) : SCalls Proofs.Try.prog 29 [.s (.lf (.str s))] [] (.s (.lf (.bool (nameF s)))) [] := by
  refine SCalls.intro tok Proofs.Try.func29 ?_
  conv => whnf
  by_cases hl1 : (s.length : Int) < 1
  · refine CaseB.of_true (decide_eq_true hl1) ?_
    conv => whnf
    exact RetK.empty (WV.lf (WL.ff (by unfold nameF; rw [decide_eq_false (by omega)]; rfl)))
  refine CaseB.of_false (decide_eq_false hl1) ?_
  conv => whnf
  by_cases hl2 : 16 < (s.length : Int)
  · refine CaseB.of_true (decide_eq_true hl2) ?_
    conv => whnf
    exact RetK.empty (WV.lf (WL.ff (by unfold nameF; rw [decide_eq_false (by omega)]; rfl)))
  refine CaseB.of_false (decide_eq_false hl2) ?_
  conv => whnf
  refine LoopK.mk1 (fun i : Nat => [(0, .s (.lf (.str s))), (3, vI i)]) (fun _ => []) (fun i => i ≤ s.length ∧ (s.take i).all letterF = true) (fun i => s.length - i) 0 ⟨by omega, by simp⟩ ?_ ?_
  · exact Weak.of ⟨⟩ (by simp) ⟨okF.wv trivial, okF.wv trivial, trivial⟩
  intro i hi
  obtain ⟨hi, ha⟩ := hi
  conv => whnf
  by_cases hi' : i < s.length
  · refine CaseB.of_true (decide_eq_true (by omega)) ?_
    conv => whnf
    refine And.intro (by omega) ?_
    conv => whnf
    have key : ∀ x : UInt8, x = s.getD (Int.toNat (i : Int)) 0 → (letterF x = true ∨ letterF x = false) := fun x _ => by cases letterF x <;> simp
    obtain ⟨x, hx⟩ : ∃ x, x = s.getD (Int.toNat (i : Int)) 0 := ⟨_, rfl⟩
    rw [← hx]
    have hx' : x = s.getD i 0 := by rw [hx, Int.toNat_natCast]
    have yes : letterF x = true → ∃ y, (fun i => i ≤ s.length ∧ (s.take i).all letterF = true) y ∧ s.length - y < s.length - i ∧ y = i + 1 := fun h => ⟨i + 1, ⟨by omega, by rw [take_all hi', ha, ← hx', h]; rfl⟩, by omega, rfl⟩
    have no : letterF x = false → nameF s = false := fun h => by unfold nameF; rw [all_take_false hi' (by rw [← hx']; exact h), Bool.and_false]
    by_cases h1 : 97 ≤ x.toNat <;> by_cases h2 : x.toNat ≤ 122 <;> by_cases h3 : 48 ≤ x.toNat <;> by_cases h4 : x.toNat ≤ 57 <;> by_cases h5 : x.toNat = 45 <;> by_cases h6 : x.toNat = 95 <;> try omega
    all_goals
      repeat (first
        | (refine CaseB.of_true (decide_eq_true (by omega)) ?_; conv => whnf)
        | (refine CaseB.of_false (decide_eq_false (by omega)) ?_; conv => whnf)
        | (refine CaseB.of_true (by simp; omega) ?_; conv => whnf)
        | (refine CaseB.of_false (by simp; omega) ?_; conv => whnf))
      first
        | exact RetK.empty (WV.lf (WL.ff (no (decide_eq_false (by omega)))))
        | (obtain ⟨y, hy1, hy2, rfl⟩ := yes (decide_eq_true (by omega))
           exact ⟨i + 1, hy1, hy2, Weak.of ⟨⟩ (by simp) ⟨okF.wv trivial, WV.lf (WL.int (by rw [wrap_i64 (by omega) (by omega)]; omega)), trivial⟩⟩)
  · refine CaseB.of_false (decide_eq_false (by omega)) ?_
    conv => whnf
    rw [List.take_of_length_le (by omega)] at ha
    exact RetK.empty (WV.lf (WL.tt (by unfold nameF; rw [ha, decide_eq_true (by omega)]; rfl)))
end Go.Sym.Md

set_option linter.unusedVariables false
set_option linter.unusedSimpArgs false
set_option maxRecDepth 10000
namespace Go.Sym.Md
open Go Go.Sym
attribute [local irreducible] nameF hasF boundF

/-- caveat.Check -/
theorem c26 (k n : Int) (s : List UInt8) : SCalls Proofs.Try.prog 26 [vC k n s] [] (vI (checkF k n s)) [] := by
  refine SCalls.intro tok Proofs.Try.func26 ?_
  conv => whnf
  refine CallK.mk' _ _ ((c121 k).free _ ⟨trivial, trivial⟩ trivial) ?_
  conv => whnf
  by_cases h1 : hasF k = 1
  · refine CaseB.of_true (decide_eq_true h1) ?_
    conv => whnf
    refine CallK.mk' _ _ ((c28 s).free _ ⟨trivial, trivial⟩ trivial) ?_
    conv => whnf
    have e : okC k n s = (nameF s && decide (n = 0)) := by unfold okC; rw [if_pos h1]
    cases hn : nameF s with
    | true =>
      refine CaseB.of_true rfl ?_
      conv => whnf
      by_cases h0 : n = 0
      · refine CaseB.of_false (by simp [h0]) ?_
        conv => whnf
        exact RetK.empty (WV.lf (WL.int (by unfold checkF; rw [e, hn, decide_eq_true h0]; rfl)))
      · refine CaseB.of_true (by simp [h0]) ?_
        conv => whnf
        exact RetK.empty (WV.lf (WL.int (by unfold checkF; rw [e, hn, decide_eq_false h0]; rfl)))
    | false =>
      refine CaseB.of_false rfl ?_
      conv => whnf
      exact RetK.empty (WV.lf (WL.int (by unfold checkF; rw [e, hn]; rfl)))
  refine CaseB.of_false (decide_eq_false h1) ?_
  conv => whnf
  by_cases h2 : hasF k = 2
  · refine CaseB.of_true (decide_eq_true h2) ?_
    conv => whnf
    have e : okC k n s = (decide (s = []) && decide (0 ≤ n ∧ n ≤ boundF k)) := by unfold okC; rw [if_neg h1, if_pos h2]
    refine DrawK.mk1 tok mixed [0, 1, 3, 7, 15, 31, 15, 79, 207, 511, 1023, 2047] [(0, 1, [0]), (1, 1, [0]), (2, 0, []), (3, 0, []), (4, 1, [0]), (5, 1, [0]), (6, 1, [0]), (7, 1, [0]), (8, 1, [0]), (9, 1, [0]), (10, 0, []), (11, 0, [])] (by kernel_rfl) ?_
    conv => whnf
    by_cases hs : s = []
    · repeat (first
        | (refine CaseB.of_true (decide_eq_true hs) ?_; conv => whnf)
        | (refine CallR.mk' _ ((c123 k).free _ ⟨trivial, trivial⟩ trivial) ?_; conv => whnf)
        | (refine CallR.mk' _ ((c122 n 0 (boundF k)).free _ ⟨trivial, trivial, trivial, trivial⟩ trivial) ?_; conv => whnf))
      by_cases h0 : 0 ≤ n ∧ n ≤ boundF k
      · refine CaseB.of_false (by simp [h0]) ?_
        conv => whnf
        exact RetK.empty (WV.lf (WL.int (by unfold checkF; rw [e, decide_eq_true hs, decide_eq_true h0]; rfl)))
      · refine CaseB.of_true (by rw [decide_eq_false h0]; rfl) ?_
        conv => whnf
        exact RetK.empty (WV.lf (WL.int (by unfold checkF; rw [e, decide_eq_false h0, Bool.and_false]; rfl)))
    · repeat (first
        | (refine CaseB.of_false (decide_eq_false hs) ?_; conv => whnf))
      exact RetK.empty (WV.lf (WL.int (by unfold checkF; rw [e, decide_eq_false hs]; rfl)))
  refine CaseB.of_false (decide_eq_false h2) ?_
  conv => whnf
  exact RetK.empty (WV.lf (WL.int (by unfold checkF okC; rw [if_neg h1, if_neg h2]; rfl)))

theorem not_true {p : Prop} [Decidable p] (h : p) : (!decide p) = false := by rw [decide_eq_true h]; rfl
theorem not_false {p : Prop} [Decidable p] (h : ¬ p) : (!decide p) = true := by rw [decide_eq_false h]; rfl
theorem nnot {b c : Bool} (h : b = c) : (!b) = (!c) := by rw [h]

theorem hasF_named {k : Int} (h : k = 2 ∨ k = 3) : hasF k = 1 := by unfold hasF; rw [if_pos h]
theorem hasF_num {k : Int} (h : ¬ (k = 2 ∨ k = 3)) (h1 : ¬ k < 1) (h6 : ¬ 6 < k) : hasF k = 2 := by unfold hasF; rw [if_neg h, if_pos (by omega)]
theorem hasF_none {k : Int} (h : k < 1 ∨ 6 < k) : hasF k = 0 := by unfold hasF; rw [if_neg (by omega), if_neg (by omega)]

/-- baileyref06.Check -/
theorem c27 (k n : Int) (s : List UInt8) : SCalls Proofs.Try.prog 27 [vC k n s] [] (vI (checkF k n s)) [] := by
  refine SCalls.intro tok Proofs.Try.func27 ?_
  conv => whnf
  have bad : k < 1 ∨ 6 < k → (1 : Int) = checkF k n s := fun h => by unfold checkF okC; rw [hasF_none h]; rfl
  by_cases hk1 : k < 1
  · refine CaseB.of_true (decide_eq_true hk1) ?_
    conv => whnf
    exact RetK.empty (WV.lf (WL.int (bad (.inl hk1))))
  refine CaseB.of_false (decide_eq_false hk1) ?_
  conv => whnf
  by_cases hk6 : 6 < k
  · refine CaseB.of_true (decide_eq_true hk6) ?_
    conv => whnf
    exact RetK.empty (WV.lf (WL.int (bad (.inr hk6))))
  refine CaseB.of_false (decide_eq_false hk6) ?_
  conv => whnf
  refine DrawK.mk1 tok mixed [0, 1, 3, 7, 15, 31, 63, 127, 255, 511, 1023, 2047, 4095, 8191, 16383, 32767, 65535, 131071, 262143, 524287, 1048575, 2097151, 4194303, 8388607, 16777215, 33554431, 67108863, 134217727, 268435455, 536870911, 1073741823, 536870911, 2684354559, 6979321855, 17179869183, 34359738367, 68719476735, 137438953471] [(0, 1, [0]), (1, 1, [0]), (2, 1, [0]), (3, 0, []), (4, 1, [0]), (5, 1, [0]), (6, 0, []), (7, 0, []), (8, 1, [0]), (9, 1, [0]), (10, 1, [0]), (11, 0, []), (12, 0, []), (13, 0, []), (14, 0, []), (15, 1, [0]), (16, 1, [0]), (17, 1, [0]), (18, 0, []), (19, 0, []), (20, 1, [0]), (21, 1, [0]), (22, 0, []), (23, 0, []), (24, 1, [0]), (25, 1, [0]), (26, 0, []), (27, 0, []), (28, 0, []), (29, 1, [0]), (30, 1, [0]), (31, 1, [0]), (32, 1, [0]), (33, 1, [0]), (34, 0, []), (35, 0, []), (36, 0, []), (37, 0, [])] (by kernel_rfl) ?_
  conv => whnf
  by_cases hd : k = 2 ∨ k = 3
  · have e : okC k n s = (nameF s && decide (n = 0)) := by unfold okC; rw [if_pos (hasF_named hd)]
    by_cases h0 : n = 0
    · cases hn : nameF s with
      | true =>
        repeat (first
        | (refine CallR.mk' _ ((c124 k).free _ ⟨trivial, trivial⟩ trivial) ?_; conv => whnf)
        | (refine CallR.mk' _ ((c29 s).free _ ⟨trivial, trivial⟩ trivial) ?_; conv => whnf)
        | (refine CallR.mk' _ ((c125 k).free _ ⟨trivial, trivial⟩ trivial) ?_; conv => whnf)
        | (refine CaseB.of_true (decide_eq_true hd) ?_; conv => whnf)
        | (refine CaseB.of_false (decide_eq_false hd) ?_; conv => whnf)
        | (refine CaseB.of_false (not_true hd) ?_; conv => whnf)
        | (refine CaseB.of_true (not_false hd) ?_; conv => whnf)
        | (refine CaseB.of_true (hn) ?_; conv => whnf)
        | (refine CaseB.of_false (hn) ?_; conv => whnf)
        | (refine CaseB.of_true (nnot hn) ?_; conv => whnf)
        | (refine CaseB.of_false (nnot hn) ?_; conv => whnf)
        | (refine CaseB.of_true (decide_eq_true hs) ?_; conv => whnf)
        | (refine CaseB.of_false (decide_eq_false fun h => h hs) ?_; conv => whnf)
        | (refine CaseB.of_true (decide_eq_true (by omega)) ?_; conv => whnf)
        | (refine CaseB.of_false (decide_eq_false (by omega)) ?_; conv => whnf))
        exact RetK.empty (WV.lf (WL.int (by unfold checkF; rw [e, hn, decide_eq_true h0]; rfl)))
      | false =>
        repeat (first
        | (refine CallR.mk' _ ((c124 k).free _ ⟨trivial, trivial⟩ trivial) ?_; conv => whnf)
        | (refine CallR.mk' _ ((c29 s).free _ ⟨trivial, trivial⟩ trivial) ?_; conv => whnf)
        | (refine CallR.mk' _ ((c125 k).free _ ⟨trivial, trivial⟩ trivial) ?_; conv => whnf)
        | (refine CaseB.of_true (decide_eq_true hd) ?_; conv => whnf)
        | (refine CaseB.of_false (decide_eq_false hd) ?_; conv => whnf)
        | (refine CaseB.of_false (not_true hd) ?_; conv => whnf)
        | (refine CaseB.of_true (not_false hd) ?_; conv => whnf)
        | (refine CaseB.of_true (hn) ?_; conv => whnf)
        | (refine CaseB.of_false (hn) ?_; conv => whnf)
        | (refine CaseB.of_true (nnot hn) ?_; conv => whnf)
        | (refine CaseB.of_false (nnot hn) ?_; conv => whnf)
        | (refine CaseB.of_true (decide_eq_true hs) ?_; conv => whnf)
        | (refine CaseB.of_false (decide_eq_false fun h => h hs) ?_; conv => whnf)
        | (refine CaseB.of_true (decide_eq_true (by omega)) ?_; conv => whnf)
        | (refine CaseB.of_false (decide_eq_false (by omega)) ?_; conv => whnf))
        exact RetK.empty (WV.lf (WL.int (by unfold checkF; rw [e, hn, decide_eq_true h0]; rfl)))
    · have hn := hk1
      repeat (first
      | (refine CallR.mk' _ ((c124 k).free _ ⟨trivial, trivial⟩ trivial) ?_; conv => whnf)
      | (refine CallR.mk' _ ((c29 s).free _ ⟨trivial, trivial⟩ trivial) ?_; conv => whnf)
      | (refine CallR.mk' _ ((c125 k).free _ ⟨trivial, trivial⟩ trivial) ?_; conv => whnf)
      | (refine CaseB.of_true (decide_eq_true hd) ?_; conv => whnf)
      | (refine CaseB.of_false (decide_eq_false hd) ?_; conv => whnf)
      | (refine CaseB.of_false (not_true hd) ?_; conv => whnf)
      | (refine CaseB.of_true (not_false hd) ?_; conv => whnf)
      | (refine CaseB.of_true (hn) ?_; conv => whnf)
      | (refine CaseB.of_false (hn) ?_; conv => whnf)
      | (refine CaseB.of_true (nnot hn) ?_; conv => whnf)
      | (refine CaseB.of_false (nnot hn) ?_; conv => whnf)
      | (refine CaseB.of_true (decide_eq_true hs) ?_; conv => whnf)
      | (refine CaseB.of_false (decide_eq_false fun h => h hs) ?_; conv => whnf)
      | (refine CaseB.of_true (decide_eq_true (by omega)) ?_; conv => whnf)
      | (refine CaseB.of_false (decide_eq_false (by omega)) ?_; conv => whnf))
      exact RetK.empty (WV.lf (WL.int (by unfold checkF; rw [e, decide_eq_false h0, Bool.and_false]; rfl)))
  · have e : okC k n s = (decide (s = []) && decide (0 ≤ n ∧ n ≤ boundF k)) := by unfold okC; rw [hasF_num hd hk1 hk6]; rfl
    have hn := hk1
    by_cases hs : s = []
    · by_cases h0 : n < 0
      · repeat (first
        | (refine CallR.mk' _ ((c124 k).free _ ⟨trivial, trivial⟩ trivial) ?_; conv => whnf)
        | (refine CallR.mk' _ ((c29 s).free _ ⟨trivial, trivial⟩ trivial) ?_; conv => whnf)
        | (refine CallR.mk' _ ((c125 k).free _ ⟨trivial, trivial⟩ trivial) ?_; conv => whnf)
        | (refine CaseB.of_true (decide_eq_true hd) ?_; conv => whnf)
        | (refine CaseB.of_false (decide_eq_false hd) ?_; conv => whnf)
        | (refine CaseB.of_false (not_true hd) ?_; conv => whnf)
        | (refine CaseB.of_true (not_false hd) ?_; conv => whnf)
        | (refine CaseB.of_true (hn) ?_; conv => whnf)
        | (refine CaseB.of_false (hn) ?_; conv => whnf)
        | (refine CaseB.of_true (nnot hn) ?_; conv => whnf)
        | (refine CaseB.of_false (nnot hn) ?_; conv => whnf)
        | (refine CaseB.of_true (decide_eq_true hs) ?_; conv => whnf)
        | (refine CaseB.of_false (decide_eq_false fun h => h hs) ?_; conv => whnf)
        | (refine CaseB.of_true (decide_eq_true (by omega)) ?_; conv => whnf)
        | (refine CaseB.of_false (decide_eq_false (by omega)) ?_; conv => whnf))
        exact RetK.empty (WV.lf (WL.int (by unfold checkF; rw [e, decide_eq_false (p := 0 ≤ n ∧ n ≤ boundF k) (by omega), Bool.and_false]; rfl)))
      · by_cases hb : boundF k < n
        · repeat (first
          | (refine CallR.mk' _ ((c124 k).free _ ⟨trivial, trivial⟩ trivial) ?_; conv => whnf)
          | (refine CallR.mk' _ ((c29 s).free _ ⟨trivial, trivial⟩ trivial) ?_; conv => whnf)
          | (refine CallR.mk' _ ((c125 k).free _ ⟨trivial, trivial⟩ trivial) ?_; conv => whnf)
          | (refine CaseB.of_true (decide_eq_true hd) ?_; conv => whnf)
          | (refine CaseB.of_false (decide_eq_false hd) ?_; conv => whnf)
          | (refine CaseB.of_false (not_true hd) ?_; conv => whnf)
          | (refine CaseB.of_true (not_false hd) ?_; conv => whnf)
          | (refine CaseB.of_true (hn) ?_; conv => whnf)
          | (refine CaseB.of_false (hn) ?_; conv => whnf)
          | (refine CaseB.of_true (nnot hn) ?_; conv => whnf)
          | (refine CaseB.of_false (nnot hn) ?_; conv => whnf)
          | (refine CaseB.of_true (decide_eq_true hs) ?_; conv => whnf)
          | (refine CaseB.of_false (decide_eq_false fun h => h hs) ?_; conv => whnf)
          | (refine CaseB.of_true (decide_eq_true (by omega)) ?_; conv => whnf)
          | (refine CaseB.of_false (decide_eq_false (by omega)) ?_; conv => whnf))
          exact RetK.empty (WV.lf (WL.int (by unfold checkF; rw [e, decide_eq_false (p := 0 ≤ n ∧ n ≤ boundF k) (by omega), Bool.and_false]; rfl)))
        · repeat (first
          | (refine CallR.mk' _ ((c124 k).free _ ⟨trivial, trivial⟩ trivial) ?_; conv => whnf)
          | (refine CallR.mk' _ ((c29 s).free _ ⟨trivial, trivial⟩ trivial) ?_; conv => whnf)
          | (refine CallR.mk' _ ((c125 k).free _ ⟨trivial, trivial⟩ trivial) ?_; conv => whnf)
          | (refine CaseB.of_true (decide_eq_true hd) ?_; conv => whnf)
          | (refine CaseB.of_false (decide_eq_false hd) ?_; conv => whnf)
          | (refine CaseB.of_false (not_true hd) ?_; conv => whnf)
          | (refine CaseB.of_true (not_false hd) ?_; conv => whnf)
          | (refine CaseB.of_true (hn) ?_; conv => whnf)
          | (refine CaseB.of_false (hn) ?_; conv => whnf)
          | (refine CaseB.of_true (nnot hn) ?_; conv => whnf)
          | (refine CaseB.of_false (nnot hn) ?_; conv => whnf)
          | (refine CaseB.of_true (decide_eq_true hs) ?_; conv => whnf)
          | (refine CaseB.of_false (decide_eq_false fun h => h hs) ?_; conv => whnf)
          | (refine CaseB.of_true (decide_eq_true (by omega)) ?_; conv => whnf)
          | (refine CaseB.of_false (decide_eq_false (by omega)) ?_; conv => whnf))
          exact RetK.empty (WV.lf (WL.int (by unfold checkF; rw [e, decide_eq_true hs, decide_eq_true (p := 0 ≤ n ∧ n ≤ boundF k) (by omega)]; rfl)))
    · repeat (first
      | (refine CallR.mk' _ ((c124 k).free _ ⟨trivial, trivial⟩ trivial) ?_; conv => whnf)
      | (refine CallR.mk' _ ((c29 s).free _ ⟨trivial, trivial⟩ trivial) ?_; conv => whnf)
      | (refine CallR.mk' _ ((c125 k).free _ ⟨trivial, trivial⟩ trivial) ?_; conv => whnf)
      | (refine CaseB.of_true (decide_eq_true hd) ?_; conv => whnf)
      | (refine CaseB.of_false (decide_eq_false hd) ?_; conv => whnf)
      | (refine CaseB.of_false (not_true hd) ?_; conv => whnf)
      | (refine CaseB.of_true (not_false hd) ?_; conv => whnf)
      | (refine CaseB.of_true (hn) ?_; conv => whnf)
      | (refine CaseB.of_false (hn) ?_; conv => whnf)
      | (refine CaseB.of_true (nnot hn) ?_; conv => whnf)
      | (refine CaseB.of_false (nnot hn) ?_; conv => whnf)
      | (refine CaseB.of_true (decide_eq_true hs) ?_; conv => whnf)
      | (refine CaseB.of_false (decide_eq_false fun h => h hs) ?_; conv => whnf)
      | (refine CaseB.of_true (decide_eq_true (by omega)) ?_; conv => whnf)
      | (refine CaseB.of_false (decide_eq_false (by omega)) ?_; conv => whnf))
      exact RetK.empty (WV.lf (WL.int (by unfold checkF; rw [e, decide_eq_false hs]; rfl)))
end Go.Sym.Md

