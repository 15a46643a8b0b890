/- Contracts of the program's functions, proved by the framework (text TxA), without conditions but those that each theorem states. -/
import Derived.Test.YtlmcdgbjbamdnaaMdA
import Derived.Test.YtlmcdgbjbamdnaaFw7
import Derived.Lib.Bytealg
set_option linter.unusedVariables false
set_option linter.unusedSimpArgs false
set_option maxRecDepth 10000
namespace Go.Sym.Md
open Go Go.Sym

theorem mixed : Tables.follows Proofs.Try.prog.toTables .mixedOrders = true := by kernel_rfl

/-! ### Caveats: the words -/
def hasF (k : Int) : Int := if k = 2 ∨ k = 3 then 1 else if k = 1 ∨ k = 4 ∨ k = 5 ∨ k = 6 then 2 else 0
def boundF (k : Int) : Int := if k = 1 then 255 else if k = 5 then 7 else 1099511627776
def letterF (x : UInt8) : Bool := decide ((97 ≤ x.toNat ∧ x.toNat ≤ 122) ∨ (48 ≤ x.toNat ∧ x.toNat ≤ 57) ∨ x.toNat = 45 ∨ x.toNat = 95)
def nameF (s : List UInt8) : Bool := decide (1 ≤ s.length ∧ s.length ≤ 16) && s.all letterF
/-- Whether a caveat may be. -/
def okC (k n : Int) (s : List UInt8) : Bool := if hasF k = 1 then nameF s && decide (n = 0) else if hasF k = 2 then decide (s = []) && decide (0 ≤ n ∧ n ≤ boundF k) else false
def checkF (k n : Int) (s : List UInt8) : Int := if okC k n s then 0 else 1

/-- A caveat. -/
abbrev vC (k n : Int) (s : List UInt8) : FV := .s (.agg [.one (.int .i64 k), .one (.int .i64 n), .one (.str s)])

/-- caveat.has -/
theorem c121 (k : Int) : SCalls Proofs.Try.prog 121 [vI k] [] (vI (hasF k)) [] := by
  refine SCalls.intro tok Proofs.Try.func121 ?_
  conv => whnf
  by_cases h2 : k = 2 <;> by_cases h3 : k = 3 <;> by_cases h1 : k = 1 <;> by_cases h4 : k = 4 <;> by_cases h5 : k = 5 <;> by_cases h6 : k = 6 <;> try omega
  all_goals
    repeat (first
      | (refine CaseB.of_true (decide_eq_true (by omega)) ?_; conv => whnf)
      | (refine CaseB.of_false (decide_eq_false (by omega)) ?_; conv => whnf))
    exact RetK.empty (WV.lf (WL.int (by unfold hasF; simp [*])))

/-- caveat.bound -/
theorem c123 (k : Int) : SCalls Proofs.Try.prog 123 [vI k] [] (vI (boundF k)) [] := by
  refine SCalls.intro tok Proofs.Try.func123 ?_
  conv => whnf
  by_cases h1 : k = 1 <;> by_cases h5 : k = 5 <;> by_cases h4 : k = 4 <;> try omega
  all_goals
    repeat (first
      | (refine CaseB.of_true (decide_eq_true (by omega)) ?_; conv => whnf)
      | (refine CaseB.of_false (decide_eq_false (by omega)) ?_; conv => whnf))
    exact RetK.empty (WV.lf (WL.int (by unfold boundF; simp [*])))

/-- nums.Within -/
theorem c122 (n a b : Int) : SCalls Proofs.Try.prog 122 [vI n, vI a, vI b] [] (.s (.lf (.bool (decide (a ≤ n ∧ n ≤ b))))) [] := by
  refine SCalls.intro tok Proofs.Try.func122 ?_
  conv => whnf
  by_cases h1 : a ≤ n
  · refine CaseB.of_true (decide_eq_true h1) ?_
    conv => whnf
    exact RetK.empty (WV.lf (WL.bool (by simp [h1])))
  · refine CaseB.of_false (decide_eq_false h1) ?_
    conv => whnf
    exact RetK.empty (WV.lf (WL.ff (by simp [h1])))

/-- caveat.letter -/
theorem c126 (x : UInt8) : SCalls Proofs.Try.prog 126 [.s (.lf (.int .u8 (x.toNat : Int)))] [] (.s (.lf (.bool (letterF x)))) [] := by
  refine SCalls.intro tok Proofs.Try.func126 ?_
  conv => whnf
  by_cases h1 : 97 ≤ x.toNat <;> by_cases h2 : x.toNat ≤ 122 <;> by_cases h3 : 48 ≤ x.toNat <;> by_cases h4 : x.toNat ≤ 57 <;> by_cases h5 : x.toNat = 45 <;> by_cases h6 : x.toNat = 95 <;> try omega
  all_goals
    repeat (first
      | (refine CaseB.of_true (decide_eq_true (by omega)) ?_; conv => whnf)
      | (refine CaseB.of_false (decide_eq_false (by omega)) ?_; conv => whnf))
    first
      | exact RetK.empty (WV.lf (WL.tt (decide_eq_true (by omega))))
      | exact RetK.empty (WV.lf (WL.ff (decide_eq_false (by omega))))

/-- baileyref06.named -/
theorem c124 (k : Int) : SCalls Proofs.Try.prog 124 [vI k] [] (.s (.lf (.bool (decide (k = 2 ∨ k = 3))))) [] := by
  refine SCalls.intro tok Proofs.Try.func124 ?_
  conv => whnf
  by_cases h2 : k = 2
  · refine CaseB.of_true (decide_eq_true h2) ?_
    conv => whnf
    exact RetK.empty (WV.lf (WL.tt (decide_eq_true (by omega))))
  · refine CaseB.of_false (decide_eq_false h2) ?_
    conv => whnf
    exact RetK.empty (WV.lf (WL.bool (by simp [h2])))

/-- baileyref06.most -/
theorem c125 (k : Int) : SCalls Proofs.Try.prog 125 [vI k] [] (vI (boundF k)) [] := by
  refine SCalls.intro tok Proofs.Try.func125 ?_
  conv => whnf
  by_cases h1 : k = 1 <;> by_cases h5 : k = 5 <;> try omega
  all_goals
    repeat (first
      | (refine CaseB.of_true (decide_eq_true (by omega)) ?_; conv => whnf)
      | (refine CaseB.of_false (decide_eq_false (by omega)) ?_; conv => whnf))
    exact RetK.empty (WV.lf (WL.int (by unfold boundF; simp [*])))
end Go.Sym.Md

set_option linter.unusedVariables false
set_option linter.unusedSimpArgs false
set_option maxRecDepth 10000
namespace Go.Sym.Md
open Go Go.Sym

theorem take_all {p : UInt8 → Bool} {s : List UInt8} {i : Nat} (hi : i < s.length) : (s.take (i + 1)).all p = ((s.take i).all p && p (s.getD i 0)) := by
  rw [List.take_add_one, List.all_append, List.getElem?_eq_getElem hi, List.getD_eq_getElem?_getD, List.getElem?_eq_getElem hi]
  simp

theorem all_take_false {p : UInt8 → Bool} {s : List UInt8} {i : Nat} (hi : i < s.length) (h : p (s.getD i 0) = false) : s.all p = false := by
  rw [List.all_eq_false]
  refine ⟨s.getD i 0, ?_, by rw [h]; simp⟩
  rw [List.getD_eq_getElem?_getD, List.getElem?_eq_getElem hi]
  exact List.getElem_mem hi

/-- caveat.Name -/
theorem c28 (s : List UInt8) : SCalls Proofs.Try.prog 28 [.s (.lf (.str s))] [] (.s (.lf (.bool (nameF s)))) [] := by
  refine SCalls.intro tok Proofs.Try.func28 ?_
  conv => whnf
  refine CallK.mk' _ _ (c122 s.length 1 16) ?_
  conv => whnf
  by_cases hl : 1 ≤ s.length ∧ s.length ≤ 16
  · refine CaseB.of_false (by simp; omega) ?_
    conv => whnf
    refine LoopK.mk1 (fun i : Nat => [(0, .s (.lf (.str s))), (9, vI s.length), (10, vI i)]) (fun _ => []) (fun i => i ≤ s.length ∧ (s.take i).all letterF = true) (fun i => s.length - i) 0 ⟨by omega, by simp⟩ ?_ ?_
    · exact Weak.of ⟨⟩ (by simp) ⟨okF.wv trivial, okF.wv trivial, okF.wv trivial, trivial⟩
    intro i hi
    obtain ⟨hi, ha⟩ := hi
    conv => whnf
    by_cases hi' : i < s.length
    · refine CaseB.of_true (decide_eq_true (by omega)) ?_
      conv => whnf
      refine And.intro (by omega) ?_
      conv => whnf
      refine CallK.mk' _ _ (c126 (s.getD (Int.toNat (i : Int)) 0)) ?_
      conv => whnf
      by_cases hx : letterF (s.getD i 0) = true
      · refine CaseB.of_false (by rw [Int.toNat_natCast, hx]; rfl) ?_
        conv => whnf
        refine ⟨i + 1, ⟨by omega, by rw [take_all hi', ha, hx]; rfl⟩, by show s.length - (i + 1) < s.length - i; omega, ?_⟩
        exact Weak.of ⟨⟩ (by simp) ⟨okF.wv trivial, okF.wv trivial, WV.lf (WL.int (by rw [wrap_i64 (by omega) (by omega)]; omega)), trivial⟩
      · refine CaseB.of_true (by rw [Int.toNat_natCast]; simpa using hx) ?_
        conv => whnf
        exact RetK.empty (WV.lf (WL.ff (by unfold nameF; rw [all_take_false hi' (by simpa using hx), Bool.and_false])))
    · refine CaseB.of_false (decide_eq_false (by omega)) ?_
      conv => whnf
      rw [List.take_of_length_le (by omega)] at ha
      exact RetK.empty (WV.lf (WL.tt (by unfold nameF; rw [ha, decide_eq_true hl]; rfl)))
  · refine CaseB.of_true (by simp; omega) ?_
    conv => whnf
    exact RetK.empty (WV.lf (WL.ff (by unfold nameF; rw [decide_eq_false hl]; rfl)))

/-- baileyref06.Name -/
theorem c29 (s : List UInt8) : SCalls Proofs.Try.prog 29 [.s (.lf (.str s))] [] (.s (.lf (.bool (nameF s)))) [] := by
  refine SCalls.intro tok Proofs.Try.func29 ?_
  conv => whnf
  by_cases hl1 : (s.length : Int) < 1
  · refine CaseB.of_true (decide_eq_true hl1) ?_
    conv => whnf
    exact RetK.empty (WV.lf (WL.ff (by unfold nameF; rw [decide_eq_false (by omega)]; rfl)))
  refine CaseB.of_false (decide_eq_false hl1) ?_
  conv => whnf
  by_cases hl2 : 16 < (s.length : Int)
  · refine CaseB.of_true (decide_eq_true hl2) ?_
    conv => whnf
    exact RetK.empty (WV.lf (WL.ff (by unfold nameF; rw [decide_eq_false (by omega)]; rfl)))
  refine CaseB.of_false (decide_eq_false hl2) ?_
  conv => whnf
  refine LoopK.mk1 (fun i : Nat => [(0, .s (.lf (.str s))), (3, vI i)]) (fun _ => []) (fun i => i ≤ s.length ∧ (s.take i).all letterF = true) (fun i => s.length - i) 0 ⟨by omega, by simp⟩ ?_ ?_
  · exact Weak.of ⟨⟩ (by simp) ⟨okF.wv trivial, okF.wv trivial, trivial⟩
  intro i hi
  obtain ⟨hi, ha⟩ := hi
  conv => whnf
  by_cases hi' : i < s.length
  · refine CaseB.of_true (decide_eq_true (by omega)) ?_
    conv => whnf
    refine And.intro (by omega) ?_
    conv => whnf
    have key : ∀ x : UInt8, x = s.getD (Int.toNat (i : Int)) 0 → (letterF x = true ∨ letterF x = false) := fun x _ => by cases letterF x <;> simp
    obtain ⟨x, hx⟩ : ∃ x, x = s.getD (Int.toNat (i : Int)) 0 := ⟨_, rfl⟩
    rw [← hx]
    have hx' : x = s.getD i 0 := by rw [hx, Int.toNat_natCast]
    have yes : letterF x = true → ∃ y, (fun i => i ≤ s.length ∧ (s.take i).all letterF = true) y ∧ s.length - y < s.length - i ∧ y = i + 1 := fun h => ⟨i + 1, ⟨by omega, by rw [take_all hi', ha, ← hx', h]; rfl⟩, by omega, rfl⟩
    have no : letterF x = false → nameF s = false := fun h => by unfold nameF; rw [all_take_false hi' (by rw [← hx']; exact h), Bool.and_false]
    by_cases h1 : 97 ≤ x.toNat <;> by_cases h2 : x.toNat ≤ 122 <;> by_cases h3 : 48 ≤ x.toNat <;> by_cases h4 : x.toNat ≤ 57 <;> by_cases h5 : x.toNat = 45 <;> by_cases h6 : x.toNat = 95 <;> try omega
    all_goals
      repeat (first
        | (refine CaseB.of_true (decide_eq_true (by omega)) ?_; conv => whnf)
        | (refine CaseB.of_false (decide_eq_false (by omega)) ?_; conv => whnf)
        | (refine CaseB.of_true (by simp; omega) ?_; conv => whnf)
        | (refine CaseB.of_false (by simp; omega) ?_; conv => whnf))
      first
        | exact RetK.empty (WV.lf (WL.ff (no (decide_eq_false (by omega)))))
        | (obtain ⟨y, hy1, hy2, rfl⟩ := yes (decide_eq_true (by omega))
           exact ⟨i + 1, hy1, hy2, Weak.of ⟨⟩ (by simp) ⟨okF.wv trivial, WV.lf (WL.int (by rw [wrap_i64 (by omega) (by omega)]; omega)), trivial⟩⟩)
  · refine CaseB.of_false (decide_eq_false (by omega)) ?_
    conv => whnf
    rw [List.take_of_length_le (by omega)] at ha
    exact RetK.empty (WV.lf (WL.tt (by unfold nameF; rw [ha, decide_eq_true (by omega)]; rfl)))
end Go.Sym.Md

set_option linter.unusedVariables false
set_option linter.unusedSimpArgs false
set_option maxRecDepth 10000
namespace Go.Sym.Md
open Go Go.Sym
attribute [local irreducible] nameF hasF boundF

/-- caveat.Check -/
theorem c26 (k n : Int) (s : List UInt8) : SCalls Proofs.Try.prog 26 [vC k n s] [] (vI (checkF k n s)) [] := by
  refine SCalls.intro tok Proofs.Try.func26 ?_
  conv => whnf
  refine CallK.mk' _ _ ((c121 k).free _ ⟨trivial, trivial⟩ trivial) ?_
  conv => whnf
  by_cases h1 : hasF k = 1
  · refine CaseB.of_true (decide_eq_true h1) ?_
    conv => whnf
    refine CallK.mk' _ _ ((c28 s).free _ ⟨trivial, trivial⟩ trivial) ?_
    conv => whnf
    have e : okC k n s = (nameF s && decide (n = 0)) := by unfold okC; rw [if_pos h1]
    cases hn : nameF s with
    | true =>
      refine CaseB.of_true rfl ?_
      conv => whnf
      by_cases h0 : n = 0
      · refine CaseB.of_false (by simp [h0]) ?_
        conv => whnf
        exact RetK.empty (WV.lf (WL.int (by unfold checkF; rw [e, hn, decide_eq_true h0]; rfl)))
      · refine CaseB.of_true (by simp [h0]) ?_
        conv => whnf
        exact RetK.empty (WV.lf (WL.int (by unfold checkF; rw [e, hn, decide_eq_false h0]; rfl)))
    | false =>
      refine CaseB.of_false rfl ?_
      conv => whnf
      exact RetK.empty (WV.lf (WL.int (by unfold checkF; rw [e, hn]; rfl)))
  refine CaseB.of_false (decide_eq_false h1) ?_
  conv => whnf
  by_cases h2 : hasF k = 2
  · refine CaseB.of_true (decide_eq_true h2) ?_
    conv => whnf
    have e : okC k n s = (decide (s = []) && decide (0 ≤ n ∧ n ≤ boundF k)) := by unfold okC; rw [if_neg h1, if_pos h2]
    refine DrawK.mk1 tok mixed [0, 1, 3, 7, 15, 31, 15, 79, 207, 511, 1023, 2047] [(0, 1, [0]), (1, 1, [0]), (2, 0, []), (3, 0, []), (4, 1, [0]), (5, 1, [0]), (6, 1, [0]), (7, 1, [0]), (8, 1, [0]), (9, 1, [0]), (10, 0, []), (11, 0, [])] (by kernel_rfl) ?_
    conv => whnf
    by_cases hs : s = []
    · repeat (first
        | (refine CaseB.of_true (decide_eq_true hs) ?_; conv => whnf)
        | (refine CallR.mk' _ ((c123 k).free _ ⟨trivial, trivial⟩ trivial) ?_; conv => whnf)
        | (refine CallR.mk' _ ((c122 n 0 (boundF k)).free _ ⟨trivial, trivial, trivial, trivial⟩ trivial) ?_; conv => whnf))
      by_cases h0 : 0 ≤ n ∧ n ≤ boundF k
      · refine CaseB.of_false (by simp [h0]) ?_
        conv => whnf
        exact RetK.empty (WV.lf (WL.int (by unfold checkF; rw [e, decide_eq_true hs, decide_eq_true h0]; rfl)))
      · refine CaseB.of_true (by rw [decide_eq_false h0]; rfl) ?_
        conv => whnf
        exact RetK.empty (WV.lf (WL.int (by unfold checkF; rw [e, decide_eq_false h0, Bool.and_false]; rfl)))
    · repeat (first
        | (refine CaseB.of_false (decide_eq_false hs) ?_; conv => whnf))
      exact RetK.empty (WV.lf (WL.int (by unfold checkF; rw [e, decide_eq_false hs]; rfl)))
  refine CaseB.of_false (decide_eq_false h2) ?_
  conv => whnf
  exact RetK.empty (WV.lf (WL.int (by unfold checkF okC; rw [if_neg h1, if_neg h2]; rfl)))

theorem not_true {p : Prop} [Decidable p] (h : p) : (!decide p) = false := by rw [decide_eq_true h]; rfl
theorem not_false {p : Prop} [Decidable p] (h : ¬ p) : (!decide p) = true := by rw [decide_eq_false h]; rfl
theorem nnot {b c : Bool} (h : b = c) : (!b) = (!c) := by rw [h]

theorem hasF_named {k : Int} (h : k = 2 ∨ k = 3) : hasF k = 1 := by unfold hasF; rw [if_pos h]
theorem hasF_num {k : Int} (h : ¬ (k = 2 ∨ k = 3)) (h1 : ¬ k < 1) (h6 : ¬ 6 < k) : hasF k = 2 := by unfold hasF; rw [if_neg h, if_pos (by omega)]
theorem hasF_none {k : Int} (h : k < 1 ∨ 6 < k) : hasF k = 0 := by unfold hasF; rw [if_neg (by omega), if_neg (by omega)]

/-- baileyref06.Check -/
theorem c27 (k n : Int) (s : List UInt8) : SCalls Proofs.Try.prog 27 [vC k n s] [] (vI (checkF k n s)) [] := by
  refine SCalls.intro tok Proofs.Try.func27 ?_
  conv => whnf
  have bad : k < 1 ∨ 6 < k → (1 : Int) = checkF k n s := fun h => by unfold checkF okC; rw [hasF_none h]; rfl
  by_cases hk1 : k < 1
  · refine CaseB.of_true (decide_eq_true hk1) ?_
    conv => whnf
    exact RetK.empty (WV.lf (WL.int (bad (.inl hk1))))
  refine CaseB.of_false (decide_eq_false hk1) ?_
  conv => whnf
  by_cases hk6 : 6 < k
  · refine CaseB.of_true (decide_eq_true hk6) ?_
    conv => whnf
    exact RetK.empty (WV.lf (WL.int (bad (.inr hk6))))
  refine CaseB.of_false (decide_eq_false hk6) ?_
  conv => whnf
  refine DrawK.mk1 tok mixed [0, 1, 3, 7, 15, 31, 63, 127, 255, 511, 1023, 2047, 4095, 8191, 16383, 32767, 65535, 131071, 262143, 524287, 1048575, 2097151, 4194303, 8388607, 16777215, 33554431, 67108863, 134217727, 268435455, 536870911, 1073741823, 536870911, 2684354559, 6979321855, 17179869183, 34359738367, 68719476735, 137438953471] [(0, 1, [0]), (1, 1, [0]), (2, 1, [0]), (3, 0, []), (4, 1, [0]), (5, 1, [0]), (6, 0, []), (7, 0, []), (8, 1, [0]), (9, 1, [0]), (10, 1, [0]), (11, 0, []), (12, 0, []), (13, 0, []), (14, 0, []), (15, 1, [0]), (16, 1, [0]), (17, 1, [0]), (18, 0, []), (19, 0, []), (20, 1, [0]), (21, 1, [0]), (22, 0, []), (23, 0, []), (24, 1, [0]), (25, 1, [0]), (26, 0, []), (27, 0, []), (28, 0, []), (29, 1, [0]), (30, 1, [0]), (31, 1, [0]), (32, 1, [0]), (33, 1, [0]), (34, 0, []), (35, 0, []), (36, 0, []), (37, 0, [])] (by kernel_rfl) ?_
  conv => whnf
  by_cases hd : k = 2 ∨ k = 3
  · have e : okC k n s = (nameF s && decide (n = 0)) := by unfold okC; rw [if_pos (hasF_named hd)]
    by_cases h0 : n = 0
    · cases hn : nameF s with
      | true =>
        repeat (first
        | (refine CallR.mk' _ ((c124 k).free _ ⟨trivial, trivial⟩ trivial) ?_; conv => whnf)
        | (refine CallR.mk' _ ((c29 s).free _ ⟨trivial, trivial⟩ trivial) ?_; conv => whnf)
        | (refine CallR.mk' _ ((c125 k).free _ ⟨trivial, trivial⟩ trivial) ?_; conv => whnf)
        | (refine CaseB.of_true (decide_eq_true hd) ?_; conv => whnf)
        | (refine CaseB.of_false (decide_eq_false hd) ?_; conv => whnf)
        | (refine CaseB.of_false (not_true hd) ?_; conv => whnf)
        | (refine CaseB.of_true (not_false hd) ?_; conv => whnf)
        | (refine CaseB.of_true (hn) ?_; conv => whnf)
        | (refine CaseB.of_false (hn) ?_; conv => whnf)
        | (refine CaseB.of_true (nnot hn) ?_; conv => whnf)
        | (refine CaseB.of_false (nnot hn) ?_; conv => whnf)
        | (refine CaseB.of_true (decide_eq_true hs) ?_; conv => whnf)
        | (refine CaseB.of_false (decide_eq_false fun h => h hs) ?_; conv => whnf)
        | (refine CaseB.of_true (decide_eq_true (by omega)) ?_; conv => whnf)
        | (refine CaseB.of_false (decide_eq_false (by omega)) ?_; conv => whnf))
        exact RetK.empty (WV.lf (WL.int (by unfold checkF; rw [e, hn, decide_eq_true h0]; rfl)))
      | false =>
        repeat (first
        | (refine CallR.mk' _ ((c124 k).free _ ⟨trivial, trivial⟩ trivial) ?_; conv => whnf)
        | (refine CallR.mk' _ ((c29 s).free _ ⟨trivial, trivial⟩ trivial) ?_; conv => whnf)
        | (refine CallR.mk' _ ((c125 k).free _ ⟨trivial, trivial⟩ trivial) ?_; conv => whnf)
        | (refine CaseB.of_true (decide_eq_true hd) ?_; conv => whnf)
        | (refine CaseB.of_false (decide_eq_false hd) ?_; conv => whnf)
        | (refine CaseB.of_false (not_true hd) ?_; conv => whnf)
        | (refine CaseB.of_true (not_false hd) ?_; conv => whnf)
        | (refine CaseB.of_true (hn) ?_; conv => whnf)
        | (refine CaseB.of_false (hn) ?_; conv => whnf)
        | (refine CaseB.of_true (nnot hn) ?_; conv => whnf)
        | (refine CaseB.of_false (nnot hn) ?_; conv => whnf)
        | (refine CaseB.of_true (decide_eq_true hs) ?_; conv => whnf)
        | (refine CaseB.of_false (decide_eq_false fun h => h hs) ?_; conv => whnf)
        | (refine CaseB.of_true (decide_eq_true (by omega)) ?_; conv => whnf)
        | (refine CaseB.of_false (decide_eq_false (by omega)) ?_; conv => whnf))
        exact RetK.empty (WV.lf (WL.int (by unfold checkF; rw [e, hn, decide_eq_true h0]; rfl)))
    · have hn := hk1
      repeat (first
      | (refine CallR.mk' _ ((c124 k).free _ ⟨trivial, trivial⟩ trivial) ?_; conv => whnf)
      | (refine CallR.mk' _ ((c29 s).free _ ⟨trivial, trivial⟩ trivial) ?_; conv => whnf)
      | (refine CallR.mk' _ ((c125 k).free _ ⟨trivial, trivial⟩ trivial) ?_; conv => whnf)
      | (refine CaseB.of_true (decide_eq_true hd) ?_; conv => whnf)
      | (refine CaseB.of_false (decide_eq_false hd) ?_; conv => whnf)
      | (refine CaseB.of_false (not_true hd) ?_; conv => whnf)
      | (refine CaseB.of_true (not_false hd) ?_; conv => whnf)
      | (refine CaseB.of_true (hn) ?_; conv => whnf)
      | (refine CaseB.of_false (hn) ?_; conv => whnf)
      | (refine CaseB.of_true (nnot hn) ?_; conv => whnf)
      | (refine CaseB.of_false (nnot hn) ?_; conv => whnf)
      | (refine CaseB.of_true (decide_eq_true hs) ?_; conv => whnf)
      | (refine CaseB.of_false (decide_eq_false fun h => h hs) ?_; conv => whnf)
      | (refine CaseB.of_true (decide_eq_true (by omega)) ?_; conv => whnf)
      | (refine CaseB.of_false (decide_eq_false (by omega)) ?_; conv => whnf))
      exact RetK.empty (WV.lf (WL.int (by unfold checkF; rw [e, decide_eq_false h0, Bool.and_false]; rfl)))
  · have e : okC k n s = (decide (s = []) && decide (0 ≤ n ∧ n ≤ boundF k)) := by unfold okC; rw [hasF_num hd hk1 hk6]; rfl
    have hn := hk1
    by_cases hs : s = []
    · by_cases h0 : n < 0
      · repeat (first
        | (refine CallR.mk' _ ((c124 k).free _ ⟨trivial, trivial⟩ trivial) ?_; conv => whnf)
        | (refine CallR.mk' _ ((c29 s).free _ ⟨trivial, trivial⟩ trivial) ?_; conv => whnf)
        | (refine CallR.mk' _ ((c125 k).free _ ⟨trivial, trivial⟩ trivial) ?_; conv => whnf)
        | (refine CaseB.of_true (decide_eq_true hd) ?_; conv => whnf)
        | (refine CaseB.of_false (decide_eq_false hd) ?_; conv => whnf)
        | (refine CaseB.of_false (not_true hd) ?_; conv => whnf)
        | (refine CaseB.of_true (not_false hd) ?_; conv => whnf)
        | (refine CaseB.of_true (hn) ?_; conv => whnf)
        | (refine CaseB.of_false (hn) ?_; conv => whnf)
        | (refine CaseB.of_true (nnot hn) ?_; conv => whnf)
        | (refine CaseB.of_false (nnot hn) ?_; conv => whnf)
        | (refine CaseB.of_true (decide_eq_true hs) ?_; conv => whnf)
        | (refine CaseB.of_false (decide_eq_false fun h => h hs) ?_; conv => whnf)
        | (refine CaseB.of_true (decide_eq_true (by omega)) ?_; conv => whnf)
        | (refine CaseB.of_false (decide_eq_false (by omega)) ?_; conv => whnf))
        exact RetK.empty (WV.lf (WL.int (by unfold checkF; rw [e, decide_eq_false (p := 0 ≤ n ∧ n ≤ boundF k) (by omega), Bool.and_false]; rfl)))
      · by_cases hb : boundF k < n
        · repeat (first
          | (refine CallR.mk' _ ((c124 k).free _ ⟨trivial, trivial⟩ trivial) ?_; conv => whnf)
          | (refine CallR.mk' _ ((c29 s).free _ ⟨trivial, trivial⟩ trivial) ?_; conv => whnf)
          | (refine CallR.mk' _ ((c125 k).free _ ⟨trivial, trivial⟩ trivial) ?_; conv => whnf)
          | (refine CaseB.of_true (decide_eq_true hd) ?_; conv => whnf)
          | (refine CaseB.of_false (decide_eq_false hd) ?_; conv => whnf)
          | (refine CaseB.of_false (not_true hd) ?_; conv => whnf)
          | (refine CaseB.of_true (not_false hd) ?_; conv => whnf)
          | (refine CaseB.of_true (hn) ?_; conv => whnf)
          | (refine CaseB.of_false (hn) ?_; conv => whnf)
          | (refine CaseB.of_true (nnot hn) ?_; conv => whnf)
          | (refine CaseB.of_false (nnot hn) ?_; conv => whnf)
          | (refine CaseB.of_true (decide_eq_true hs) ?_; conv => whnf)
          | (refine CaseB.of_false (decide_eq_false fun h => h hs) ?_; conv => whnf)
          | (refine CaseB.of_true (decide_eq_true (by omega)) ?_; conv => whnf)
          | (refine CaseB.of_false (decide_eq_false (by omega)) ?_; conv => whnf))
          exact RetK.empty (WV.lf (WL.int (by unfold checkF; rw [e, decide_eq_false (p := 0 ≤ n ∧ n ≤ boundF k) (by omega), Bool.and_false]; rfl)))
        · repeat (first
          | (refine CallR.mk' _ ((c124 k).free _ ⟨trivial, trivial⟩ trivial) ?_; conv => whnf)
          | (refine CallR.mk' _ ((c29 s).free _ ⟨trivial, trivial⟩ trivial) ?_; conv => whnf)
          | (refine CallR.mk' _ ((c125 k).free _ ⟨trivial, trivial⟩ trivial) ?_; conv => whnf)
          | (refine CaseB.of_true (decide_eq_true hd) ?_; conv => whnf)
          | (refine CaseB.of_false (decide_eq_false hd) ?_; conv => whnf)
          | (refine CaseB.of_false (not_true hd) ?_; conv => whnf)
          | (refine CaseB.of_true (not_false hd) ?_; conv => whnf)
          | (refine CaseB.of_true (hn) ?_; conv => whnf)
          | (refine CaseB.of_false (hn) ?_; conv => whnf)
          | (refine CaseB.of_true (nnot hn) ?_; conv => whnf)
          | (refine CaseB.of_false (nnot hn) ?_; conv => whnf)
          | (refine CaseB.of_true (decide_eq_true hs) ?_; conv => whnf)
          | (refine CaseB.of_false (decide_eq_false fun h => h hs) ?_; conv => whnf)
          | (refine CaseB.of_true (decide_eq_true (by omega)) ?_; conv => whnf)
          | (refine CaseB.of_false (decide_eq_false (by omega)) ?_; conv => whnf))
          exact RetK.empty (WV.lf (WL.int (by unfold checkF; rw [e, decide_eq_true hs, decide_eq_true (p := 0 ≤ n ∧ n ≤ boundF k) (by omega)]; rfl)))
    · repeat (first
      | (refine CallR.mk' _ ((c124 k).free _ ⟨trivial, trivial⟩ trivial) ?_; conv => whnf)
      | (refine CallR.mk' _ ((c29 s).free _ ⟨trivial, trivial⟩ trivial) ?_; conv => whnf)
      | (refine CallR.mk' _ ((c125 k).free _ ⟨trivial, trivial⟩ trivial) ?_; conv => whnf)
      | (refine CaseB.of_true (decide_eq_true hd) ?_; conv => whnf)
      | (refine CaseB.of_false (decide_eq_false hd) ?_; conv => whnf)
      | (refine CaseB.of_false (not_true hd) ?_; conv => whnf)
      | (refine CaseB.of_true (not_false hd) ?_; conv => whnf)
      | (refine CaseB.of_true (hn) ?_; conv => whnf)
      | (refine CaseB.of_false (hn) ?_; conv => whnf)
      | (refine CaseB.of_true (nnot hn) ?_; conv => whnf)
      | (refine CaseB.of_false (nnot hn) ?_; conv => whnf)
      | (refine CaseB.of_true (decide_eq_true hs) ?_; conv => whnf)
      | (refine CaseB.of_false (decide_eq_false fun h => h hs) ?_; conv => whnf)
      | (refine CaseB.of_true (decide_eq_true (by omega)) ?_; conv => whnf)
      | (refine CaseB.of_false (decide_eq_false (by omega)) ?_; conv => whnf))
      exact RetK.empty (WV.lf (WL.int (by unfold checkF; rw [e, decide_eq_false hs]; rfl)))
end Go.Sym.Md

set_option linter.unusedVariables false
set_option linter.unusedSimpArgs false
set_option maxRecDepth 10000
namespace Go.Sym.Md
open Go Go.Sym

/-! ### Numbers, packed -/
/-- How many groups a number has. -/
def sz (n : Nat) : Nat :=
  if n < 128 then 1 else if n < 16384 then 2 else if n < 2097152 then 3 else if n < 268435456 then 4 else if n < 34359738368 then 5 else
  if n < 4398046511104 then 6 else if n < 562949953421312 then 7 else if n < 72057594037927936 then 8 else 9
/-- Group i of a number, from the lowest on. -/
def gB (n i : Nat) : UInt8 := if i = 0 then UInt8.ofNat (n % 128) else UInt8.ofNat (n / 128 ^ i % 128 + 128)
def nF (n j : Nat) : List UInt8 := (List.range j).map fun t => gB n (sz n - 1 - t)
/-- A number's bytes. -/
def numF (n : Nat) : List UInt8 := nF n (sz n)

theorem nF_zero (n : Nat) : nF n 0 = [] := rfl
theorem nF_succ (n j : Nat) : nF n (j + 1) = nF n j ++ [gB n (sz n - 1 - j)] := by simp [nF, List.range_succ]
theorem nF_length (n j : Nat) : (nF n j).length = j := by simp [nF]
theorem sz_pos (n : Nat) : 1 ≤ sz n := by
  unfold sz
  repeat' split
  all_goals omega
theorem sz_le (n : Nat) : sz n ≤ 9 := by
  unfold sz
  repeat' split
  all_goals omega

theorem sz_of {n k : Nat} (hk : k ≤ 8) (h1 : k = 0 ∨ 128 ^ k ≤ n) (h2 : n < 128 ^ (k + 1)) : sz n = k + 1 := by
  have : k = 0 ∨ k = 1 ∨ k = 2 ∨ k = 3 ∨ k = 4 ∨ k = 5 ∨ k = 6 ∨ k = 7 ∨ k = 8 := by omega
  unfold sz
  rcases this with rfl | rfl | rfl | rfl | rfl | rfl | rfl | rfl | rfl <;> simp at h1 h2 <;> (repeat (first | rw [if_pos (by omega)] | rw [if_neg (by omega)]))

theorem fdiv_pow (n k : Nat) : Int.fdiv (n : Int) (2 ^ k) = ((n / 2 ^ k : Nat) : Int) := by
  rw [show ((2 : Int) ^ k) = ((2 ^ k : Nat) : Int) by simp, Int.fdiv_eq_ediv_of_nonneg _ (Int.natCast_nonneg _), Int.natCast_ediv]

/-- pack.Size -/
theorem c218 (n : Nat) (hn : n < 9223372036854775808) : SCalls Proofs.Try.prog 218 [vI n] [] (vI (sz n : Int)) [] := by
  refine SCalls.intro tok Proofs.Try.func218 ?_
  conv => whnf
  refine LoopK.mk1 (fun k : Nat => [(0, vI ((n / 128 ^ k : Nat) : Int)), (3, vI ((k + 1 : Nat) : Int))]) (fun _ => []) (fun k => k ≤ 8 ∧ (k = 0 ∨ 128 ^ k ≤ n)) (fun k => 8 - k) 0 ⟨by omega, .inl rfl⟩ ?_ ?_
  · exact Weak.of ⟨⟩ (by simp) ⟨WV.lf (WL.int (by simp)), okF.wv trivial, trivial⟩
  intro k hk
  obtain ⟨hk, hp⟩ := hk
  conv => whnf
  have hpos : 0 < 128 ^ k := Nat.pow_pos (by omega)
  by_cases h : 128 ≤ n / 128 ^ k
  · refine CaseB.of_true (decide_eq_true (by omega)) ?_
    conv => whnf
    have h1 : 128 ^ (k + 1) ≤ n := by
      have := (Nat.le_div_iff_mul_le hpos).1 h
      rw [Nat.pow_succ]; omega
    have h8 : k + 1 ≤ 8 := by
      by_cases e : k = 8
      · subst e; simp at h1; omega
      · omega
    repeat (refine And.intro (by omega) ?_; conv => whnf)
    refine ⟨k + 1, ⟨h8, .inr h1⟩, by show 8 - (k + 1) < 8 - k; omega, ?_⟩
    refine Weak.of ⟨⟩ (by simp) ⟨WV.lf (WL.int ?_), WV.lf (WL.int (by rw [wrap_i64 (by omega) (by omega)]; omega)), trivial⟩
    simp only [shrI, IntKind.bits]
    rw [show min (Int.toNat 7) 64 = 7 from rfl, fdiv_pow, Nat.div_div_eq_div_mul, Nat.pow_succ 128]
  · refine CaseB.of_false (decide_eq_false (by omega)) ?_
    conv => whnf
    have h2 : n < 128 ^ (k + 1) := by
      rw [Nat.pow_succ]
      have := (Nat.div_lt_iff_lt_mul hpos).1 (show n / 128 ^ k < 128 by omega)
      omega
    exact RetK.empty (WV.lf (WL.int (by rw [sz_of hk hp h2])))

/-- pack.room -/
theorem c143 (b : List UInt8) (m : Nat) (h : b.length + m ≤ 140737488355328) : SCalls Proofs.Try.prog 143 [.s (.lf (.rob false false b)), vI m] [] (.s (.lf (.own 0 0 1 0 b.length))) [some ⟨5, [.bytes b.length b]⟩] := by
  have e1 : IntKind.i64.wrap ((b.length : Int) + (m : Int)) = ((b.length + m : Nat) : Int) := by rw [wrap_i64 (by omega) (by omega)]; omega
  refine SCalls.intro tok Proofs.Try.func143 ?_
  conv => whnf
  rw [e1]
  refine And.intro ⟨by omega, by omega, by show ((b.length + m : Nat) : Int) * 1 ≤ _; omega⟩ ?_
  conv => whnf
  refine And.intro ⟨by omega, by rw [List.length_replicate]; omega⟩ ?_
  conv => whnf
  refine RetK.of ⟨rfl, ⟨.bytes (by omega) fun o _ => ?_, trivial⟩, trivial⟩ (by simp) (WV.lf (WL.own rfl rfl rfl (by omega)))
  rw [Int.toNat_natCast, List.take_of_length_le (Nat.le_refl _), spl, List.take_zero, List.nil_append, List.drop_of_length_le (by simp), List.append_nil]

theorem or128 (x : Nat) (h : x < 256) : x ||| 128 = x % 128 + 128 := by
  have : ∀ y : Fin 256, y.val ||| 128 = y.val % 128 + 128 := by decide
  exact this ⟨x, h⟩

theorem u8_or128 (x : Int) (h0 : 0 ≤ x) (h : x < 256) : UInt8.ofNat (bitsI .or .u8 x 128).toNat = UInt8.ofNat (x.toNat % 128 + 128) := by
  obtain ⟨n, rfl⟩ : ∃ n : Nat, x = n := ⟨x.toNat, by omega⟩
  have e : (BitVec.ofInt 8 (n : Int) ||| BitVec.ofInt 8 128).toNat = n % 128 + 128 := by
    rw [BitVec.toNat_or, BitVec.ofInt_natCast, BitVec.toNat_ofNat, show (BitVec.ofInt 8 128).toNat = 128 from rfl, Nat.mod_eq_of_lt (show n < 2 ^ 8 by omega), or128 n (by omega)]
  show UInt8.ofNat (IntKind.u8.wrap (((BitVec.ofInt 8 (n : Int) ||| BitVec.ofInt 8 128).toNat : Nat) : Int)).toNat = _
  rw [e, wrap_u8, Int.toNat_natCast]
  congr 1
  omega

theorem u8_and127 (x : Int) (h0 : 0 ≤ x) (h : x < 256) : UInt8.ofNat (bitsI .andNot .u8 x 128).toNat = UInt8.ofNat (x.toNat % 128) := by
  obtain ⟨n, rfl⟩ : ∃ n : Nat, x = n := ⟨x.toNat, by omega⟩
  have key : ∀ y : Fin 256, (BitVec.ofNat 8 y.val &&& ~~~ BitVec.ofInt 8 128).toNat = y.val % 128 := by decide
  have e : (BitVec.ofInt 8 (n : Int) &&& ~~~ BitVec.ofInt 8 128).toNat = n % 128 := by
    rw [BitVec.ofInt_natCast]; exact key ⟨n, by omega⟩
  show UInt8.ofNat (IntKind.u8.wrap (((BitVec.ofInt 8 (n : Int) &&& ~~~ BitVec.ofInt 8 128).toNat : Nat) : Int)).toNat = _
  rw [e, wrap_u8, Int.toNat_natCast]
  congr 1
  omega

theorem put_hi (n i : Nat) (hi : 1 ≤ i) (h9 : i ≤ 8) : UInt8.ofNat (bitsI .or .u8 (IntKind.u8.wrap (shrI .i64 (n : Int) ((7 * i : Nat) : Int))) 128).toNat = gB n i := by
  have e : IntKind.u8.wrap (shrI .i64 (n : Int) ((7 * i : Nat) : Int)) = ((n / 128 ^ i % 256 : Nat) : Int) := by
    rw [wrap_u8]
    simp only [shrI, IntKind.bits, Int.toNat_natCast]
    rw [Nat.min_eq_left (by omega), fdiv_pow, Nat.pow_mul, show (2 : Nat) ^ 7 = 128 from rfl]
    omega
  rw [e, u8_or128 _ (by omega) (by omega), gB, if_neg (by omega), Int.toNat_natCast]
  congr 2
  omega

theorem put_lo (n : Nat) : UInt8.ofNat (bitsI .andNot .u8 (IntKind.u8.wrap (n : Int)) 128).toNat = gB n 0 := by
  have e : IntKind.u8.wrap (n : Int) = ((n % 256 : Nat) : Int) := by rw [wrap_u8]; omega
  rw [e, u8_and127 _ (by omega) (by omega), gB, if_pos rfl, Int.toNat_natCast]
  congr 1
  omega

attribute [local irreducible] sz gB nF

/-- pack.put -/
theorem c193 (b : List UInt8) (z : Int) (n : Nat) (hz : max z 0 = (n : Int)) (hn : n < 9223372036854775808) (hb : b.length ≤ 140737488000000) : SCalls Proofs.Try.prog 193 [.s (.lf (.own 0 0 1 0 b.length)), vI z] [some ⟨5, [.bytes b.length b]⟩] (.s (.lf (.own 1 0 1 0 (b ++ numF n).length))) [none, some ⟨5, [.bytes (b ++ numF n).length (b ++ numF n)]⟩] := by
  have h1 := sz_pos n
  have h9 := sz_le n
  refine SCalls.intro tok Proofs.Try.func193 ?_
  conv => whnf
  rw [hz]
  refine CallK.mk' _ _ ((c218 n hn).free _ ⟨trivial, trivial⟩ trivial) ?_
  conv => whnf
  have es : IntKind.i64.wrap (7 * IntKind.i64.wrap ((sz n : Int) - 1)) = 7 * ((sz n - 1 : Nat) : Int) := by rw [wrap_i64 (n := (sz n : Int) - 1) (by omega) (by omega), wrap_i64 (by omega) (by omega)]; omega
  have hlen : ∀ j, (b ++ nF n j).length = b.length + j := fun j => by rw [List.length_append, nF_length]
  refine LoopK.mk2 (fun (j : Nat) (e : Bool) => match e with
      | true => [(0, .s (.lf (.own 0 0 1 0 b.length))), (1, vI n), (5, vI (7 * ((sz n - 1 - j : Nat) : Int)))]
      | false => [(0, .s (.lf (.own 1 0 1 0 (b ++ nF n j).length))), (1, vI n), (5, vI (7 * ((sz n - 1 - j : Nat) : Int)))])
    (fun j e => match e with
      | true => [some ⟨5, [.bytes b.length b]⟩]
      | false => [none, some ⟨5, [.bytes (b ++ nF n j).length (b ++ nF n j)]⟩]) (fun j e => j ≤ sz n - 1 ∧ (e = true → j = 0)) (fun j e => sz n - 1 - j) 0 true ⟨by omega, fun _ => rfl⟩ ?_ ?_
  · exact Weak.of ⟨rfl, ⟨.bytes rfl fun _ _ => rfl, trivial⟩, trivial⟩ (by simp) ⟨okF.wv rfl, okF.wv trivial, WV.lf (WL.int (by rw [es]; omega)), trivial⟩
  intro j e hj
  obtain ⟨hj, he⟩ := hj
  cases e with
  | true =>
    obtain rfl := he rfl
    conv => whnf
    by_cases h : 0 < 7 * ((sz n - 1 - 0 : Nat) : Int)
    · refine CaseB.of_true (decide_eq_true h) ?_
      conv => whnf
      repeat (refine And.intro (by omega) ?_; conv => whnf)
      refine Or.inr ?_
      conv => whnf
      have hs : 7 * ((sz n - 1 - 0 : Nat) : Int) = ((7 * (sz n - 1 - 0) : Nat) : Int) := by omega
      have el : b ++ List.map (fun a : Int => UInt8.ofNat a.toNat) [bitsI .or .u8 (IntKind.u8.wrap (shrI .i64 (n : Int) (7 * ((sz n - 1 - 0 : Nat) : Int)))) 128] = b ++ nF n (0 + 1) := by
        rw [List.map_cons, List.map_nil, hs, put_hi n (sz n - 1 - 0) (by omega) (by omega), nF_succ]
        rw [nF_zero]; rfl
      refine And.intro ⟨rfl, rfl, by rw [el, hlen]; omega⟩ ?_
      conv => whnf
      refine ⟨(0 + 1, false), ⟨by omega, fun h => by simp at h⟩, by show sz n - 1 - (0 + 1) < sz n - 1 - 0; omega, ?_⟩
      exact Weak.perm [0, 1] ⟨⟨rfl, .bytes (congrArg List.length el) fun o _ => congrArg (fun l => List.getD l o 0) el, trivial⟩, trivial⟩ ⟨WV.lf (WL.own rfl rfl rfl (congrArg List.length el)), freeF.wv trivial, WV.lf (WL.int (by rw [wrap_i64 (by omega) (by omega)]; omega)), trivial⟩ rfl (by simp) rfl (by simp)
    · refine CaseB.of_false (decide_eq_false h) ?_
      conv => whnf
      refine Or.inr ?_
      conv => whnf
      have el : b ++ List.map (fun a : Int => UInt8.ofNat a.toNat) [bitsI .andNot .u8 (IntKind.u8.wrap (n : Int)) 128] = b ++ numF n := by
        rw [List.map_cons, List.map_nil, put_lo n, show numF n = nF n (sz n) from rfl, show sz n = 0 + 1 by omega, nF_succ, show sz n - 1 - 0 = 0 by omega]
        rw [nF_zero]; rfl
      refine And.intro ⟨rfl, rfl, by rw [el, List.length_append, show numF n = nF n (sz n) from rfl, nF_length]; omega⟩ ?_
      conv => whnf
      exact RetK.perm [0, 1] ⟨⟨rfl, .bytes (congrArg List.length el) fun o _ => congrArg (fun l => List.getD l o 0) el, trivial⟩, trivial⟩ (WV.lf (WL.own rfl rfl rfl (congrArg List.length el))) rfl (by simp) rfl (by simp)
  | false =>
    conv => whnf
    by_cases h : 0 < 7 * ((sz n - 1 - j : Nat) : Int)
    · refine CaseB.of_true (decide_eq_true h) ?_
      conv => whnf
      repeat (refine And.intro (by omega) ?_; conv => whnf)
      refine Or.inr ?_
      conv => whnf
      have hs : 7 * ((sz n - 1 - j : Nat) : Int) = ((7 * (sz n - 1 - j) : Nat) : Int) := by omega
      have el : (b ++ nF n j) ++ List.map (fun a : Int => UInt8.ofNat a.toNat) [bitsI .or .u8 (IntKind.u8.wrap (shrI .i64 (n : Int) (7 * ((sz n - 1 - j : Nat) : Int)))) 128] = b ++ nF n (j + 1) := by
        rw [List.map_cons, List.map_nil, hs, put_hi n (sz n - 1 - j) (by omega) (by omega), nF_succ]
        rw [List.append_assoc]
      refine And.intro ⟨rfl, rfl, by rw [el, hlen]; omega⟩ ?_
      conv => whnf
      refine ⟨(j + 1, false), ⟨by omega, fun h => by simp at h⟩, by show sz n - 1 - (j + 1) < sz n - 1 - j; omega, ?_⟩
      exact Weak.perm [0, 2] ⟨⟨rfl, .bytes (congrArg List.length el) fun o _ => congrArg (fun l => List.getD l o 0) el, trivial⟩, trivial⟩ ⟨WV.lf (WL.own rfl rfl rfl (congrArg List.length el)), freeF.wv trivial, WV.lf (WL.int (by rw [wrap_i64 (by omega) (by omega)]; omega)), trivial⟩ rfl (by simp) rfl (by simp)
    · refine CaseB.of_false (decide_eq_false h) ?_
      conv => whnf
      refine Or.inr ?_
      conv => whnf
      have el : (b ++ nF n j) ++ List.map (fun a : Int => UInt8.ofNat a.toNat) [bitsI .andNot .u8 (IntKind.u8.wrap (n : Int)) 128] = b ++ numF n := by
        rw [List.map_cons, List.map_nil, put_lo n, show numF n = nF n (sz n) from rfl, show sz n = j + 1 by omega, nF_succ, show sz n - 1 - j = 0 by omega]
        rw [List.append_assoc]
      refine And.intro ⟨rfl, rfl, by rw [el, List.length_append, show numF n = nF n (sz n) from rfl, nF_length]; omega⟩ ?_
      conv => whnf
      exact RetK.perm [0, 2] ⟨⟨rfl, .bytes (congrArg List.length el) fun o _ => congrArg (fun l => List.getD l o 0) el, trivial⟩, trivial⟩ (WV.lf (WL.own rfl rfl rfl (congrArg List.length el))) rfl (by simp) rfl (by simp)
end Go.Sym.Md

set_option linter.unusedVariables false
set_option linter.unusedSimpArgs false
set_option maxRecDepth 10000
namespace Go.Sym.Md
open Go Go.Sym

theorem numF_length (n : Nat) : (numF n).length = sz n := nF_length n (sz n)

attribute [local irreducible] numF checkF hasF

/-- A row of the call's own, lent as bytes. -/
theorem WL.lent {H H' : Hp} {μ : Nat → Nat} {hid : Nat → Prop} {nm len : Nat} {xs : List UInt8} {ty : TypeId} (hob : hget H nm = some ⟨ty, [.bytes len xs]⟩) (hl : len = xs.length) (hg : gone H' μ hid nm) : WL (Down H H' μ hid) (.own nm 0 1 0 len) (.rob false false xs) := by
  intro w L L' x h hx
  exact rep_rob_weak (WL.freezeB (ob := ⟨ty, [.bytes len xs]⟩) (p := []) (q := []) hob rfl rfl (by omega) (by omega) (by rw [List.drop_zero, hl, List.take_length]) hg w L L' x h hx)

/-- pack.Num -/
theorem c137 (b : List UInt8) (z : Int) (n : Nat) (hz : max z 0 = (n : Int)) (hn : n < 9223372036854775808) (hb : b.length ≤ 140737480000000) : SCalls Proofs.Try.prog 137 [.s (.lf (.rob false false b)), vI z] [] (.s (.lf (.own 0 0 1 0 (b ++ numF n).length))) [some ⟨5, [.bytes (b ++ numF n).length (b ++ numF n)]⟩] := by
  refine SCalls.intro tok Proofs.Try.func137 ?_
  conv => whnf
  refine CallK.mk' _ _ (c143 b 9 (by omega)) ?_
  conv => whnf
  refine CallK.mk' _ _ (c193 b z n hz hn (by omega)) ?_
  conv => whnf
  exact RetK.perm [1] ⟨⟨rfl, .bytes rfl fun _ _ => rfl, trivial⟩, trivial⟩ (WV.lf (WL.own rfl rfl rfl rfl)) rfl (by simp) rfl (by simp)

/-- pack.Text -/
theorem c138 (b s : List UInt8) (hs : s.length ≤ 100000000) (hb : b.length ≤ 140737000000000) : SCalls Proofs.Try.prog 138 [.s (.lf (.rob false false b)), .s (.lf (.str s))] [] (.s (.lf (.own 0 0 1 0 (b ++ numF s.length ++ s).length))) [some ⟨5, [.bytes (b ++ numF s.length ++ s).length (b ++ numF s.length ++ s)]⟩] := by
  have e9 : IntKind.i64.wrap (9 + (s.length : Int)) = ((9 + s.length : Nat) : Int) := by rw [wrap_i64 (by omega) (by omega)]; omega
  have hl := numF_length s.length
  have h9 := sz_le s.length
  refine SCalls.intro tok Proofs.Try.func138 ?_
  conv => whnf
  rw [e9]
  refine CallK.mk' _ _ (c143 b (9 + s.length) (by omega)) ?_
  conv => whnf
  refine CallK.mk' _ _ (c193 b s.length s.length (by omega) (by omega) (by omega)) ?_
  conv => whnf
  refine And.intro ⟨rfl, rfl, by rw [List.length_append, List.length_append]; omega⟩ ?_
  conv => whnf
  exact RetK.perm [2] ⟨⟨rfl, .bytes rfl fun _ _ => rfl, trivial⟩, trivial⟩ (WV.lf (WL.own rfl rfl rfl rfl)) rfl (by simp) rfl (by simp)

/-- slices.Clone, of nil. -/
theorem c136n : SCalls Proofs.Try.prog 136 [.s (.lf .sl0)] [] (.s (.lf .sl0)) [] := by
  refine SCalls.intro tok Proofs.Try.func136 ?_
  conv => whnf
  exact RetK.empty (okF.wv trivial)

/-- slices.Clone, of bytes. -/
theorem c136 (xs : List UInt8) (hx : xs.length ≤ 140737488355328) : SCalls Proofs.Try.prog 136 [.s (.lf (.rob true false xs))] [] (.s (.lf (.own 0 0 1 0 xs.length))) [some ⟨5, [.bytes xs.length xs]⟩] := by
  refine SCalls.intro tok Proofs.Try.func136 ?_
  conv => whnf
  refine Or.inl ?_
  conv => whnf
  refine ⟨⟨rfl, rfl, hx⟩, ?_⟩
  conv => whnf
  exact RetK.perm [1] ⟨⟨rfl, .bytes rfl fun _ _ => rfl, trivial⟩, trivial⟩ (WV.lf (WL.own rfl rfl rfl rfl)) rfl (by simp) rfl (by simp)

/-- What a caveat's bytes are, behind bytes. -/
def putF (b : List UInt8) (k n : Int) (s : List UInt8) : List UInt8 := if hasF k = 1 then b ++ numF k.toNat ++ numF s.length ++ s else b ++ numF k.toNat ++ numF n.toNat

theorem okC_facts {k n : Int} {s : List UInt8} (h : okC k n s = true) : 1 ≤ k ∧ k ≤ 6 ∧ 0 ≤ n ∧ n ≤ 1099511627776 ∧ s.length ≤ 16 := by
  unfold okC at h
  split at h
  · rename_i h1
    have hk : k = 2 ∨ k = 3 := by
      by_cases e : k = 2 ∨ k = 3
      · exact e
      · unfold hasF at h1; rw [if_neg e] at h1; split at h1 <;> omega
    simp only [Bool.and_eq_true, decide_eq_true_eq, nameF] at h
    omega
  · rename_i h1
    split at h
    · rename_i h2
      have hk : 1 ≤ k ∧ k ≤ 6 := by
        unfold hasF at h2
        split at h2
        · omega
        · split at h2 <;> omega
      simp only [Bool.and_eq_true, decide_eq_true_eq] at h
      obtain ⟨h3, h4, h5⟩ := h
      have hb : boundF k ≤ 1099511627776 := by
        unfold boundF
        split
        · omega
        · split <;> omega
      rw [h3]
      simp only [List.length_nil]
      omega
    · simp at h

/-- caveat.Put, of what may be. -/
theorem c58 (b : List UInt8) (k n : Int) (s : List UInt8) (hok : okC k n s = true) (hb : b.length ≤ 1000000000000) : SCalls Proofs.Try.prog 58 [.s (.lf (.rob false false b)), vC k n s] [] (.s (.lf (.own 0 0 1 0 (putF b k n s).length))) [some ⟨5, [.bytes (putF b k n s).length (putF b k n s)]⟩] := by
  obtain ⟨hk1, hk6, hn0, hn1, hsl⟩ := okC_facts hok
  have hc : checkF k n s = 0 := by unfold checkF; rw [hok]; rfl
  have hl := numF_length k.toNat
  have h9 := sz_le k.toNat
  refine SCalls.intro tok Proofs.Try.func58 ?_
  conv => whnf
  refine CallK.mk' _ _ ((c26 k n s).free _ ⟨⟨trivial, trivial, trivial, trivial⟩, trivial⟩ trivial) ?_
  conv => whnf
  refine CaseB.of_false (by rw [hc]; rfl) ?_
  conv => whnf
  refine CallK.mk' (.s (.lf (.own 1 0 1 0 (b ++ numF k.toNat).length))) _ ((c137 b k k.toNat (by omega) (by omega) (by omega)).made [some ⟨23, [.one (.int .i64 k), .one (.int .i64 n), .one (.str s)]⟩] (Hn := [some ⟨5, [.bytes (b ++ numF k.toNat).length (b ++ numF k.toNat)]⟩]) ⟨freeF.wv trivial, freeF.wv trivial, trivial⟩ (WV.lf (WL.uown rfl rfl rfl)) ⟨rfl, ⟨.bytes rfl fun _ _ => rfl, trivial⟩, trivial⟩) ?_
  conv => whnf
  refine CallK.mk' _ _ ((c121 k).free _ ⟨trivial, trivial⟩ trivial) ?_
  conv => whnf
  have hbl : (b ++ numF k.toNat).length ≤ 140737000000000 := by rw [List.length_append]; omega
  by_cases h1 : hasF k = 1
  · refine CaseB.of_true (decide_eq_true h1) ?_
    conv => whnf
    refine CallK.mk' (.s (.lf (.own 2 0 1 0 (b ++ numF k.toNat ++ numF s.length ++ s).length))) _ ((c138 (b ++ numF k.toNat) s (by omega) hbl).madeL (fun _ => False) [some ⟨23, [.one (.int .i64 k), .one (.int .i64 n), .one (.str s)]⟩, some ⟨5, [.bytes (b ++ numF k.toNat).length (b ++ numF k.toNat)]⟩] (Hn := [some ⟨5, [.bytes (b ++ numF k.toNat ++ numF s.length ++ s).length (b ++ numF k.toNat ++ numF s.length ++ s)]⟩]) ⟨WV.lf (WL.lent rfl rfl ⟨fun h => h, fun i ob h => by simp at h⟩), freeF.wv trivial, trivial⟩ (WV.lf (WL.uown rfl rfl rfl)) ⟨rfl, ⟨.bytes rfl fun _ _ => rfl, trivial⟩, trivial⟩) ?_
    conv => whnf
    have e : putF b k n s = b ++ numF k.toNat ++ numF s.length ++ s := by unfold putF; rw [if_pos h1]
    rw [e]
    exact RetK.perm [2] ⟨⟨rfl, .bytes rfl fun _ _ => rfl, trivial⟩, trivial⟩ (WV.lf (WL.own rfl rfl rfl rfl)) rfl (by simp) rfl (by simp)
  · refine CaseB.of_false (decide_eq_false h1) ?_
    conv => whnf
    refine CallK.mk' (.s (.lf (.own 2 0 1 0 (b ++ numF k.toNat ++ numF n.toNat).length))) _ ((c137 (b ++ numF k.toNat) n n.toNat (by omega) (by omega) (by omega)).madeL (fun _ => False) [some ⟨23, [.one (.int .i64 k), .one (.int .i64 n), .one (.str s)]⟩, some ⟨5, [.bytes (b ++ numF k.toNat).length (b ++ numF k.toNat)]⟩] (Hn := [some ⟨5, [.bytes (b ++ numF k.toNat ++ numF n.toNat).length (b ++ numF k.toNat ++ numF n.toNat)]⟩]) ⟨WV.lf (WL.lent rfl rfl ⟨fun h => h, fun i ob h => by simp at h⟩), freeF.wv trivial, trivial⟩ (WV.lf (WL.uown rfl rfl rfl)) ⟨rfl, ⟨.bytes rfl fun _ _ => rfl, trivial⟩, trivial⟩) ?_
    conv => whnf
    have e : putF b k n s = b ++ numF k.toNat ++ numF n.toNat := by unfold putF; rw [if_neg h1]
    rw [e]
    exact RetK.perm [2] ⟨⟨rfl, .bytes rfl fun _ _ => rfl, trivial⟩, trivial⟩ (WV.lf (WL.own rfl rfl rfl rfl)) rfl (by simp) rfl (by simp)
end Go.Sym.Md

set_option linter.unusedVariables false
set_option linter.unusedSimpArgs false
set_option maxRecDepth 10000
namespace Go.Sym.Md
open Go Go.Sym Go.Lib

theorem cmp_zero : ∀ (a b : List UInt8), compareBytes a b = 0 ↔ a = b
  | [], [] => by simp [compareBytes]
  | [], _ :: _ => by simp [compareBytes]
  | _ :: _, [] => by simp [compareBytes]
  | x :: a, y :: b => by
    unfold compareBytes
    by_cases h1 : x < y
    · simp only [h1, if_true]
      have : x ≠ y := fun e => by rw [e] at h1; exact UInt8.lt_irrefl _ h1
      simp [this]
    · by_cases h2 : y < x
      · simp only [h1, h2, if_true, if_false]
        have : x ≠ y := fun e => by rw [e] at h2; exact UInt8.lt_irrefl _ h2
        simp [this]
      · simp only [h1, h2, if_false]
        have : x = y := UInt8.le_antisymm (UInt8.not_lt.1 h2) (UInt8.not_lt.1 h1)
        rw [cmp_zero a b, this]
        simp

theorem cmp_range : ∀ (a b : List UInt8), -1 ≤ compareBytes a b ∧ compareBytes a b ≤ 1
  | [], [] => by simp [compareBytes]
  | [], _ :: _ => by simp [compareBytes]
  | _ :: _, [] => by simp [compareBytes]
  | x :: a, y :: b => by
    unfold compareBytes
    have := cmp_range a b
    split
    · omega
    · split
      · omega
      · exact this

/-- internal/bytealg's comparison of two strings. -/
theorem sem212 (a b : List UInt8) (H : Hp) : CallSem Proofs.Try.prog 212 [.s (.lf (.str a)), .s (.lf (.str b))] H (vI (compareBytes a b)) H := by
  intro w L vals hw ha o act next Q hn
  obtain ⟨hs, hv⟩ := ha
  obtain ⟨x, hx, hxr⟩ := hv 0 _ rfl
  obtain ⟨y, hy, hyr⟩ := hv 1 _ rfl
  have hx' : x = .string ⟨a.toArray⟩ := hxr.1
  have hy' : y = .string ⟨b.toArray⟩ := hyr.1
  have hvals : vals = #[.string ⟨a.toArray⟩, .string ⟨b.toArray⟩] := by
    subst hx'; subst hy'
    have hs' : vals.size = 2 := hs
    apply Array.ext
    · simpa using hs'
    · intro i h1 h2
      have : i = 0 ∨ i = 1 := by omega
      rcases this with rfl | rfl
      · have := (Array.getElem?_eq_some_iff.1 hx).2; simpa using this
      · have := (Array.getElem?_eq_some_iff.1 hy).2; simpa using this
  have hrun : (callFunc 212 vals).run Proofs.Try.prog w = .ok (.value (.int .i64 (compareBytes a b))) w := by
    have h1 : (Proofs.Try.f212.name == "runtime.NumGoroutine") = false := by kernel_rfl
    have h2 : Proofs.Try.f212.body.isNone = true := by kernel_rfl
    have h3 : Extern.findNext Proofs.Try.f212 = none := by kernel_rfl
    have h4 : Extern.find Proofs.Try.f212 = some Extern.BytealgCompare.compare := by kernel_rfl
    have h5 := Lib.run_compareString (P := Proofs.Try.prog) ⟨a.toArray⟩ ⟨b.toArray⟩ w
    simp only [callFunc, Sem.run_bind, run_program, Result.andThen_ok, Proofs.Try.func212, h1, h2, h3, h4, hvals, run_mark, Bool.false_eq_true, if_false, if_true, Sem.run_pure, h5]
  rw [hrun]
  have hr := cmp_range a b
  exact hn _ w L hw ⟨rfl, by simp [IntKind.min, IntKind.signed, IntKind.bits]; omega, by simp [IntKind.max, IntKind.signed, IntKind.bits]; omega⟩ (Ev.refl w L)

/-- internal/bytealg.CompareString -/
theorem c183 (a b : List UInt8) : SCalls Proofs.Try.prog 183 [.s (.lf (.str a)), .s (.lf (.str b))] [] (vI (compareBytes a b)) [] := by
  refine SCalls.intro tok Proofs.Try.func183 ?_
  conv => whnf
  refine ⟨⟨_, _, sem212 a b _, ?_⟩⟩
  conv => whnf
  exact RetK.empty (okF.wv trivial)

/-- strings.Compare -/
theorem c128 (a b : List UInt8) : SCalls Proofs.Try.prog 128 [.s (.lf (.str a)), .s (.lf (.str b))] [] (vI (compareBytes a b)) [] := by
  refine SCalls.intro tok Proofs.Try.func128 ?_
  conv => whnf
  refine CallK.mk' _ _ (c183 a b) ?_
  conv => whnf
  exact RetK.empty (okF.wv trivial)
end Go.Sym.Md

set_option linter.unusedVariables false
set_option linter.unusedSimpArgs false
set_option maxRecDepth 10000
namespace Go.Sym.Md
open Go Go.Sym Go.Lib
attribute [local irreducible] checkF boundF hasF

/-- A deed. -/
structure DeedS where
  a : Int
  t : Int
  c : Int
  b : Int
  sp : List UInt8
  sn : List UInt8

abbrev vD (d : DeedS) : FV := .s (.agg [.one (.int .i64 d.a), .one (.int .i64 d.t), .one (.int .i64 d.c), .one (.int .i64 d.b), .one (.str d.sp), .one (.str d.sn)])

/-- Whether a caveat holds. -/
def holdsF (k n : Int) (s : List UInt8) (d : DeedS) : Bool :=
  if okC k n s = false then false else
  if k = 1 then decide (1 ≤ d.a ∧ d.a ≤ 255) && decide (bitsI .andNot .i64 d.a n = 0) else if k = 2 then decide (s = d.sp) else if k = 3 then decide (s = d.sn) else
  if k = 4 then decide (d.t ≤ n) else if k = 5 then decide (d.c = n) else decide (d.b ≤ n)

theorem check_ok {k n : Int} {s : List UInt8} (h : okC k n s = true) : checkF k n s = 0 := by unfold checkF; rw [h]; rfl
theorem check_bad {k n : Int} {s : List UInt8} (h : okC k n s = false) : checkF k n s = 1 := by unfold checkF; rw [h]; rfl

/-- caveat.Holds -/
theorem c35 (k n : Int) (s : List UInt8) (d : DeedS) : SCalls Proofs.Try.prog 35 [vC k n s, vD d] [] (.s (.lf (.bool (holdsF k n s d)))) [] := by
  refine SCalls.intro tok Proofs.Try.func35 ?_
  conv => whnf
  refine CallK.mk' _ _ ((c26 k n s).free _ ⟨⟨trivial, trivial, trivial, trivial⟩, trivial⟩ trivial) ?_
  conv => whnf
  cases hok : okC k n s with
  | false =>
    refine CaseB.of_true (by rw [check_bad hok]; rfl) ?_
    conv => whnf
    exact RetK.empty (WV.lf (WL.ff (by unfold holdsF; rw [if_pos hok])))
  | true =>
    refine CaseB.of_false (by rw [check_ok hok]; rfl) ?_
    conv => whnf
    by_cases h1 : k = 1
    · refine CaseB.of_true (decide_eq_true h1) ?_
      conv => whnf
      refine DrawK.mk1 tok mixed [0, 1, 0, 7, 15, 31, 63, 31, 159, 511, 1023, 2047, 4095] [(0, 1, [0]), (1, 1, [0]), (2, 1, [0]), (3, 1, [0]), (4, 0, []), (5, 1, [0]), (6, 1, [0]), (7, 1, [0]), (8, 1, [0]), (9, 0, []), (10, 0, []), (11, 0, []), (12, 0, [])] (by kernel_rfl) ?_
      conv => whnf
      have hb1 : boundF 1 = 255 := by unfold boundF; rfl
      have e : holdsF k n s d = (decide (1 ≤ d.a ∧ d.a ≤ 255) && decide (bitsI .andNot .i64 d.a n = 0)) := by unfold holdsF; rw [if_neg (by rw [hok]; simp), if_pos h1]
      refine CallR.mk' _ ((c123 1).free _ ⟨trivial, trivial⟩ trivial) ?_
      conv => whnf
      refine CallR.mk' _ ((c122 d.a 1 (boundF 1)).free _ ⟨trivial, trivial, trivial, trivial⟩ trivial) ?_
      conv => whnf
      rw [hb1]
      by_cases ha : 1 ≤ d.a ∧ d.a ≤ 255
      · repeat (first | (refine CaseB.of_true (decide_eq_true ha) ?_; conv => whnf))
        exact RetK.empty (WV.lf (WL.bool (by rw [e, decide_eq_true ha, Bool.true_and])))
      · repeat (first | (refine CaseB.of_false (decide_eq_false ha) ?_; conv => whnf))
        exact RetK.empty (WV.lf (WL.bool (by rw [e, decide_eq_false ha, Bool.false_and])))
    refine CaseB.of_false (decide_eq_false h1) ?_
    conv => whnf
    by_cases h2 : k = 2
    · refine CaseB.of_true (decide_eq_true h2) ?_
      conv => whnf
      refine CallK.mk' _ _ ((c128 s d.sp).free _ ⟨trivial, trivial, trivial⟩ trivial) ?_
      conv => whnf
      exact RetK.empty (WV.lf (WL.bool (by unfold holdsF; rw [if_neg (by rw [hok]; simp), if_neg h1, if_pos h2, decide_eq_decide, cmp_zero])))
    refine CaseB.of_false (decide_eq_false h2) ?_
    conv => whnf
    by_cases h3 : k = 3
    · refine CaseB.of_true (decide_eq_true h3) ?_
      conv => whnf
      refine CallK.mk' _ _ ((c128 s d.sn).free _ ⟨trivial, trivial, trivial⟩ trivial) ?_
      conv => whnf
      exact RetK.empty (WV.lf (WL.bool (by unfold holdsF; rw [if_neg (by rw [hok]; simp), if_neg h1, if_neg h2, if_pos h3, decide_eq_decide, cmp_zero])))
    refine CaseB.of_false (decide_eq_false h3) ?_
    conv => whnf
    by_cases h4 : k = 4
    · refine CaseB.of_true (decide_eq_true h4) ?_
      conv => whnf
      exact RetK.empty (WV.lf (WL.bool (by unfold holdsF; rw [if_neg (by rw [hok]; simp), if_neg h1, if_neg h2, if_neg h3, if_pos h4])))
    refine CaseB.of_false (decide_eq_false h4) ?_
    conv => whnf
    by_cases h5 : k = 5
    · refine CaseB.of_true (decide_eq_true h5) ?_
      conv => whnf
      exact RetK.empty (WV.lf (WL.bool (by unfold holdsF; rw [if_neg (by rw [hok]; simp), if_neg h1, if_neg h2, if_neg h3, if_neg h4, if_pos h5])))
    refine CaseB.of_false (decide_eq_false h5) ?_
    conv => whnf
    exact RetK.empty (WV.lf (WL.bool (by unfold holdsF; rw [if_neg (by rw [hok]; simp), if_neg h1, if_neg h2, if_neg h3, if_neg h4, if_neg h5])))

theorem bv_and_iff (x y : BitVec 64) : x &&& ~~~y = 0#64 ↔ x &&& y = x := by
  constructor
  · intro h
    apply BitVec.eq_of_getLsbD_eq
    intro i hi
    have := congrArg (fun v => BitVec.getLsbD v i) h
    simp [hi] at this
    simp
    exact this
  · intro h
    apply BitVec.eq_of_getLsbD_eq
    intro i hi
    have := congrArg (fun v => BitVec.getLsbD v i) h
    simp [hi] at this
    simp [hi]
    exact this

theorem i64_mask {a n : Int} (h0 : 0 ≤ a) (h1 : a ≤ 255) : (bitsI .andNot .i64 a n = 0) ↔ (bitsI .and .i64 a n = a) := by
  obtain ⟨m, rfl⟩ : ∃ m : Nat, a = m := ⟨a.toNat, by omega⟩
  have hX : (BitVec.ofInt 64 (m : Int)).toNat = m := by rw [BitVec.ofInt_natCast, BitVec.toNat_ofNat]; omega
  have l1 : (BitVec.ofInt 64 (m : Int) &&& ~~~ BitVec.ofInt 64 n).toNat ≤ m := by
    rw [BitVec.toNat_and, hX]; exact Nat.and_le_left
  have l2 : (BitVec.ofInt 64 (m : Int) &&& BitVec.ofInt 64 n).toNat ≤ m := by
    rw [BitVec.toNat_and, hX]; exact Nat.and_le_left
  have e1 : bitsI .andNot .i64 (m : Int) n = (((BitVec.ofInt 64 (m : Int) &&& ~~~ BitVec.ofInt 64 n).toNat : Nat) : Int) := by
    show IntKind.i64.wrap (((BitVec.ofInt 64 (m : Int) &&& ~~~ BitVec.ofInt 64 n).toNat : Nat) : Int) = _
    rw [wrap_i64 (by omega) (by omega)]
  have e2 : bitsI .and .i64 (m : Int) n = (((BitVec.ofInt 64 (m : Int) &&& BitVec.ofInt 64 n).toNat : Nat) : Int) := by
    show IntKind.i64.wrap (((BitVec.ofInt 64 (m : Int) &&& BitVec.ofInt 64 n).toNat : Nat) : Int) = _
    rw [wrap_i64 (by omega) (by omega)]
  rw [e1, e2]
  have h := bv_and_iff (BitVec.ofInt 64 (m : Int)) (BitVec.ofInt 64 n)
  constructor
  · intro k
    have : BitVec.ofInt 64 (m : Int) &&& ~~~ BitVec.ofInt 64 n = 0#64 := by
      apply BitVec.eq_of_toNat_eq
      simp only [BitVec.toNat_ofNat, Nat.zero_mod]
      omega
    rw [h.1 this, hX]
  · intro k
    have : BitVec.ofInt 64 (m : Int) &&& BitVec.ofInt 64 n = BitVec.ofInt 64 (m : Int) := by
      apply BitVec.eq_of_toNat_eq
      rw [hX]
      omega
    rw [h.2 this]
    rfl

/-- baileyref06.Holds -/
theorem c36 (k n : Int) (s : List UInt8) (d : DeedS) : SCalls Proofs.Try.prog 36 [vC k n s, vD d] [] (.s (.lf (.bool (holdsF k n s d)))) [] := by
  refine SCalls.intro tok Proofs.Try.func36 ?_
  conv => whnf
  refine CallK.mk' _ _ ((c27 k n s).free _ ⟨⟨trivial, trivial, trivial, trivial⟩, trivial⟩ trivial) ?_
  conv => whnf
  cases hok : okC k n s with
  | false =>
    refine CaseB.of_true (by rw [check_bad hok]; rfl) ?_
    conv => whnf
    exact RetK.empty (WV.lf (WL.ff (by unfold holdsF; rw [if_pos hok])))
  | true =>
    refine CaseB.of_false (by rw [check_ok hok]; rfl) ?_
    conv => whnf
    by_cases h1 : k = 1
    · refine CaseB.of_true (decide_eq_true h1) ?_
      conv => whnf
      have e : holdsF k n s d = (decide (1 ≤ d.a ∧ d.a ≤ 255) && decide (bitsI .andNot .i64 d.a n = 0)) := by unfold holdsF; rw [if_neg (by rw [hok]; simp), if_pos h1]
      by_cases ha : 0 < d.a
      · refine CaseB.of_true (decide_eq_true ha) ?_
        conv => whnf
        by_cases hb : d.a ≤ 255
        · refine CaseB.of_true (decide_eq_true hb) ?_
          conv => whnf
          exact RetK.empty (WV.lf (WL.bool (by rw [e, decide_eq_true (p := 1 ≤ d.a ∧ d.a ≤ 255) (by omega), Bool.true_and, decide_eq_decide, i64_mask (by omega) hb])))
        · refine CaseB.of_false (decide_eq_false hb) ?_
          conv => whnf
          exact RetK.empty (WV.lf (WL.ff (by rw [e, decide_eq_false (p := 1 ≤ d.a ∧ d.a ≤ 255) (by omega), Bool.false_and])))
      · refine CaseB.of_false (decide_eq_false ha) ?_
        conv => whnf
        exact RetK.empty (WV.lf (WL.ff (by rw [e, decide_eq_false (p := 1 ≤ d.a ∧ d.a ≤ 255) (by omega), Bool.false_and])))
    refine CaseB.of_false (decide_eq_false h1) ?_
    conv => whnf
    by_cases h2 : k = 2
    · refine CaseB.of_true (decide_eq_true h2) ?_
      conv => whnf
      exact RetK.empty (WV.lf (WL.bool (by unfold holdsF; rw [if_neg (by rw [hok]; simp), if_neg h1, if_pos h2, decide_eq_decide]; exact ⟨fun h => h.symm, fun h => h.symm⟩)))
    refine CaseB.of_false (decide_eq_false h2) ?_
    conv => whnf
    by_cases h3 : k = 3
    · refine CaseB.of_true (decide_eq_true h3) ?_
      conv => whnf
      exact RetK.empty (WV.lf (WL.bool (by unfold holdsF; rw [if_neg (by rw [hok]; simp), if_neg h1, if_neg h2, if_pos h3, decide_eq_decide]; exact ⟨fun h => h.symm, fun h => h.symm⟩)))
    refine CaseB.of_false (decide_eq_false h3) ?_
    conv => whnf
    by_cases h4 : k = 4
    · refine CaseB.of_true (decide_eq_true h4) ?_
      conv => whnf
      exact RetK.empty (WV.lf (WL.bool (by unfold holdsF; rw [if_neg (by rw [hok]; simp), if_neg h1, if_neg h2, if_neg h3, if_pos h4])))
    refine CaseB.of_false (decide_eq_false h4) ?_
    conv => whnf
    by_cases h5 : k = 5
    · refine CaseB.of_true (decide_eq_true h5) ?_
      conv => whnf
      exact RetK.empty (WV.lf (WL.bool (by unfold holdsF; rw [if_neg (by rw [hok]; simp), if_neg h1, if_neg h2, if_neg h3, if_neg h4, if_pos h5])))
    refine CaseB.of_false (decide_eq_false h5) ?_
    conv => whnf
    exact RetK.empty (WV.lf (WL.bool (by unfold holdsF; rw [if_neg (by rw [hok]; simp), if_neg h1, if_neg h2, if_neg h3, if_neg h4, if_neg h5])))
end Go.Sym.Md

set_option linter.unusedVariables false
set_option linter.unusedSimpArgs false
set_option maxRecDepth 10000
namespace Go.Sym.Md
open Go Go.Sym Go.Lib

/-- slices.Equal, of bytes. -/
theorem c57 (xs ys : List UInt8) (hx : xs.length ≤ maxLen) : SCalls Proofs.Try.prog 57 [.s (.lf (.rob false false xs)), .s (.lf (.rob false false ys))] [] (.s (.lf (.bool (decide (xs = ys))))) [] := by
  have hm : maxLen = 9223372036854775807 := rfl
  refine SCalls.intro tok Proofs.Try.func57 ?_
  conv => whnf
  by_cases hl : xs.length = ys.length
  · refine CaseB.of_false (by simp [hl]) ?_
    conv => whnf
    refine LoopK.mk1 (fun i : Nat => [(0, .s (.lf (.rob false false xs))), (1, .s (.lf (.rob false false ys))), (12, vI xs.length), (13, vI i)]) (fun i => []) (fun i => i ≤ xs.length ∧ xs.take i = ys.take i) (fun i => xs.length - i) 0 ⟨by omega, rfl⟩ ?_ ?_
    · exact Weak.of ⟨⟩ (by simp) ⟨okF.wv trivial, okF.wv trivial, okF.wv trivial, okF.wv trivial, trivial⟩
    intro i hi
    obtain ⟨hi, ht⟩ := hi
    conv => whnf
    by_cases hi' : i < xs.length
    · refine CaseB.of_true (decide_eq_true (by omega)) ?_
      conv => whnf
      refine DrawK.mk1 tok mixed [0, 0, 3, 7, 0, 0, 48, 112, 255] [(0, 0, []), (1, 0, []), (4, 0, []), (5, 0, []), (2, 1, [0]), (3, 1, [0]), (6, 1, [0]), (7, 1, [0]), (8, 0, [])] (by kernel_rfl) ?_
      conv => whnf
      refine ⟨by omega, ?_⟩
      conv => whnf
      refine ⟨by omega, ?_⟩
      conv => whnf
      have hx0 : xs[i]? = some (xs.getD i 0) := by rw [List.getD_eq_getElem?_getD, List.getElem?_eq_getElem hi']; rfl
      have hy0 : ys[i]? = some (ys.getD i 0) := by rw [List.getD_eq_getElem?_getD, List.getElem?_eq_getElem (by omega)]; rfl
      by_cases he : xs.getD i 0 = ys.getD i 0
      · refine CaseB.of_false (by simp only [Int.toNat_natCast, he]; simp) ?_
        conv => whnf
        refine ⟨i + 1, ⟨by omega, ?_⟩, by omega, Weak.of ⟨⟩ (by simp) ⟨okF.wv trivial, okF.wv trivial, okF.wv trivial, WV.lf (WL.int (by rw [wrap_i64 (by omega) (by omega)]; omega)), trivial⟩⟩
        rw [List.take_add_one, List.take_add_one, ht, hx0, hy0, he]
      · refine CaseB.of_true ?_ ?_
        · simp only [Int.toNat_natCast]
          refine decide_eq_true fun e => ?_
          exact he (UInt8.toNat_inj.1 (by omega))
        conv => whnf
        refine RetK.empty (WV.lf (WL.ff (decide_eq_false fun e => he (by rw [e]))))
    · refine CaseB.of_false (decide_eq_false (by omega)) ?_
      conv => whnf
      refine RetK.empty (WV.lf (WL.tt (decide_eq_true ?_)))
      rw [List.take_of_length_le (by omega), List.take_of_length_le (by omega)] at ht
      exact ht
  · refine CaseB.of_true (by simp; omega) ?_
    conv => whnf
    exact RetK.empty (WV.lf (WL.ff (decide_eq_false fun e => hl (by rw [e]))))


def dT (t : Int) : DeedS := ⟨0, t, 0, 0, [], []⟩
theorem ok_awake : okC 4 5 [] = true := by kernel_rfl
theorem holds5 : holdsF 4 5 [] (dT 5) = true := by kernel_rfl
theorem holds6 : holdsF 4 5 [] (dT 6) = false := by kernel_rfl
theorem put45 : putF [] 4 5 [] = [4, 5] := by kernel_rfl
theorem name_a : nameF [97] = true := by kernel_rfl
theorem name_A : nameF [65] = false := by kernel_rfl

attribute [local irreducible] okC holdsF putF nameF

/-- baileylaw06.awake -/
theorem c25 : SCalls Proofs.Try.prog 25 [] [] (.s (.lf .tt)) [] := by
  refine SCalls.intro tok Proofs.Try.func25 ?_
  conv => whnf
  have h5 := c35 4 5 [] (dT 5)
  rw [holds5] at h5
  have h6 := c35 4 5 [] (dT 6)
  rw [holds6] at h6
  have h58 := c58 [] 4 5 [] ok_awake (by simp)
  rw [put45] at h58
  have ha := c28 [97]
  rw [name_a] at ha
  have hA := c28 [65]
  rw [name_A] at hA
  refine CallK.mk' _ _ (h5.free _ ⟨⟨trivial, trivial, trivial, trivial⟩, ⟨trivial, trivial, trivial, trivial, trivial, trivial, trivial⟩, trivial⟩ trivial) ?_
  conv => whnf
  refine CaseB.of_true rfl ?_
  conv => whnf
  refine CallK.mk' _ _ (h6.free _ ⟨⟨trivial, trivial, trivial, trivial⟩, ⟨trivial, trivial, trivial, trivial, trivial, trivial, trivial⟩, trivial⟩ trivial) ?_
  conv => whnf
  refine CaseB.of_true rfl ?_
  conv => whnf
  refine CallK.mk' (.s (.lf (.own 1 0 1 0 2))) _ (h58.made [some ⟨23, [.one (.int .i64 4), .one (.int .i64 5), .one (.str [])]⟩] (cs := [.s (.lf .sl0), vC 4 5 []]) (Hn := [some ⟨5, [.bytes 2 [4, 5]]⟩]) ⟨WV.lf WL.sl0rob', freeF.wv ⟨trivial, trivial, trivial, trivial⟩, trivial⟩ (WV.lf (WL.uown rfl rfl rfl)) ⟨rfl, ⟨.bytes rfl fun _ _ => rfl, trivial⟩, trivial⟩) ?_
  conv => whnf
  refine Or.inr ?_
  conv => whnf
  refine CallK.mk' _ _ ((c57 [4, 5] [4, 5] (by simp [maxLen])).lend (cs := [.s (.lf (.own 1 0 1 0 2)), .s (.lf (.rob true true [4, 5]))]) (fun _ => False) [some ⟨23, [.one (.int .i64 4), .one (.int .i64 5), .one (.str [])]⟩, some ⟨5, [.bytes 2 [4, 5]]⟩] ⟨WV.lf (WL.lent rfl rfl ⟨fun h => h, fun i ob h => by simp at h⟩), WV.lf (WL.rob rfl (by simp) (by simp)), trivial⟩ (plainF.wv trivial)) ?_
  conv => whnf
  refine CaseB.of_true rfl ?_
  conv => whnf
  refine CallK.mk' _ _ (ha.free _ ⟨trivial, trivial⟩ trivial) ?_
  conv => whnf
  refine CaseB.of_true rfl ?_
  conv => whnf
  refine CallK.mk' _ _ (hA.free _ ⟨trivial, trivial⟩ trivial) ?_
  conv => whnf
  exact RetK.empty (WV.lf (WL.btt rfl))

/-- Caveats in a row. -/
structure Row (len : Nat) (f : Nat → Nat → LV) (k n : Nat → Int) (s : Nat → List UInt8) : Prop where
  c0 : ∀ i, i < len → f i 0 = .int .i64 (k i)
  c1 : ∀ i, i < len → f i 1 = .int .i64 (n i)
  c2 : ∀ i, i < len → f i 2 = .str (s i)
  sl : ∀ i, i < len → (s i).length ≤ maxLen
  kr : ∀ i, i < len → -9223372036854775808 ≤ k i ∧ k i ≤ 9223372036854775807
  nr : ∀ i, i < len → -9223372036854775808 ≤ n i ∧ n i ≤ 9223372036854775807

theorem Row.ok {len : Nat} {f : Nat → Nat → LV} {k n : Nat → Int} {s : Nat → List UInt8} (h : Row len f k n s) {H : Hp} : okF H (.s (.lf (.ro false false 3 len f))) := by
  intro i hi j hj
  have : j = 0 ∨ j = 1 ∨ j = 2 := by omega
  rcases this with rfl | rfl | rfl
  · rw [h.c0 i hi]; trivial
  · rw [h.c1 i hi]; trivial
  · rw [h.c2 i hi]; trivial

/-- baileylaw06.few -/
theorem c30 (len : Nat) (hlen : len ≤ maxLen) (f : Nat → Nat → LV) (k n : Nat → Int) (s : Nat → List UInt8) (hr : Row len f k n s) [Decidable (len ≤ 30 ∧ ∀ i, i < len → (s i).length ≤ 200)] :
    SCalls Proofs.Try.prog 30 [.s (.lf (.ro false false 3 len f))] [] (.s (.lf (.bool (decide (len ≤ 30 ∧ ∀ i, i < len → (s i).length ≤ 200))))) [] := by
  have hm : maxLen = 9223372036854775807 := rfl
  refine SCalls.intro tok Proofs.Try.func30 ?_
  conv => whnf
  refine LoopK.mk1 (fun i : Nat => [(5, .s (.lf (.ro false false 3 len f))), (6, vI len), (7, vI i)]) (fun _ => []) (fun i => i ≤ len ∧ i ≤ 30 ∧ ∀ j, j < i → (s j).length ≤ 200) (fun i => len - i) 0 ⟨by omega, by omega, by omega⟩ ?_ ?_
  · exact Weak.of ⟨⟩ (by simp) ⟨okF.wv hr.ok, okF.wv trivial, okF.wv trivial, trivial⟩
  intro i hi
  obtain ⟨hi, hi30, hs⟩ := hi
  conv => whnf
  by_cases hl : i < len
  · refine CaseB.of_true (decide_eq_true (by omega)) ?_
    conv => whnf
    refine And.intro (by omega) ?_
    conv => whnf
    rw [show f (Int.toNat (i : Int)) 0 = _ from hr.c0 i hl]
    conv => whnf
    rw [show f (Int.toNat (i : Int)) 1 = _ from hr.c1 i hl]
    conv => whnf
    rw [show f (Int.toNat (i : Int)) 2 = _ from hr.c2 i hl]
    conv => whnf
    by_cases h30 : 30 ≤ (i : Int)
    · refine CaseB.of_true (decide_eq_true h30) ?_
      conv => whnf
      exact RetK.empty (WV.lf (WL.ff (decide_eq_false fun h => by omega)))
    refine CaseB.of_false (decide_eq_false h30) ?_
    conv => whnf
    by_cases h200 : 200 < ((s i).length : Int)
    · refine CaseB.of_true (decide_eq_true h200) ?_
      conv => whnf
      exact RetK.empty (WV.lf (WL.ff (decide_eq_false fun h => by have := h.2 i hl; omega)))
    refine CaseB.of_false (decide_eq_false h200) ?_
    conv => whnf
    refine ⟨i + 1, ⟨by omega, by omega, fun j hj => ?_⟩, by show len - (i + 1) < len - i; omega, ?_⟩
    · by_cases e : j = i
      · subst e; omega
      · exact hs j (by omega)
    · exact Weak.of HpW.nil (by simp) ⟨okF.wv hr.ok, okF.wv trivial, WV.lf (WL.int (by rw [wrap_i64 (by omega) (by omega)]; omega)), trivial⟩
  · refine CaseB.of_false (decide_eq_false (by omega)) ?_
    conv => whnf
    exact RetK.empty (WV.lf (WL.tt (decide_eq_true ⟨by omega, fun j hj => hs j (by omega)⟩)))

/-- baileylaw06.CaveatChecks -/
theorem c3 (k n : Int) (s x : List UInt8) : SCalls Proofs.Try.prog 3 [vC k n s, .s (.lf (.str x))] [] (.s (.lf .tt)) [] := by
  refine SCalls.intro tok Proofs.Try.func3 ?_
  conv => whnf
  by_cases h1 : 200 < (x.length : Int)
  · refine CaseB.of_true (decide_eq_true h1) ?_
    conv => whnf
    refine CallK.mk' _ _ (c25.free _ trivial trivial) ?_
    conv => whnf
    exact RetK.empty (okF.wv trivial)
  refine CaseB.of_false (decide_eq_false h1) ?_
  conv => whnf
  by_cases h2 : 200 < (s.length : Int)
  · refine CaseB.of_true (decide_eq_true h2) ?_
    conv => whnf
    refine CallK.mk' _ _ (c25.free _ trivial trivial) ?_
    conv => whnf
    exact RetK.empty (okF.wv trivial)
  refine CaseB.of_false (decide_eq_false h2) ?_
  conv => whnf
  refine DrawK.mk1 tok mixed [0, 1, 0, 7, 15, 31, 63, 127, 63, 511, 1023, 2047, 4095, 8191, 16383, 32767] [(0, 1, [0]), (1, 1, [0]), (2, 1, [0]), (3, 1, [0]), (4, 0, []), (5, 0, []), (6, 0, []), (8, 0, []), (7, 1, [0]), (9, 1, [0]), (10, 0, []), (11, 0, []), (12, 0, []), (13, 1, [0]), (14, 0, []), (15, 0, [])] (by kernel_rfl) ?_
  conv => whnf
  refine CallR.mk' _ ((c26 k n s).free _ ⟨⟨trivial, trivial, trivial, trivial⟩, trivial⟩ trivial) ?_
  conv => whnf
  refine CallR.mk' _ ((c27 k n s).free _ ⟨⟨trivial, trivial, trivial, trivial⟩, trivial⟩ trivial) ?_
  conv => whnf
  repeat (first
    | (refine CaseB.of_true (decide_eq_true rfl) ?_; conv => whnf)
    | (refine CaseB.of_true (beq_self_eq_true _) ?_; conv => whnf)
    | (refine CallR.mk' _ ((c28 x).free _ ⟨trivial, trivial⟩ trivial) ?_; conv => whnf)
    | (refine CallR.mk' _ ((c29 x).free _ ⟨trivial, trivial⟩ trivial) ?_; conv => whnf)
    | (refine CallR.mk' _ (c25.free _ trivial trivial) ?_; conv => whnf))
  exact RetK.empty (okF.wv trivial)
end Go.Sym.Md

set_option linter.unusedVariables false
set_option linter.unusedSimpArgs false
namespace Go.Sym.Md
open Go Go.Sym

/-! ### Caveats and deeds, as a law is given them -/
theorem rd_caveat {w : World} {v : Value} {g : Nat → LV} (r : RdL Γ 6 23 g 0) (k : ∀ l, tot l = (tget Γ 23).size → (∀ o, o < tot l → cellD l o = g o) → repF w L0 (.s (.agg l)) v) : ∃ (a n : Int) (s : List UInt8), s.length ≤ maxLen ∧ repF w L0 (vC a n s) v := by
  obtain ⟨⟨a, _, _, e0⟩, ⟨n, _, _, e1⟩, ⟨s, hs, e2⟩, _⟩ := r
  refine ⟨a, n, s, hs, k _ (by kernel_rfl) fun o ho => ?_⟩
  have ho : o < 3 := ho
  have : o = 0 ∨ o = 1 ∨ o = 2 := by omega
  rcases this with rfl | rfl | rfl
  · exact e0.symm
  · exact e1.symm
  · exact e2.symm

theorem rd_deed {w : World} {v : Value} {g : Nat → LV} (r : RdL Γ 6 33 g 0) (k : ∀ l, tot l = (tget Γ 33).size → (∀ o, o < tot l → cellD l o = g o) → repF w L0 (.s (.agg l)) v) : ∃ d : DeedS, repF w L0 (vD d) v := by
  obtain ⟨⟨a, _, _, e0⟩, ⟨t, _, _, e1⟩, ⟨c, _, _, e2⟩, ⟨b, _, _, e3⟩, ⟨sp, _, e4⟩, ⟨sn, _, e5⟩, _⟩ := r
  refine ⟨⟨a, t, c, b, sp, sn⟩, k _ (by kernel_rfl) fun o ho => ?_⟩
  have ho : o < 6 := ho
  have : o = 0 ∨ o = 1 ∨ o = 2 ∨ o = 3 ∨ o = 4 ∨ o = 5 := by omega
  rcases this with rfl | rfl | rfl | rfl | rfl | rfl
  · exact e0.symm
  · exact e1.symm
  · exact e2.symm
  · exact e3.symm
  · exact e4.symm
  · exact e5.symm

theorem rd_row {len : Nat} {f : Nat → Nat → LV} (h : ∀ i, i < len → RdL Γ 5 23 (f i) 0) : ∃ (k n : Nat → Int) (s : Nat → List UInt8), Row len f k n s := by
  have h' : ∀ i, i < len → ∃ x : Int × Int × List UInt8, f i 0 = .int .i64 x.1 ∧ f i 1 = .int .i64 x.2.1 ∧ f i 2 = .str x.2.2 ∧ x.2.2.length ≤ maxLen ∧ (-9223372036854775808 ≤ x.1 ∧ x.1 ≤ 9223372036854775807) ∧ (-9223372036854775808 ≤ x.2.1 ∧ x.2.1 ≤ 9223372036854775807) := by
    intro i hi
    obtain ⟨⟨a, a1, a2, e0⟩, ⟨n, n1, n2, e1⟩, ⟨s, hs, e2⟩, _⟩ := h i hi
    exact ⟨(a, n, s), e0, e1, e2, hs, ⟨a1, a2⟩, ⟨n1, n2⟩⟩
  obtain ⟨x, hx⟩ := choose_rd (p := fun i x => f i 0 = .int .i64 x.1 ∧ f i 1 = .int .i64 x.2.1 ∧ f i 2 = .str x.2.2 ∧ x.2.2.length ≤ maxLen ∧ (-9223372036854775808 ≤ x.1 ∧ x.1 ≤ 9223372036854775807) ∧ (-9223372036854775808 ≤ x.2.1 ∧ x.2.1 ≤ 9223372036854775807)) ((0, 0, []) : Int × Int × List UInt8) h'
  exact ⟨fun i => (x i).1, fun i => (x i).2.1, fun i => (x i).2.2, fun i hi => (hx i hi).1, fun i hi => (hx i hi).2.1, fun i hi => (hx i hi).2.2.1, fun i hi => (hx i hi).2.2.2.1, fun i hi => (hx i hi).2.2.2.2.1, fun i hi => (hx i hi).2.2.2.2.2⟩
end Go.Sym.Md

set_option linter.unusedVariables false
set_option linter.unusedSimpArgs false
set_option maxRecDepth 10000
namespace Go.Sym.Md
open Go Go.Sym Go.Lib

/-! ### Lists of caveats -/
structure CV where
  k : Int
  n : Int
  s : List UInt8
  deriving DecidableEq

def cv0 : CV := ⟨0, 0, []⟩
def rowC (cs : List CV) (i j : Nat) : LV :=
  match j with
  | 0 => .int .i64 (cs.getD i cv0).k
  | 1 => .int .i64 (cs.getD i cv0).n
  | _ => .str (cs.getD i cv0).s
abbrev vR (cs : List CV) : FV := .s (.lf (.ro false false 3 cs.length (rowC cs)))

theorem rowC_ok {cs : List CV} {H : Hp} : okF H (vR cs) := by
  intro i hi j hj
  have : j = 0 ∨ j = 1 ∨ j = 2 := by omega
  rcases this with rfl | rfl | rfl <;> trivial
theorem rowC_free {cs : List CV} : freeF (vR cs) := by
  intro i hi j hj
  have : j = 0 ∨ j = 1 ∨ j = 2 := by omega
  rcases this with rfl | rfl | rfl <;> trivial

theorem rd_cvs {w : World} {v : Value} {len : Nat} {f : Nat → Nat → LV} (h : ∀ i, i < len → RdL Γ 5 23 (f i) 0) (hl : len ≤ maxLen) (hr : repF w L0 (.s (.lf (.ro false false 3 len f))) v) : ∃ cs : List CV, cs.length ≤ maxLen ∧ repF w L0 (vR cs) v := by
  obtain ⟨k, n, s, R⟩ := rd_row h
  refine ⟨(List.range len).map fun i => ⟨k i, n i, s i⟩, by simpa using hl, ?_⟩
  have hlen : ((List.range len).map fun i => (⟨k i, n i, s i⟩ : CV)).length = len := by simp
  have hg : ∀ i, i < len → ((List.range len).map fun i => (⟨k i, n i, s i⟩ : CV)).getD i cv0 = ⟨k i, n i, s i⟩ := fun i hi => by simp [List.getD, hi]
  show roRep _ _ _ _ _ _ _ _
  rw [hlen]
  rcases hr with hr | ⟨a, cap, h0, h1, h2, h3, h4, h5⟩
  · exact .inl hr
  · refine .inr ⟨a, cap, h0, h1, h2, h3, h4, fun i hi j hj => ?_⟩
    obtain ⟨c, e1, e2, e3⟩ := h5 i hi j hj
    refine ⟨c, e1, e2, ?_⟩
    have : j = 0 ∨ j = 1 ∨ j = 2 := by omega
    rcases this with rfl | rfl | rfl
    · rw [R.c0 i hi] at e3; show rep _ _ (.int .i64 _) _; rw [hg i hi]; exact e3
    · rw [R.c1 i hi] at e3; show rep _ _ (.int .i64 _) _; rw [hg i hi]; exact e3
    · rw [R.c2 i hi] at e3; show rep _ _ (.str _) _; rw [hg i hi]; exact e3

theorem cv_eq (a b : CV) : a = b ↔ a.k = b.k ∧ a.n = b.n ∧ a.s = b.s := by
  cases a; cases b; simp

theorem cv_neq_f {x y : CV} (h : x = y) : (!(decide (x.k = y.k) && (decide (x.n = y.n) && (decide (x.s = y.s) && true)))) = false := by subst h; simp
theorem cv_neq_t {x y : CV} (h : ¬ x = y) : (!(decide (x.k = y.k) && (decide (x.n = y.n) && (decide (x.s = y.s) && true)))) = true := by
  rw [cv_eq] at h
  simp only [Bool.and_true]
  by_cases h1 : x.k = y.k <;> by_cases h2 : x.n = y.n <;> by_cases h3 : x.s = y.s <;> simp_all

/-- slices.Equal, of caveats. -/
theorem c127 (a b : List CV) (ha : a.length ≤ maxLen) : SCalls Proofs.Try.prog 127 [vR a, vR b] [] (.s (.lf (.bool (decide (a = b))))) [] := by
  have hm : maxLen = 9223372036854775807 := rfl
  refine SCalls.intro tok Proofs.Try.func127 ?_
  conv => whnf
  by_cases hl : a.length = b.length
  · refine CaseB.of_false (by simp [hl]) ?_
    conv => whnf
    refine LoopK.mk1 (fun i : Nat => [(0, vR a), (1, vR b), (12, vI a.length), (13, vI i)]) (fun i => []) (fun i => i ≤ a.length ∧ a.take i = b.take i) (fun i => a.length - i) 0 ⟨by omega, rfl⟩ ?_ ?_
    · exact Weak.of ⟨⟩ (by simp) ⟨okF.wv rowC_ok, okF.wv rowC_ok, okF.wv trivial, okF.wv trivial, trivial⟩
    intro i hi
    obtain ⟨hi, ht⟩ := hi
    conv => whnf
    by_cases hi' : i < a.length
    · refine CaseB.of_true (decide_eq_true (by omega)) ?_
      conv => whnf
      refine DrawK.mk1 tok mixed [0, 0, 3, 7, 0, 0, 48, 112, 255] [(0, 0, []), (1, 0, []), (4, 0, []), (5, 0, []), (2, 1, [0]), (3, 1, [0]), (6, 1, [0]), (7, 1, [0]), (8, 1, [0])] (by kernel_rfl) ?_
      conv => whnf
      repeat (refine And.intro (by omega) ?_; conv => whnf)
      have hx0 : a[i]? = some (a.getD i cv0) := by rw [List.getD_eq_getElem?_getD, List.getElem?_eq_getElem hi']; rfl
      have hy0 : b[i]? = some (b.getD i cv0) := by rw [List.getD_eq_getElem?_getD, List.getElem?_eq_getElem (by omega)]; rfl
      by_cases he : a.getD i cv0 = b.getD i cv0
      · refine CaseB.of_false (cv_neq_f (by rw [Int.toNat_natCast]; exact he)) ?_
        conv => whnf
        refine ⟨i + 1, ⟨by omega, ?_⟩, by show a.length - (i + 1) < a.length - i; omega, Weak.of ⟨⟩ (by simp) ⟨okF.wv rowC_ok, okF.wv rowC_ok, okF.wv trivial, WV.lf (WL.int (by rw [wrap_i64 (by omega) (by omega)]; omega)), trivial⟩⟩
        rw [List.take_add_one, List.take_add_one, ht, hx0, hy0, he]
      · refine CaseB.of_true (cv_neq_t (by rw [Int.toNat_natCast]; exact he)) ?_
        conv => whnf
        refine RetK.empty (WV.lf (WL.ff (decide_eq_false fun e => he (by rw [e]))))
    · refine CaseB.of_false (decide_eq_false (by omega)) ?_
      conv => whnf
      refine RetK.empty (WV.lf (WL.tt (decide_eq_true ?_)))
      rw [List.take_of_length_le (by omega), List.take_of_length_le (by omega)] at ht
      exact ht
  · refine CaseB.of_true (by simp; omega) ?_
    conv => whnf
    exact RetK.empty (WV.lf (WL.ff (decide_eq_false fun e => hl (by rw [e]))))

/-- caveat.Same -/
theorem c31 (a b : List CV) (ha : a.length ≤ maxLen) : SCalls Proofs.Try.prog 31 [vR a, vR b] [] (.s (.lf (.bool (decide (a = b))))) [] := by
  refine SCalls.intro tok Proofs.Try.func31 ?_
  conv => whnf
  refine CallK.mk' _ _ (c127 a b ha) ?_
  conv => whnf
  exact RetK.empty (okF.wv trivial)

/-- baileyref06.Same -/
theorem c32 (a b : List CV) (ha : a.length ≤ maxLen) : SCalls Proofs.Try.prog 32 [vR a, vR b] [] (.s (.lf (.bool (decide (a = b))))) [] := by
  have hm : maxLen = 9223372036854775807 := rfl
  refine SCalls.intro tok Proofs.Try.func32 ?_
  conv => whnf
  by_cases hl : a.length = b.length
  · refine CaseB.of_false (by simp [hl]) ?_
    conv => whnf
    refine LoopK.mk1 (fun i : Nat => [(0, vR a), (1, vR b), (5, vI i)]) (fun i => []) (fun i => i ≤ a.length ∧ a.take i = b.take i) (fun i => a.length - i) 0 ⟨by omega, rfl⟩ ?_ ?_
    · exact Weak.of ⟨⟩ (by simp) ⟨okF.wv rowC_ok, okF.wv rowC_ok, okF.wv trivial, trivial⟩
    intro i hi
    obtain ⟨hi, ht⟩ := hi
    conv => whnf
    by_cases hi' : i < a.length
    · refine CaseB.of_true (decide_eq_true (by omega)) ?_
      conv => whnf
      refine DrawK.mk1 tok mixed [0, 0, 3, 7, 0, 0, 48, 112, 255] [(0, 0, []), (1, 0, []), (4, 0, []), (5, 0, []), (2, 1, [0]), (3, 1, [0]), (6, 1, [0]), (7, 1, [0]), (8, 1, [0])] (by kernel_rfl) ?_
      conv => whnf
      repeat (refine And.intro (by omega) ?_; conv => whnf)
      have hx0 : a[i]? = some (a.getD i cv0) := by rw [List.getD_eq_getElem?_getD, List.getElem?_eq_getElem hi']; rfl
      have hy0 : b[i]? = some (b.getD i cv0) := by rw [List.getD_eq_getElem?_getD, List.getElem?_eq_getElem (by omega)]; rfl
      by_cases he : a.getD i cv0 = b.getD i cv0
      · refine CaseB.of_false (cv_neq_f (by rw [Int.toNat_natCast]; exact he)) ?_
        conv => whnf
        refine ⟨i + 1, ⟨by omega, ?_⟩, by show a.length - (i + 1) < a.length - i; omega, Weak.of ⟨⟩ (by simp) ⟨okF.wv rowC_ok, okF.wv rowC_ok, WV.lf (WL.int (by rw [wrap_i64 (by omega) (by omega)]; omega)), trivial⟩⟩
        rw [List.take_add_one, List.take_add_one, ht, hx0, hy0, he]
      · refine CaseB.of_true (cv_neq_t (by rw [Int.toNat_natCast]; exact he)) ?_
        conv => whnf
        refine RetK.empty (WV.lf (WL.ff (decide_eq_false fun e => he (by rw [e]))))
    · refine CaseB.of_false (decide_eq_false (by omega)) ?_
      conv => whnf
      refine RetK.empty (WV.lf (WL.tt (decide_eq_true ?_)))
      rw [List.take_of_length_le (by omega), List.take_of_length_le (by omega)] at ht
      exact ht
  · refine CaseB.of_true (by simp; omega) ?_
    conv => whnf
    exact RetK.empty (WV.lf (WL.ff (decide_eq_false fun e => hl (by rw [e]))))

/-- Whether a list begins with another one. -/
def extF (long short : List CV) : Bool := decide (short.length ≤ long.length ∧ long.take short.length = short)

theorem row_take {D : Rel} [ROk D] {a : List CV} {n i j : Nat} (hi : i < n) (hj : j < 3) : WL D (rowC a (Int.toNat 0 + i) j) (rowC (a.take n) i j) := by
  have e : (a.take n).getD i cv0 = a.getD i cv0 := by rw [List.getD_eq_getElem?_getD, List.getD_eq_getElem?_getD, List.getElem?_take, if_pos hi]
  have : rowC a (Int.toNat 0 + i) j = rowC (a.take n) i j := by
    unfold rowC
    rw [show Int.toNat 0 + i = i from Nat.zero_add i, e]
  rw [this]
  have : j = 0 ∨ j = 1 ∨ j = 2 := by omega
  rcases this with rfl | rfl | rfl <;> exact freeL.wl trivial

/-- caveat.Extends -/
theorem c33 (a b : List CV) (ha : a.length ≤ maxLen) : SCalls Proofs.Try.prog 33 [vR a, vR b] [] (.s (.lf (.bool (extF a b)))) [] := by
  have hm : maxLen = 9223372036854775807 := rfl
  refine SCalls.intro tok Proofs.Try.func33 ?_
  conv => whnf
  by_cases hl : (b.length : Int) ≤ (a.length : Int)
  · refine CaseB.of_true (decide_eq_true hl) ?_
    conv => whnf
    refine And.intro ⟨by omega, by omega, by omega⟩ ?_
    conv => whnf
    have hl' : (Int.toNat (b.length : Int)) - Int.toNat 0 = (a.take b.length).length := by rw [Int.toNat_natCast, List.length_take, show Int.toNat 0 = 0 from rfl]; omega
    refine CallK.mk' _ _ ((c31 (a.take b.length) b (by rw [List.length_take]; omega)).lend (fun _ => True) [] ⟨WV.lf (WL.ro (hl') (by simp) (by simp) fun i hi j hj => row_take (by omega) hj), freeF.wv rowC_free, trivial⟩ (plainF.wv trivial)) ?_
    conv => whnf
    exact RetK.empty (WV.lf (WL.bool (by unfold extF; rw [decide_eq_decide]; exact ⟨fun h => ⟨by omega, h⟩, fun h => h.2⟩)))
  · refine CaseB.of_false (decide_eq_false hl) ?_
    conv => whnf
    exact RetK.empty (WV.lf (WL.ff (decide_eq_false fun e => by omega)))

/-- baileyref06.Extends -/
theorem c34 (a b : List CV) (ha : a.length ≤ maxLen) : SCalls Proofs.Try.prog 34 [vR a, vR b] [] (.s (.lf (.bool (extF a b)))) [] := by
  have hm : maxLen = 9223372036854775807 := rfl
  refine SCalls.intro tok Proofs.Try.func34 ?_
  conv => whnf
  by_cases hl : (b.length : Int) ≤ (a.length : Int)
  · refine CaseB.of_true (decide_eq_true hl) ?_
    conv => whnf
    have hmin : min (b.length : Int) (a.length : Int) = (b.length : Int) := by omega
    rw [hmin]
    refine And.intro ⟨by omega, by omega, by omega⟩ ?_
    conv => whnf
    have hl' : (Int.toNat (b.length : Int)) - Int.toNat 0 = (a.take b.length).length := by rw [Int.toNat_natCast, List.length_take, show Int.toNat 0 = 0 from rfl]; omega
    refine CallK.mk' _ _ ((c32 (a.take b.length) b (by rw [List.length_take]; omega)).lend (fun _ => True) [] ⟨WV.lf (WL.ro (hl') (by simp) (by simp) fun i hi j hj => row_take (by omega) hj), freeF.wv rowC_free, trivial⟩ (plainF.wv trivial)) ?_
    conv => whnf
    exact RetK.empty (WV.lf (WL.bool (by unfold extF; rw [decide_eq_decide]; exact ⟨fun h => ⟨by omega, h⟩, fun h => h.2⟩)))
  · refine CaseB.of_false (decide_eq_false hl) ?_
    conv => whnf
    exact RetK.empty (WV.lf (WL.ff (decide_eq_false fun e => by omega)))

/-- Whether caveats are few and short. -/
def fewL (cs : List CV) : Bool := decide (cs.length ≤ 30) && cs.all fun c => decide (c.s.length ≤ 200)

/-- baileylaw06.few -/
theorem c30L (cs : List CV) (hlen : cs.length ≤ maxLen) : SCalls Proofs.Try.prog 30 [vR cs] [] (.s (.lf (.bool (fewL cs)))) [] := by
  have hm : maxLen = 9223372036854775807 := rfl
  refine SCalls.intro tok Proofs.Try.func30 ?_
  conv => whnf
  refine LoopK.mk1 (fun i : Nat => [(5, vR cs), (6, vI cs.length), (7, vI i)]) (fun _ => []) (fun i => i ≤ cs.length ∧ i ≤ 30 ∧ (cs.take i).all (fun c => decide (c.s.length ≤ 200)) = true) (fun i => cs.length - i) 0 ⟨by omega, by omega, rfl⟩ ?_ ?_
  · exact Weak.of ⟨⟩ (by simp) ⟨okF.wv rowC_ok, okF.wv trivial, okF.wv trivial, trivial⟩
  intro i hi
  obtain ⟨hi, hi30, hs⟩ := hi
  conv => whnf
  by_cases hl : i < cs.length
  · refine CaseB.of_true (decide_eq_true (by omega)) ?_
    conv => whnf
    refine And.intro (by omega) ?_
    conv => whnf
    have hx0 : cs[i]? = some (cs.getD i cv0) := by rw [List.getD_eq_getElem?_getD, List.getElem?_eq_getElem hl]; rfl
    by_cases h30 : 30 ≤ (i : Int)
    · refine CaseB.of_true (decide_eq_true h30) ?_
      conv => whnf
      exact RetK.empty (WV.lf (WL.ff (by unfold fewL; rw [decide_eq_false (by omega)]; rfl)))
    refine CaseB.of_false (decide_eq_false h30) ?_
    conv => whnf
    by_cases h200 : 200 < ((cs.getD (Int.toNat (i : Int)) cv0).s.length : Int)
    · refine CaseB.of_true (decide_eq_true h200) ?_
      conv => whnf
      rw [Int.toNat_natCast] at h200
      refine RetK.empty (WV.lf (WL.ff ?_))
      unfold fewL
      rw [Bool.and_eq_false_iff]
      right
      rw [List.all_eq_false]
      exact ⟨_, List.mem_of_getElem? hx0, by rw [decide_eq_false (by omega)]; simp⟩
    refine CaseB.of_false (decide_eq_false h200) ?_
    conv => whnf
    rw [Int.toNat_natCast] at h200
    refine ⟨i + 1, ⟨by omega, by omega, ?_⟩, by show cs.length - (i + 1) < cs.length - i; omega, ?_⟩
    · rw [List.take_add_one, hx0, List.all_append, hs]
      show (true && (decide ((cs.getD i cv0).s.length ≤ 200) && true)) = true
      rw [decide_eq_true (by omega)]
      rfl
    · exact Weak.of HpW.nil (by simp) ⟨okF.wv rowC_ok, okF.wv trivial, WV.lf (WL.int (by rw [wrap_i64 (by omega) (by omega)]; omega)), trivial⟩
  · refine CaseB.of_false (decide_eq_false (by omega)) ?_
    conv => whnf
    rw [List.take_of_length_le (by omega)] at hs
    exact RetK.empty (WV.lf (WL.tt (by unfold fewL; rw [hs, decide_eq_true (by omega)]; rfl)))

/-- baileylaw06.CaveatSame -/
theorem c4 (a b : List CV) (ha : a.length ≤ maxLen) (hb : b.length ≤ maxLen) : SCalls Proofs.Try.prog 4 [vR a, vR b] [] (.s (.lf .tt)) [] := by
  refine SCalls.intro tok Proofs.Try.func4 ?_
  conv => whnf
  refine CallK.mk' _ _ (c30L a ha) ?_
  conv => whnf
  cases fa : fewL a with
  | false =>
    refine CaseB.of_true rfl ?_
    conv => whnf
    refine CallK.mk' _ _ c25 ?_
    conv => whnf
    exact RetK.empty (okF.wv trivial)
  | true =>
    refine CaseB.of_false rfl ?_
    conv => whnf
    refine CallK.mk' _ _ (c30L b hb) ?_
    conv => whnf
    cases fb : fewL b with
    | false =>
      refine CaseB.of_true rfl ?_
      conv => whnf
      refine CallK.mk' _ _ c25 ?_
      conv => whnf
      exact RetK.empty (okF.wv trivial)
    | true =>
      refine CaseB.of_false rfl ?_
      conv => whnf
      refine CallK.mk' _ _ (c31 a b ha) ?_
      conv => whnf
      refine CallK.mk' _ _ (c32 a b ha) ?_
      conv => whnf
      refine CaseB.of_true (beq_self_eq_true _) ?_
      conv => whnf
      refine CallK.mk' _ _ (c31 a a ha) ?_
      conv => whnf
      refine CaseB.of_true (decide_eq_true rfl) ?_
      conv => whnf
      refine CallK.mk' _ _ (c33 a b ha) ?_
      conv => whnf
      refine CallK.mk' _ _ (c34 a b ha) ?_
      conv => whnf
      refine CaseB.of_true (beq_self_eq_true _) ?_
      conv => whnf
      refine CallK.mk' _ _ c25 ?_
      conv => whnf
      exact RetK.empty (okF.wv trivial)
end Go.Sym.Md

