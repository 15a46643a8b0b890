/- Contracts of the program's functions, proved by the framework (text MdB), without conditions but those that each theorem states. -/
import Derived.Test.YtlmcdgbjbamdnaaMdA
set_option linter.unusedVariables false
set_option linter.unusedSimpArgs false
set_option maxRecDepth 10000
namespace Go.Sym.Md
open Go Go.Sym

theorem mixed : Tables.follows Proofs.Try.prog.toTables .mixedOrders = true := by kernel_rfl

/-! ### Caveats: the words -/
def hasF (k : Int) : Int := if k = 2 ∨ k = 3 then 1 else if k = 1 ∨ k = 4 ∨ k = 5 ∨ k = 6 then 2 else 0
def boundF (k : Int) : Int := if k = 1 then 255 else if k = 5 then 7 else 1099511627776
def letterF (x : UInt8) : Bool := decide ((97 ≤ x.toNat ∧ x.toNat ≤ 122) ∨ (48 ≤ x.toNat ∧ x.toNat ≤ 57) ∨ x.toNat = 45 ∨ x.toNat = 95)
def nameF (s : List UInt8) : Bool := decide (1 ≤ s.length ∧ s.length ≤ 16) && s.all letterF
/-- Whether a caveat may be. -/
def okC (k n : Int) (s : List UInt8) : Bool := if hasF k = 1 then nameF s && decide (n = 0) else if hasF k = 2 then decide (s = []) && decide (0 ≤ n ∧ n ≤ boundF k) else false
def checkF (k n : Int) (s : List UInt8) : Int := if okC k n s then 0 else 1

/-- A caveat. -/
abbrev vC (k n : Int) (s : List UInt8) : FV := .s (.agg [.one (.int .i64 k), .one (.int .i64 n), .one (.str s)])

/-- caveat.has -/
theorem c121 (k : Int) : SCalls Proofs.Try.prog 121 [vI k] [] (vI (hasF k)) [] := by
  refine SCalls.intro tok Proofs.Try.func121 ?_
  conv => whnf
  by_cases h2 : k = 2 <;> by_cases h3 : k = 3 <;> by_cases h1 : k = 1 <;> by_cases h4 : k = 4 <;> by_cases h5 : k = 5 <;> by_cases h6 : k = 6 <;> try omega
  all_goals
    repeat (first
      | (refine CaseB.of_true (decide_eq_true (by omega)) ?_; conv => whnf)
      | (refine CaseB.of_false (decide_eq_false (by omega)) ?_; conv => whnf))
    exact RetK.empty (WV.lf (WL.int (by unfold hasF; simp [*])))

/-- caveat.bound -/
theorem c123 (k : Int) : SCalls Proofs.Try.prog 123 [vI k] [] (vI (boundF k)) [] := by
  refine SCalls.intro tok Proofs.Try.func123 ?_
  conv => whnf
  by_cases h1 : k = 1 <;> by_cases h5 : k = 5 <;> by_cases h4 : k = 4 <;> try omega
  all_goals
    repeat (first
      | (refine CaseB.of_true (decide_eq_true (by omega)) ?_; conv => whnf)
      | (refine CaseB.of_false (decide_eq_false (by omega)) ?_; conv => whnf))
    exact RetK.empty (WV.lf (WL.int (by unfold boundF; simp [*])))

/-- nums.Within -/
theorem c122 (n a b : Int) : SCalls Proofs.Try.prog 122 [vI n, vI a, vI b] [] (.s (.lf (.bool (decide (a ≤ n ∧ n ≤ b))))) [] := by
  refine SCalls.intro tok Proofs.Try.func122 ?_
  conv => whnf
  by_cases h1 : a ≤ n
  · refine CaseB.of_true (decide_eq_true h1) ?_
    conv => whnf
    exact RetK.empty (WV.lf (WL.bool (by simp [h1])))
  · refine CaseB.of_false (decide_eq_false h1) ?_
    conv => whnf
    exact RetK.empty (WV.lf (WL.ff (by simp [h1])))

/-- caveat.letter -/
theorem c126 (x : UInt8) : SCalls Proofs.Try.prog 126 [.s (.lf (.int .u8 (x.toNat : Int)))] [] (.s (.lf (.bool (letterF x)))) [] := by
  refine SCalls.intro tok Proofs.Try.func126 ?_
  conv => whnf
  by_cases h1 : 97 ≤ x.toNat <;> by_cases h2 : x.toNat ≤ 122 <;> by_cases h3 : 48 ≤ x.toNat <;> by_cases h4 : x.toNat ≤ 57 <;> by_cases h5 : x.toNat = 45 <;> by_cases h6 : x.toNat = 95 <;> try omega
  all_goals
    repeat (first
      | (refine CaseB.of_true (decide_eq_true (by omega)) ?_; conv => whnf)
      | (refine CaseB.of_false (decide_eq_false (by omega)) ?_; conv => whnf))
    first
      | exact RetK.empty (WV.lf (WL.tt (decide_eq_true (by omega))))
      | exact RetK.empty (WV.lf (WL.ff (decide_eq_false (by omega))))

/-- baileyref06.named -/
theorem c124 (k : Int) : SCalls Proofs.Try.prog 124 [vI k] [] (.s (.lf (.bool (decide (k = 2 ∨ k = 3))))) [] := by
  refine SCalls.intro tok Proofs.Try.func124 ?_
  conv => whnf
  by_cases h2 : k = 2
  · refine CaseB.of_true (decide_eq_true h2) ?_
    conv => whnf
    exact RetK.empty (WV.lf (WL.tt (decide_eq_true (by omega))))
  · refine CaseB.of_false (decide_eq_false h2) ?_
    conv => whnf
    exact RetK.empty (WV.lf (WL.bool (by simp [h2])))

/-- baileyref06.most -/
theorem c125 (k : Int) : SCalls Proofs.Try.prog 125 [vI k] [] (vI (boundF k)) [] := by
  refine SCalls.intro tok Proofs.Try.func125 ?_
  conv => whnf
  by_cases h1 : k = 1 <;> by_cases h5 : k = 5 <;> try omega
  all_goals
    repeat (first
      | (refine CaseB.of_true (decide_eq_true (by omega)) ?_; conv => whnf)
      | (refine CaseB.of_false (decide_eq_false (by omega)) ?_; conv => whnf))
    exact RetK.empty (WV.lf (WL.int (by unfold boundF; simp [*])))
end Go.Sym.Md
