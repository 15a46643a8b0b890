/- Contracts of the program's functions, proved by the framework (text MdX), without conditions but those that each theorem states. -/
import Derived.Test.YtlmcdgbjbamdnaaMdT
set_option linter.unusedVariables false
set_option linter.unusedSimpArgs false
namespace Go.Sym.Md
open Go Go.Sym

/-! ### Caveats and deeds, as a law is given them -/
theorem rd_caveat {w : World} {v : Value} {g : Nat → LV} (r : RdL Γ 6 23 g 0) (k : ∀ l, tot l = (tget Γ 23).size → (∀ o, o < tot l → cellD l o = g o) → repF w L0 (.s (.agg l)) v) : ∃ (a n : Int) (s : List UInt8), s.length ≤ maxLen ∧ repF w L0 (vC a n s) v := by
  obtain ⟨⟨a, _, _, e0⟩, ⟨n, _, _, e1⟩, ⟨s, hs, e2⟩, _⟩ := r
  refine ⟨a, n, s, hs, k _ (by kernel_rfl) fun o ho => ?_⟩
  have ho : o < 3 := ho
  have : o = 0 ∨ o = 1 ∨ o = 2 := by omega
  rcases this with rfl | rfl | rfl
  · exact e0.symm
  · exact e1.symm
  · exact e2.symm

theorem rd_deed {w : World} {v : Value} {g : Nat → LV} (r : RdL Γ 6 33 g 0) (k : ∀ l, tot l = (tget Γ 33).size → (∀ o, o < tot l → cellD l o = g o) → repF w L0 (.s (.agg l)) v) : ∃ d : DeedS, repF w L0 (vD d) v := by
  obtain ⟨⟨a, _, _, e0⟩, ⟨t, _, _, e1⟩, ⟨c, _, _, e2⟩, ⟨b, _, _, e3⟩, ⟨sp, _, e4⟩, ⟨sn, _, e5⟩, _⟩ := r
  refine ⟨⟨a, t, c, b, sp, sn⟩, k _ (by kernel_rfl) fun o ho => ?_⟩
  have ho : o < 6 := ho
  have : o = 0 ∨ o = 1 ∨ o = 2 ∨ o = 3 ∨ o = 4 ∨ o = 5 := by omega
  rcases this with rfl | rfl | rfl | rfl | rfl | rfl
  · exact e0.symm
  · exact e1.symm
  · exact e2.symm
  · exact e3.symm
  · exact e4.symm
  · exact e5.symm

theorem rd_row {len : Nat} {f : Nat → Nat → LV} (h : ∀ i, i < len → RdL Γ 5 23 (f i) 0) : ∃ (k n : Nat → Int) (s : Nat → List UInt8), Row len f k n s := by
  have h' : ∀ i, i < len → ∃ x : Int × Int × List UInt8, f i 0 = .int .i64 x.1 ∧ f i 1 = .int .i64 x.2.1 ∧ f i 2 = .str x.2.2 ∧ x.2.2.length ≤ maxLen ∧ (-9223372036854775808 ≤ x.1 ∧ x.1 ≤ 9223372036854775807) ∧ (-9223372036854775808 ≤ x.2.1 ∧ x.2.1 ≤ 9223372036854775807) := by
    intro i hi
    obtain ⟨⟨a, a1, a2, e0⟩, ⟨n, n1, n2, e1⟩, ⟨s, hs, e2⟩, _⟩ := h i hi
    exact ⟨(a, n, s), e0, e1, e2, hs, ⟨a1, a2⟩, ⟨n1, n2⟩⟩
  obtain ⟨x, hx⟩ := choose_rd (p := fun i x => f i 0 = .int .i64 x.1 ∧ f i 1 = .int .i64 x.2.1 ∧ f i 2 = .str x.2.2 ∧ x.2.2.length ≤ maxLen ∧ (-9223372036854775808 ≤ x.1 ∧ x.1 ≤ 9223372036854775807) ∧ (-9223372036854775808 ≤ x.2.1 ∧ x.2.1 ≤ 9223372036854775807)) ((0, 0, []) : Int × Int × List UInt8) h'
  exact ⟨fun i => (x i).1, fun i => (x i).2.1, fun i => (x i).2.2, fun i hi => (hx i hi).1, fun i hi => (hx i hi).2.1, fun i hi => (hx i hi).2.2.1, fun i hi => (hx i hi).2.2.2.1, fun i hi => (hx i hi).2.2.2.2.1, fun i hi => (hx i hi).2.2.2.2.2⟩
end Go.Sym.Md
