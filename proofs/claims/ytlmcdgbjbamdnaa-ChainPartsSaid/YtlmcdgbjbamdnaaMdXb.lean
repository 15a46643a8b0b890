/- Contracts of the program's functions, proved by the framework (text MdXb), without conditions but those that each theorem states. -/
import Derived.Test.YtlmcdgbjbamdnaaMdKb
import Derived.Test.YtlmcdgbjbamdnaaFw7
set_option linter.unusedVariables false
set_option linter.unusedSimpArgs false
namespace Go.Sym.Md
open Go Go.Sym

theorem rd_chain {w : World} {v : Value} {g : Nat → LV} (r : RdL Γ 6 40 g 0) (k : ∀ l, tot l = (tget Γ 40).size → (∀ o, o < tot l → cellD l o = g o) → repF w L0 (.s (.agg l)) v) : ∃ c : ChS, (-9223372036854775808 ≤ c.n ∧ c.n ≤ 9223372036854775807) ∧ c.h.length ≤ maxLen ∧ repF w L0 (vCh c) v := by
  obtain ⟨⟨a, h1, h2, e0⟩, ⟨s, hs, e1⟩, _⟩ := r
  refine ⟨⟨a, s⟩, ⟨h1, h2⟩, hs, k _ (by kernel_rfl) fun o ho => ?_⟩
  have ho : o < 2 := ho
  have : o = 0 ∨ o = 1 := by omega
  rcases this with rfl | rfl
  · exact e0.symm
  · exact e1.symm
end Go.Sym.Md
