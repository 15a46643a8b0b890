/- Contracts of the program's functions, proved by the framework (text MdR), without conditions but those that each theorem states. -/
import Derived.Test.YtlmcdgbjbamdnaaMdQ
import Derived.Lib.Bytealg
set_option linter.unusedVariables false
set_option linter.unusedSimpArgs false
set_option maxRecDepth 10000
namespace Go.Sym.Md
open Go Go.Sym Go.Lib

theorem cmp_zero : ∀ (a b : List UInt8), compareBytes a b = 0 ↔ a = b
  | [], [] => by simp [compareBytes]
  | [], _ :: _ => by simp [compareBytes]
  | _ :: _, [] => by simp [compareBytes]
  | x :: a, y :: b => by
    unfold compareBytes
    by_cases h1 : x < y
    · simp only [h1, if_true]
      have : x ≠ y := fun e => by rw [e] at h1; exact UInt8.lt_irrefl _ h1
      simp [this]
    · by_cases h2 : y < x
      · simp only [h1, h2, if_true, if_false]
        have : x ≠ y := fun e => by rw [e] at h2; exact UInt8.lt_irrefl _ h2
        simp [this]
      · simp only [h1, h2, if_false]
        have : x = y := UInt8.le_antisymm (UInt8.not_lt.1 h2) (UInt8.not_lt.1 h1)
        rw [cmp_zero a b, this]
        simp

theorem cmp_range : ∀ (a b : List UInt8), -1 ≤ compareBytes a b ∧ compareBytes a b ≤ 1
  | [], [] => by simp [compareBytes]
  | [], _ :: _ => by simp [compareBytes]
  | _ :: _, [] => by simp [compareBytes]
  | x :: a, y :: b => by
    unfold compareBytes
    have := cmp_range a b
    split
    · omega
    · split
      · omega
      · exact this

/-- internal/bytealg's comparison of two strings. -/
theorem sem212 (a b : List UInt8) (H : Hp) : CallSem Proofs.Try.prog 212 [.s (.lf (.str a)), .s (.lf (.str b))] H (vI (compareBytes a b)) H := by
  intro w L vals hw ha o act next Q hn
  obtain ⟨hs, hv⟩ := ha
  obtain ⟨x, hx, hxr⟩ := hv 0 _ rfl
  obtain ⟨y, hy, hyr⟩ := hv 1 _ rfl
  have hx' : x = .string ⟨a.toArray⟩ := hxr.1
  have hy' : y = .string ⟨b.toArray⟩ := hyr.1
  have hvals : vals = #[.string ⟨a.toArray⟩, .string ⟨b.toArray⟩] := by
    subst hx'; subst hy'
    have hs' : vals.size = 2 := hs
    apply Array.ext
    · simpa using hs'
    · intro i h1 h2
      have : i = 0 ∨ i = 1 := by omega
      rcases this with rfl | rfl
      · have := (Array.getElem?_eq_some_iff.1 hx).2; simpa using this
      · have := (Array.getElem?_eq_some_iff.1 hy).2; simpa using this
  have hrun : (callFunc 212 vals).run Proofs.Try.prog w = .ok (.value (.int .i64 (compareBytes a b))) w := by
    have h1 : (Proofs.Try.f212.name == "runtime.NumGoroutine") = false := by kernel_rfl
    have h2 : Proofs.Try.f212.body.isNone = true := by kernel_rfl
    have h3 : Extern.findNext Proofs.Try.f212 = none := by kernel_rfl
    have h4 : Extern.find Proofs.Try.f212 = some Extern.BytealgCompare.compare := by kernel_rfl
    have h5 := Lib.run_compareString (P := Proofs.Try.prog) ⟨a.toArray⟩ ⟨b.toArray⟩ w
    simp only [callFunc, Sem.run_bind, run_program, Result.andThen_ok, Proofs.Try.func212, h1, h2, h3, h4, hvals, run_mark, Bool.false_eq_true, if_false, if_true, Sem.run_pure, h5]
  rw [hrun]
  have hr := cmp_range a b
  exact hn _ w L hw ⟨rfl, by simp [IntKind.min, IntKind.signed, IntKind.bits]; omega, by simp [IntKind.max, IntKind.signed, IntKind.bits]; omega⟩ (Ev.refl w L)

/-- internal/bytealg.CompareString -/
theorem c183 (a b : List UInt8) : SCalls Proofs.Try.prog 183 [.s (.lf (.str a)), .s (.lf (.str b))] [] (vI (compareBytes a b)) [] := by
  refine SCalls.intro tok Proofs.Try.func183 ?_
  conv => whnf
  refine ⟨⟨_, _, sem212 a b _, ?_⟩⟩
  conv => whnf
  exact RetK.empty (okF.wv trivial)

/-- strings.Compare -/
theorem c128 (a b : List UInt8) : SCalls Proofs.Try.prog 128 [.s (.lf (.str a)), .s (.lf (.str b))] [] (vI (compareBytes a b)) [] := by
  refine SCalls.intro tok Proofs.Try.func128 ?_
  conv => whnf
  refine CallK.mk' _ _ (c183 a b) ?_
  conv => whnf
  exact RetK.empty (okF.wv trivial)
end Go.Sym.Md
