/- Contracts of the program's functions, proved by the framework (text PoI), without conditions but those that each theorem states. -/
import Derived.Test.YtlmcdgbjbamdnaaPoH
set_option maxRecDepth 10000
set_option linter.unusedVariables false
set_option linter.unusedSimpArgs false
namespace Go.Sym.Md
open Go Go.Sym Go.Sym.Sh
attribute [local irreducible] ws acc rs addUp Kw highA highB Sh.choose most lowA lowB ror blockF writeF padF toldF

/-- The sum of what was written. -/
def sumF (s : St) : List UInt8 := toldF (writeF s (padF s.n)).h
/-- A text's sum. -/
def shaF (b : List UInt8) : List UInt8 := sumF (writeF st0 b)

theorem padF_length (n : Nat) : (padF n).length = zeros n + 9 := by rw [padF]; exact pF_length n 8 (by omega)

set_option maxRecDepth 10000 in
/-- (*sha.Hash).Sum -/
theorem c132 (s : St) (hs : s.ok) (hn : s.n ≤ 576460752303423488) : SCalls Proofs.Try.prog 132 [.s (.lf (.ptr 0 0))] [some (obSt s)] (.s (.lf (.str (sumF s)))) [some (obSt s)] := by
  refine SCalls.intro tok Proofs.Try.func132 ?_
  conv => whnf
  refine CallK.mk' _ _ ((c187 s.n hn).free _ ⟨trivial, trivial⟩ trivial) ?_
  conv => whnf
  have hz := zeros_lt s.n
  refine CallK.mk' _ [some (obSt s), some (obSt (writeF s (padF s.n)))] ((c186 s hs (padF s.n) (by rw [padF_length]; omega)).frame1 (nm := 1) rfl rfl (freeGs.ws ⟨trivial, trivial, trivial, trivial, trivial⟩) ⟨WV.lf (WL.ptr rfl rfl), WV.lf (WL.rob rfl (by simp) (by simp)), trivial⟩ rfl (freeGs.ws ⟨trivial, trivial, trivial, trivial, trivial⟩) (freeF.wv trivial)) ?_
  conv => whnf
  refine CallK.mk' _ _ ((c188 _ (writeF_ok hs _).h).free _ ⟨⟨trivial, trivial⟩, trivial⟩ trivial) ?_
  conv => whnf
  exact RetK.of ⟨rfl, okGs.ws (by exact ⟨trivial, trivial, trivial, trivial, trivial⟩), trivial⟩ (by simp) (okF.wv trivial)

set_option maxRecDepth 10000 in
/-- sha.Sum -/
theorem c235 (b : List UInt8) (hb : b.length ≤ 576460752303423488) : SCalls Proofs.Try.prog 235 [.s (.lf (.rob false false b))] [] (.s (.lf (.str (shaF b)))) [] := by
  refine SCalls.intro tok Proofs.Try.func235 ?_
  conv => whnf
  refine CallK.mk' _ _ c185 ?_
  conv => whnf
  have h0 : st0.ok := ⟨rfl, by simp [st0]⟩
  have hl : (writeF st0 b).n = b.length := by rw [writeF_n]; simp [st0]
  refine CallK.mk' _ [some (obSt (writeF st0 b))] (c186 st0 h0 b (by show 0 + b.length < _; omega)) ?_
  conv => whnf
  refine CallK.mk' _ [some (obSt (writeF st0 b))] (c132 _ (writeF_ok h0 b) (by rw [hl]; exact hb)) ?_
  conv => whnf
  exact RetK.empty (okF.wv trivial)

end Go.Sym.Md
