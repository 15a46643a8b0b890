/- Contracts of the program's functions, proved by the framework (text ShI), without conditions but those that each theorem states. -/
import Derived.Test.YtbmbklbijnpdfaaShH
set_option linter.unusedVariables false
set_option linter.unusedSimpArgs false
namespace Go.Sym.Sh
open Go Go.Sym
attribute [local irreducible] ws acc rs addUp Kw highA highB choose most lowA lowB ror blockF writeF padF toldF

/-- The sum of what was written. -/
def sumF (s : St) : List UInt8 := toldF (writeF s (padF s.n)).h
/-- A text's sum. -/
def shaF (b : List UInt8) : List UInt8 := sumF (writeF st0 b)

theorem padF_length (n : Nat) : (padF n).length = zeros n + 9 := by rw [padF]; exact pF_length n 8 (by omega)

set_option maxRecDepth 10000 in
/-- (*sha.Hash).Sum -/
theorem c20 (s : St) (hs : s.ok) (hn : s.n ≤ 576460752303423488) : SCalls Proofs.Try.prog 20 [.s (.lf (.ptr 0 0))] [some (obSt s)] (.s (.lf (.str (sumF s)))) [some (obSt s)] := by
  refine SCalls.intro tok Proofs.Try.func20 ?_
  conv => whnf
  refine CallK.mk' _ _ ((c18 s.n hn).free _ ⟨trivial, trivial⟩ trivial) ?_
  conv => whnf
  have hz := zeros_lt s.n
  refine CallK.mk' _ [some (obSt s), some (obSt (writeF s (padF s.n)))] ((c19 s hs (padF s.n) (by rw [padF_length]; omega)).frame1 (nm := 1) rfl rfl (freeGs.ws ⟨trivial, trivial, trivial, trivial, trivial⟩) ⟨WV.lf (WL.ptr rfl rfl), WV.lf (WL.rob rfl (by simp) (by simp)), trivial⟩ rfl (freeGs.ws ⟨trivial, trivial, trivial, trivial, trivial⟩) (freeF.wv trivial)) ?_
  conv => whnf
  refine CallK.mk' _ _ ((c44 _ (writeF_ok hs _).h).free _ ⟨⟨trivial, trivial⟩, trivial⟩ trivial) ?_
  conv => whnf
  exact RetK.of ⟨rfl, okGs.ws (by exact ⟨trivial, trivial, trivial, trivial, trivial⟩), trivial⟩ (by simp) (okF.wv trivial)

set_option maxRecDepth 10000 in
/-- sha.Sum -/
theorem c24 (b : List UInt8) (hb : b.length ≤ 576460752303423488) : SCalls Proofs.Try.prog 24 [.s (.lf (.rob false false b))] [] (.s (.lf (.str (shaF b)))) [] := by
  refine SCalls.intro tok Proofs.Try.func24 ?_
  conv => whnf
  refine CallK.mk' _ _ c22 ?_
  conv => whnf
  have h0 : st0.ok := ⟨rfl, by simp [st0]⟩
  have hl : (writeF st0 b).n = b.length := by rw [writeF_n]; simp [st0]
  refine CallK.mk' _ [some (obSt (writeF st0 b))] (c19 st0 h0 b (by show 0 + b.length < _; omega)) ?_
  conv => whnf
  refine CallK.mk' _ [some (obSt (writeF st0 b))] (c20 _ (writeF_ok h0 b) (by rw [hl]; exact hb)) ?_
  conv => whnf
  exact RetK.empty (okF.wv trivial)

end Go.Sym.Sh
