/- Contracts of the program's functions, proved by the framework (text PoP), without conditions but those that each theorem states. -/
import Derived.Test.YtlmcdgbjbamdnaaPoJ
import Derived.Test.YtlmcdgbjbamdnaaFw7
set_option linter.unusedVariables false
set_option linter.unusedSimpArgs false
set_option maxRecDepth 10000
namespace Go.Sym.Md
open Go Go.Sym Go.Sym.Sh
attribute [local irreducible] ws acc rs addUp Kw highA highB Sh.choose most lowA lowB ror blockF writeF padF toldF shaF

/-- The first i pieces, joined. -/
def joined (xs : Nat → List UInt8) : Nat → List UInt8
  | 0 => []
  | i + 1 => joined xs i ++ xs i

theorem obSt_ws {D : Rel} (s : St) : WSs D (obSt s).segs (obSt s).segs := plainGs.ws ⟨trivial, trivial, trivial, trivial, trivial⟩

theorem writeF_nil (s : St) : writeF s [] = s := by unfold writeF; rfl
theorem st0_ok : st0.ok := ⟨rfl, by simp [st0]⟩

/-- The state of the pieces' loop: with no piece yet, or with some. -/
def parFr (len : Nat) (f : Nat → Nat → LV) (i : Nat) (all : LV) : Fr :=
  [(3, .s (.lf (.ptr 0 0))), (4, .s (.lf all)), (12, .s (.lf (.ro false false 1 len f))), (13, vI len), (14, vI i)]

end Go.Sym.Md
