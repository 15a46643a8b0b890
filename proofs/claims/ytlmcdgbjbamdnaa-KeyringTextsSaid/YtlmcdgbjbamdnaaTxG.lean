/- Contracts of the program's functions, proved by the framework (text TxG), without conditions but those that each theorem states. -/
import Derived.Test.YtlmcdgbjbamdnaaTxF
import Derived.Test.YtlmcdgbjbamdnaaFw7
import Derived.KernelRfl
set_option linter.unusedVariables false
set_option linter.unusedSimpArgs false
set_option maxRecDepth 10000
namespace Go.Sym.Md
open Go Go.Sym Go.Sym.Sh

attribute [local irreducible] numF checkF hasF okC boundF numR textR readC putC codeC parseC tagF nn headF firstF chainF mintF weakT openF

/-- baileylaw08.awake -/
theorem c98 : SCalls Proofs.Try.prog 98 [] [] (.s (.lf .tt)) [] := by
  have hm : maxLen = 9223372036854775807 := rfl
  have k97 := c97 [107] 1 2 3 (by simp)
  rw [aw_mint, aw_head, if_pos rfl] at k97
  have k99 := c99n awT awC aw_okT aw_ok (by decide) rfl
  rw [aw_weak, show awT.cs ++ [awC] = [awC] from rfl] at k99
  refine SCalls.intro tok Proofs.Try.func98 ?_
  conv => whnf
  refine CallK.mk' _ _ k97 ?_
  conv => whnf
  obtain ⟨H1, hH1⟩ : ∃ H1 : Hp, H1 = [some ⟨52, segsU awT .sl0⟩] := ⟨_, rfl⟩
  obtain ⟨H2, hH2⟩ : ∃ H2 : Hp, H2 = [some ⟨52, segsU awT .sl0⟩, some ⟨52, segsU awU (rowT [awC])⟩] := ⟨_, rfl⟩
  have q99 := k99.free H1 ⟨⟨trivial, trivial, trivial, trivial, trivial, trivial⟩, ⟨trivial, trivial, trivial, trivial⟩, trivial⟩ ⟨⟨trivial, trivial, trivial, rowT_free (cs := [awC]), trivial, trivial⟩, trivial, trivial⟩
  have q1 := (c100 [107] awT (by simp) (by decide) (by decide)).pure H2 (cs := [.s (.lf (.str [107])), vTu awT .sl0]) ⟨freeF.wv trivial, WV.agg ⟨.one (WL.int rfl), .one (WL.int rfl), .one (WL.int rfl), .one WL.sl0ro, .one (WL.str rfl), trivial⟩, trivial⟩ (freeF.wv trivial)
  have q2 := (c100 [107] awU (by simp) (by decide) (by decide)).pure H2 (cs := [.s (.lf (.str [107])), vTu awU (rowT [awC])]) ⟨freeF.wv trivial, WV.agg ⟨.one (WL.int rfl), .one (WL.int rfl), .one (WL.int rfl), .one rowT_vR, .one (WL.str rfl), trivial⟩, trivial⟩ (freeF.wv trivial)
  have q3 := (c100 [106] awU (by simp) (by decide) (by decide)).pure H2 (cs := [.s (.lf (.str [106])), vTu awU (rowT [awC])]) ⟨freeF.wv trivial, WV.agg ⟨.one (WL.int rfl), .one (WL.int rfl), .one (WL.int rfl), .one rowT_vR, .one (WL.str rfl), trivial⟩, trivial⟩ (freeF.wv trivial)
  rw [aw_o1] at q1
  rw [aw_o2] at q2
  rw [aw_o3] at q3
  subst hH1 hH2
  refine CallK.mk' _ _ q99 ?_
  conv => whnf
  repeat ((first | refine CallK.mk' _ _ q1 ?_ | refine CallK.mk' _ _ q2 ?_ | refine CallK.mk' _ _ q3 ?_ | refine CaseB.of_true rfl ?_ | refine CaseB.of_true (by decide) ?_); conv => whnf)
  exact RetK.empty (WV.lf (WL.btt (by decide)))

def fewT (t : TkS) : Bool := decide (t.cs.length ≤ 20 ∧ ∀ i, i < t.cs.length → (t.cs.getD i cv0).s.length ≤ 200) && decide ((t.tag.length : Int) ≤ 200)
theorem fewT_facts {t : TkS} (h : fewT t = true) : t.cs.length ≤ 20 ∧ t.tag.length ≤ 200 := by
  unfold fewT at h
  simp only [Bool.and_eq_true, decide_eq_true_eq] at h
  omega

/-- baileylaw08.few -/
theorem c102 (t : TkS) (hl : t.cs.length ≤ maxLen) : SCalls Proofs.Try.prog 102 [vT t] [] (.s (.lf (.bool (fewT t)))) [] := by
  have hm : maxLen = 9223372036854775807 := rfl
  refine SCalls.intro tok Proofs.Try.func102 ?_
  conv => whnf
  refine LoopK.mk1 (fun i : Nat => [(8, vI i), (7, vI t.cs.length), (6, vR t.cs), (2, .s (.lf .ff)), (1, .s (.lf (.ptr 0 0)))]) (fun i => [some (obT t)]) (fun i => i ≤ t.cs.length ∧ i ≤ 20 ∧ ∀ j, j < i → (t.cs.getD j cv0).s.length ≤ 200) (fun i => t.cs.length - i) 0 ⟨by omega, by omega, by omega⟩ ?_ ?_
  · exact Weak.of ⟨rfl, obT_ws t, trivial⟩ (by simp) ⟨okF.wv trivial, okF.wv trivial, okF.wv rowC_ok, okF.wv trivial, okF.wv rfl, trivial⟩
  rintro i ⟨hi, h20, hs⟩
  conv => whnf
  by_cases hi' : i < t.cs.length
  · refine CaseB.of_true (decide_eq_true (by omega)) ?_
    conv => whnf
    refine And.intro (by omega) ?_
    conv => whnf
    obtain ⟨c, hc⟩ : ∃ c, t.cs.getD i cv0 = c := ⟨_, rfl⟩
    have hi0 : t.cs.getD (Int.toNat (i : Int)) cv0 = c := by rw [Int.toNat_natCast]; exact hc
    rw [hi0]
    by_cases hx : 20 ≤ (i : Int)
    · repeat (refine CaseB.of_true (decide_eq_true hx) ?_; conv => whnf)
      exact RetK.empty (WV.lf (WL.ff (by unfold fewT; rw [decide_eq_false (fun h => by omega)]; rfl)))
    · by_cases hy : 200 < (c.s.length : Int)
      · repeat ((first | refine CaseB.of_false (decide_eq_false hx) ?_ | refine CaseB.of_true (decide_eq_true hy) ?_); conv => whnf)
        exact RetK.empty (WV.lf (WL.ff (by unfold fewT; rw [decide_eq_false (fun h => by have := h.2 i hi'; rw [hc] at this; omega)]; rfl)))
      · repeat ((first | refine CaseB.of_false (decide_eq_false hx) ?_ | refine CaseB.of_false (decide_eq_false hy) ?_); conv => whnf)
        refine ⟨i + 1, ⟨by omega, by omega, fun j hj => ?_⟩, by omega, ?_⟩
        · by_cases hji : j = i
          · subst hji; rw [hc]; omega
          · exact hs j (by omega)
        · exact Weak.of ⟨rfl, obT_ws t, trivial⟩ (by simp) ⟨WV.lf (WL.int (by rw [wrap_i64 (by omega) (by omega)]; omega)), okF.wv trivial, okF.wv rowC_ok, okF.wv trivial, okF.wv rfl, trivial⟩
  · refine CaseB.of_false (decide_eq_false (by omega)) ?_
    conv => whnf
    obtain rfl : i = t.cs.length := by omega
    exact RetK.empty (WV.lf (WL.bool (by unfold fewT; rw [decide_eq_true (⟨by omega, hs⟩ : t.cs.length ≤ 20 ∧ ∀ i, i < t.cs.length → (t.cs.getD i cv0).s.length ≤ 200), Bool.true_and])))
end Go.Sym.Md


set_option linter.unusedVariables false
set_option linter.unusedSimpArgs false
set_option maxRecDepth 10000
namespace Go.Sym.Md
open Go Go.Sym Go.Sym.Sh

/-- What stands in a lane's keys. -/
structure KS where
  d : Int
  s : Int
  a : List UInt8
  b : List UInt8
  c : List UInt8
/-- A lane's keys. -/
abbrev kO (x : KS) : OB := ⟨169, [.one (.int .u32 x.d), .one (.int .i32 x.s), .one (.int .u32 0), .one (.str x.a), .one (.str x.b), .one (.str x.c)]⟩
theorem kO_ws {D : Rel} [ROk D] {x : KS} : WSs D (kO x).segs (kO x).segs := ⟨.one (WL.int rfl), .one (WL.int rfl), .one (WL.int rfl), .one (WL.str rfl), .one (WL.str rfl), .one (WL.str rfl), trivial⟩

theorem puts_of {l l' : List Seg} {o : Nat} {v : LV} (h : sputK l o v fun x => x = l') : Puts l l' o v := by
  obtain ⟨l'', e, h⟩ := sputK_sound h
  rw [← e]; exact h

theorem add_run {P : Program} {k : IntKind} {x y s : Int} (h : k.wrap (x + y) = s) (w : World) : (Op.intArith .add k x y).run P w = .ok (.int k s) w := by
  subst h
  rfl

theorem x203 : Extern.find Proofs.Try.f203 = some (Extern.Atomic.loadT (.int .i64)) := by kernel_rfl
theorem y203 : Extern.findNext Proofs.Try.f203 = none := by kernel_rfl
theorem x222 : Extern.find Proofs.Try.f222 = some (Extern.Atomic.update (Op.intArith .add) .i64 true) := by kernel_rfl
theorem y222 : Extern.findNext Proofs.Try.f222 = none := by kernel_rfl
theorem x231 : Extern.find Proofs.Try.f231 = some (Extern.Atomic.loadT (.int .u32)) := by kernel_rfl
theorem y231 : Extern.findNext Proofs.Try.f231 = none := by kernel_rfl
theorem x241 : Extern.find Proofs.Try.f241 = some (Extern.Atomic.storeT) := by kernel_rfl
theorem y241 : Extern.findNext Proofs.Try.f241 = none := by kernel_rfl
theorem x244 : Extern.find Proofs.Try.f244 = some (fun _ => do mark .disable; pure Extern.Race.none_) := by kernel_rfl
theorem y244 : Extern.findNext Proofs.Try.f244 = none := by kernel_rfl
theorem x245 : Extern.find Proofs.Try.f245 = some (Extern.Atomic.casT (.int .i32)) := by kernel_rfl
theorem y245 : Extern.findNext Proofs.Try.f245 = none := by kernel_rfl
theorem x246 : Extern.find Proofs.Try.f246 = some (fun _ => do mark .enable; pure Extern.Race.none_) := by kernel_rfl
theorem y246 : Extern.findNext Proofs.Try.f246 = none := by kernel_rfl
theorem x247 : Extern.find Proofs.Try.f247 = some (Extern.Race.marked .acquire) := by kernel_rfl
theorem y247 : Extern.findNext Proofs.Try.f247 = none := by kernel_rfl
theorem x249 : Extern.find Proofs.Try.f249 = some (Extern.Race.marked .releaseMerge) := by kernel_rfl
theorem y249 : Extern.findNext Proofs.Try.f249 = none := by kernel_rfl
theorem x250 : Extern.find Proofs.Try.f250 = some (Extern.Atomic.update (Op.intArith .add) .i32 true) := by kernel_rfl
theorem y250 : Extern.findNext Proofs.Try.f250 = none := by kernel_rfl

theorem u242 : Proofs.Try.prog.underlying 242 = some (.pointer 163) := by kernel_rfl
theorem u246 : Proofs.Try.prog.underlying 246 = some .unsafePointer := by kernel_rfl
theorem z163 : (Proofs.Try.prog.info? 163).map (fun i => decide (i.size = 0)) = some false := by kernel_rfl

/-- (*sync/atomic.Bool).Load -/
theorem c219 (x : KS) : SCalls Proofs.Try.prog 219 [.s (.lf (.ptr 0 0))] [some (kO x)] (.s (.lf (.bool (!decide (x.d = 0))))) [some (kO x)] := by
  refine SCalls.intro tok Proofs.Try.func219 ?_
  conv => whnf
  refine ⟨⟨_, _, sem_load Proofs.Try.func231 rfl rfl y231 .u32 x231 (ob := kO x) rfl (by simp [tot, Seg.width]) rfl, ?_⟩⟩
  conv => whnf
  rw [show decide (x.d ≠ 0) = !decide (x.d = 0) by by_cases h : x.d = 0 <;> simp [h]]
  exact RetK.of ⟨rfl, kO_ws, trivial⟩ (by simp) (okF.wv trivial)

/-- b32 -/
theorem c242 : SCalls Proofs.Try.prog 242 [.s (.lf .tt)] [] (.s (.lf (.int .u32 1))) [] := by
  refine SCalls.intro tok Proofs.Try.func242 ?_
  conv => whnf
  exact RetK.empty (okF.wv trivial)

/-- (*internal/sync.Mutex).Lock -/
theorem c239 (x : KS) (hx : x.s = 0) : SCalls Proofs.Try.prog 239 [.s (.lf (.ptr 0 1))] [some (kO x)] (.tup []) [some (kO { x with s := 1 })] := by
  obtain ⟨d, s, a, b, c⟩ := x
  subst hx
  refine SCalls.introD tok Proofs.Try.func239 ?_
  conv => whnf
  refine ⟨⟨_, _, sem_mark0 Proofs.Try.func244 rfl rfl y244 _ x244, ?_⟩⟩
  conv => whnf
  refine ⟨⟨_, _, sem_cas Proofs.Try.func245 rfl rfl y245 .i32 x245 (ob := kO ⟨d, 0, a, b, c⟩) rfl rfl (l' := (kO ⟨d, 1, a, b, c⟩).segs) (puts_of rfl), ?_⟩⟩
  conv => whnf
  refine ⟨⟨_, _, sem_mark0 Proofs.Try.func246 rfl rfl y246 _ x246, ?_⟩⟩
  conv => whnf
  refine .inr ⟨_, _, sem_unsafe rfl u242 u246 z163 rfl (ob := kO ⟨d, 1, a, b, c⟩) rfl (by simp [tot, Seg.width]), ?_⟩
  conv => whnf
  refine ⟨⟨_, _, sem_marked Proofs.Try.func247 rfl rfl y247 _ x247 (ob := kO ⟨d, 1, a, b, c⟩) rfl, ?_⟩⟩
  conv => whnf
  exact RetK.of ⟨rfl, kO_ws (x := ⟨_, _, _, _, _⟩), trivial⟩ (by simp) (okF.wv trivial)

/-- (*internal/sync.Mutex).Unlock -/
theorem c240 (x : KS) (hx : x.s = 1) : SCalls Proofs.Try.prog 240 [.s (.lf (.ptr 0 1))] [some (kO x)] (.tup []) [some (kO { x with s := 0 })] := by
  obtain ⟨d, s, a, b, c⟩ := x
  subst hx
  refine SCalls.introD tok Proofs.Try.func240 ?_
  conv => whnf
  refine .inr ⟨_, _, sem_unsafe rfl u242 u246 z163 rfl (ob := kO ⟨d, 1, a, b, c⟩) rfl (by simp [tot, Seg.width]), ?_⟩
  conv => whnf
  refine ⟨⟨_, _, sem_marked Proofs.Try.func249 rfl rfl y249 _ x249 (ob := kO ⟨d, 1, a, b, c⟩) rfl, ?_⟩⟩
  conv => whnf
  refine ⟨⟨_, _, sem_mark0 Proofs.Try.func244 rfl rfl y244 _ x244, ?_⟩⟩
  conv => whnf
  refine ⟨⟨_, _, sem_add Proofs.Try.func250 rfl rfl y250 .i32 x250 (ob := kO ⟨d, 1, a, b, c⟩) rfl rfl (s := 0) (l' := (kO ⟨d, 0, a, b, c⟩).segs) (puts_of rfl) (add_run (x := 1) (y := -1) (by decide)) (by decide), ?_⟩⟩
  conv => whnf
  refine CaseB.of_false (by decide) ?_
  conv => whnf
  refine ⟨⟨_, _, sem_mark0 Proofs.Try.func246 rfl rfl y246 _ x246, ?_⟩⟩
  conv => whnf
  exact RetK.of ⟨rfl, kO_ws (x := ⟨_, _, _, _, _⟩), trivial⟩ (by simp) (okF.wv trivial)

/-- (*sync.Mutex).Lock -/
theorem c232 (x : KS) (hx : x.s = 0) : SCalls Proofs.Try.prog 232 [.s (.lf (.ptr 0 1))] [some (kO x)] (.tup []) [some (kO { x with s := 1 })] := by
  refine SCalls.intro tok Proofs.Try.func232 ?_
  conv => whnf
  refine CallK.mk' _ _ (c239 x hx) ?_
  conv => whnf
  exact RetK.of ⟨rfl, kO_ws (x := ⟨_, _, _, _, _⟩), trivial⟩ (by simp) (okF.wv trivial)

end Go.Sym.Md

set_option linter.unusedVariables false
set_option linter.unusedSimpArgs false
set_option maxRecDepth 10000
namespace Go.Sym.Md
open Go Go.Sym Go.Sym.Sh

/-- A ring, its row of lanes, and all lanes' keys. -/
abbrev rgO (m : List UInt8) (n : Int) : OB := ⟨106, [.one (.str m), .one (.own 1 0 1 0 5), .one (.int .i64 n)]⟩
abbrev rwO : OB := ⟨157, [.recs 1 5 fun i _ => .ptr (2 + i) 0]⟩
abbrev hG (m : List UInt8) (n : Int) (x0 x1 x2 x3 x4 : KS) : Hp := [some (rgO m n), some rwO, some (kO x0), some (kO x1), some (kO x2), some (kO x3), some (kO x4)]
/-- With what a call of Ring.of puts there. -/
abbrev hO (m : List UInt8) (n : Int) (x0 x1 x2 x3 x4 : KS) (z : Int) (j : Nat) : Hp :=
  [some (rgO m n), some rwO, some (kO x0), some (kO x1), some (kO x2), some (kO x3), some (kO x4), some ⟨91, [.one (.ptr 0 0)]⟩, some ⟨3, [.one (.int .i64 z)]⟩, some ⟨157, [.one (.ptr j 0)]⟩]

def b2 (b : Bool) : Int := match b with | true => 1 | false => 0
/-- Of how many lanes the keys are made. -/
def cnt (d : Nat → Bool) : Int := b2 (d 0) + b2 (d 1) + b2 (d 2) + b2 (d 3) + b2 (d 4)
def up (d : Nat → Bool) (j i : Nat) : Bool := match Nat.beq i j with | true => true | false => d i
theorem b2_01 (b : Bool) : 0 ≤ b2 b ∧ b2 b ≤ 1 := by cases b <;> simp [b2]
theorem cnt_nonneg (d : Nat → Bool) : 0 ≤ cnt d := by
  have := b2_01 (d 0); have := b2_01 (d 1); have := b2_01 (d 2); have := b2_01 (d 3); have := b2_01 (d 4)
  unfold cnt; omega
theorem cnt_le (d : Nat → Bool) : cnt d ≤ 5 := by
  have := b2_01 (d 0); have := b2_01 (d 1); have := b2_01 (d 2); have := b2_01 (d 3); have := b2_01 (d 4)
  unfold cnt; omega
/-- The function that Once is given. -/
abbrev vDo : LV := .fn 200 3 fun i => nthL [.ptr 7 0, .ptr 8 0, .ptr 9 0] i
/-- A lane's keys. -/
def kyF (m p : List UInt8) (j : Nat) : List UInt8 := tagF m (dF p j 8)
def tokenB : List UInt8 := [116, 111, 107, 101, 110]
def putB : List UInt8 := [112, 117, 116]
def getB : List UInt8 := [103, 101, 116]
attribute [local irreducible] tagF dF
/-- A lane's keys, made or not. -/
def kS (m : List UInt8) (j : Nat) (b : Bool) : KS := match b with | true => ⟨1, 0, kyF m tokenB j, kyF m putB j, kyF m getB j⟩ | false => ⟨0, 0, [], [], []⟩
abbrev hR (m : List UInt8) (d : Nat → Bool) : Hp := hG m (cnt d) (kS m 0 (d 0)) (kS m 1 (d 1)) (kS m 2 (d 2)) (kS m 3 (d 3)) (kS m 4 (d 4))
/-- The lane's keys are made, once the function of Once has run. -/
abbrev madeS (m : List UInt8) (x : KS) (j : Nat) : KS := ⟨x.d, x.s, kyF m tokenB j, kyF m putB j, kyF m getB j⟩
/-! ### Lane 0 -/
/-- (*sync/atomic.Int64).Add -/
theorem c202_0 (m : List UInt8) (n : Int) (x0 x1 x2 x3 x4 : KS) (hn : 0 ≤ n ∧ n < 1000) : SCalls Proofs.Try.prog 202 [.s (.lf (.ptr 0 2)), vI 1] (hO m n x0 x1 x2 x3 x4 0 2) (vI (n + 1)) (hO m (n + 1) x0 x1 x2 x3 x4 0 2) := by
  refine SCalls.intro tok Proofs.Try.func202 ?_
  conv => whnf
  refine ⟨⟨_, _, sem_add Proofs.Try.func222 rfl rfl y222 .i64 x222 (ob := rgO m n) rfl rfl (s := n + 1) (l' := (rgO m (n + 1)).segs) (puts_of rfl) (add_run (x := n) (y := 1) (wrap_i64 (by omega) (by omega))) (by show (-9223372036854775808 : Int) ≤ n + 1 ∧ n + 1 ≤ 9223372036854775807; omega), ?_⟩⟩
  conv => whnf
  exact RetK.same (H := (hO m (n + 1) x0 x1 x2 x3 x4 0 2)) rfl (by simp) (okF.wv trivial)

/-- derive -/
theorem c201_0 (m : List UInt8) (n : Int) (x0 x1 x2 x3 x4 : KS) (hm : m.length ≤ 1000) (p : List UInt8) (hp : p.length ≤ 1000) :
    SCalls Proofs.Try.prog 201 [.s (.lf (.ptr 0 0)), .s (.lf (.str p)), vI 0] (hO m n x0 x1 x2 x3 x4 0 2) (.s (.lf (.str (kyF m p 0)))) (hO m n x0 x1 x2 x3 x4 0 2) := by
  refine SCalls.intro tok Proofs.Try.func201 ?_
  conv => whnf
  refine CallK.mk' _ _ ((c221 m p 0 (by omega) (by omega) 0 rfl).free _ ⟨trivial, trivial, trivial, trivial⟩ trivial) ?_
  conv => whnf
  exact RetK.same (H := (hO m n x0 x1 x2 x3 x4 0 2)) rfl (by simp) (okF.wv trivial)

/-- what Once does -/
theorem c200_0 (m : List UInt8) (n : Int) (x0 x1 x2 x3 x4 : KS) (hm : m.length ≤ 1000) (hn : 0 ≤ n ∧ n < 1000) :
    SCalls Proofs.Try.prog 200 [.s (.lf (.ptr 7 0)), .s (.lf (.ptr 8 0)), .s (.lf (.ptr 9 0))] (hO m n x0 x1 x2 x3 x4 0 2) (.tup []) (hO m (n + 1) (madeS m x0 0) x1 x2 x3 x4 0 2) := by
  refine SCalls.intro tok Proofs.Try.func200 ?_
  conv => whnf
  refine DrawK.mk1 tok mixed [0, 0, 0, 6, 15, 31, 63] [(0, 1, [0]), (1, 1, [0]), (2, 1, [0]), (3, 1, [0]), (4, 1, [0]), (5, 1, [0]), (6, 2, [])] (by kernel_rfl) ?_
  conv => whnf
  refine CallR.mk' _ (c201_0 m n x0 x1 x2 x3 x4 hm [116, 111, 107, 101, 110] (by decide)) ?_
  conv => whnf
  refine DrawK.mk1 tok mixed [0, 0, 0, 6, 15, 31, 63] [(0, 1, [0]), (1, 1, [0]), (2, 1, [0]), (3, 1, [0]), (4, 1, [0]), (5, 1, [0]), (6, 2, [])] (by kernel_rfl) ?_
  conv => whnf
  refine CallR.mk' _ (c201_0 m n (⟨x0.d, x0.s, kyF m [116, 111, 107, 101, 110] 0, x0.b, x0.c⟩) x1 x2 x3 x4 hm [112, 117, 116] (by decide)) ?_
  conv => whnf
  refine DrawK.mk1 tok mixed [0, 0, 0, 6, 15, 31, 63] [(0, 1, [0]), (1, 1, [0]), (2, 1, [0]), (3, 1, [0]), (4, 1, [0]), (5, 1, [0]), (6, 2, [])] (by kernel_rfl) ?_
  conv => whnf
  refine CallR.mk' _ (c201_0 m n (⟨x0.d, x0.s, kyF m [116, 111, 107, 101, 110] 0, kyF m [112, 117, 116] 0, x0.c⟩) x1 x2 x3 x4 hm [103, 101, 116] (by decide)) ?_
  conv => whnf
  refine CallK.mk' _ _ (c202_0 m n (madeS m x0 0) x1 x2 x3 x4 hn) ?_
  conv => whnf
  exact RetK.same (H := (hO m (n + 1) (madeS m x0 0) x1 x2 x3 x4 0 2)) rfl (by simp) (okF.wv trivial)
/-- (*sync.Mutex).Unlock, deferred -/
theorem c233_0 (m : List UInt8) (n : Int) (x0 x1 x2 x3 x4 : KS) (hs : x0.s = 1) : SCallsD Proofs.Try.prog 233 [.s (.lf (.ptr 2 1))] (hO m n x0 x1 x2 x3 x4 0 2) (.tup []) (hO m n ⟨x0.d, 0, x0.a, x0.b, x0.c⟩ x1 x2 x3 x4 0 2) := by
  refine SCallsD.intro tok Proofs.Try.func233 ?_
  conv => whnf
  refine CallK.mk' _ _ ((c240 x0 hs).frame1 (nm := 2) (ob2 := kO ⟨x0.d, 0, x0.a, x0.b, x0.c⟩) rfl rfl kO_ws ⟨WV.lf (WL.ptr rfl rfl), trivial⟩ rfl (kO_ws (x := ⟨_, _, _, _, _⟩)) (freeF.wv trivial)) ?_
  conv => whnf
  exact RetK.same (H := (hO m n ⟨x0.d, 0, x0.a, x0.b, x0.c⟩ x1 x2 x3 x4 0 2)) rfl (by simp) (okF.wv trivial)

/-- (*sync/atomic.Bool).Store, deferred -/
theorem c234_0 (m : List UInt8) (n : Int) (x0 x1 x2 x3 x4 : KS) : SCallsD Proofs.Try.prog 234 [.s (.lf (.ptr 2 0)), .s (.lf .tt)] (hO m n x0 x1 x2 x3 x4 0 2) (.tup []) (hO m n ⟨1, x0.s, x0.a, x0.b, x0.c⟩ x1 x2 x3 x4 0 2) := by
  refine SCallsD.intro tok Proofs.Try.func234 ?_
  conv => whnf
  refine DrawK.mk1 tok mixed [0, 1, 3, 0, 8, 31] [(0, 0, []), (3, 0, []), (4, 2, []), (1, 1, [0, 1]), (2, 1, [0, 1]), (5, 2, [])] (by kernel_rfl) ?_
  conv => whnf
  refine CallK.mk' _ _ (c242.free _ ⟨trivial, trivial⟩ trivial) ?_
  conv => whnf
  repeat (refine And.intro rfl ?_; conv => whnf)
  refine ⟨⟨_, _, sem_store Proofs.Try.func241 rfl rfl y241 x241 (ob := kO x0) rfl (l' := (kO ⟨1, x0.s, x0.a, x0.b, x0.c⟩).segs) (puts_of rfl), ?_⟩⟩
  conv => whnf
  exact RetK.same (H := (hO m n ⟨1, x0.s, x0.a, x0.b, x0.c⟩ x1 x2 x3 x4 0 2)) rfl (by simp) (okF.wv trivial)

/-- (*sync.Once).doSlow -/
theorem c220_0 (m : List UInt8) (n : Int) (x0 x1 x2 x3 x4 : KS) (hm : m.length ≤ 1000) (hn : 0 ≤ n ∧ n < 1000) (hd : x0.d = 0) (hs : x0.s = 0) :
    SCalls Proofs.Try.prog 220 [.s (.lf (.ptr 2 0)), .s (.lf vDo)] (hO m n x0 x1 x2 x3 x4 0 2) (.tup []) (hO m (n + 1) ⟨1, 0, kyF m tokenB 0, kyF m putB 0, kyF m getB 0⟩ x1 x2 x3 x4 0 2) := by
  refine SCalls.introD tok Proofs.Try.func220 ?_
  conv => whnf
  refine CallK.mk' _ _ ((c232 x0 hs).frame1 (nm := 2) (ob2 := kO ⟨x0.d, 1, x0.a, x0.b, x0.c⟩) rfl rfl kO_ws ⟨WV.lf (WL.ptr rfl rfl), trivial⟩ rfl (kO_ws (x := ⟨_, _, _, _, _⟩)) (freeF.wv trivial)) ?_
  conv => whnf
  refine CallK.mk' _ _ ((c219 ⟨x0.d, 1, x0.a, x0.b, x0.c⟩).frame1 (nm := 2) (ob2 := kO ⟨x0.d, 1, x0.a, x0.b, x0.c⟩) rfl rfl (kO_ws (x := ⟨_, _, _, _, _⟩)) ⟨WV.lf (WL.ptr rfl rfl), trivial⟩ rfl (kO_ws (x := ⟨_, _, _, _, _⟩)) (freeF.wv trivial)) ?_
  conv => whnf
  refine CaseB.of_true (by rw [hd]; rfl) ?_
  conv => whnf
  refine CallK.mk' _ _ (c200_0 m n ⟨x0.d, 1, x0.a, x0.b, x0.c⟩ x1 x2 x3 x4 hm hn) ?_
  conv => whnf
  refine CallKD.mk' _ _ (c234_0 m (n + 1) ⟨x0.d, 1, kyF m tokenB 0, kyF m putB 0, kyF m getB 0⟩ x1 x2 x3 x4) ?_
  conv => whnf
  refine CallKD.mk' _ _ (c233_0 m (n + 1) ⟨1, 1, kyF m tokenB 0, kyF m putB 0, kyF m getB 0⟩ x1 x2 x3 x4 rfl) ?_
  conv => whnf
  exact RetK.same (H := (hO m (n + 1) ⟨1, 0, kyF m tokenB 0, kyF m putB 0, kyF m getB 0⟩ x1 x2 x3 x4 0 2)) rfl (by simp) (okF.wv trivial)

/-- (*sync.Once).Do -/
theorem c199_0 (m : List UInt8) (n : Int) (x0 x1 x2 x3 x4 : KS) (hm : m.length ≤ 1000) (hn : 0 ≤ n ∧ n < 1000) (hd : x0.d = 0) (hs : x0.s = 0) :
    SCalls Proofs.Try.prog 199 [.s (.lf (.ptr 2 0)), .s (.lf vDo)] (hO m n x0 x1 x2 x3 x4 0 2) (.tup []) (hO m (n + 1) ⟨1, 0, kyF m tokenB 0, kyF m putB 0, kyF m getB 0⟩ x1 x2 x3 x4 0 2) := by
  refine SCalls.intro tok Proofs.Try.func199 ?_
  conv => whnf
  refine CallK.mk' _ _ ((c219 x0).frame1 (nm := 2) (ob2 := kO x0) rfl rfl kO_ws ⟨WV.lf (WL.ptr rfl rfl), trivial⟩ rfl kO_ws (freeF.wv trivial)) ?_
  conv => whnf
  refine CaseB.of_true (by rw [hd]; rfl) ?_
  conv => whnf
  refine CallK.mk' _ _ (c220_0 m n x0 x1 x2 x3 x4 hm hn hd hs) ?_
  conv => whnf
  exact RetK.same (H := (hO m (n + 1) ⟨1, 0, kyF m tokenB 0, kyF m putB 0, kyF m getB 0⟩ x1 x2 x3 x4 0 2)) rfl (by simp) (okF.wv trivial)
theorem c199d_0 (m : List UInt8) (n : Int) (x0 x1 x2 x3 x4 : KS) (hd : x0.d = 1) : SCalls Proofs.Try.prog 199 [.s (.lf (.ptr 2 0)), .s (.lf vDo)] (hO m n x0 x1 x2 x3 x4 0 2) (.tup []) (hO m n x0 x1 x2 x3 x4 0 2) := by
  refine SCalls.intro tok Proofs.Try.func199 ?_
  conv => whnf
  refine CallK.mk' _ _ ((c219 x0).frame1 (nm := 2) (ob2 := kO x0) rfl rfl kO_ws ⟨WV.lf (WL.ptr rfl rfl), trivial⟩ rfl kO_ws (freeF.wv trivial)) ?_
  conv => whnf
  refine CaseB.of_false (by rw [hd]; rfl) ?_
  conv => whnf
  exact RetK.same (H := (hO m n x0 x1 x2 x3 x4 0 2)) rfl (by simp) (okF.wv trivial)

/-- (*keyring.Ring).of -/
theorem c154_0 (m : List UInt8) (n : Int) (x0 x1 x2 x3 x4 : KS) (hm : m.length ≤ 1000) (hn : 0 ≤ n ∧ n < 1000) (hd : x0.d = 0) (hs : x0.s = 0) :
    SCalls Proofs.Try.prog 154 [.s (.lf (.ptr 0 0)), vI 0] (hG m n x0 x1 x2 x3 x4) (.tup [.lf (.ptr 2 0), .lf (.int .i64 0)]) (hG m (n + 1) ⟨1, 0, kyF m tokenB 0, kyF m putB 0, kyF m getB 0⟩ x1 x2 x3 x4) := by
  refine SCalls.intro tok Proofs.Try.func154 ?_
  conv => whnf
  refine CaseB.of_false rfl ?_
  conv => whnf
  refine DrawK.mk1 tok mixed [0, 1, 3, 7, 7, 23, 55, 119, 247, 511, 1023] [(0, 1, [0]), (1, 0, []), (2, 0, []), (3, 1, [0]), (4, 1, [0]), (5, 1, [0]), (6, 1, [0]), (7, 1, [0]), (8, 1, [0]), (9, 0, []), (10, 0, [])] (by kernel_rfl) ?_
  conv => whnf
  repeat (refine CaseB.of_false rfl ?_; conv => whnf)
  refine DrawK.mk1 tok mixed [0, 1, 3, 7, 0, 31, 63, 0, 255] [(7, 2, []), (0, 1, [0, 1]), (1, 1, [0, 1]), (2, 1, [0, 1]), (3, 1, [0, 1]), (4, 1, [0, 1]), (5, 1, [0, 1]), (6, 1, [0, 1]), (8, 2, [])] (by kernel_rfl) ?_
  conv => whnf
  repeat (refine And.intro (by first | rfl | omega) ?_; conv => whnf)
  refine CallK.mk' _ _ (c199_0 m n x0 x1 x2 x3 x4 hm hn hd hs) ?_
  conv => whnf
  exact RetK.more (H := hG m (n + 1) ⟨1, 0, kyF m tokenB 0, kyF m putB 0, kyF m getB 0⟩ x1 x2 x3 x4) [_, _, _] rfl (by simp) (WV.tup ⟨WV.lf (WL.ptr rfl rfl), WV.lf (WL.int rfl), trivial⟩)
theorem c154d_0 (m : List UInt8) (n : Int) (x0 x1 x2 x3 x4 : KS) (hd : x0.d = 1) :
    SCalls Proofs.Try.prog 154 [.s (.lf (.ptr 0 0)), vI 0] (hG m n x0 x1 x2 x3 x4) (.tup [.lf (.ptr 2 0), .lf (.int .i64 0)]) (hG m n x0 x1 x2 x3 x4) := by
  refine SCalls.intro tok Proofs.Try.func154 ?_
  conv => whnf
  refine CaseB.of_false rfl ?_
  conv => whnf
  refine DrawK.mk1 tok mixed [0, 1, 3, 7, 7, 23, 55, 119, 247, 511, 1023] [(0, 1, [0]), (1, 0, []), (2, 0, []), (3, 1, [0]), (4, 1, [0]), (5, 1, [0]), (6, 1, [0]), (7, 1, [0]), (8, 1, [0]), (9, 0, []), (10, 0, [])] (by kernel_rfl) ?_
  conv => whnf
  repeat (refine CaseB.of_false rfl ?_; conv => whnf)
  refine DrawK.mk1 tok mixed [0, 1, 3, 7, 0, 31, 63, 0, 255] [(7, 2, []), (0, 1, [0, 1]), (1, 1, [0, 1]), (2, 1, [0, 1]), (3, 1, [0, 1]), (4, 1, [0, 1]), (5, 1, [0, 1]), (6, 1, [0, 1]), (8, 2, [])] (by kernel_rfl) ?_
  conv => whnf
  repeat (refine And.intro (by first | rfl | omega) ?_; conv => whnf)
  refine CallK.mk' _ _ (c199d_0 m n x0 x1 x2 x3 x4 hd) ?_
  conv => whnf
  exact RetK.more (H := hG m n x0 x1 x2 x3 x4) [_, _, _] rfl (by simp) (WV.tup ⟨WV.lf (WL.ptr rfl rfl), WV.lf (WL.int rfl), trivial⟩)

theorem c154R_0 (m : List UInt8) (d : Nat → Bool) (hm : m.length ≤ 1000) : SCalls Proofs.Try.prog 154 [.s (.lf (.ptr 0 0)), vI 0] (hR m d) (.tup [.lf (.ptr 2 0), .lf (.int .i64 0)]) (hR m (up d 0)) := by
  cases h : d 0 with
  | true =>
    have e : hR m (up d 0) = hR m d := by
      have : up d 0 = d := by
        funext i
        unfold up
        split
        · rename_i hi
          rw [Nat.eq_of_beq_eq_true hi, h]
        · rfl
      rw [this]
    rw [e]
    exact c154d_0 m (cnt d) _ _ _ _ _ (by rw [h]; rfl)
  | false =>
    have e : cnt (up d 0) = cnt d + 1 := by
      unfold cnt
      rw [h]
      simp [up, b2, Nat.beq] <;> omega
    have k := c154_0 m (cnt d) (kS m 0 (d 0)) (kS m 1 (d 1)) (kS m 2 (d 2)) (kS m 3 (d 3)) (kS m 4 (d 4)) hm ⟨cnt_nonneg d, by have := cnt_le d; omega⟩ (by rw [h]; rfl) (by rw [h]; rfl)
    rw [← e] at k
    exact k
theorem c88_0 (m : List UInt8) (d : Nat → Bool) (hm : m.length ≤ 1000) : SCalls Proofs.Try.prog 88 [.s (.lf (.ptr 0 0)), vI 0] (hR m d) (.tup [.lf (.str (kyF m tokenB 0)), .lf (.int .i64 0)]) (hR m (up d 0)) := by
  refine SCalls.intro tok Proofs.Try.func88 ?_
  conv => whnf
  refine CallK.mk' _ _ (c154R_0 m d hm) ?_
  conv => whnf
  refine CaseB.of_false rfl ?_
  conv => whnf
  exact RetK.same (H := hR m (up d 0)) rfl (by simp) (WV.tup ⟨WV.lf (WL.str rfl), WV.lf (WL.int rfl), trivial⟩)
theorem c89_0 (m : List UInt8) (d : Nat → Bool) (hm : m.length ≤ 1000) : SCalls Proofs.Try.prog 89 [.s (.lf (.ptr 0 0)), vI 0] (hR m d) (.tup [.lf (.str (kyF m putB 0)), .lf (.int .i64 0)]) (hR m (up d 0)) := by
  refine SCalls.intro tok Proofs.Try.func89 ?_
  conv => whnf
  refine CallK.mk' _ _ (c154R_0 m d hm) ?_
  conv => whnf
  refine CaseB.of_false rfl ?_
  conv => whnf
  exact RetK.same (H := hR m (up d 0)) rfl (by simp) (WV.tup ⟨WV.lf (WL.str rfl), WV.lf (WL.int rfl), trivial⟩)
theorem c90_0 (m : List UInt8) (d : Nat → Bool) (hm : m.length ≤ 1000) : SCalls Proofs.Try.prog 90 [.s (.lf (.ptr 0 0)), vI 0] (hR m d) (.tup [.lf (.str (kyF m getB 0)), .lf (.int .i64 0)]) (hR m (up d 0)) := by
  refine SCalls.intro tok Proofs.Try.func90 ?_
  conv => whnf
  refine CallK.mk' _ _ (c154R_0 m d hm) ?_
  conv => whnf
  refine CaseB.of_false rfl ?_
  conv => whnf
  exact RetK.same (H := hR m (up d 0)) rfl (by simp) (WV.tup ⟨WV.lf (WL.str rfl), WV.lf (WL.int rfl), trivial⟩)
/-! ### Lane 1 -/
/-- (*sync/atomic.Int64).Add -/
theorem c202_1 (m : List UInt8) (n : Int) (x0 x1 x2 x3 x4 : KS) (hn : 0 ≤ n ∧ n < 1000) : SCalls Proofs.Try.prog 202 [.s (.lf (.ptr 0 2)), vI 1] (hO m n x0 x1 x2 x3 x4 1 3) (vI (n + 1)) (hO m (n + 1) x0 x1 x2 x3 x4 1 3) := by
  refine SCalls.intro tok Proofs.Try.func202 ?_
  conv => whnf
  refine ⟨⟨_, _, sem_add Proofs.Try.func222 rfl rfl y222 .i64 x222 (ob := rgO m n) rfl rfl (s := n + 1) (l' := (rgO m (n + 1)).segs) (puts_of rfl) (add_run (x := n) (y := 1) (wrap_i64 (by omega) (by omega))) (by show (-9223372036854775808 : Int) ≤ n + 1 ∧ n + 1 ≤ 9223372036854775807; omega), ?_⟩⟩
  conv => whnf
  exact RetK.same (H := (hO m (n + 1) x0 x1 x2 x3 x4 1 3)) rfl (by simp) (okF.wv trivial)

/-- derive -/
theorem c201_1 (m : List UInt8) (n : Int) (x0 x1 x2 x3 x4 : KS) (hm : m.length ≤ 1000) (p : List UInt8) (hp : p.length ≤ 1000) :
    SCalls Proofs.Try.prog 201 [.s (.lf (.ptr 0 0)), .s (.lf (.str p)), vI 1] (hO m n x0 x1 x2 x3 x4 1 3) (.s (.lf (.str (kyF m p 1)))) (hO m n x0 x1 x2 x3 x4 1 3) := by
  refine SCalls.intro tok Proofs.Try.func201 ?_
  conv => whnf
  refine CallK.mk' _ _ ((c221 m p 1 (by omega) (by omega) 1 rfl).free _ ⟨trivial, trivial, trivial, trivial⟩ trivial) ?_
  conv => whnf
  exact RetK.same (H := (hO m n x0 x1 x2 x3 x4 1 3)) rfl (by simp) (okF.wv trivial)

/-- what Once does -/
theorem c200_1 (m : List UInt8) (n : Int) (x0 x1 x2 x3 x4 : KS) (hm : m.length ≤ 1000) (hn : 0 ≤ n ∧ n < 1000) :
    SCalls Proofs.Try.prog 200 [.s (.lf (.ptr 7 0)), .s (.lf (.ptr 8 0)), .s (.lf (.ptr 9 0))] (hO m n x0 x1 x2 x3 x4 1 3) (.tup []) (hO m (n + 1) x0 (madeS m x1 1) x2 x3 x4 1 3) := by
  refine SCalls.intro tok Proofs.Try.func200 ?_
  conv => whnf
  refine DrawK.mk1 tok mixed [0, 0, 0, 6, 15, 31, 63] [(0, 1, [0]), (1, 1, [0]), (2, 1, [0]), (3, 1, [0]), (4, 1, [0]), (5, 1, [0]), (6, 2, [])] (by kernel_rfl) ?_
  conv => whnf
  refine CallR.mk' _ (c201_1 m n x0 x1 x2 x3 x4 hm [116, 111, 107, 101, 110] (by decide)) ?_
  conv => whnf
  refine DrawK.mk1 tok mixed [0, 0, 0, 6, 15, 31, 63] [(0, 1, [0]), (1, 1, [0]), (2, 1, [0]), (3, 1, [0]), (4, 1, [0]), (5, 1, [0]), (6, 2, [])] (by kernel_rfl) ?_
  conv => whnf
  refine CallR.mk' _ (c201_1 m n x0 (⟨x1.d, x1.s, kyF m [116, 111, 107, 101, 110] 1, x1.b, x1.c⟩) x2 x3 x4 hm [112, 117, 116] (by decide)) ?_
  conv => whnf
  refine DrawK.mk1 tok mixed [0, 0, 0, 6, 15, 31, 63] [(0, 1, [0]), (1, 1, [0]), (2, 1, [0]), (3, 1, [0]), (4, 1, [0]), (5, 1, [0]), (6, 2, [])] (by kernel_rfl) ?_
  conv => whnf
  refine CallR.mk' _ (c201_1 m n x0 (⟨x1.d, x1.s, kyF m [116, 111, 107, 101, 110] 1, kyF m [112, 117, 116] 1, x1.c⟩) x2 x3 x4 hm [103, 101, 116] (by decide)) ?_
  conv => whnf
  refine CallK.mk' _ _ (c202_1 m n x0 (madeS m x1 1) x2 x3 x4 hn) ?_
  conv => whnf
  exact RetK.same (H := (hO m (n + 1) x0 (madeS m x1 1) x2 x3 x4 1 3)) rfl (by simp) (okF.wv trivial)
/-- (*sync.Mutex).Unlock, deferred -/
theorem c233_1 (m : List UInt8) (n : Int) (x0 x1 x2 x3 x4 : KS) (hs : x1.s = 1) : SCallsD Proofs.Try.prog 233 [.s (.lf (.ptr 3 1))] (hO m n x0 x1 x2 x3 x4 1 3) (.tup []) (hO m n x0 ⟨x1.d, 0, x1.a, x1.b, x1.c⟩ x2 x3 x4 1 3) := by
  refine SCallsD.intro tok Proofs.Try.func233 ?_
  conv => whnf
  refine CallK.mk' _ _ ((c240 x1 hs).frame1 (nm := 3) (ob2 := kO ⟨x1.d, 0, x1.a, x1.b, x1.c⟩) rfl rfl kO_ws ⟨WV.lf (WL.ptr rfl rfl), trivial⟩ rfl (kO_ws (x := ⟨_, _, _, _, _⟩)) (freeF.wv trivial)) ?_
  conv => whnf
  exact RetK.same (H := (hO m n x0 ⟨x1.d, 0, x1.a, x1.b, x1.c⟩ x2 x3 x4 1 3)) rfl (by simp) (okF.wv trivial)

/-- (*sync/atomic.Bool).Store, deferred -/
theorem c234_1 (m : List UInt8) (n : Int) (x0 x1 x2 x3 x4 : KS) : SCallsD Proofs.Try.prog 234 [.s (.lf (.ptr 3 0)), .s (.lf .tt)] (hO m n x0 x1 x2 x3 x4 1 3) (.tup []) (hO m n x0 ⟨1, x1.s, x1.a, x1.b, x1.c⟩ x2 x3 x4 1 3) := by
  refine SCallsD.intro tok Proofs.Try.func234 ?_
  conv => whnf
  refine DrawK.mk1 tok mixed [0, 1, 3, 0, 8, 31] [(0, 0, []), (3, 0, []), (4, 2, []), (1, 1, [0, 1]), (2, 1, [0, 1]), (5, 2, [])] (by kernel_rfl) ?_
  conv => whnf
  refine CallK.mk' _ _ (c242.free _ ⟨trivial, trivial⟩ trivial) ?_
  conv => whnf
  repeat (refine And.intro rfl ?_; conv => whnf)
  refine ⟨⟨_, _, sem_store Proofs.Try.func241 rfl rfl y241 x241 (ob := kO x1) rfl (l' := (kO ⟨1, x1.s, x1.a, x1.b, x1.c⟩).segs) (puts_of rfl), ?_⟩⟩
  conv => whnf
  exact RetK.same (H := (hO m n x0 ⟨1, x1.s, x1.a, x1.b, x1.c⟩ x2 x3 x4 1 3)) rfl (by simp) (okF.wv trivial)

/-- (*sync.Once).doSlow -/
theorem c220_1 (m : List UInt8) (n : Int) (x0 x1 x2 x3 x4 : KS) (hm : m.length ≤ 1000) (hn : 0 ≤ n ∧ n < 1000) (hd : x1.d = 0) (hs : x1.s = 0) :
    SCalls Proofs.Try.prog 220 [.s (.lf (.ptr 3 0)), .s (.lf vDo)] (hO m n x0 x1 x2 x3 x4 1 3) (.tup []) (hO m (n + 1) x0 ⟨1, 0, kyF m tokenB 1, kyF m putB 1, kyF m getB 1⟩ x2 x3 x4 1 3) := by
  refine SCalls.introD tok Proofs.Try.func220 ?_
  conv => whnf
  refine CallK.mk' _ _ ((c232 x1 hs).frame1 (nm := 3) (ob2 := kO ⟨x1.d, 1, x1.a, x1.b, x1.c⟩) rfl rfl kO_ws ⟨WV.lf (WL.ptr rfl rfl), trivial⟩ rfl (kO_ws (x := ⟨_, _, _, _, _⟩)) (freeF.wv trivial)) ?_
  conv => whnf
  refine CallK.mk' _ _ ((c219 ⟨x1.d, 1, x1.a, x1.b, x1.c⟩).frame1 (nm := 3) (ob2 := kO ⟨x1.d, 1, x1.a, x1.b, x1.c⟩) rfl rfl (kO_ws (x := ⟨_, _, _, _, _⟩)) ⟨WV.lf (WL.ptr rfl rfl), trivial⟩ rfl (kO_ws (x := ⟨_, _, _, _, _⟩)) (freeF.wv trivial)) ?_
  conv => whnf
  refine CaseB.of_true (by rw [hd]; rfl) ?_
  conv => whnf
  refine CallK.mk' _ _ (c200_1 m n x0 ⟨x1.d, 1, x1.a, x1.b, x1.c⟩ x2 x3 x4 hm hn) ?_
  conv => whnf
  refine CallKD.mk' _ _ (c234_1 m (n + 1) x0 ⟨x1.d, 1, kyF m tokenB 1, kyF m putB 1, kyF m getB 1⟩ x2 x3 x4) ?_
  conv => whnf
  refine CallKD.mk' _ _ (c233_1 m (n + 1) x0 ⟨1, 1, kyF m tokenB 1, kyF m putB 1, kyF m getB 1⟩ x2 x3 x4 rfl) ?_
  conv => whnf
  exact RetK.same (H := (hO m (n + 1) x0 ⟨1, 0, kyF m tokenB 1, kyF m putB 1, kyF m getB 1⟩ x2 x3 x4 1 3)) rfl (by simp) (okF.wv trivial)

/-- (*sync.Once).Do -/
theorem c199_1 (m : List UInt8) (n : Int) (x0 x1 x2 x3 x4 : KS) (hm : m.length ≤ 1000) (hn : 0 ≤ n ∧ n < 1000) (hd : x1.d = 0) (hs : x1.s = 0) :
    SCalls Proofs.Try.prog 199 [.s (.lf (.ptr 3 0)), .s (.lf vDo)] (hO m n x0 x1 x2 x3 x4 1 3) (.tup []) (hO m (n + 1) x0 ⟨1, 0, kyF m tokenB 1, kyF m putB 1, kyF m getB 1⟩ x2 x3 x4 1 3) := by
  refine SCalls.intro tok Proofs.Try.func199 ?_
  conv => whnf
  refine CallK.mk' _ _ ((c219 x1).frame1 (nm := 3) (ob2 := kO x1) rfl rfl kO_ws ⟨WV.lf (WL.ptr rfl rfl), trivial⟩ rfl kO_ws (freeF.wv trivial)) ?_
  conv => whnf
  refine CaseB.of_true (by rw [hd]; rfl) ?_
  conv => whnf
  refine CallK.mk' _ _ (c220_1 m n x0 x1 x2 x3 x4 hm hn hd hs) ?_
  conv => whnf
  exact RetK.same (H := (hO m (n + 1) x0 ⟨1, 0, kyF m tokenB 1, kyF m putB 1, kyF m getB 1⟩ x2 x3 x4 1 3)) rfl (by simp) (okF.wv trivial)
theorem c199d_1 (m : List UInt8) (n : Int) (x0 x1 x2 x3 x4 : KS) (hd : x1.d = 1) : SCalls Proofs.Try.prog 199 [.s (.lf (.ptr 3 0)), .s (.lf vDo)] (hO m n x0 x1 x2 x3 x4 1 3) (.tup []) (hO m n x0 x1 x2 x3 x4 1 3) := by
  refine SCalls.intro tok Proofs.Try.func199 ?_
  conv => whnf
  refine CallK.mk' _ _ ((c219 x1).frame1 (nm := 3) (ob2 := kO x1) rfl rfl kO_ws ⟨WV.lf (WL.ptr rfl rfl), trivial⟩ rfl kO_ws (freeF.wv trivial)) ?_
  conv => whnf
  refine CaseB.of_false (by rw [hd]; rfl) ?_
  conv => whnf
  exact RetK.same (H := (hO m n x0 x1 x2 x3 x4 1 3)) rfl (by simp) (okF.wv trivial)

/-- (*keyring.Ring).of -/
theorem c154_1 (m : List UInt8) (n : Int) (x0 x1 x2 x3 x4 : KS) (hm : m.length ≤ 1000) (hn : 0 ≤ n ∧ n < 1000) (hd : x1.d = 0) (hs : x1.s = 0) :
    SCalls Proofs.Try.prog 154 [.s (.lf (.ptr 0 0)), vI 1] (hG m n x0 x1 x2 x3 x4) (.tup [.lf (.ptr 3 0), .lf (.int .i64 0)]) (hG m (n + 1) x0 ⟨1, 0, kyF m tokenB 1, kyF m putB 1, kyF m getB 1⟩ x2 x3 x4) := by
  refine SCalls.intro tok Proofs.Try.func154 ?_
  conv => whnf
  refine CaseB.of_false rfl ?_
  conv => whnf
  refine DrawK.mk1 tok mixed [0, 1, 3, 7, 7, 23, 55, 119, 247, 511, 1023] [(0, 1, [0]), (1, 0, []), (2, 0, []), (3, 1, [0]), (4, 1, [0]), (5, 1, [0]), (6, 1, [0]), (7, 1, [0]), (8, 1, [0]), (9, 0, []), (10, 0, [])] (by kernel_rfl) ?_
  conv => whnf
  repeat (refine CaseB.of_false rfl ?_; conv => whnf)
  refine DrawK.mk1 tok mixed [0, 1, 3, 7, 0, 31, 63, 0, 255] [(7, 2, []), (0, 1, [0, 1]), (1, 1, [0, 1]), (2, 1, [0, 1]), (3, 1, [0, 1]), (4, 1, [0, 1]), (5, 1, [0, 1]), (6, 1, [0, 1]), (8, 2, [])] (by kernel_rfl) ?_
  conv => whnf
  repeat (refine And.intro (by first | rfl | omega) ?_; conv => whnf)
  refine CallK.mk' _ _ (c199_1 m n x0 x1 x2 x3 x4 hm hn hd hs) ?_
  conv => whnf
  exact RetK.more (H := hG m (n + 1) x0 ⟨1, 0, kyF m tokenB 1, kyF m putB 1, kyF m getB 1⟩ x2 x3 x4) [_, _, _] rfl (by simp) (WV.tup ⟨WV.lf (WL.ptr rfl rfl), WV.lf (WL.int rfl), trivial⟩)
theorem c154d_1 (m : List UInt8) (n : Int) (x0 x1 x2 x3 x4 : KS) (hd : x1.d = 1) :
    SCalls Proofs.Try.prog 154 [.s (.lf (.ptr 0 0)), vI 1] (hG m n x0 x1 x2 x3 x4) (.tup [.lf (.ptr 3 0), .lf (.int .i64 0)]) (hG m n x0 x1 x2 x3 x4) := by
  refine SCalls.intro tok Proofs.Try.func154 ?_
  conv => whnf
  refine CaseB.of_false rfl ?_
  conv => whnf
  refine DrawK.mk1 tok mixed [0, 1, 3, 7, 7, 23, 55, 119, 247, 511, 1023] [(0, 1, [0]), (1, 0, []), (2, 0, []), (3, 1, [0]), (4, 1, [0]), (5, 1, [0]), (6, 1, [0]), (7, 1, [0]), (8, 1, [0]), (9, 0, []), (10, 0, [])] (by kernel_rfl) ?_
  conv => whnf
  repeat (refine CaseB.of_false rfl ?_; conv => whnf)
  refine DrawK.mk1 tok mixed [0, 1, 3, 7, 0, 31, 63, 0, 255] [(7, 2, []), (0, 1, [0, 1]), (1, 1, [0, 1]), (2, 1, [0, 1]), (3, 1, [0, 1]), (4, 1, [0, 1]), (5, 1, [0, 1]), (6, 1, [0, 1]), (8, 2, [])] (by kernel_rfl) ?_
  conv => whnf
  repeat (refine And.intro (by first | rfl | omega) ?_; conv => whnf)
  refine CallK.mk' _ _ (c199d_1 m n x0 x1 x2 x3 x4 hd) ?_
  conv => whnf
  exact RetK.more (H := hG m n x0 x1 x2 x3 x4) [_, _, _] rfl (by simp) (WV.tup ⟨WV.lf (WL.ptr rfl rfl), WV.lf (WL.int rfl), trivial⟩)

theorem c154R_1 (m : List UInt8) (d : Nat → Bool) (hm : m.length ≤ 1000) : SCalls Proofs.Try.prog 154 [.s (.lf (.ptr 0 0)), vI 1] (hR m d) (.tup [.lf (.ptr 3 0), .lf (.int .i64 0)]) (hR m (up d 1)) := by
  cases h : d 1 with
  | true =>
    have e : hR m (up d 1) = hR m d := by
      have : up d 1 = d := by
        funext i
        unfold up
        split
        · rename_i hi
          rw [Nat.eq_of_beq_eq_true hi, h]
        · rfl
      rw [this]
    rw [e]
    exact c154d_1 m (cnt d) _ _ _ _ _ (by rw [h]; rfl)
  | false =>
    have e : cnt (up d 1) = cnt d + 1 := by
      unfold cnt
      rw [h]
      simp [up, b2, Nat.beq] <;> omega
    have k := c154_1 m (cnt d) (kS m 0 (d 0)) (kS m 1 (d 1)) (kS m 2 (d 2)) (kS m 3 (d 3)) (kS m 4 (d 4)) hm ⟨cnt_nonneg d, by have := cnt_le d; omega⟩ (by rw [h]; rfl) (by rw [h]; rfl)
    rw [← e] at k
    exact k
theorem c88_1 (m : List UInt8) (d : Nat → Bool) (hm : m.length ≤ 1000) : SCalls Proofs.Try.prog 88 [.s (.lf (.ptr 0 0)), vI 1] (hR m d) (.tup [.lf (.str (kyF m tokenB 1)), .lf (.int .i64 0)]) (hR m (up d 1)) := by
  refine SCalls.intro tok Proofs.Try.func88 ?_
  conv => whnf
  refine CallK.mk' _ _ (c154R_1 m d hm) ?_
  conv => whnf
  refine CaseB.of_false rfl ?_
  conv => whnf
  exact RetK.same (H := hR m (up d 1)) rfl (by simp) (WV.tup ⟨WV.lf (WL.str rfl), WV.lf (WL.int rfl), trivial⟩)
theorem c89_1 (m : List UInt8) (d : Nat → Bool) (hm : m.length ≤ 1000) : SCalls Proofs.Try.prog 89 [.s (.lf (.ptr 0 0)), vI 1] (hR m d) (.tup [.lf (.str (kyF m putB 1)), .lf (.int .i64 0)]) (hR m (up d 1)) := by
  refine SCalls.intro tok Proofs.Try.func89 ?_
  conv => whnf
  refine CallK.mk' _ _ (c154R_1 m d hm) ?_
  conv => whnf
  refine CaseB.of_false rfl ?_
  conv => whnf
  exact RetK.same (H := hR m (up d 1)) rfl (by simp) (WV.tup ⟨WV.lf (WL.str rfl), WV.lf (WL.int rfl), trivial⟩)
theorem c90_1 (m : List UInt8) (d : Nat → Bool) (hm : m.length ≤ 1000) : SCalls Proofs.Try.prog 90 [.s (.lf (.ptr 0 0)), vI 1] (hR m d) (.tup [.lf (.str (kyF m getB 1)), .lf (.int .i64 0)]) (hR m (up d 1)) := by
  refine SCalls.intro tok Proofs.Try.func90 ?_
  conv => whnf
  refine CallK.mk' _ _ (c154R_1 m d hm) ?_
  conv => whnf
  refine CaseB.of_false rfl ?_
  conv => whnf
  exact RetK.same (H := hR m (up d 1)) rfl (by simp) (WV.tup ⟨WV.lf (WL.str rfl), WV.lf (WL.int rfl), trivial⟩)
/-! ### Lane 2 -/
/-- (*sync/atomic.Int64).Add -/
theorem c202_2 (m : List UInt8) (n : Int) (x0 x1 x2 x3 x4 : KS) (hn : 0 ≤ n ∧ n < 1000) : SCalls Proofs.Try.prog 202 [.s (.lf (.ptr 0 2)), vI 1] (hO m n x0 x1 x2 x3 x4 2 4) (vI (n + 1)) (hO m (n + 1) x0 x1 x2 x3 x4 2 4) := by
  refine SCalls.intro tok Proofs.Try.func202 ?_
  conv => whnf
  refine ⟨⟨_, _, sem_add Proofs.Try.func222 rfl rfl y222 .i64 x222 (ob := rgO m n) rfl rfl (s := n + 1) (l' := (rgO m (n + 1)).segs) (puts_of rfl) (add_run (x := n) (y := 1) (wrap_i64 (by omega) (by omega))) (by show (-9223372036854775808 : Int) ≤ n + 1 ∧ n + 1 ≤ 9223372036854775807; omega), ?_⟩⟩
  conv => whnf
  exact RetK.same (H := (hO m (n + 1) x0 x1 x2 x3 x4 2 4)) rfl (by simp) (okF.wv trivial)

/-- derive -/
theorem c201_2 (m : List UInt8) (n : Int) (x0 x1 x2 x3 x4 : KS) (hm : m.length ≤ 1000) (p : List UInt8) (hp : p.length ≤ 1000) :
    SCalls Proofs.Try.prog 201 [.s (.lf (.ptr 0 0)), .s (.lf (.str p)), vI 2] (hO m n x0 x1 x2 x3 x4 2 4) (.s (.lf (.str (kyF m p 2)))) (hO m n x0 x1 x2 x3 x4 2 4) := by
  refine SCalls.intro tok Proofs.Try.func201 ?_
  conv => whnf
  refine CallK.mk' _ _ ((c221 m p 2 (by omega) (by omega) 2 rfl).free _ ⟨trivial, trivial, trivial, trivial⟩ trivial) ?_
  conv => whnf
  exact RetK.same (H := (hO m n x0 x1 x2 x3 x4 2 4)) rfl (by simp) (okF.wv trivial)

/-- what Once does -/
theorem c200_2 (m : List UInt8) (n : Int) (x0 x1 x2 x3 x4 : KS) (hm : m.length ≤ 1000) (hn : 0 ≤ n ∧ n < 1000) :
    SCalls Proofs.Try.prog 200 [.s (.lf (.ptr 7 0)), .s (.lf (.ptr 8 0)), .s (.lf (.ptr 9 0))] (hO m n x0 x1 x2 x3 x4 2 4) (.tup []) (hO m (n + 1) x0 x1 (madeS m x2 2) x3 x4 2 4) := by
  refine SCalls.intro tok Proofs.Try.func200 ?_
  conv => whnf
  refine DrawK.mk1 tok mixed [0, 0, 0, 6, 15, 31, 63] [(0, 1, [0]), (1, 1, [0]), (2, 1, [0]), (3, 1, [0]), (4, 1, [0]), (5, 1, [0]), (6, 2, [])] (by kernel_rfl) ?_
  conv => whnf
  refine CallR.mk' _ (c201_2 m n x0 x1 x2 x3 x4 hm [116, 111, 107, 101, 110] (by decide)) ?_
  conv => whnf
  refine DrawK.mk1 tok mixed [0, 0, 0, 6, 15, 31, 63] [(0, 1, [0]), (1, 1, [0]), (2, 1, [0]), (3, 1, [0]), (4, 1, [0]), (5, 1, [0]), (6, 2, [])] (by kernel_rfl) ?_
  conv => whnf
  refine CallR.mk' _ (c201_2 m n x0 x1 (⟨x2.d, x2.s, kyF m [116, 111, 107, 101, 110] 2, x2.b, x2.c⟩) x3 x4 hm [112, 117, 116] (by decide)) ?_
  conv => whnf
  refine DrawK.mk1 tok mixed [0, 0, 0, 6, 15, 31, 63] [(0, 1, [0]), (1, 1, [0]), (2, 1, [0]), (3, 1, [0]), (4, 1, [0]), (5, 1, [0]), (6, 2, [])] (by kernel_rfl) ?_
  conv => whnf
  refine CallR.mk' _ (c201_2 m n x0 x1 (⟨x2.d, x2.s, kyF m [116, 111, 107, 101, 110] 2, kyF m [112, 117, 116] 2, x2.c⟩) x3 x4 hm [103, 101, 116] (by decide)) ?_
  conv => whnf
  refine CallK.mk' _ _ (c202_2 m n x0 x1 (madeS m x2 2) x3 x4 hn) ?_
  conv => whnf
  exact RetK.same (H := (hO m (n + 1) x0 x1 (madeS m x2 2) x3 x4 2 4)) rfl (by simp) (okF.wv trivial)
/-- (*sync.Mutex).Unlock, deferred -/
theorem c233_2 (m : List UInt8) (n : Int) (x0 x1 x2 x3 x4 : KS) (hs : x2.s = 1) : SCallsD Proofs.Try.prog 233 [.s (.lf (.ptr 4 1))] (hO m n x0 x1 x2 x3 x4 2 4) (.tup []) (hO m n x0 x1 ⟨x2.d, 0, x2.a, x2.b, x2.c⟩ x3 x4 2 4) := by
  refine SCallsD.intro tok Proofs.Try.func233 ?_
  conv => whnf
  refine CallK.mk' _ _ ((c240 x2 hs).frame1 (nm := 4) (ob2 := kO ⟨x2.d, 0, x2.a, x2.b, x2.c⟩) rfl rfl kO_ws ⟨WV.lf (WL.ptr rfl rfl), trivial⟩ rfl (kO_ws (x := ⟨_, _, _, _, _⟩)) (freeF.wv trivial)) ?_
  conv => whnf
  exact RetK.same (H := (hO m n x0 x1 ⟨x2.d, 0, x2.a, x2.b, x2.c⟩ x3 x4 2 4)) rfl (by simp) (okF.wv trivial)

/-- (*sync/atomic.Bool).Store, deferred -/
theorem c234_2 (m : List UInt8) (n : Int) (x0 x1 x2 x3 x4 : KS) : SCallsD Proofs.Try.prog 234 [.s (.lf (.ptr 4 0)), .s (.lf .tt)] (hO m n x0 x1 x2 x3 x4 2 4) (.tup []) (hO m n x0 x1 ⟨1, x2.s, x2.a, x2.b, x2.c⟩ x3 x4 2 4) := by
  refine SCallsD.intro tok Proofs.Try.func234 ?_
  conv => whnf
  refine DrawK.mk1 tok mixed [0, 1, 3, 0, 8, 31] [(0, 0, []), (3, 0, []), (4, 2, []), (1, 1, [0, 1]), (2, 1, [0, 1]), (5, 2, [])] (by kernel_rfl) ?_
  conv => whnf
  refine CallK.mk' _ _ (c242.free _ ⟨trivial, trivial⟩ trivial) ?_
  conv => whnf
  repeat (refine And.intro rfl ?_; conv => whnf)
  refine ⟨⟨_, _, sem_store Proofs.Try.func241 rfl rfl y241 x241 (ob := kO x2) rfl (l' := (kO ⟨1, x2.s, x2.a, x2.b, x2.c⟩).segs) (puts_of rfl), ?_⟩⟩
  conv => whnf
  exact RetK.same (H := (hO m n x0 x1 ⟨1, x2.s, x2.a, x2.b, x2.c⟩ x3 x4 2 4)) rfl (by simp) (okF.wv trivial)

/-- (*sync.Once).doSlow -/
theorem c220_2 (m : List UInt8) (n : Int) (x0 x1 x2 x3 x4 : KS) (hm : m.length ≤ 1000) (hn : 0 ≤ n ∧ n < 1000) (hd : x2.d = 0) (hs : x2.s = 0) :
    SCalls Proofs.Try.prog 220 [.s (.lf (.ptr 4 0)), .s (.lf vDo)] (hO m n x0 x1 x2 x3 x4 2 4) (.tup []) (hO m (n + 1) x0 x1 ⟨1, 0, kyF m tokenB 2, kyF m putB 2, kyF m getB 2⟩ x3 x4 2 4) := by
  refine SCalls.introD tok Proofs.Try.func220 ?_
  conv => whnf
  refine CallK.mk' _ _ ((c232 x2 hs).frame1 (nm := 4) (ob2 := kO ⟨x2.d, 1, x2.a, x2.b, x2.c⟩) rfl rfl kO_ws ⟨WV.lf (WL.ptr rfl rfl), trivial⟩ rfl (kO_ws (x := ⟨_, _, _, _, _⟩)) (freeF.wv trivial)) ?_
  conv => whnf
  refine CallK.mk' _ _ ((c219 ⟨x2.d, 1, x2.a, x2.b, x2.c⟩).frame1 (nm := 4) (ob2 := kO ⟨x2.d, 1, x2.a, x2.b, x2.c⟩) rfl rfl (kO_ws (x := ⟨_, _, _, _, _⟩)) ⟨WV.lf (WL.ptr rfl rfl), trivial⟩ rfl (kO_ws (x := ⟨_, _, _, _, _⟩)) (freeF.wv trivial)) ?_
  conv => whnf
  refine CaseB.of_true (by rw [hd]; rfl) ?_
  conv => whnf
  refine CallK.mk' _ _ (c200_2 m n x0 x1 ⟨x2.d, 1, x2.a, x2.b, x2.c⟩ x3 x4 hm hn) ?_
  conv => whnf
  refine CallKD.mk' _ _ (c234_2 m (n + 1) x0 x1 ⟨x2.d, 1, kyF m tokenB 2, kyF m putB 2, kyF m getB 2⟩ x3 x4) ?_
  conv => whnf
  refine CallKD.mk' _ _ (c233_2 m (n + 1) x0 x1 ⟨1, 1, kyF m tokenB 2, kyF m putB 2, kyF m getB 2⟩ x3 x4 rfl) ?_
  conv => whnf
  exact RetK.same (H := (hO m (n + 1) x0 x1 ⟨1, 0, kyF m tokenB 2, kyF m putB 2, kyF m getB 2⟩ x3 x4 2 4)) rfl (by simp) (okF.wv trivial)

/-- (*sync.Once).Do -/
theorem c199_2 (m : List UInt8) (n : Int) (x0 x1 x2 x3 x4 : KS) (hm : m.length ≤ 1000) (hn : 0 ≤ n ∧ n < 1000) (hd : x2.d = 0) (hs : x2.s = 0) :
    SCalls Proofs.Try.prog 199 [.s (.lf (.ptr 4 0)), .s (.lf vDo)] (hO m n x0 x1 x2 x3 x4 2 4) (.tup []) (hO m (n + 1) x0 x1 ⟨1, 0, kyF m tokenB 2, kyF m putB 2, kyF m getB 2⟩ x3 x4 2 4) := by
  refine SCalls.intro tok Proofs.Try.func199 ?_
  conv => whnf
  refine CallK.mk' _ _ ((c219 x2).frame1 (nm := 4) (ob2 := kO x2) rfl rfl kO_ws ⟨WV.lf (WL.ptr rfl rfl), trivial⟩ rfl kO_ws (freeF.wv trivial)) ?_
  conv => whnf
  refine CaseB.of_true (by rw [hd]; rfl) ?_
  conv => whnf
  refine CallK.mk' _ _ (c220_2 m n x0 x1 x2 x3 x4 hm hn hd hs) ?_
  conv => whnf
  exact RetK.same (H := (hO m (n + 1) x0 x1 ⟨1, 0, kyF m tokenB 2, kyF m putB 2, kyF m getB 2⟩ x3 x4 2 4)) rfl (by simp) (okF.wv trivial)
theorem c199d_2 (m : List UInt8) (n : Int) (x0 x1 x2 x3 x4 : KS) (hd : x2.d = 1) : SCalls Proofs.Try.prog 199 [.s (.lf (.ptr 4 0)), .s (.lf vDo)] (hO m n x0 x1 x2 x3 x4 2 4) (.tup []) (hO m n x0 x1 x2 x3 x4 2 4) := by
  refine SCalls.intro tok Proofs.Try.func199 ?_
  conv => whnf
  refine CallK.mk' _ _ ((c219 x2).frame1 (nm := 4) (ob2 := kO x2) rfl rfl kO_ws ⟨WV.lf (WL.ptr rfl rfl), trivial⟩ rfl kO_ws (freeF.wv trivial)) ?_
  conv => whnf
  refine CaseB.of_false (by rw [hd]; rfl) ?_
  conv => whnf
  exact RetK.same (H := (hO m n x0 x1 x2 x3 x4 2 4)) rfl (by simp) (okF.wv trivial)

/-- (*keyring.Ring).of -/
theorem c154_2 (m : List UInt8) (n : Int) (x0 x1 x2 x3 x4 : KS) (hm : m.length ≤ 1000) (hn : 0 ≤ n ∧ n < 1000) (hd : x2.d = 0) (hs : x2.s = 0) :
    SCalls Proofs.Try.prog 154 [.s (.lf (.ptr 0 0)), vI 2] (hG m n x0 x1 x2 x3 x4) (.tup [.lf (.ptr 4 0), .lf (.int .i64 0)]) (hG m (n + 1) x0 x1 ⟨1, 0, kyF m tokenB 2, kyF m putB 2, kyF m getB 2⟩ x3 x4) := by
  refine SCalls.intro tok Proofs.Try.func154 ?_
  conv => whnf
  refine CaseB.of_false rfl ?_
  conv => whnf
  refine DrawK.mk1 tok mixed [0, 1, 3, 7, 7, 23, 55, 119, 247, 511, 1023] [(0, 1, [0]), (1, 0, []), (2, 0, []), (3, 1, [0]), (4, 1, [0]), (5, 1, [0]), (6, 1, [0]), (7, 1, [0]), (8, 1, [0]), (9, 0, []), (10, 0, [])] (by kernel_rfl) ?_
  conv => whnf
  repeat (refine CaseB.of_false rfl ?_; conv => whnf)
  refine DrawK.mk1 tok mixed [0, 1, 3, 7, 0, 31, 63, 0, 255] [(7, 2, []), (0, 1, [0, 1]), (1, 1, [0, 1]), (2, 1, [0, 1]), (3, 1, [0, 1]), (4, 1, [0, 1]), (5, 1, [0, 1]), (6, 1, [0, 1]), (8, 2, [])] (by kernel_rfl) ?_
  conv => whnf
  repeat (refine And.intro (by first | rfl | omega) ?_; conv => whnf)
  refine CallK.mk' _ _ (c199_2 m n x0 x1 x2 x3 x4 hm hn hd hs) ?_
  conv => whnf
  exact RetK.more (H := hG m (n + 1) x0 x1 ⟨1, 0, kyF m tokenB 2, kyF m putB 2, kyF m getB 2⟩ x3 x4) [_, _, _] rfl (by simp) (WV.tup ⟨WV.lf (WL.ptr rfl rfl), WV.lf (WL.int rfl), trivial⟩)
theorem c154d_2 (m : List UInt8) (n : Int) (x0 x1 x2 x3 x4 : KS) (hd : x2.d = 1) :
    SCalls Proofs.Try.prog 154 [.s (.lf (.ptr 0 0)), vI 2] (hG m n x0 x1 x2 x3 x4) (.tup [.lf (.ptr 4 0), .lf (.int .i64 0)]) (hG m n x0 x1 x2 x3 x4) := by
  refine SCalls.intro tok Proofs.Try.func154 ?_
  conv => whnf
  refine CaseB.of_false rfl ?_
  conv => whnf
  refine DrawK.mk1 tok mixed [0, 1, 3, 7, 7, 23, 55, 119, 247, 511, 1023] [(0, 1, [0]), (1, 0, []), (2, 0, []), (3, 1, [0]), (4, 1, [0]), (5, 1, [0]), (6, 1, [0]), (7, 1, [0]), (8, 1, [0]), (9, 0, []), (10, 0, [])] (by kernel_rfl) ?_
  conv => whnf
  repeat (refine CaseB.of_false rfl ?_; conv => whnf)
  refine DrawK.mk1 tok mixed [0, 1, 3, 7, 0, 31, 63, 0, 255] [(7, 2, []), (0, 1, [0, 1]), (1, 1, [0, 1]), (2, 1, [0, 1]), (3, 1, [0, 1]), (4, 1, [0, 1]), (5, 1, [0, 1]), (6, 1, [0, 1]), (8, 2, [])] (by kernel_rfl) ?_
  conv => whnf
  repeat (refine And.intro (by first | rfl | omega) ?_; conv => whnf)
  refine CallK.mk' _ _ (c199d_2 m n x0 x1 x2 x3 x4 hd) ?_
  conv => whnf
  exact RetK.more (H := hG m n x0 x1 x2 x3 x4) [_, _, _] rfl (by simp) (WV.tup ⟨WV.lf (WL.ptr rfl rfl), WV.lf (WL.int rfl), trivial⟩)

theorem c154R_2 (m : List UInt8) (d : Nat → Bool) (hm : m.length ≤ 1000) : SCalls Proofs.Try.prog 154 [.s (.lf (.ptr 0 0)), vI 2] (hR m d) (.tup [.lf (.ptr 4 0), .lf (.int .i64 0)]) (hR m (up d 2)) := by
  cases h : d 2 with
  | true =>
    have e : hR m (up d 2) = hR m d := by
      have : up d 2 = d := by
        funext i
        unfold up
        split
        · rename_i hi
          rw [Nat.eq_of_beq_eq_true hi, h]
        · rfl
      rw [this]
    rw [e]
    exact c154d_2 m (cnt d) _ _ _ _ _ (by rw [h]; rfl)
  | false =>
    have e : cnt (up d 2) = cnt d + 1 := by
      unfold cnt
      rw [h]
      simp [up, b2, Nat.beq] <;> omega
    have k := c154_2 m (cnt d) (kS m 0 (d 0)) (kS m 1 (d 1)) (kS m 2 (d 2)) (kS m 3 (d 3)) (kS m 4 (d 4)) hm ⟨cnt_nonneg d, by have := cnt_le d; omega⟩ (by rw [h]; rfl) (by rw [h]; rfl)
    rw [← e] at k
    exact k
theorem c88_2 (m : List UInt8) (d : Nat → Bool) (hm : m.length ≤ 1000) : SCalls Proofs.Try.prog 88 [.s (.lf (.ptr 0 0)), vI 2] (hR m d) (.tup [.lf (.str (kyF m tokenB 2)), .lf (.int .i64 0)]) (hR m (up d 2)) := by
  refine SCalls.intro tok Proofs.Try.func88 ?_
  conv => whnf
  refine CallK.mk' _ _ (c154R_2 m d hm) ?_
  conv => whnf
  refine CaseB.of_false rfl ?_
  conv => whnf
  exact RetK.same (H := hR m (up d 2)) rfl (by simp) (WV.tup ⟨WV.lf (WL.str rfl), WV.lf (WL.int rfl), trivial⟩)
theorem c89_2 (m : List UInt8) (d : Nat → Bool) (hm : m.length ≤ 1000) : SCalls Proofs.Try.prog 89 [.s (.lf (.ptr 0 0)), vI 2] (hR m d) (.tup [.lf (.str (kyF m putB 2)), .lf (.int .i64 0)]) (hR m (up d 2)) := by
  refine SCalls.intro tok Proofs.Try.func89 ?_
  conv => whnf
  refine CallK.mk' _ _ (c154R_2 m d hm) ?_
  conv => whnf
  refine CaseB.of_false rfl ?_
  conv => whnf
  exact RetK.same (H := hR m (up d 2)) rfl (by simp) (WV.tup ⟨WV.lf (WL.str rfl), WV.lf (WL.int rfl), trivial⟩)
theorem c90_2 (m : List UInt8) (d : Nat → Bool) (hm : m.length ≤ 1000) : SCalls Proofs.Try.prog 90 [.s (.lf (.ptr 0 0)), vI 2] (hR m d) (.tup [.lf (.str (kyF m getB 2)), .lf (.int .i64 0)]) (hR m (up d 2)) := by
  refine SCalls.intro tok Proofs.Try.func90 ?_
  conv => whnf
  refine CallK.mk' _ _ (c154R_2 m d hm) ?_
  conv => whnf
  refine CaseB.of_false rfl ?_
  conv => whnf
  exact RetK.same (H := hR m (up d 2)) rfl (by simp) (WV.tup ⟨WV.lf (WL.str rfl), WV.lf (WL.int rfl), trivial⟩)
/-! ### Lane 3 -/
/-- (*sync/atomic.Int64).Add -/
theorem c202_3 (m : List UInt8) (n : Int) (x0 x1 x2 x3 x4 : KS) (hn : 0 ≤ n ∧ n < 1000) : SCalls Proofs.Try.prog 202 [.s (.lf (.ptr 0 2)), vI 1] (hO m n x0 x1 x2 x3 x4 3 5) (vI (n + 1)) (hO m (n + 1) x0 x1 x2 x3 x4 3 5) := by
  refine SCalls.intro tok Proofs.Try.func202 ?_
  conv => whnf
  refine ⟨⟨_, _, sem_add Proofs.Try.func222 rfl rfl y222 .i64 x222 (ob := rgO m n) rfl rfl (s := n + 1) (l' := (rgO m (n + 1)).segs) (puts_of rfl) (add_run (x := n) (y := 1) (wrap_i64 (by omega) (by omega))) (by show (-9223372036854775808 : Int) ≤ n + 1 ∧ n + 1 ≤ 9223372036854775807; omega), ?_⟩⟩
  conv => whnf
  exact RetK.same (H := (hO m (n + 1) x0 x1 x2 x3 x4 3 5)) rfl (by simp) (okF.wv trivial)

/-- derive -/
theorem c201_3 (m : List UInt8) (n : Int) (x0 x1 x2 x3 x4 : KS) (hm : m.length ≤ 1000) (p : List UInt8) (hp : p.length ≤ 1000) :
    SCalls Proofs.Try.prog 201 [.s (.lf (.ptr 0 0)), .s (.lf (.str p)), vI 3] (hO m n x0 x1 x2 x3 x4 3 5) (.s (.lf (.str (kyF m p 3)))) (hO m n x0 x1 x2 x3 x4 3 5) := by
  refine SCalls.intro tok Proofs.Try.func201 ?_
  conv => whnf
  refine CallK.mk' _ _ ((c221 m p 3 (by omega) (by omega) 3 rfl).free _ ⟨trivial, trivial, trivial, trivial⟩ trivial) ?_
  conv => whnf
  exact RetK.same (H := (hO m n x0 x1 x2 x3 x4 3 5)) rfl (by simp) (okF.wv trivial)

/-- what Once does -/
theorem c200_3 (m : List UInt8) (n : Int) (x0 x1 x2 x3 x4 : KS) (hm : m.length ≤ 1000) (hn : 0 ≤ n ∧ n < 1000) :
    SCalls Proofs.Try.prog 200 [.s (.lf (.ptr 7 0)), .s (.lf (.ptr 8 0)), .s (.lf (.ptr 9 0))] (hO m n x0 x1 x2 x3 x4 3 5) (.tup []) (hO m (n + 1) x0 x1 x2 (madeS m x3 3) x4 3 5) := by
  refine SCalls.intro tok Proofs.Try.func200 ?_
  conv => whnf
  refine DrawK.mk1 tok mixed [0, 0, 0, 6, 15, 31, 63] [(0, 1, [0]), (1, 1, [0]), (2, 1, [0]), (3, 1, [0]), (4, 1, [0]), (5, 1, [0]), (6, 2, [])] (by kernel_rfl) ?_
  conv => whnf
  refine CallR.mk' _ (c201_3 m n x0 x1 x2 x3 x4 hm [116, 111, 107, 101, 110] (by decide)) ?_
  conv => whnf
  refine DrawK.mk1 tok mixed [0, 0, 0, 6, 15, 31, 63] [(0, 1, [0]), (1, 1, [0]), (2, 1, [0]), (3, 1, [0]), (4, 1, [0]), (5, 1, [0]), (6, 2, [])] (by kernel_rfl) ?_
  conv => whnf
  refine CallR.mk' _ (c201_3 m n x0 x1 x2 (⟨x3.d, x3.s, kyF m [116, 111, 107, 101, 110] 3, x3.b, x3.c⟩) x4 hm [112, 117, 116] (by decide)) ?_
  conv => whnf
  refine DrawK.mk1 tok mixed [0, 0, 0, 6, 15, 31, 63] [(0, 1, [0]), (1, 1, [0]), (2, 1, [0]), (3, 1, [0]), (4, 1, [0]), (5, 1, [0]), (6, 2, [])] (by kernel_rfl) ?_
  conv => whnf
  refine CallR.mk' _ (c201_3 m n x0 x1 x2 (⟨x3.d, x3.s, kyF m [116, 111, 107, 101, 110] 3, kyF m [112, 117, 116] 3, x3.c⟩) x4 hm [103, 101, 116] (by decide)) ?_
  conv => whnf
  refine CallK.mk' _ _ (c202_3 m n x0 x1 x2 (madeS m x3 3) x4 hn) ?_
  conv => whnf
  exact RetK.same (H := (hO m (n + 1) x0 x1 x2 (madeS m x3 3) x4 3 5)) rfl (by simp) (okF.wv trivial)
/-- (*sync.Mutex).Unlock, deferred -/
theorem c233_3 (m : List UInt8) (n : Int) (x0 x1 x2 x3 x4 : KS) (hs : x3.s = 1) : SCallsD Proofs.Try.prog 233 [.s (.lf (.ptr 5 1))] (hO m n x0 x1 x2 x3 x4 3 5) (.tup []) (hO m n x0 x1 x2 ⟨x3.d, 0, x3.a, x3.b, x3.c⟩ x4 3 5) := by
  refine SCallsD.intro tok Proofs.Try.func233 ?_
  conv => whnf
  refine CallK.mk' _ _ ((c240 x3 hs).frame1 (nm := 5) (ob2 := kO ⟨x3.d, 0, x3.a, x3.b, x3.c⟩) rfl rfl kO_ws ⟨WV.lf (WL.ptr rfl rfl), trivial⟩ rfl (kO_ws (x := ⟨_, _, _, _, _⟩)) (freeF.wv trivial)) ?_
  conv => whnf
  exact RetK.same (H := (hO m n x0 x1 x2 ⟨x3.d, 0, x3.a, x3.b, x3.c⟩ x4 3 5)) rfl (by simp) (okF.wv trivial)

/-- (*sync/atomic.Bool).Store, deferred -/
theorem c234_3 (m : List UInt8) (n : Int) (x0 x1 x2 x3 x4 : KS) : SCallsD Proofs.Try.prog 234 [.s (.lf (.ptr 5 0)), .s (.lf .tt)] (hO m n x0 x1 x2 x3 x4 3 5) (.tup []) (hO m n x0 x1 x2 ⟨1, x3.s, x3.a, x3.b, x3.c⟩ x4 3 5) := by
  refine SCallsD.intro tok Proofs.Try.func234 ?_
  conv => whnf
  refine DrawK.mk1 tok mixed [0, 1, 3, 0, 8, 31] [(0, 0, []), (3, 0, []), (4, 2, []), (1, 1, [0, 1]), (2, 1, [0, 1]), (5, 2, [])] (by kernel_rfl) ?_
  conv => whnf
  refine CallK.mk' _ _ (c242.free _ ⟨trivial, trivial⟩ trivial) ?_
  conv => whnf
  repeat (refine And.intro rfl ?_; conv => whnf)
  refine ⟨⟨_, _, sem_store Proofs.Try.func241 rfl rfl y241 x241 (ob := kO x3) rfl (l' := (kO ⟨1, x3.s, x3.a, x3.b, x3.c⟩).segs) (puts_of rfl), ?_⟩⟩
  conv => whnf
  exact RetK.same (H := (hO m n x0 x1 x2 ⟨1, x3.s, x3.a, x3.b, x3.c⟩ x4 3 5)) rfl (by simp) (okF.wv trivial)

/-- (*sync.Once).doSlow -/
theorem c220_3 (m : List UInt8) (n : Int) (x0 x1 x2 x3 x4 : KS) (hm : m.length ≤ 1000) (hn : 0 ≤ n ∧ n < 1000) (hd : x3.d = 0) (hs : x3.s = 0) :
    SCalls Proofs.Try.prog 220 [.s (.lf (.ptr 5 0)), .s (.lf vDo)] (hO m n x0 x1 x2 x3 x4 3 5) (.tup []) (hO m (n + 1) x0 x1 x2 ⟨1, 0, kyF m tokenB 3, kyF m putB 3, kyF m getB 3⟩ x4 3 5) := by
  refine SCalls.introD tok Proofs.Try.func220 ?_
  conv => whnf
  refine CallK.mk' _ _ ((c232 x3 hs).frame1 (nm := 5) (ob2 := kO ⟨x3.d, 1, x3.a, x3.b, x3.c⟩) rfl rfl kO_ws ⟨WV.lf (WL.ptr rfl rfl), trivial⟩ rfl (kO_ws (x := ⟨_, _, _, _, _⟩)) (freeF.wv trivial)) ?_
  conv => whnf
  refine CallK.mk' _ _ ((c219 ⟨x3.d, 1, x3.a, x3.b, x3.c⟩).frame1 (nm := 5) (ob2 := kO ⟨x3.d, 1, x3.a, x3.b, x3.c⟩) rfl rfl (kO_ws (x := ⟨_, _, _, _, _⟩)) ⟨WV.lf (WL.ptr rfl rfl), trivial⟩ rfl (kO_ws (x := ⟨_, _, _, _, _⟩)) (freeF.wv trivial)) ?_
  conv => whnf
  refine CaseB.of_true (by rw [hd]; rfl) ?_
  conv => whnf
  refine CallK.mk' _ _ (c200_3 m n x0 x1 x2 ⟨x3.d, 1, x3.a, x3.b, x3.c⟩ x4 hm hn) ?_
  conv => whnf
  refine CallKD.mk' _ _ (c234_3 m (n + 1) x0 x1 x2 ⟨x3.d, 1, kyF m tokenB 3, kyF m putB 3, kyF m getB 3⟩ x4) ?_
  conv => whnf
  refine CallKD.mk' _ _ (c233_3 m (n + 1) x0 x1 x2 ⟨1, 1, kyF m tokenB 3, kyF m putB 3, kyF m getB 3⟩ x4 rfl) ?_
  conv => whnf
  exact RetK.same (H := (hO m (n + 1) x0 x1 x2 ⟨1, 0, kyF m tokenB 3, kyF m putB 3, kyF m getB 3⟩ x4 3 5)) rfl (by simp) (okF.wv trivial)

/-- (*sync.Once).Do -/
theorem c199_3 (m : List UInt8) (n : Int) (x0 x1 x2 x3 x4 : KS) (hm : m.length ≤ 1000) (hn : 0 ≤ n ∧ n < 1000) (hd : x3.d = 0) (hs : x3.s = 0) :
    SCalls Proofs.Try.prog 199 [.s (.lf (.ptr 5 0)), .s (.lf vDo)] (hO m n x0 x1 x2 x3 x4 3 5) (.tup []) (hO m (n + 1) x0 x1 x2 ⟨1, 0, kyF m tokenB 3, kyF m putB 3, kyF m getB 3⟩ x4 3 5) := by
  refine SCalls.intro tok Proofs.Try.func199 ?_
  conv => whnf
  refine CallK.mk' _ _ ((c219 x3).frame1 (nm := 5) (ob2 := kO x3) rfl rfl kO_ws ⟨WV.lf (WL.ptr rfl rfl), trivial⟩ rfl kO_ws (freeF.wv trivial)) ?_
  conv => whnf
  refine CaseB.of_true (by rw [hd]; rfl) ?_
  conv => whnf
  refine CallK.mk' _ _ (c220_3 m n x0 x1 x2 x3 x4 hm hn hd hs) ?_
  conv => whnf
  exact RetK.same (H := (hO m (n + 1) x0 x1 x2 ⟨1, 0, kyF m tokenB 3, kyF m putB 3, kyF m getB 3⟩ x4 3 5)) rfl (by simp) (okF.wv trivial)
theorem c199d_3 (m : List UInt8) (n : Int) (x0 x1 x2 x3 x4 : KS) (hd : x3.d = 1) : SCalls Proofs.Try.prog 199 [.s (.lf (.ptr 5 0)), .s (.lf vDo)] (hO m n x0 x1 x2 x3 x4 3 5) (.tup []) (hO m n x0 x1 x2 x3 x4 3 5) := by
  refine SCalls.intro tok Proofs.Try.func199 ?_
  conv => whnf
  refine CallK.mk' _ _ ((c219 x3).frame1 (nm := 5) (ob2 := kO x3) rfl rfl kO_ws ⟨WV.lf (WL.ptr rfl rfl), trivial⟩ rfl kO_ws (freeF.wv trivial)) ?_
  conv => whnf
  refine CaseB.of_false (by rw [hd]; rfl) ?_
  conv => whnf
  exact RetK.same (H := (hO m n x0 x1 x2 x3 x4 3 5)) rfl (by simp) (okF.wv trivial)

/-- (*keyring.Ring).of -/
theorem c154_3 (m : List UInt8) (n : Int) (x0 x1 x2 x3 x4 : KS) (hm : m.length ≤ 1000) (hn : 0 ≤ n ∧ n < 1000) (hd : x3.d = 0) (hs : x3.s = 0) :
    SCalls Proofs.Try.prog 154 [.s (.lf (.ptr 0 0)), vI 3] (hG m n x0 x1 x2 x3 x4) (.tup [.lf (.ptr 5 0), .lf (.int .i64 0)]) (hG m (n + 1) x0 x1 x2 ⟨1, 0, kyF m tokenB 3, kyF m putB 3, kyF m getB 3⟩ x4) := by
  refine SCalls.intro tok Proofs.Try.func154 ?_
  conv => whnf
  refine CaseB.of_false rfl ?_
  conv => whnf
  refine DrawK.mk1 tok mixed [0, 1, 3, 7, 7, 23, 55, 119, 247, 511, 1023] [(0, 1, [0]), (1, 0, []), (2, 0, []), (3, 1, [0]), (4, 1, [0]), (5, 1, [0]), (6, 1, [0]), (7, 1, [0]), (8, 1, [0]), (9, 0, []), (10, 0, [])] (by kernel_rfl) ?_
  conv => whnf
  repeat (refine CaseB.of_false rfl ?_; conv => whnf)
  refine DrawK.mk1 tok mixed [0, 1, 3, 7, 0, 31, 63, 0, 255] [(7, 2, []), (0, 1, [0, 1]), (1, 1, [0, 1]), (2, 1, [0, 1]), (3, 1, [0, 1]), (4, 1, [0, 1]), (5, 1, [0, 1]), (6, 1, [0, 1]), (8, 2, [])] (by kernel_rfl) ?_
  conv => whnf
  repeat (refine And.intro (by first | rfl | omega) ?_; conv => whnf)
  refine CallK.mk' _ _ (c199_3 m n x0 x1 x2 x3 x4 hm hn hd hs) ?_
  conv => whnf
  exact RetK.more (H := hG m (n + 1) x0 x1 x2 ⟨1, 0, kyF m tokenB 3, kyF m putB 3, kyF m getB 3⟩ x4) [_, _, _] rfl (by simp) (WV.tup ⟨WV.lf (WL.ptr rfl rfl), WV.lf (WL.int rfl), trivial⟩)
theorem c154d_3 (m : List UInt8) (n : Int) (x0 x1 x2 x3 x4 : KS) (hd : x3.d = 1) :
    SCalls Proofs.Try.prog 154 [.s (.lf (.ptr 0 0)), vI 3] (hG m n x0 x1 x2 x3 x4) (.tup [.lf (.ptr 5 0), .lf (.int .i64 0)]) (hG m n x0 x1 x2 x3 x4) := by
  refine SCalls.intro tok Proofs.Try.func154 ?_
  conv => whnf
  refine CaseB.of_false rfl ?_
  conv => whnf
  refine DrawK.mk1 tok mixed [0, 1, 3, 7, 7, 23, 55, 119, 247, 511, 1023] [(0, 1, [0]), (1, 0, []), (2, 0, []), (3, 1, [0]), (4, 1, [0]), (5, 1, [0]), (6, 1, [0]), (7, 1, [0]), (8, 1, [0]), (9, 0, []), (10, 0, [])] (by kernel_rfl) ?_
  conv => whnf
  repeat (refine CaseB.of_false rfl ?_; conv => whnf)
  refine DrawK.mk1 tok mixed [0, 1, 3, 7, 0, 31, 63, 0, 255] [(7, 2, []), (0, 1, [0, 1]), (1, 1, [0, 1]), (2, 1, [0, 1]), (3, 1, [0, 1]), (4, 1, [0, 1]), (5, 1, [0, 1]), (6, 1, [0, 1]), (8, 2, [])] (by kernel_rfl) ?_
  conv => whnf
  repeat (refine And.intro (by first | rfl | omega) ?_; conv => whnf)
  refine CallK.mk' _ _ (c199d_3 m n x0 x1 x2 x3 x4 hd) ?_
  conv => whnf
  exact RetK.more (H := hG m n x0 x1 x2 x3 x4) [_, _, _] rfl (by simp) (WV.tup ⟨WV.lf (WL.ptr rfl rfl), WV.lf (WL.int rfl), trivial⟩)

theorem c154R_3 (m : List UInt8) (d : Nat → Bool) (hm : m.length ≤ 1000) : SCalls Proofs.Try.prog 154 [.s (.lf (.ptr 0 0)), vI 3] (hR m d) (.tup [.lf (.ptr 5 0), .lf (.int .i64 0)]) (hR m (up d 3)) := by
  cases h : d 3 with
  | true =>
    have e : hR m (up d 3) = hR m d := by
      have : up d 3 = d := by
        funext i
        unfold up
        split
        · rename_i hi
          rw [Nat.eq_of_beq_eq_true hi, h]
        · rfl
      rw [this]
    rw [e]
    exact c154d_3 m (cnt d) _ _ _ _ _ (by rw [h]; rfl)
  | false =>
    have e : cnt (up d 3) = cnt d + 1 := by
      unfold cnt
      rw [h]
      simp [up, b2, Nat.beq] <;> omega
    have k := c154_3 m (cnt d) (kS m 0 (d 0)) (kS m 1 (d 1)) (kS m 2 (d 2)) (kS m 3 (d 3)) (kS m 4 (d 4)) hm ⟨cnt_nonneg d, by have := cnt_le d; omega⟩ (by rw [h]; rfl) (by rw [h]; rfl)
    rw [← e] at k
    exact k
theorem c88_3 (m : List UInt8) (d : Nat → Bool) (hm : m.length ≤ 1000) : SCalls Proofs.Try.prog 88 [.s (.lf (.ptr 0 0)), vI 3] (hR m d) (.tup [.lf (.str (kyF m tokenB 3)), .lf (.int .i64 0)]) (hR m (up d 3)) := by
  refine SCalls.intro tok Proofs.Try.func88 ?_
  conv => whnf
  refine CallK.mk' _ _ (c154R_3 m d hm) ?_
  conv => whnf
  refine CaseB.of_false rfl ?_
  conv => whnf
  exact RetK.same (H := hR m (up d 3)) rfl (by simp) (WV.tup ⟨WV.lf (WL.str rfl), WV.lf (WL.int rfl), trivial⟩)
theorem c89_3 (m : List UInt8) (d : Nat → Bool) (hm : m.length ≤ 1000) : SCalls Proofs.Try.prog 89 [.s (.lf (.ptr 0 0)), vI 3] (hR m d) (.tup [.lf (.str (kyF m putB 3)), .lf (.int .i64 0)]) (hR m (up d 3)) := by
  refine SCalls.intro tok Proofs.Try.func89 ?_
  conv => whnf
  refine CallK.mk' _ _ (c154R_3 m d hm) ?_
  conv => whnf
  refine CaseB.of_false rfl ?_
  conv => whnf
  exact RetK.same (H := hR m (up d 3)) rfl (by simp) (WV.tup ⟨WV.lf (WL.str rfl), WV.lf (WL.int rfl), trivial⟩)
theorem c90_3 (m : List UInt8) (d : Nat → Bool) (hm : m.length ≤ 1000) : SCalls Proofs.Try.prog 90 [.s (.lf (.ptr 0 0)), vI 3] (hR m d) (.tup [.lf (.str (kyF m getB 3)), .lf (.int .i64 0)]) (hR m (up d 3)) := by
  refine SCalls.intro tok Proofs.Try.func90 ?_
  conv => whnf
  refine CallK.mk' _ _ (c154R_3 m d hm) ?_
  conv => whnf
  refine CaseB.of_false rfl ?_
  conv => whnf
  exact RetK.same (H := hR m (up d 3)) rfl (by simp) (WV.tup ⟨WV.lf (WL.str rfl), WV.lf (WL.int rfl), trivial⟩)
/-! ### Lane 4 -/
/-- (*sync/atomic.Int64).Add -/
theorem c202_4 (m : List UInt8) (n : Int) (x0 x1 x2 x3 x4 : KS) (hn : 0 ≤ n ∧ n < 1000) : SCalls Proofs.Try.prog 202 [.s (.lf (.ptr 0 2)), vI 1] (hO m n x0 x1 x2 x3 x4 4 6) (vI (n + 1)) (hO m (n + 1) x0 x1 x2 x3 x4 4 6) := by
  refine SCalls.intro tok Proofs.Try.func202 ?_
  conv => whnf
  refine ⟨⟨_, _, sem_add Proofs.Try.func222 rfl rfl y222 .i64 x222 (ob := rgO m n) rfl rfl (s := n + 1) (l' := (rgO m (n + 1)).segs) (puts_of rfl) (add_run (x := n) (y := 1) (wrap_i64 (by omega) (by omega))) (by show (-9223372036854775808 : Int) ≤ n + 1 ∧ n + 1 ≤ 9223372036854775807; omega), ?_⟩⟩
  conv => whnf
  exact RetK.same (H := (hO m (n + 1) x0 x1 x2 x3 x4 4 6)) rfl (by simp) (okF.wv trivial)

/-- derive -/
theorem c201_4 (m : List UInt8) (n : Int) (x0 x1 x2 x3 x4 : KS) (hm : m.length ≤ 1000) (p : List UInt8) (hp : p.length ≤ 1000) :
    SCalls Proofs.Try.prog 201 [.s (.lf (.ptr 0 0)), .s (.lf (.str p)), vI 4] (hO m n x0 x1 x2 x3 x4 4 6) (.s (.lf (.str (kyF m p 4)))) (hO m n x0 x1 x2 x3 x4 4 6) := by
  refine SCalls.intro tok Proofs.Try.func201 ?_
  conv => whnf
  refine CallK.mk' _ _ ((c221 m p 4 (by omega) (by omega) 4 rfl).free _ ⟨trivial, trivial, trivial, trivial⟩ trivial) ?_
  conv => whnf
  exact RetK.same (H := (hO m n x0 x1 x2 x3 x4 4 6)) rfl (by simp) (okF.wv trivial)

/-- what Once does -/
theorem c200_4 (m : List UInt8) (n : Int) (x0 x1 x2 x3 x4 : KS) (hm : m.length ≤ 1000) (hn : 0 ≤ n ∧ n < 1000) :
    SCalls Proofs.Try.prog 200 [.s (.lf (.ptr 7 0)), .s (.lf (.ptr 8 0)), .s (.lf (.ptr 9 0))] (hO m n x0 x1 x2 x3 x4 4 6) (.tup []) (hO m (n + 1) x0 x1 x2 x3 (madeS m x4 4) 4 6) := by
  refine SCalls.intro tok Proofs.Try.func200 ?_
  conv => whnf
  refine DrawK.mk1 tok mixed [0, 0, 0, 6, 15, 31, 63] [(0, 1, [0]), (1, 1, [0]), (2, 1, [0]), (3, 1, [0]), (4, 1, [0]), (5, 1, [0]), (6, 2, [])] (by kernel_rfl) ?_
  conv => whnf
  refine CallR.mk' _ (c201_4 m n x0 x1 x2 x3 x4 hm [116, 111, 107, 101, 110] (by decide)) ?_
  conv => whnf
  refine DrawK.mk1 tok mixed [0, 0, 0, 6, 15, 31, 63] [(0, 1, [0]), (1, 1, [0]), (2, 1, [0]), (3, 1, [0]), (4, 1, [0]), (5, 1, [0]), (6, 2, [])] (by kernel_rfl) ?_
  conv => whnf
  refine CallR.mk' _ (c201_4 m n x0 x1 x2 x3 (⟨x4.d, x4.s, kyF m [116, 111, 107, 101, 110] 4, x4.b, x4.c⟩) hm [112, 117, 116] (by decide)) ?_
  conv => whnf
  refine DrawK.mk1 tok mixed [0, 0, 0, 6, 15, 31, 63] [(0, 1, [0]), (1, 1, [0]), (2, 1, [0]), (3, 1, [0]), (4, 1, [0]), (5, 1, [0]), (6, 2, [])] (by kernel_rfl) ?_
  conv => whnf
  refine CallR.mk' _ (c201_4 m n x0 x1 x2 x3 (⟨x4.d, x4.s, kyF m [116, 111, 107, 101, 110] 4, kyF m [112, 117, 116] 4, x4.c⟩) hm [103, 101, 116] (by decide)) ?_
  conv => whnf
  refine CallK.mk' _ _ (c202_4 m n x0 x1 x2 x3 (madeS m x4 4) hn) ?_
  conv => whnf
  exact RetK.same (H := (hO m (n + 1) x0 x1 x2 x3 (madeS m x4 4) 4 6)) rfl (by simp) (okF.wv trivial)
/-- (*sync.Mutex).Unlock, deferred -/
theorem c233_4 (m : List UInt8) (n : Int) (x0 x1 x2 x3 x4 : KS) (hs : x4.s = 1) : SCallsD Proofs.Try.prog 233 [.s (.lf (.ptr 6 1))] (hO m n x0 x1 x2 x3 x4 4 6) (.tup []) (hO m n x0 x1 x2 x3 ⟨x4.d, 0, x4.a, x4.b, x4.c⟩ 4 6) := by
  refine SCallsD.intro tok Proofs.Try.func233 ?_
  conv => whnf
  refine CallK.mk' _ _ ((c240 x4 hs).frame1 (nm := 6) (ob2 := kO ⟨x4.d, 0, x4.a, x4.b, x4.c⟩) rfl rfl kO_ws ⟨WV.lf (WL.ptr rfl rfl), trivial⟩ rfl (kO_ws (x := ⟨_, _, _, _, _⟩)) (freeF.wv trivial)) ?_
  conv => whnf
  exact RetK.same (H := (hO m n x0 x1 x2 x3 ⟨x4.d, 0, x4.a, x4.b, x4.c⟩ 4 6)) rfl (by simp) (okF.wv trivial)

/-- (*sync/atomic.Bool).Store, deferred -/
theorem c234_4 (m : List UInt8) (n : Int) (x0 x1 x2 x3 x4 : KS) : SCallsD Proofs.Try.prog 234 [.s (.lf (.ptr 6 0)), .s (.lf .tt)] (hO m n x0 x1 x2 x3 x4 4 6) (.tup []) (hO m n x0 x1 x2 x3 ⟨1, x4.s, x4.a, x4.b, x4.c⟩ 4 6) := by
  refine SCallsD.intro tok Proofs.Try.func234 ?_
  conv => whnf
  refine DrawK.mk1 tok mixed [0, 1, 3, 0, 8, 31] [(0, 0, []), (3, 0, []), (4, 2, []), (1, 1, [0, 1]), (2, 1, [0, 1]), (5, 2, [])] (by kernel_rfl) ?_
  conv => whnf
  refine CallK.mk' _ _ (c242.free _ ⟨trivial, trivial⟩ trivial) ?_
  conv => whnf
  repeat (refine And.intro rfl ?_; conv => whnf)
  refine ⟨⟨_, _, sem_store Proofs.Try.func241 rfl rfl y241 x241 (ob := kO x4) rfl (l' := (kO ⟨1, x4.s, x4.a, x4.b, x4.c⟩).segs) (puts_of rfl), ?_⟩⟩
  conv => whnf
  exact RetK.same (H := (hO m n x0 x1 x2 x3 ⟨1, x4.s, x4.a, x4.b, x4.c⟩ 4 6)) rfl (by simp) (okF.wv trivial)

/-- (*sync.Once).doSlow -/
theorem c220_4 (m : List UInt8) (n : Int) (x0 x1 x2 x3 x4 : KS) (hm : m.length ≤ 1000) (hn : 0 ≤ n ∧ n < 1000) (hd : x4.d = 0) (hs : x4.s = 0) :
    SCalls Proofs.Try.prog 220 [.s (.lf (.ptr 6 0)), .s (.lf vDo)] (hO m n x0 x1 x2 x3 x4 4 6) (.tup []) (hO m (n + 1) x0 x1 x2 x3 ⟨1, 0, kyF m tokenB 4, kyF m putB 4, kyF m getB 4⟩ 4 6) := by
  refine SCalls.introD tok Proofs.Try.func220 ?_
  conv => whnf
  refine CallK.mk' _ _ ((c232 x4 hs).frame1 (nm := 6) (ob2 := kO ⟨x4.d, 1, x4.a, x4.b, x4.c⟩) rfl rfl kO_ws ⟨WV.lf (WL.ptr rfl rfl), trivial⟩ rfl (kO_ws (x := ⟨_, _, _, _, _⟩)) (freeF.wv trivial)) ?_
  conv => whnf
  refine CallK.mk' _ _ ((c219 ⟨x4.d, 1, x4.a, x4.b, x4.c⟩).frame1 (nm := 6) (ob2 := kO ⟨x4.d, 1, x4.a, x4.b, x4.c⟩) rfl rfl (kO_ws (x := ⟨_, _, _, _, _⟩)) ⟨WV.lf (WL.ptr rfl rfl), trivial⟩ rfl (kO_ws (x := ⟨_, _, _, _, _⟩)) (freeF.wv trivial)) ?_
  conv => whnf
  refine CaseB.of_true (by rw [hd]; rfl) ?_
  conv => whnf
  refine CallK.mk' _ _ (c200_4 m n x0 x1 x2 x3 ⟨x4.d, 1, x4.a, x4.b, x4.c⟩ hm hn) ?_
  conv => whnf
  refine CallKD.mk' _ _ (c234_4 m (n + 1) x0 x1 x2 x3 ⟨x4.d, 1, kyF m tokenB 4, kyF m putB 4, kyF m getB 4⟩) ?_
  conv => whnf
  refine CallKD.mk' _ _ (c233_4 m (n + 1) x0 x1 x2 x3 ⟨1, 1, kyF m tokenB 4, kyF m putB 4, kyF m getB 4⟩ rfl) ?_
  conv => whnf
  exact RetK.same (H := (hO m (n + 1) x0 x1 x2 x3 ⟨1, 0, kyF m tokenB 4, kyF m putB 4, kyF m getB 4⟩ 4 6)) rfl (by simp) (okF.wv trivial)

/-- (*sync.Once).Do -/
theorem c199_4 (m : List UInt8) (n : Int) (x0 x1 x2 x3 x4 : KS) (hm : m.length ≤ 1000) (hn : 0 ≤ n ∧ n < 1000) (hd : x4.d = 0) (hs : x4.s = 0) :
    SCalls Proofs.Try.prog 199 [.s (.lf (.ptr 6 0)), .s (.lf vDo)] (hO m n x0 x1 x2 x3 x4 4 6) (.tup []) (hO m (n + 1) x0 x1 x2 x3 ⟨1, 0, kyF m tokenB 4, kyF m putB 4, kyF m getB 4⟩ 4 6) := by
  refine SCalls.intro tok Proofs.Try.func199 ?_
  conv => whnf
  refine CallK.mk' _ _ ((c219 x4).frame1 (nm := 6) (ob2 := kO x4) rfl rfl kO_ws ⟨WV.lf (WL.ptr rfl rfl), trivial⟩ rfl kO_ws (freeF.wv trivial)) ?_
  conv => whnf
  refine CaseB.of_true (by rw [hd]; rfl) ?_
  conv => whnf
  refine CallK.mk' _ _ (c220_4 m n x0 x1 x2 x3 x4 hm hn hd hs) ?_
  conv => whnf
  exact RetK.same (H := (hO m (n + 1) x0 x1 x2 x3 ⟨1, 0, kyF m tokenB 4, kyF m putB 4, kyF m getB 4⟩ 4 6)) rfl (by simp) (okF.wv trivial)
theorem c199d_4 (m : List UInt8) (n : Int) (x0 x1 x2 x3 x4 : KS) (hd : x4.d = 1) : SCalls Proofs.Try.prog 199 [.s (.lf (.ptr 6 0)), .s (.lf vDo)] (hO m n x0 x1 x2 x3 x4 4 6) (.tup []) (hO m n x0 x1 x2 x3 x4 4 6) := by
  refine SCalls.intro tok Proofs.Try.func199 ?_
  conv => whnf
  refine CallK.mk' _ _ ((c219 x4).frame1 (nm := 6) (ob2 := kO x4) rfl rfl kO_ws ⟨WV.lf (WL.ptr rfl rfl), trivial⟩ rfl kO_ws (freeF.wv trivial)) ?_
  conv => whnf
  refine CaseB.of_false (by rw [hd]; rfl) ?_
  conv => whnf
  exact RetK.same (H := (hO m n x0 x1 x2 x3 x4 4 6)) rfl (by simp) (okF.wv trivial)

/-- (*keyring.Ring).of -/
theorem c154_4 (m : List UInt8) (n : Int) (x0 x1 x2 x3 x4 : KS) (hm : m.length ≤ 1000) (hn : 0 ≤ n ∧ n < 1000) (hd : x4.d = 0) (hs : x4.s = 0) :
    SCalls Proofs.Try.prog 154 [.s (.lf (.ptr 0 0)), vI 4] (hG m n x0 x1 x2 x3 x4) (.tup [.lf (.ptr 6 0), .lf (.int .i64 0)]) (hG m (n + 1) x0 x1 x2 x3 ⟨1, 0, kyF m tokenB 4, kyF m putB 4, kyF m getB 4⟩) := by
  refine SCalls.intro tok Proofs.Try.func154 ?_
  conv => whnf
  refine CaseB.of_false rfl ?_
  conv => whnf
  refine DrawK.mk1 tok mixed [0, 1, 3, 7, 7, 23, 55, 119, 247, 511, 1023] [(0, 1, [0]), (1, 0, []), (2, 0, []), (3, 1, [0]), (4, 1, [0]), (5, 1, [0]), (6, 1, [0]), (7, 1, [0]), (8, 1, [0]), (9, 0, []), (10, 0, [])] (by kernel_rfl) ?_
  conv => whnf
  repeat (refine CaseB.of_false rfl ?_; conv => whnf)
  refine DrawK.mk1 tok mixed [0, 1, 3, 7, 0, 31, 63, 0, 255] [(7, 2, []), (0, 1, [0, 1]), (1, 1, [0, 1]), (2, 1, [0, 1]), (3, 1, [0, 1]), (4, 1, [0, 1]), (5, 1, [0, 1]), (6, 1, [0, 1]), (8, 2, [])] (by kernel_rfl) ?_
  conv => whnf
  repeat (refine And.intro (by first | rfl | omega) ?_; conv => whnf)
  refine CallK.mk' _ _ (c199_4 m n x0 x1 x2 x3 x4 hm hn hd hs) ?_
  conv => whnf
  exact RetK.more (H := hG m (n + 1) x0 x1 x2 x3 ⟨1, 0, kyF m tokenB 4, kyF m putB 4, kyF m getB 4⟩) [_, _, _] rfl (by simp) (WV.tup ⟨WV.lf (WL.ptr rfl rfl), WV.lf (WL.int rfl), trivial⟩)
theorem c154d_4 (m : List UInt8) (n : Int) (x0 x1 x2 x3 x4 : KS) (hd : x4.d = 1) :
    SCalls Proofs.Try.prog 154 [.s (.lf (.ptr 0 0)), vI 4] (hG m n x0 x1 x2 x3 x4) (.tup [.lf (.ptr 6 0), .lf (.int .i64 0)]) (hG m n x0 x1 x2 x3 x4) := by
  refine SCalls.intro tok Proofs.Try.func154 ?_
  conv => whnf
  refine CaseB.of_false rfl ?_
  conv => whnf
  refine DrawK.mk1 tok mixed [0, 1, 3, 7, 7, 23, 55, 119, 247, 511, 1023] [(0, 1, [0]), (1, 0, []), (2, 0, []), (3, 1, [0]), (4, 1, [0]), (5, 1, [0]), (6, 1, [0]), (7, 1, [0]), (8, 1, [0]), (9, 0, []), (10, 0, [])] (by kernel_rfl) ?_
  conv => whnf
  repeat (refine CaseB.of_false rfl ?_; conv => whnf)
  refine DrawK.mk1 tok mixed [0, 1, 3, 7, 0, 31, 63, 0, 255] [(7, 2, []), (0, 1, [0, 1]), (1, 1, [0, 1]), (2, 1, [0, 1]), (3, 1, [0, 1]), (4, 1, [0, 1]), (5, 1, [0, 1]), (6, 1, [0, 1]), (8, 2, [])] (by kernel_rfl) ?_
  conv => whnf
  repeat (refine And.intro (by first | rfl | omega) ?_; conv => whnf)
  refine CallK.mk' _ _ (c199d_4 m n x0 x1 x2 x3 x4 hd) ?_
  conv => whnf
  exact RetK.more (H := hG m n x0 x1 x2 x3 x4) [_, _, _] rfl (by simp) (WV.tup ⟨WV.lf (WL.ptr rfl rfl), WV.lf (WL.int rfl), trivial⟩)

theorem c154R_4 (m : List UInt8) (d : Nat → Bool) (hm : m.length ≤ 1000) : SCalls Proofs.Try.prog 154 [.s (.lf (.ptr 0 0)), vI 4] (hR m d) (.tup [.lf (.ptr 6 0), .lf (.int .i64 0)]) (hR m (up d 4)) := by
  cases h : d 4 with
  | true =>
    have e : hR m (up d 4) = hR m d := by
      have : up d 4 = d := by
        funext i
        unfold up
        split
        · rename_i hi
          rw [Nat.eq_of_beq_eq_true hi, h]
        · rfl
      rw [this]
    rw [e]
    exact c154d_4 m (cnt d) _ _ _ _ _ (by rw [h]; rfl)
  | false =>
    have e : cnt (up d 4) = cnt d + 1 := by
      unfold cnt
      rw [h]
      simp [up, b2, Nat.beq] <;> omega
    have k := c154_4 m (cnt d) (kS m 0 (d 0)) (kS m 1 (d 1)) (kS m 2 (d 2)) (kS m 3 (d 3)) (kS m 4 (d 4)) hm ⟨cnt_nonneg d, by have := cnt_le d; omega⟩ (by rw [h]; rfl) (by rw [h]; rfl)
    rw [← e] at k
    exact k
theorem c88_4 (m : List UInt8) (d : Nat → Bool) (hm : m.length ≤ 1000) : SCalls Proofs.Try.prog 88 [.s (.lf (.ptr 0 0)), vI 4] (hR m d) (.tup [.lf (.str (kyF m tokenB 4)), .lf (.int .i64 0)]) (hR m (up d 4)) := by
  refine SCalls.intro tok Proofs.Try.func88 ?_
  conv => whnf
  refine CallK.mk' _ _ (c154R_4 m d hm) ?_
  conv => whnf
  refine CaseB.of_false rfl ?_
  conv => whnf
  exact RetK.same (H := hR m (up d 4)) rfl (by simp) (WV.tup ⟨WV.lf (WL.str rfl), WV.lf (WL.int rfl), trivial⟩)
theorem c89_4 (m : List UInt8) (d : Nat → Bool) (hm : m.length ≤ 1000) : SCalls Proofs.Try.prog 89 [.s (.lf (.ptr 0 0)), vI 4] (hR m d) (.tup [.lf (.str (kyF m putB 4)), .lf (.int .i64 0)]) (hR m (up d 4)) := by
  refine SCalls.intro tok Proofs.Try.func89 ?_
  conv => whnf
  refine CallK.mk' _ _ (c154R_4 m d hm) ?_
  conv => whnf
  refine CaseB.of_false rfl ?_
  conv => whnf
  exact RetK.same (H := hR m (up d 4)) rfl (by simp) (WV.tup ⟨WV.lf (WL.str rfl), WV.lf (WL.int rfl), trivial⟩)
theorem c90_4 (m : List UInt8) (d : Nat → Bool) (hm : m.length ≤ 1000) : SCalls Proofs.Try.prog 90 [.s (.lf (.ptr 0 0)), vI 4] (hR m d) (.tup [.lf (.str (kyF m getB 4)), .lf (.int .i64 0)]) (hR m (up d 4)) := by
  refine SCalls.intro tok Proofs.Try.func90 ?_
  conv => whnf
  refine CallK.mk' _ _ (c154R_4 m d hm) ?_
  conv => whnf
  refine CaseB.of_false rfl ?_
  conv => whnf
  exact RetK.same (H := hR m (up d 4)) rfl (by simp) (WV.tup ⟨WV.lf (WL.str rfl), WV.lf (WL.int rfl), trivial⟩)

theorem c88 (m : List UInt8) (d : Nat → Bool) (hm : m.length ≤ 1000) (z : Int) (h : 0 ≤ z ∧ z < 5) : SCalls Proofs.Try.prog 88 [.s (.lf (.ptr 0 0)), vI z] (hR m d) (.tup [.lf (.str (kyF m tokenB z.toNat)), .lf (.int .i64 0)]) (hR m (up d z.toNat)) := by
  have : z = 0 ∨ z = 1 ∨ z = 2 ∨ z = 3 ∨ z = 4 := by omega
  rcases this with rfl | rfl | rfl | rfl | rfl
  · exact c88_0 m d hm
  · exact c88_1 m d hm
  · exact c88_2 m d hm
  · exact c88_3 m d hm
  · exact c88_4 m d hm

theorem c89 (m : List UInt8) (d : Nat → Bool) (hm : m.length ≤ 1000) (z : Int) (h : 0 ≤ z ∧ z < 5) : SCalls Proofs.Try.prog 89 [.s (.lf (.ptr 0 0)), vI z] (hR m d) (.tup [.lf (.str (kyF m putB z.toNat)), .lf (.int .i64 0)]) (hR m (up d z.toNat)) := by
  have : z = 0 ∨ z = 1 ∨ z = 2 ∨ z = 3 ∨ z = 4 := by omega
  rcases this with rfl | rfl | rfl | rfl | rfl
  · exact c89_0 m d hm
  · exact c89_1 m d hm
  · exact c89_2 m d hm
  · exact c89_3 m d hm
  · exact c89_4 m d hm

theorem c90 (m : List UInt8) (d : Nat → Bool) (hm : m.length ≤ 1000) (z : Int) (h : 0 ≤ z ∧ z < 5) : SCalls Proofs.Try.prog 90 [.s (.lf (.ptr 0 0)), vI z] (hR m d) (.tup [.lf (.str (kyF m getB z.toNat)), .lf (.int .i64 0)]) (hR m (up d z.toNat)) := by
  have : z = 0 ∨ z = 1 ∨ z = 2 ∨ z = 3 ∨ z = 4 := by omega
  rcases this with rfl | rfl | rfl | rfl | rfl
  · exact c90_0 m d hm
  · exact c90_1 m d hm
  · exact c90_2 m d hm
  · exact c90_3 m d hm
  · exact c90_4 m d hm
end Go.Sym.Md


set_option linter.unusedVariables false
set_option linter.unusedSimpArgs false
set_option maxRecDepth 10000
namespace Go.Sym.Md
open Go Go.Sym Go.Sym.Sh

/-- (*sync/atomic.Int64).Load -/
theorem c156 (m : List UInt8) (d : Nat → Bool) : SCalls Proofs.Try.prog 156 [.s (.lf (.ptr 0 2))] (hR m d) (vI (cnt d)) (hR m d) := by
  refine SCalls.intro tok Proofs.Try.func156 ?_
  conv => whnf
  refine ⟨⟨_, _, sem_load Proofs.Try.func203 rfl rfl y203 .i64 x203 (ob := rgO m (cnt d)) rfl (by simp [tot, Seg.width]) rfl, ?_⟩⟩
  conv => whnf
  exact RetK.same (H := hR m d) rfl (by simp) (okF.wv trivial)
abbrev zR : OB := ⟨106, [.one (.str []), .one .sl0, .one (.int .i64 0)]⟩
theorem c156z : SCalls Proofs.Try.prog 156 [.s (.lf (.ptr 0 2))] [some zR] (vI 0) [some zR] := by
  refine SCalls.intro tok Proofs.Try.func156 ?_
  conv => whnf
  refine ⟨⟨_, _, sem_load Proofs.Try.func203 rfl rfl y203 .i64 x203 (ob := zR) rfl (by simp [tot, Seg.width]) rfl, ?_⟩⟩
  conv => whnf
  exact RetK.same (H := [some zR]) rfl (by simp) (okF.wv trivial)

/-- Ring.of, of no lane -/
theorem c154e (m : List UInt8) (d : Nat → Bool) (z : Int) (h : ¬ (0 ≤ z ∧ z < 5)) : SCalls Proofs.Try.prog 154 [.s (.lf (.ptr 0 0)), vI z] (hR m d) (.tup [.lf .nilp, .lf (.int .i64 1)]) (hR m d) := by
  refine SCalls.intro tok Proofs.Try.func154 ?_
  conv => whnf
  refine CaseB.of_false rfl ?_
  conv => whnf
  refine DrawK.mk1 tok mixed [0, 1, 3, 7, 7, 23, 55, 119, 247, 511, 1023] [(0, 1, [0]), (1, 0, []), (2, 0, []), (3, 1, [0]), (4, 1, [0]), (5, 1, [0]), (6, 1, [0]), (7, 1, [0]), (8, 1, [0]), (9, 0, []), (10, 0, [])] (by kernel_rfl) ?_
  conv => whnf
  by_cases h0 : z < 0
  · repeat (refine CaseB.of_true (decide_eq_true h0) ?_; conv => whnf)
    exact RetK.more (H := hR m d) [_, _] rfl (by simp) (okF.wv ⟨trivial, trivial, trivial⟩)
  · repeat (refine CaseB.of_false (decide_eq_false h0) ?_; conv => whnf)
    refine CaseB.of_true (decide_eq_true (by omega)) ?_
    conv => whnf
    exact RetK.more (H := hR m d) [_, _] rfl (by simp) (okF.wv ⟨trivial, trivial, trivial⟩)

/-- Ring.of, of no ring -/
theorem c154n (z : Int) : SCalls Proofs.Try.prog 154 [.s (.lf .nilp), vI z] [] (.tup [.lf .nilp, .lf (.int .i64 2)]) [] := by
  refine SCalls.intro tok Proofs.Try.func154 ?_
  conv => whnf
  exact RetK.more (H := []) [_, _] rfl (by simp) (okF.wv ⟨trivial, trivial, trivial⟩)
theorem c154z (z : Int) : SCalls Proofs.Try.prog 154 [.s (.lf (.ptr 0 0)), vI z] [some zR] (.tup [.lf .nilp, .lf (.int .i64 2)]) [some zR] := by
  refine SCalls.intro tok Proofs.Try.func154 ?_
  conv => whnf
  refine CaseB.of_true rfl ?_
  conv => whnf
  exact RetK.more (H := [some zR]) [_, _] rfl (by simp) (okF.wv ⟨trivial, trivial, trivial⟩)
/-- Ring.Made -/
theorem c92 (m : List UInt8) (d : Nat → Bool) : SCalls Proofs.Try.prog 92 [.s (.lf (.ptr 0 0))] (hR m d) (vI (cnt d)) (hR m d) := by
  refine SCalls.intro tok Proofs.Try.func92 ?_
  conv => whnf
  refine CallK.mk' _ _ (c156 m d) ?_
  conv => whnf
  exact RetK.same (H := hR m d) rfl (by simp) (okF.wv trivial)
theorem c92z : SCalls Proofs.Try.prog 92 [.s (.lf (.ptr 0 0))] [some zR] (vI 0) [some zR] := by
  refine SCalls.intro tok Proofs.Try.func92 ?_
  conv => whnf
  refine CallK.mk' _ _ c156z ?_
  conv => whnf
  exact RetK.same (H := [some zR]) rfl (by simp) (okF.wv trivial)
theorem c92n : SCalls Proofs.Try.prog 92 [.s (.lf .nilp)] [] (vI 0) [] := by
  refine SCalls.intro tok Proofs.Try.func92 ?_
  conv => whnf
  exact RetK.empty (okF.wv trivial)
/-- The heap of New's loop. -/
def nwH (m : List UInt8) : Nat → Hp
  | 0 => [some ⟨106, [.one (.str m), .one .sl0, .one (.int .i64 0)]⟩]
  | n + 1 => some ⟨106, [.one (.str m), .one (.own 1 0 1 0 (n + 1)), .one (.int .i64 0)]⟩ :: some ⟨157, [.recs 1 (n + 1) fun i _ => .ptr (2 + i) 0]⟩ :: List.replicate (n + 1) (some (kO ⟨0, 0, [], [], []⟩))

/-- keyring.New -/
theorem c86 (m : List UInt8) : SCalls Proofs.Try.prog 86 [.s (.lf (.str m))] [] (.s (.lf (.ptr 0 0))) (hR m fun _ => false) := by
  refine SCalls.intro tok Proofs.Try.func86 ?_
  conv => whnf
  refine LoopK.upTo 5 (fun k => [(7, vI k), (3, .s (.lf (.ptr 0 0)))]) (nwH m) ?_ ?_
  · exact Weak.of (HpW.okB rfl) (by simp) ⟨okF.wv trivial, okF.wv rfl, trivial⟩
  intro k hk
  have : k = 0 ∨ k = 1 ∨ k = 2 ∨ k = 3 ∨ k = 4 ∨ k = 5 := by omega
  rcases this with rfl | rfl | rfl | rfl | rfl | rfl
  · conv => whnf
    refine CaseB.of_true rfl ?_
    conv => whnf
    refine Or.inr ?_
    conv => whnf
    refine And.intro (by decide) ?_
    conv => whnf
    refine ⟨1, by decide, by decide, ?_⟩
    refine Weak.perm [0, 2, 1] ⟨⟨rfl, ⟨.one (WL.str rfl), .one (WL.own rfl rfl rfl rfl), .one (WL.int rfl), trivial⟩⟩, ⟨rfl, ⟨.recs rfl fun i hi j hj => ?_, trivial⟩⟩, ⟨rfl, kO_ws (x := ⟨_, _, _, _, _⟩)⟩, trivial⟩ ⟨freeF.wv trivial, WV.lf (WL.ptr rfl rfl), trivial⟩ rfl (Nat.le_refl 3) rfl (Nat.zero_le _)
    obtain rfl : i = 0 := by have : i < 1 := hi; omega
    obtain rfl : j = 0 := by have : j < 1 := hj; omega
    exact WL.ptr rfl rfl
  · conv => whnf
    refine CaseB.of_true rfl ?_
    conv => whnf
    refine Or.inr ?_
    conv => whnf
    refine And.intro (by decide) ?_
    conv => whnf
    refine And.intro ⟨rfl, by decide⟩ ?_
    conv => whnf
    refine ⟨2, by decide, by decide, ?_⟩
    refine Weak.perm [0, 4, 2, 3] ⟨⟨rfl, ⟨.one (WL.str rfl), .one (WL.own rfl rfl rfl rfl), .one (WL.int rfl), trivial⟩⟩, ⟨rfl, ⟨.recs rfl fun i hi j hj => ?_, trivial⟩⟩, ⟨rfl, kO_ws (x := ⟨_, _, _, _, _⟩)⟩, ⟨rfl, kO_ws (x := ⟨_, _, _, _, _⟩)⟩, trivial⟩ ⟨freeF.wv trivial, WV.lf (WL.ptr rfl rfl), trivial⟩ rfl (Nat.le_refl 4) rfl (Nat.zero_le _)
    obtain rfl : j = 0 := by have : j < 1 := hj; omega
    have : i = 0 ∨ i = 1 := by have : i < 2 := hi; omega
    rcases this with rfl | rfl <;> exact WL.ptr rfl rfl
  · conv => whnf
    refine CaseB.of_true rfl ?_
    conv => whnf
    refine Or.inr ?_
    conv => whnf
    refine And.intro (by decide) ?_
    conv => whnf
    refine And.intro ⟨rfl, by decide⟩ ?_
    conv => whnf
    refine ⟨3, by decide, by decide, ?_⟩
    refine Weak.perm [0, 5, 2, 3, 4] ⟨⟨rfl, ⟨.one (WL.str rfl), .one (WL.own rfl rfl rfl rfl), .one (WL.int rfl), trivial⟩⟩, ⟨rfl, ⟨.recs rfl fun i hi j hj => ?_, trivial⟩⟩, ⟨rfl, kO_ws (x := ⟨_, _, _, _, _⟩)⟩, ⟨rfl, kO_ws (x := ⟨_, _, _, _, _⟩)⟩, ⟨rfl, kO_ws (x := ⟨_, _, _, _, _⟩)⟩, trivial⟩ ⟨freeF.wv trivial, WV.lf (WL.ptr rfl rfl), trivial⟩ rfl (Nat.le_refl 5) rfl (Nat.zero_le _)
    obtain rfl : j = 0 := by have : j < 1 := hj; omega
    have : i = 0 ∨ i = 1 ∨ i = 2 := by have : i < 3 := hi; omega
    rcases this with rfl | rfl | rfl <;> exact WL.ptr rfl rfl
  · conv => whnf
    refine CaseB.of_true rfl ?_
    conv => whnf
    refine Or.inr ?_
    conv => whnf
    refine And.intro (by decide) ?_
    conv => whnf
    refine And.intro ⟨rfl, by decide⟩ ?_
    conv => whnf
    refine ⟨4, by decide, by decide, ?_⟩
    refine Weak.perm [0, 6, 2, 3, 4, 5] ⟨⟨rfl, ⟨.one (WL.str rfl), .one (WL.own rfl rfl rfl rfl), .one (WL.int rfl), trivial⟩⟩, ⟨rfl, ⟨.recs rfl fun i hi j hj => ?_, trivial⟩⟩, ⟨rfl, kO_ws (x := ⟨_, _, _, _, _⟩)⟩, ⟨rfl, kO_ws (x := ⟨_, _, _, _, _⟩)⟩, ⟨rfl, kO_ws (x := ⟨_, _, _, _, _⟩)⟩, ⟨rfl, kO_ws (x := ⟨_, _, _, _, _⟩)⟩, trivial⟩ ⟨freeF.wv trivial, WV.lf (WL.ptr rfl rfl), trivial⟩ rfl (Nat.le_refl 6) rfl (Nat.zero_le _)
    obtain rfl : j = 0 := by have : j < 1 := hj; omega
    have : i = 0 ∨ i = 1 ∨ i = 2 ∨ i = 3 := by have : i < 4 := hi; omega
    rcases this with rfl | rfl | rfl | rfl <;> exact WL.ptr rfl rfl
  · conv => whnf
    refine CaseB.of_true rfl ?_
    conv => whnf
    refine Or.inr ?_
    conv => whnf
    refine And.intro (by decide) ?_
    conv => whnf
    refine And.intro ⟨rfl, by decide⟩ ?_
    conv => whnf
    refine ⟨5, by decide, by decide, ?_⟩
    refine Weak.perm [0, 7, 2, 3, 4, 5, 6] ⟨⟨rfl, ⟨.one (WL.str rfl), .one (WL.own rfl rfl rfl rfl), .one (WL.int rfl), trivial⟩⟩, ⟨rfl, ⟨.recs rfl fun i hi j hj => ?_, trivial⟩⟩, ⟨rfl, kO_ws (x := ⟨_, _, _, _, _⟩)⟩, ⟨rfl, kO_ws (x := ⟨_, _, _, _, _⟩)⟩, ⟨rfl, kO_ws (x := ⟨_, _, _, _, _⟩)⟩, ⟨rfl, kO_ws (x := ⟨_, _, _, _, _⟩)⟩, ⟨rfl, kO_ws (x := ⟨_, _, _, _, _⟩)⟩, trivial⟩ ⟨freeF.wv trivial, WV.lf (WL.ptr rfl rfl), trivial⟩ rfl (Nat.le_refl 7) rfl (Nat.zero_le _)
    obtain rfl : j = 0 := by have : j < 1 := hj; omega
    have : i = 0 ∨ i = 1 ∨ i = 2 ∨ i = 3 ∨ i = 4 := by have : i < 5 := hi; omega
    rcases this with rfl | rfl | rfl | rfl | rfl <;> exact WL.ptr rfl rfl
  · conv => whnf
    refine CaseB.of_false rfl ?_
    conv => whnf
    exact RetK.same (H := hR m fun _ => false) rfl (by simp) (okF.wv rfl)
end Go.Sym.Md

