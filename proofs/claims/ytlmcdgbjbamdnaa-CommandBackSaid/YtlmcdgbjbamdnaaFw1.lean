/- A framework for walking through the program's functions, proved sound, part 1: the representation of values, the operations of a function's code: first part. It has no condition. -/
import Derived.Calls
import Derived.Laws.Sem
import Derived.Laws.World
import Derived.Laws.Cells
import Derived.Laws.Tables
import GoSem.ClaimData
import Derived.Laws.Strings
set_option linter.unusedVariables false
namespace Go.Sym
open Go

/-- A value of one cell, told by what it is worth. Names of blocks are small numbers. -/
inductive LV where
  | any
  | unk
  | int (k : IntKind) (n : Int)
  | tt
  | ff
  | bool (b : Bool)
  | str (s : List UInt8)
  | nilp
  | ptr (nm base : Nat)
  | pti (nm base i st j : Nat)
  | rop (n : Nat) (f : Nat → LV)
  | sl0
  | own (nm base st off len : Nat)
  | rob (nn cl : Bool) (xs : List UInt8)
  | ro (nn cl : Bool) (st len : Nat) (f : Nat → Nat → LV)
  | fn (f : FuncId) (n : Nat) (caps : Nat → LV)
  | bfn (f : FuncId) (n : Nat) (fst : Nat → LV)
  | nilf
  | ifc (t : TypeId) (v : LV)
  | nili
  | aggl (n : Nat) (f : Nat → LV)
  | val (v : Value)

/-- Which block a name stands for: none: not in use yet; some none: in use no more. -/
structure NM where
  f : Nat → Option (Option Nat)
  /-- Blocks that are not to be touched: a caller's. -/
  X : Nat → Prop

instance : CoeFun NM (fun _ => Nat → Option (Option Nat)) := ⟨NM.f⟩

def NM.has (L : NM) (b : Nat) : Prop := ∃ nm, L nm = some (some b)
structure RO (w : World) (L : NM) (b : Nat) : Prop where
  lt : b < w.heap.size
  nhas : ¬ L.has b
  nX : ¬ L.X b

def roRep (w : World) (L : NM) (nn cl : Bool) (st len : Nat) (p : Nat → Nat → Value → Prop) (v : Value) : Prop :=
  (nn = false ∧ len = 0 ∧ v = .slice none 0 0) ∨
  ∃ a cap, v = .slice (some a) len cap ∧ len ≤ cap ∧ cap ≤ maxLen ∧ (cl = true → cap = len) ∧ (0 < len → a.spot = none ∧ RO w L a.block) ∧
    ∀ i, i < len → ∀ j, j < st → ∃ c, w.cell? ⟨a.block, a.off + i * st + j, none⟩ = some c ∧ c.oneCell' = true ∧ p i j c

def rep (w : World) (L : NM) : LV → Value → Prop
  | .any, _ => True
  | .unk, v => v.oneCell' = true
  | .int k n, v => v = .int k n ∧ k.min ≤ n ∧ n ≤ k.max
  | .tt, v => v = .bool true
  | .ff, v => v = .bool false
  | .bool b, v => v = .bool b
  | .str s, v => v = .string ⟨s.toArray⟩ ∧ s.length ≤ maxLen
  | .nilp, v => v = .pointer none
  | .ptr nm base, v => match L nm with
    | none => False
    | some none => v.oneCell' = true
    | some (some b) => v = .pointer (some ⟨b, base, none⟩)
  | .pti nm base i st j, v => match L nm with
    | none => False
    | some none => v.oneCell' = true
    | some (some b) => v = .pointer (some ⟨b, base + i * st + j, none⟩)
  | .rop n f, v => ∃ a : Addr, v = .pointer (some a) ∧ a.spot = none ∧ RO w L a.block ∧ ∀ j, j < n → ∃ c, w.cell? ⟨a.block, a.off + j, none⟩ = some c ∧ c.oneCell' = true ∧ rep w L (f j) c
  | .sl0, v => v = .slice none 0 0
  | .own nm base st off len, v => match L nm with
    | none => False
    | some none => v.oneCell' = true
    | some (some b) => ∃ cap o, v = .slice (some ⟨b, o, none⟩) len cap ∧ len ≤ cap ∧ cap ≤ maxLen ∧
        (0 < cap → o = base + off * st ∧ ∃ c t fz, w.heap[b]? = some (.cells c t fz) ∧ base + (off + cap) * st ≤ c.size)
  | .rob nn cl xs, v => roRep w L nn cl 1 xs.length (fun i _ c => c = .int .u8 ((xs.getD i 0).toNat : Int)) v
  | .ro nn cl st len f, v => roRep w L nn cl st len (fun i j c => rep w L (f i j) c) v
  | .fn f n caps, v => ∃ arr : Array Value, v = .func (.func f) #[] arr ∧ arr.size = n ∧ ∀ i, i < n → ∃ x, arr[i]? = some x ∧ rep w L (caps i) x
  | .bfn f n fst, v => ∃ arr : Array Value, v = .func (.func f) arr #[] ∧ arr.size = n ∧ ∀ i, i < n → ∃ x, arr[i]? = some x ∧ rep w L (fst i) x
  | .nilf, v => v = .nilFunc
  | .ifc t x, v => ∃ y, v = .iface t y ∧ rep w L x y
  | .nili, v => v = .nilIface
  | .aggl n f, v => ∃ arr : Array Value, v = .agg arr ∧ arr.size = n ∧ ∀ i, i < n → ∃ x, arr[i]? = some x ∧ x.oneCell' = true ∧ rep w L (f i) x
  | .val c, v => v = c

/-- What may become of the world and the names in a step. -/
structure Ev (w : World) (L : NM) (w' : World) (L' : NM) : Prop where
  os : w'.os = w.os
  tape : w'.tape = w.tape
  output : w'.output = w.output
  size : w.heap.size ≤ w'.heap.size
  keep : ∀ b, b < w.heap.size → ¬ L.has b → w'.heap[b]? = w.heap[b]?
  names : ∀ nm, L nm ≠ none → L' nm = some none ∨ L' nm = L nm
  fresh : ∀ b, L'.has b → L.has b ∨ w.heap.size ≤ b
  shape : ∀ nm b, L nm = some (some b) → L' nm = some (some b) → ∀ c t fz, w.heap[b]? = some (.cells c t fz) →
    ∃ c' fz', w'.heap[b]? = some (.cells c' t fz') ∧ c'.size = c.size
  far : L'.X = L.X

theorem Ev.refl (w : World) (L : NM) : Ev w L w L :=
  ⟨rfl, rfl, rfl, Nat.le_refl _, fun _ _ _ => rfl, fun _ _ => .inr rfl, fun _ h => .inl h, fun _ _ _ _ c t fz h => ⟨c, fz, h, rfl⟩, rfl⟩

theorem Ev.nothas {w w' : World} {L L' : NM} (h : Ev w L w' L') {b : Nat} (hb : b < w.heap.size) (hn : ¬ L.has b) : ¬ L'.has b := by
  intro hh
  rcases h.fresh b hh with h1 | h1
  · exact hn h1
  · omega

theorem Ev.trans {w w' w'' : World} {L L' L'' : NM} (h : Ev w L w' L') (k : Ev w' L' w'' L'') : Ev w L w'' L'' where
  os := k.os.trans h.os
  tape := k.tape.trans h.tape
  output := k.output.trans h.output
  size := Nat.le_trans h.size k.size
  keep := fun b hb hn => by
    have h1 := k.keep b (Nat.lt_of_lt_of_le hb h.size) (h.nothas hb hn)
    rw [h1, h.keep b hb hn]
  names := fun nm hnm => by
    rcases h.names nm hnm with h1 | h1
    · have := k.names nm (by rw [h1]; simp)
      rw [h1] at this
      exact .inl (this.elim id id)
    · have := k.names nm (by rw [h1]; exact hnm)
      rw [h1] at this
      exact this
  fresh := fun b hb => by
    rcases k.fresh b hb with h1 | h1
    · exact h.fresh b h1
    · exact .inr (Nat.le_trans h.size h1)
  shape := fun nm b h0 h2 c t fz hc => by
    have hL' : L' nm = some (some b) := by
      rcases h.names nm (by rw [h0]; simp) with h1 | h1
      · have := k.names nm (by rw [h1]; simp)
        rw [h1, h2] at this
        simp at this
      · rw [h1, h0]
    obtain ⟨c', fz', h3, h4⟩ := h.shape nm b h0 hL' c t fz hc
    obtain ⟨c'', fz'', h5, h6⟩ := k.shape nm b hL' h2 c' t fz' h3
    exact ⟨c'', fz'', h5, h6.trans h4⟩
  far := k.far.trans h.far

theorem RO.mono {w w' : World} {L L' : NM} (h : Ev w L w' L') {b : Nat} (hr : RO w L b) : RO w' L' b :=
  ⟨Nat.lt_of_lt_of_le hr.1 h.size, h.nothas hr.1 hr.2, by rw [h.far]; exact hr.3⟩

theorem cell_of_heap {w w' : World} {b : Nat} (h : w'.heap[b]? = w.heap[b]?) (o : Nat) : w'.cell? ⟨b, o, none⟩ = w.cell? ⟨b, o, none⟩ := by
  unfold World.cell?; rw [h]

theorem roRep.mono {w w' : World} {L L' : NM} (h : Ev w L w' L') {nn cl : Bool} {st len : Nat} {p p' : Nat → Nat → Value → Prop} {v : Value}
    (hp : ∀ i j c, i < len → j < st → p i j c → p' i j c) (hr : roRep w L nn cl st len p v) : roRep w' L' nn cl st len p' v := by
  rcases hr with hr | ⟨a, cap, hv, h1, h2, h3, h4, h5⟩
  · exact .inl hr
  · refine .inr ⟨a, cap, hv, h1, h2, h3, fun hl => ⟨(h4 hl).1, (h4 hl).2.mono h⟩, fun i hi j hj => ?_⟩
    obtain ⟨c, hc, ho, hpc⟩ := h5 i hi j hj
    have hro := (h4 (by omega)).2
    exact ⟨c, by rw [cell_of_heap (h.keep _ hro.1 hro.2)]; exact hc, ho, hp i j c hi hj hpc⟩

theorem rep.mono {w w' : World} {L L' : NM} (h : Ev w L w' L') : ∀ (s : LV) (v : Value), rep w L s v → rep w' L' s v := by
  intro s
  induction s with
  | any => intro v _; trivial
  | unk => intro v hv; exact hv
  | int k n => intro v hv; exact hv
  | tt => intro v hv; exact hv
  | ff => intro v hv; exact hv
  | bool b => intro v hv; exact hv
  | str s => intro v hv; exact hv
  | nilp => intro v hv; exact hv
  | ptr nm base =>
    intro v hv
    simp only [rep] at hv ⊢
    cases hL : L nm with
    | none => rw [hL] at hv; exact hv.elim
    | some o =>
      rw [hL] at hv
      rcases h.names nm (by rw [hL]; simp) with h1 | h1
      · rw [h1]
        cases o with
        | none => exact hv
        | some b => subst hv; rfl
      · rw [h1, hL]; exact hv
  | pti nm base i st j =>
    intro v hv
    simp only [rep] at hv ⊢
    cases hL : L nm with
    | none => rw [hL] at hv; exact hv.elim
    | some o =>
      rw [hL] at hv
      rcases h.names nm (by rw [hL]; simp) with h1 | h1
      · rw [h1]
        cases o with
        | none => exact hv
        | some b => subst hv; rfl
      · rw [h1, hL]; exact hv
  | rop n f ih =>
    intro v hv
    obtain ⟨a, h0, h1, h2, h3⟩ := hv
    refine ⟨a, h0, h1, h2.mono h, fun j hj => ?_⟩
    obtain ⟨c, hc, ho, hrc⟩ := h3 j hj
    exact ⟨c, by rw [cell_of_heap (h.keep _ h2.1 h2.2)]; exact hc, ho, ih j c hrc⟩
  | sl0 => intro v hv; exact hv
  | own nm base st off len =>
    intro v hv
    simp only [rep] at hv ⊢
    cases hL : L nm with
    | none => rw [hL] at hv; exact hv.elim
    | some o =>
      rw [hL] at hv
      rcases h.names nm (by rw [hL]; simp) with h1 | h1
      · rw [h1]
        cases o with
        | none => exact hv
        | some b => obtain ⟨cap, o, hv, _⟩ := hv; subst hv; rfl
      · rw [h1, hL]
        cases o with
        | none => exact hv
        | some b =>
          obtain ⟨cap, o, hv, h3, h4, h9⟩ := hv
          refine ⟨cap, o, hv, h3, h4, fun hc => ?_⟩
          obtain ⟨ho, c, t, fz, h5, h6⟩ := h9 hc
          obtain ⟨c', fz', h7, h8⟩ := h.shape nm b hL (by rw [h1, hL]) c t fz h5
          exact ⟨ho, c', t, fz', h7, by rw [h8]; exact h6⟩
  | rob nn cl xs => intro v hv; exact roRep.mono h (fun _ _ _ _ _ hp => hp) hv
  | ro nn cl st len f ih => intro v hv; exact roRep.mono h (fun i j c _ _ hp => ih i j c hp) hv
  | fn f n caps ih =>
    intro v hv
    obtain ⟨arr, h0, h1, h2⟩ := hv
    exact ⟨arr, h0, h1, fun i hi => let ⟨x, hx, hr⟩ := h2 i hi; ⟨x, hx, ih i x hr⟩⟩
  | bfn f n fst ih =>
    intro v hv
    obtain ⟨arr, h0, h1, h2⟩ := hv
    exact ⟨arr, h0, h1, fun i hi => let ⟨x, hx, hr⟩ := h2 i hi; ⟨x, hx, ih i x hr⟩⟩
  | nilf => intro v hv; exact hv
  | ifc t x ih => intro v hv; obtain ⟨y, h0, h1⟩ := hv; exact ⟨y, h0, ih y h1⟩
  | nili => intro v hv; exact hv
  | aggl n f ih =>
    intro v hv
    obtain ⟨arr, h0, h1, h2⟩ := hv
    exact ⟨arr, h0, h1, fun i hi => let ⟨x, hx, ho, hr⟩ := h2 i hi; ⟨x, hx, ho, ih i x hr⟩⟩
  | val c => intro v hv; exact hv

/-! ### Rows of cells -/
inductive Seg where
  | one (v : LV)
  | bytes (n : Nat) (xs : List UInt8)
  | ints (k : IntKind) (n : Nat) (xs : List Int)
  | recs (st n : Nat) (f : Nat → Nat → LV)

def Seg.width : Seg → Nat
  | .one _ => 1
  | .bytes n _ => n
  | .ints _ n _ => n
  | .recs st n _ => n * st

def Seg.at : Seg → Nat → LV
  | .one v, _ => v
  | .bytes _ xs, i => .int .u8 ((xs.getD i 0).toNat : Int)
  | .ints k _ xs, i => .int k (xs.getD i 0)
  | .recs st _ f, i => f (i / st) (i % st)

def tot : List Seg → Nat
  | [] => 0
  | s :: l => s.width + tot l

/-- The cell at a place. -/
def cellD : List Seg → Nat → LV
  | [], _ => .any
  | s :: l, o => if o < s.width then s.at o else cellD l (o - s.width)

theorem tot_append (a b : List Seg) : tot (a ++ b) = tot a + tot b := by
  induction a with
  | nil => simp [tot]
  | cons s l ih => simp [tot, ih]; omega

theorem cellD_append_left (a b : List Seg) (o : Nat) (h : o < tot a) : cellD (a ++ b) o = cellD a o := by
  induction a generalizing o with
  | nil => simp [tot] at h
  | cons s l ih =>
    simp only [List.cons_append, cellD]
    split
    · rfl
    · simp [tot] at h; exact ih _ (by omega)

theorem cellD_append_right (a b : List Seg) (o : Nat) : cellD (a ++ b) (tot a + o) = cellD b o := by
  induction a generalizing o with
  | nil => simp [tot]
  | cons s l ih =>
    simp only [List.cons_append, cellD, tot]
    rw [if_neg (by omega)]
    rw [show s.width + tot l + o - s.width = tot l + o by omega]
    exact ih o

inductive SV where
  | lf (v : LV)
  | agg (l : List Seg)

inductive FV where
  | s (v : SV)
  | tup (l : List SV)

def repA (w : World) (L : NM) (l : List Seg) (arr : Array Value) : Prop :=
  ∀ o, o < tot l → ∃ y, arr[o]? = some y ∧ y.oneCell' = true ∧ rep w L (cellD l o) y

def repS (w : World) (L : NM) : SV → Value → Prop
  | .lf v, x => rep w L v x
  | .agg l, x => ∃ arr : Array Value, x = .agg arr ∧ arr.size = tot l ∧ repA w L l arr

def repF (w : World) (L : NM) : FV → Value → Prop
  | .s v, x => repS w L v x
  | .tup l, x => ∃ arr : Array Value, x = .tuple arr ∧ arr.size = l.length ∧ ∀ i, i < l.length → ∃ y v, arr[i]? = some y ∧ l[i]? = some v ∧ repS w L v y

theorem repA.mono {w w' : World} {L L' : NM} (h : Ev w L w' L') {l : List Seg} {arr : Array Value} (hr : repA w L l arr) : repA w' L' l arr :=
  fun o ho => let ⟨y, h1, h2, h3⟩ := hr o ho; ⟨y, h1, h2, rep.mono h _ _ h3⟩

theorem repS.mono {w w' : World} {L L' : NM} (h : Ev w L w' L') {s : SV} {v : Value} (hr : repS w L s v) : repS w' L' s v := by
  cases s with
  | lf x => exact rep.mono h _ _ hr
  | agg l => obtain ⟨arr, h0, h1, h2⟩ := hr; exact ⟨arr, h0, h1, h2.mono h⟩

theorem repF.mono {w w' : World} {L L' : NM} (h : Ev w L w' L') {s : FV} {v : Value} (hr : repF w L s v) : repF w' L' s v := by
  cases s with
  | s x => exact repS.mono h hr
  | tup l =>
    obtain ⟨arr, h0, h1, h2⟩ := hr
    exact ⟨arr, h0, h1, fun i hi => let ⟨y, v, a, b, c⟩ := h2 i hi; ⟨y, v, a, b, c.mono h⟩⟩

/-! ### The blocks -/
structure OB where
  ty : TypeId
  segs : List Seg

abbrev Hp := List (Option OB)

/-- No cell of a row is frozen: the frozen part is empty, or behind the row. -/
def FzOK (fz : Nat × Nat) (n : Nat) : Prop := fz.1 = fz.2 ∨ n ≤ fz.1

theorem FzOK.out {fz : Nat × Nat} {n : Nat} (h : FzOK fz n) : ∀ o, o < n → ¬ (fz.1 ≤ o ∧ o < fz.2) := by
  intro o ho hh
  unfold FzOK at h
  omega

structure HRep (w : World) (L : NM) (H : Hp) : Prop where
  unused : ∀ nm, H[nm]? = none → L nm = none
  dead : ∀ nm, H[nm]? = some none → L nm = some none
  live : ∀ nm ob, H[nm]? = some (some ob) → ∃ b c fz, L nm = some (some b) ∧ w.heap[b]? = some (.cells c ob.ty fz) ∧
    FzOK fz c.size ∧ tot ob.segs ≤ c.size ∧ repA w L ob.segs c
  inj : ∀ nm nm' b, L nm = some (some b) → L nm' = some (some b) → nm = nm'
  far : ∀ b, L.X b → b < w.heap.size ∧ ¬ L.has b

end Go.Sym

set_option linter.unusedVariables false
namespace Go.Sym
open Go

/-! ### The table of types -/
inductive TD where
  | int (k : IntKind)
  | bool
  | str
  | ptr (e : TypeId)
  | slice (e : TypeId)
  | arr (n : Nat) (e : TypeId)
  | struct (fs : List (Nat × TypeId))
  | bstruct (fs : List (Nat × TypeId))
  | iface
  | func
  | other

structure TI where
  d : TD
  size : Nat
  bytes : Nat
  zero : List Seg

abbrev Tab := List TI

def tget : Tab → Nat → TI
  | [], _ => ⟨.other, 0, 0, []⟩
  | x :: _, 0 => x
  | _ :: l, n + 1 => tget l n

def TD.isOther : TD → Bool
  | .other => true
  | _ => false

def TD.isInt : TD → Bool
  | .int _ => true
  | _ => false

/-- Kinds whose values lead to no memory. -/
def TD.isPlain : TD → Bool
  | .int _ => true
  | .bool => true
  | .str => true
  | _ => false

/-- The fields of a struct, whether or not one has the blank name. -/
def TD.flds : TD → Option (List (Nat × TypeId))
  | .struct fs => some fs
  | .bstruct fs => some fs
  | _ => none

def TD.isAgg : TD → Bool
  | .struct _ | .bstruct _ | .arr _ _ => true
  | _ => false

/-! ### Splitting on a Bool -/
structure CaseB (b : Bool) (K : Bool → Prop) : Prop where
  t : b = true → K true
  f : b = false → K false

theorem CaseB.out {b : Bool} {K : Bool → Prop} (h : CaseB b K) : K b := by
  cases hb : b
  · exact h.f hb
  · exact h.t hb

/-! ### Forcing -/
def lK (v : LV) (K : LV → Prop) : Prop :=
  match v with
  | .any => K .any
  | .unk => K .unk
  | .int k n => K (.int k n)
  | .tt => K .tt
  | .ff => K .ff
  | .bool b => K (.bool b)
  | .str s => K (.str s)
  | .nilp => K .nilp
  | .ptr nm base => K (.ptr nm base)
  | .pti nm base i st j => K (.pti nm base i st j)
  | .rop n f => K (.rop n f)
  | .sl0 => K .sl0
  | .own nm base st off len => K (.own nm base st off len)
  | .rob nn cl xs => K (.rob nn cl xs)
  | .ro nn cl st len f => K (.ro nn cl st len f)
  | .fn f n caps => K (.fn f n caps)
  | .bfn f n fst => K (.bfn f n fst)
  | .nilf => K .nilf
  | .ifc t v => K (.ifc t v)
  | .nili => K .nili
  | .aggl n f => K (.aggl n f)
  | .val v => K (.val v)

theorem lK_eq (v : LV) (K : LV → Prop) : lK v K = K v := by cases v <;> rfl

def sgK (s : Seg) (K : Seg → Prop) : Prop :=
  match s with
  | .one v => lK v fun v => K (.one v)
  | .bytes n xs => K (.bytes n xs)
  | .ints k n xs => K (.ints k n xs)
  | .recs st n f => K (.recs st n f)

theorem sgK_eq (s : Seg) (K : Seg → Prop) : sgK s K = K s := by cases s <;> simp [sgK, lK_eq]

def segsK : List Seg → (List Seg → Prop) → Prop
  | [], K => K []
  | s :: l, K => sgK s fun s => segsK l fun l => K (s :: l)

theorem segsK_eq (l : List Seg) (K : List Seg → Prop) : segsK l K = K l := by
  induction l generalizing K with
  | nil => rfl
  | cons s l ih => simp [segsK, sgK_eq, ih]

def sK (v : SV) (K : SV → Prop) : Prop :=
  match v with
  | .lf v => lK v fun v => K (.lf v)
  | .agg l => segsK l fun l => K (.agg l)

theorem sK_eq (v : SV) (K : SV → Prop) : sK v K = K v := by cases v <;> simp [sK, lK_eq, segsK_eq]

/-- The head alone: what stands in a frame is forced already. -/
def fK (v : FV) (K : FV → Prop) : Prop :=
  match v with
  | .s (.lf v) => lK v fun v => K (.s (.lf v))
  | .s (.agg l) => K (.s (.agg l))
  | .tup l => K (.tup l)

theorem fK_eq (v : FV) (K : FV → Prop) : fK v K = K v := by
  rcases v with (v | l) | l <;> simp [fK, lK_eq]

/-- A small number, as a numeral. -/
def litK (n : Nat) (K : Nat → Prop) : Prop :=
  match n with
  | 0 => K 0 | 1 => K 1 | 2 => K 2 | 3 => K 3 | 4 => K 4 | 5 => K 5 | 6 => K 6 | 7 => K 7 | 8 => K 8 | 9 => K 9
  | 10 => K 10 | 11 => K 11 | 12 => K 12 | 13 => K 13 | 14 => K 14 | 15 => K 15 | 16 => K 16 | 17 => K 17 | 18 => K 18 | 19 => K 19
  | 20 => K 20 | 21 => K 21 | 22 => K 22 | 23 => K 23 | 24 => K 24 | 25 => K 25 | 26 => K 26 | 27 => K 27 | 28 => K 28 | 29 => K 29
  | 30 => K 30 | 31 => K 31 | 32 => K 32 | 33 => K 33 | 34 => K 34 | 35 => K 35 | 36 => K 36 | 37 => K 37 | 38 => K 38 | 39 => K 39
  | n => K n

theorem litK_eq (n : Nat) (K : Nat → Prop) : litK n K = K n := by unfold litK; split <;> rfl

/-! ### Frames and heaps -/
abbrev Fr := List (Nat × FV)

def get : Fr → Nat → FV
  | [], _ => .s (.lf .any)
  | (a, v) :: l, t => match Nat.beq a t with | true => v | false => get l t

def kOK (k : IntKind) (n : Int) : Bool := decide (k.min ≤ n) && decide (n ≤ k.max)

def ofVal (v : Value) : FV :=
  match v with
  | .int k n => match kOK k n with | true => .s (.lf (.int k n)) | false => .s (.lf .any)
  | .bool b => match b with | true => .s (.lf .tt) | false => .s (.lf .ff)
  | .string s => match Nat.ble s.data.toList.length maxLen with | true => .s (.lf (.str s.data.toList)) | false => .s (.lf .any)
  | .pointer a => match a with | none => .s (.lf .nilp) | some _ => .s (.lf .any)
  | .slice a n c => match a, n, c with | none, 0, 0 => .s (.lf .sl0) | _, _, _ => .s (.lf .any)
  | .nilFunc => .s (.lf .nilf)
  | .nilIface => .s (.lf .nili)
  | _ => .s (.lf .any)

def opv (fr : Fr) : Operand → FV
  | .tmp t => get fr t
  | .const v => ofVal v
  | .global _ => .s (.lf .any)
  | .func f => .s (.lf (.fn f 0 fun _ => .any))

theorem repF_ofVal (w : World) (L : NM) (v : Value) : repF w L (ofVal v) v := by
  cases v with
  | int k n =>
    simp only [ofVal]
    split
    · rename_i h
      simp only [kOK, Bool.and_eq_true, decide_eq_true_eq] at h
      exact ⟨rfl, h.1, h.2⟩
    · trivial
  | bool b => cases b <;> rfl
  | string s =>
    simp only [ofVal]
    split
    · rename_i h
      refine ⟨?_, Nat.le_of_ble_eq_true h⟩
      simp
    · trivial
  | pointer a => cases a <;> simp [ofVal, repF, repS, rep]
  | slice a n c =>
    simp only [ofVal]
    split
    · rfl
    · trivial
  | nilFunc => rfl
  | nilIface => rfl
  | _ => trivial

def FRep (w : World) (L : NM) (fr : Fr) (a : Act) : Prop := ∀ t, repF w L (get fr t) (a.tmps.getD t undef)

theorem FRep.opv {w : World} {L : NM} {fr : Fr} {a : Act} (h : FRep w L fr a) (x : Operand) : repF w L (opv fr x) (a.eval x) := by
  cases x with
  | tmp t => exact h t
  | const v => exact repF_ofVal w L v
  | global g => trivial
  | func f => exact ⟨#[], rfl, rfl, fun i hi => absurd hi (Nat.not_lt_zero _)⟩

theorem FRep.put {w : World} {L : NM} {fr : Fr} {a : Act} (h : FRep w L fr a) {d : Nat} (hd : d < a.tmps.size) {v : FV} {rv : Value} (hv : repF w L v rv) :
    FRep w L ((d, v) :: fr) (a.put (some d) rv) := by
  intro t
  simp only [Act.put, get]
  by_cases ht : d = t
  · subst ht
    simp [hd, hv]
  · have : Nat.beq d t = false := by
      cases hb : Nat.beq d t
      · rfl
      · exact absurd (Nat.eq_of_beq_eq_true hb) ht
    rw [this]
    have := h t
    simp only [Array.getD_eq_getD_getElem?, Array.getElem?_setIfInBounds] at this ⊢
    rw [if_neg ht]
    exact this

/-! ### What an operation gives -/
def OpSem (P : Program) (o : Oper) (vs : Operand → FV) (H : Hp) (r : FV) (H' : Hp) : Prop :=
  ∀ (w : World) (L : NM) (a : Act), HRep w L H → (∀ x, x ∈ o.op.operands.toList → repF w L (vs x) (a.eval x)) →
    ∀ (next : Act → World → Prop) (Q : Exit → Act → World → Prop),
      (∀ rv w' L', HRep w' L' H' → repF w' L' r rv → Ev w L w' L' → next (a.put o.dst rv) w') → o.wp P a w next Q

theorem OpSem.of_val {P : Program} {o : Oper} {vs : Operand → FV} {H H' : Hp} {r : FV}
    (h : ∀ (w : World) (L : NM) (a : Act), HRep w L H → (∀ x, x ∈ o.op.operands.toList → repF w L (vs x) (a.eval x)) →
      ∃ rv w' L', (execOp a.eval o).run P w = .ok (.value rv) w' ∧ HRep w' L' H' ∧ repF w' L' r rv ∧ Ev w L w' L') : OpSem P o vs H r H' := by
  intro w L a hH hv next Q hn
  obtain ⟨rv, w', L', hr, h1, h2, h3⟩ := h w L a hH hv
  unfold Oper.wp
  rw [hr]
  exact hn rv w' L' h1 h2 h3

theorem OpSem.of_skip {P : Program} {o : Oper} {vs : Operand → FV} {H H' : Hp}
    (h : ∀ (w : World) (L : NM) (a : Act), HRep w L H → (∀ x, x ∈ o.op.operands.toList → repF w L (vs x) (a.eval x)) →
      ∃ w' L', (execOp a.eval o).run P w = .ok .skip w' ∧ HRep w' L' H' ∧ Ev w L w' L') : OpSem P o vs H (.s (.lf .any)) H' := by
  intro w L a hH hv next Q hn
  obtain ⟨w', L', hr, h1, h3⟩ := h w L a hH hv
  unfold Oper.wp
  rw [hr]
  exact hn undef w' L' h1 trivial h3

theorem OpSem.pure {P : Program} {o : Oper} {vs : Operand → FV} {H : Hp} {r : FV}
    (h : ∀ (w : World) (L : NM) (a : Act), HRep w L H → (∀ x, x ∈ o.op.operands.toList → repF w L (vs x) (a.eval x)) →
      ∃ rv, (execOp a.eval o).run P w = .ok (.value rv) w ∧ repF w L r rv) : OpSem P o vs H r H :=
  .of_val fun w L a hH hv => let ⟨rv, h1, h2⟩ := h w L a hH hv; ⟨rv, w, L, h1, hH, h2, Ev.refl w L⟩

/-! ### Arithmetic -/
def bitsI (op : BinOp) (k : IntKind) (x y : Int) : Int :=
  match op with
  | .and => k.wrap ((BitVec.ofInt k.bits x &&& BitVec.ofInt k.bits y).toNat : Int)
  | .or => k.wrap ((BitVec.ofInt k.bits x ||| BitVec.ofInt k.bits y).toNat : Int)
  | .xor => k.wrap ((BitVec.ofInt k.bits x ^^^ BitVec.ofInt k.bits y).toNat : Int)
  | _ => k.wrap ((BitVec.ofInt k.bits x &&& ~~~ BitVec.ofInt k.bits y).toNat : Int)

def shlI (k : IntKind) (x y : Int) : Int := k.wrap (x * 2 ^ (min y.toNat k.bits))
def shrI (k : IntKind) (x y : Int) : Int := x.fdiv (2 ^ (min y.toNat k.bits))

def intK (op : BinOp) (k k' : IntKind) (a b : Int) (K : FV → Prop) : Prop :=
  match op with
  | .shl => 0 ≤ b ∧ K (.s (.lf (.int k (shlI k a b))))
  | .shr => 0 ≤ b ∧ K (.s (.lf (.int k (shrI k a b))))
  | op => match decide (k = k') with
    | false => False
    | true => match op with
      | .add => K (.s (.lf (.int k (k.wrap (a + b)))))
      | .sub => K (.s (.lf (.int k (k.wrap (a - b)))))
      | .mul => K (.s (.lf (.int k (k.wrap (a * b)))))
      | .quo => b ≠ 0 ∧ K (.s (.lf (.int k (k.wrap (a.tdiv b)))))
      | .rem => b ≠ 0 ∧ K (.s (.lf (.int k (a.tmod b))))
      | .and => K (.s (.lf (.int k (bitsI .and k a b))))
      | .or => K (.s (.lf (.int k (bitsI .or k a b))))
      | .xor => K (.s (.lf (.int k (bitsI .xor k a b))))
      | .andNot => K (.s (.lf (.int k (bitsI .andNot k a b))))
      | .eql => K (.s (.lf (.bool (decide (a = b)))))
      | .neq => K (.s (.lf (.bool (decide (a ≠ b)))))
      | .lss => K (.s (.lf (.bool (decide (a < b)))))
      | .leq => K (.s (.lf (.bool (decide (a ≤ b)))))
      | .gtr => K (.s (.lf (.bool (decide (b < a)))))
      | .geq => K (.s (.lf (.bool (decide (b ≤ a)))))
      | _ => False

theorem wrap_range (k : IntKind) (n : Int) : k.min ≤ k.wrap n ∧ k.wrap n ≤ k.max := by
  have h := Int.emod_nonneg n (show (2 ^ k.bits : Int) ≠ 0 by cases k <;> decide)
  have h2 := Int.emod_lt_of_pos n (show (0 : Int) < 2 ^ k.bits by cases k <;> decide)
  cases k <;> simp only [IntKind.wrap, IntKind.min, IntKind.max, IntKind.signed, IntKind.bits, Bool.true_and, Bool.false_and, if_true, Bool.false_eq_true, if_false] at h h2 ⊢ <;>
    (try split) <;> (try simp only [ge_iff_le, decide_eq_true_eq] at *) <;> omega

theorem tmod_range (k : IntKind) (a b : Int) (ha : k.min ≤ a ∧ a ≤ k.max) : k.min ≤ a.tmod b ∧ a.tmod b ≤ k.max := by
  have h0 : k.min ≤ 0 := by cases k <;> decide
  have h1 : (0 : Int) ≤ k.max := by cases k <;> decide
  have hn : (a.tmod b).natAbs ≤ a.natAbs := by rw [Int.natAbs_tmod]; exact Nat.mod_le _ _
  rcases Int.lt_or_le a 0 with h | h
  · have e : a.tmod b = -((-a).tmod b) := by rw [Int.neg_tmod]; omega
    have k1 : 0 ≤ (-a).tmod b := Int.tmod_nonneg _ (by omega)
    omega
  · have k1 : 0 ≤ a.tmod b := Int.tmod_nonneg _ h
    omega

end Go.Sym

set_option linter.unusedVariables false
namespace Go.Sym
open Go

def TD.fits (P : Program) (t : TypeId) : TD → Prop
  | .int k => P.underlying t = some (.int k)
  | .bool => P.underlying t = some .bool
  | .str => P.underlying t = some .string
  | .ptr e => P.underlying t = some (.pointer e)
  | .slice e => P.underlying t = some (.slice e)
  | .arr n e => P.underlying t = some (.array n e)
  | .struct fs => ∃ fields : Array Field, P.underlying t = some (.struct fields) ∧ fields.toList.map (fun f => (f.offset, f.type)) = fs ∧ (∀ f ∈ fields.toList, f.name ≠ "_")
  | .bstruct fs => ∃ fields : Array Field, P.underlying t = some (.struct fields) ∧ fields.toList.map (fun f => (f.offset, f.type)) = fs
  | .iface => ∃ ms, P.underlying t = some (.interface ms)
  | .func => ∃ a b c, P.underlying t = some (.func a b c)
  | .other => True

structure TIOK (P : Program) (t : TypeId) (ti : TI) : Prop where
  fits : ti.d.fits P t
  info : ti.d.isOther = false → ∃ i z, P.info? t = some i ∧ i.size = ti.size ∧ i.bytes = ti.bytes ∧ i.zero = some z ∧
    z.cells.size = tot ti.zero ∧ tot ti.zero = ti.size ∧ (∀ w L, repA w L ti.zero z.cells) ∧ (ti.d.isAgg = true → ∃ c, z = .agg c) ∧ (ti.d.isAgg = false → z.oneCell' = true)
  noguard : ti.d.isAgg = true → P.eqGuardType P.depth t = false
  nostood : ti.d.isAgg = true → P.stoodInHeld t = false

def TOK (P : Program) (Γ : Tab) : Prop := ∀ t, TIOK P t (tget Γ t)

end Go.Sym

set_option linter.unusedVariables false
set_option linter.unusedSimpArgs false
namespace Go.Sym
open Go

def hget : Hp → Nat → Option OB
  | [], _ => none
  | o :: _, 0 => o
  | _ :: l, n + 1 => hget l n

theorem hget_some {H : Hp} {nm : Nat} {ob : OB} (h : hget H nm = some ob) : H[nm]? = some (some ob) := by
  induction H generalizing nm with
  | nil => simp [hget] at h
  | cons o l ih =>
    cases nm with
    | zero => simp [hget] at h; simp [h]
    | succ n => simp [hget] at h; simpa using ih h

def liveK (H : Hp) (nm : Nat) (K : Prop) : Prop := match hget H nm with | some _ => K | none => False

theorem HRep.of_live {w : World} {L : NM} {H : Hp} (h : HRep w L H) {nm : Nat} {K : Prop} (hl : liveK H nm K) : K ∧ ∃ b, L nm = some (some b) := by
  unfold liveK at hl
  split at hl
  · rename_i ob hob
    obtain ⟨b, c, fz, h1, _⟩ := h.live nm ob (hget_some hob)
    exact ⟨hl, b, h1⟩
  · exact hl.elim

theorem liveK.out {H : Hp} {nm : Nat} {K : Prop} (hl : liveK H nm K) : K := by
  unfold liveK at hl; split at hl
  · exact hl
  · exact hl.elim

def toB : LV → Option Bool
  | .tt => some true
  | .ff => some false
  | .bool b => some b
  | _ => none

def ofB (b : Bool) : LV := match b with | true => .tt | false => .ff

def boolK (x : FV) (K : Bool → Prop) : Prop :=
  match x with
  | .s (.lf .tt) => K true
  | .s (.lf .ff) => K false
  | .s (.lf (.bool b)) => CaseB b K
  | _ => False

theorem boolK_sound {x : FV} {K : Bool → Prop} (h : boolK x K) : ∃ b, K b ∧ ∀ w L v, repF w L x v → v = .bool b := by
  unfold boolK at h
  split at h
  · exact ⟨true, h, fun w L v hv => hv⟩
  · exact ⟨false, h, fun w L v hv => hv⟩
  · exact ⟨_, h.out, fun w L v hv => hv⟩
  · exact h.elim

def eqlit (op : BinOp) (b : Bool) (K : FV → Prop) : Prop :=
  match op with
  | .eql => K (.s (.lf (ofB b)))
  | .neq => K (.s (.lf (ofB (!b))))
  | _ => False

def strK (op : BinOp) (s t : List UInt8) (K : FV → Prop) : Prop :=
  match op with
  | .add => s.length + t.length ≤ maxLen ∧ K (.s (.lf (.str (s ++ t))))
  | .eql => K (.s (.lf (.bool (decide (s = t)))))
  | .neq => K (.s (.lf (.bool (decide (s ≠ t)))))
  | _ => False

def boolsK (op : BinOp) (a b : Bool) (K : FV → Prop) : Prop :=
  match op with
  | .eql => K (.s (.lf (.bool (a == b))))
  | .neq => K (.s (.lf (.bool (!(a == b)))))
  | _ => False

/-- On values of one cell; t is the operands' type. -/
def binL (op : BinOp) (d : TD) (H : Hp) (u v : LV) (K : FV → Prop) : Prop :=
  match u with
  | .int k a => match v with | .int k' b => intK op k k' a b K | _ => False
  | .str s => match v with | .str t => strK op s t K | _ => False
  | .tt => match d with | .bool => (match toB v with | some b => boolsK op true b K | none => False) | _ => False
  | .ff => match d with | .bool => (match toB v with | some b => boolsK op false b K | none => False) | _ => False
  | .bool a => match d with | .bool => (match toB v with | some b => boolsK op a b K | none => False) | _ => False
  | .nilp => match d with
    | .ptr _ => (match v with
      | .nilp => eqlit op true K
      | .ptr nm _ => liveK H nm (eqlit op false K)
      | .pti nm _ _ _ _ => liveK H nm (eqlit op false K)
      | .rop _ _ => eqlit op false K
      | _ => False)
    | _ => False
  | .ptr nm _ => match d with | .ptr _ => (match v with | .nilp => liveK H nm (eqlit op false K) | _ => False) | _ => False
  | .pti nm _ _ _ _ => match d with | .ptr _ => (match v with | .nilp => liveK H nm (eqlit op false K) | _ => False) | _ => False
  | .rop _ _ => match d with | .ptr _ => (match v with | .nilp => eqlit op false K | _ => False) | _ => False
  | .sl0 => match d with | .slice _ => (match v with | .sl0 => eqlit op true K | _ => False) | _ => False
  | .own nm _ _ _ _ => match d with | .slice _ => (match v with | .sl0 => liveK H nm (eqlit op false K) | _ => False) | _ => False
  | .rob true _ _ => match d with | .slice _ => (match v with | .sl0 => eqlit op false K | _ => False) | _ => False
  | .ro true _ _ _ _ => match d with | .slice _ => (match v with | .sl0 => eqlit op false K | _ => False) | _ => False
  | .nilf => match d with | .func => (match v with | .nilf => eqlit op true K | _ => False) | _ => False
  | .fn _ _ _ => match d with | .func => (match v with | .nilf => eqlit op false K | _ => False) | _ => False
  | _ => False

theorem run_binOp_int {op : BinOp} {k k' : IntKind} {a b : Int} {K : FV → Prop} (h : intK op k k' a b K) :
    ∃ r, K r ∧ ∀ (P : Program) (t : TypeId) (w : World) (L : NM), k.min ≤ a ∧ a ≤ k.max → ∃ rv, (binOp op t (.int k a) (.int k' b)).run P w = .ok rv w ∧ repF w L r rv := by
  unfold intK at h
  split at h
  · obtain ⟨hb, hK⟩ := h
    refine ⟨_, hK, fun P t w L ha => ⟨_, ?_, ⟨rfl, wrap_range k _⟩⟩⟩
    simp [binOp, Op.shift, show ¬ b < 0 by omega, shlI]
  · obtain ⟨hb, hK⟩ := h
    refine ⟨_, hK, fun P t w L ha => ⟨_, by simp [binOp, Op.shift, show ¬ b < 0 by omega]; rfl, ⟨rfl, ?_⟩⟩⟩
    unfold shrI
    have h0 : k.min ≤ 0 := by cases k <;> decide
    have h1 : (0 : Int) ≤ k.max := by cases k <;> decide
    have hp : (0 : Int) < 2 ^ (min b.toNat k.bits) := Int.pow_pos (by decide)
    rw [Int.fdiv_eq_ediv_of_nonneg _ (Int.le_of_lt hp)]
    constructor
    · rcases Int.lt_or_le a 0 with hn | hn
      · have := Int.le_ediv_of_mul_le hp (show k.min * 2 ^ (min b.toNat k.bits) ≤ a by
          have h2 : (1 : Int) ≤ 2 ^ (min b.toNat k.bits) := hp
          have : k.min * 2 ^ (min b.toNat k.bits) ≤ k.min * 1 := Int.mul_le_mul_of_nonpos_left h0 h2
          omega)
        exact this
      · have := Int.ediv_nonneg hn (Int.le_of_lt hp)
        omega
    · rcases Int.lt_or_le a 0 with hn | hn
      · have := Int.ediv_neg_of_neg_of_pos hn hp
        omega
      · have := Int.ediv_le_self (2 ^ (min b.toNat k.bits)) hn
        omega
  · rename_i op' hs1 hs2
    split at h
    · exact h.elim
    · rename_i hk
      have hk' : k = k' := of_decide_eq_true hk
      subst hk'
      split at h
      · exact ⟨_, h, fun P t w L ha => ⟨.int k (k.wrap (a + b)), by simp [binOp, Op.intArith], ⟨rfl, wrap_range k _⟩⟩⟩
      · exact ⟨_, h, fun P t w L ha => ⟨.int k (k.wrap (a - b)), by simp [binOp, Op.intArith], ⟨rfl, wrap_range k _⟩⟩⟩
      · exact ⟨_, h, fun P t w L ha => ⟨.int k (k.wrap (a * b)), by simp [binOp, Op.intArith], ⟨rfl, wrap_range k _⟩⟩⟩
      · exact ⟨_, h.2, fun P t w L ha => ⟨.int k (k.wrap (a.tdiv b)), by simp [binOp, Op.intDiv, h.1], ⟨rfl, wrap_range k _⟩⟩⟩
      · exact ⟨_, h.2, fun P t w L ha => ⟨.int k (a.tmod b), by simp [binOp, Op.intDiv, h.1], ⟨rfl, tmod_range k a b ha⟩⟩⟩
      · exact ⟨_, h, fun P t w L ha => ⟨.int k (bitsI .and k a b), by simp [binOp, Op.intBits, bitsI], ⟨rfl, wrap_range k _⟩⟩⟩
      · exact ⟨_, h, fun P t w L ha => ⟨.int k (bitsI .or k a b), by simp [binOp, Op.intBits, bitsI], ⟨rfl, wrap_range k _⟩⟩⟩
      · exact ⟨_, h, fun P t w L ha => ⟨.int k (bitsI .xor k a b), by simp [binOp, Op.intBits, bitsI], ⟨rfl, wrap_range k _⟩⟩⟩
      · exact ⟨_, h, fun P t w L ha => ⟨.int k (bitsI .andNot k a b), by simp [binOp, Op.intBits, bitsI], ⟨rfl, wrap_range k _⟩⟩⟩
      · exact ⟨_, h, fun P t w L ha => ⟨.bool (decide (a = b)), by simp [binOp, Op.intCmp, bne, Bool.beq_eq_decide_eq], rfl⟩⟩
      · exact ⟨_, h, fun P t w L ha => ⟨.bool (decide (a ≠ b)), by simp [binOp, Op.intCmp, bne, Bool.beq_eq_decide_eq], rfl⟩⟩
      · exact ⟨_, h, fun P t w L ha => ⟨.bool (decide (a < b)), by simp [binOp, Op.intCmp, bne, Bool.beq_eq_decide_eq], rfl⟩⟩
      · exact ⟨_, h, fun P t w L ha => ⟨.bool (decide (a ≤ b)), by simp [binOp, Op.intCmp, bne, Bool.beq_eq_decide_eq], rfl⟩⟩
      · exact ⟨_, h, fun P t w L ha => ⟨.bool (decide (b < a)), by simp [binOp, Op.intCmp, bne, Bool.beq_eq_decide_eq], rfl⟩⟩
      · exact ⟨_, h, fun P t w L ha => ⟨.bool (decide (b ≤ a)), by simp [binOp, Op.intCmp, bne, Bool.beq_eq_decide_eq], rfl⟩⟩
      · exact h.elim

theorem rep_ofB (w : World) (L : NM) (b : Bool) : rep w L (ofB b) (.bool b) := by cases b <;> rfl

theorem eqlit_sound {op : BinOp} {b : Bool} {K : FV → Prop} (h : eqlit op b K) :
    ∃ r, K r ∧ ((op = .eql ∧ r = .s (.lf (ofB b))) ∨ (op = .neq ∧ r = .s (.lf (ofB (!b))))) := by
  unfold eqlit at h
  split at h
  · exact ⟨_, h, .inl ⟨rfl, rfl⟩⟩
  · exact ⟨_, h, .inr ⟨rfl, rfl⟩⟩
  · exact h.elim

/-- What a comparison by Op.equal gives. -/
theorem run_eqlit {P : Program} {op : BinOp} {b : Bool} {r : FV} {t : TypeId} {x y : Value} {w : World} {L : NM}
    (h : (op = .eql ∧ r = .s (.lf (ofB b))) ∨ (op = .neq ∧ r = .s (.lf (ofB (!b)))))
    (he : (Op.equal t x y).run P w = .ok b w)
    (hx : binOp .eql t x y = (do pure (.bool (← Op.equal t x y)))) (hy : binOp .neq t x y = (do pure (.bool (!(← Op.equal t x y))))) :
    ∃ rv, (binOp op t x y).run P w = .ok rv w ∧ repF w L r rv := by
  rcases h with ⟨rfl, rfl⟩ | ⟨rfl, rfl⟩
  · exact ⟨.bool b, by rw [hx]; simp [he], rep_ofB w L b⟩
  · exact ⟨.bool (!b), by rw [hy]; simp [he], rep_ofB w L (!b)⟩

theorem run_strK {op : BinOp} {s t : List UInt8} {K : FV → Prop} (h : strK op s t K) :
    ∃ r, K r ∧ ∀ (P : Program) (ty : TypeId) (w : World) (L : NM), ∃ rv, (binOp op ty (.string ⟨s.toArray⟩) (.string ⟨t.toArray⟩)).run P w = .ok rv w ∧ repF w L r rv := by
  unfold strK at h
  split at h
  · refine ⟨_, h.2, fun P ty w L => ⟨.string ⟨(s ++ t).toArray⟩, ?_, ⟨rfl, by have := h.1; simp; omega⟩⟩⟩
    have hl := h.1
    unfold maxLen at hl
    rw [binOp_string_add]
    unfold Op.stringOp
    simp only []
    rw [if_neg ?_]
    · simp only [Sem.run_pure]
      congr 2
    · simp only [IntKind.max_i64, ByteArray.size, List.size_toArray]
      omega
  · refine ⟨_, h, fun P ty w L => ⟨.bool (decide (s = t)), ?_, rfl⟩⟩
    rw [binOp_string_eql]
    simp only [ByteArray.toList_mk, Sem.run_pure]
    congr 2
    rw [Bool.eq_iff_iff]; simp
  · refine ⟨_, h, fun P ty w L => ⟨.bool (decide (s ≠ t)), ?_, rfl⟩⟩
    rw [binOp_string_neq]
    simp only [ByteArray.toList_mk, Sem.run_pure]
    congr 2
    rw [Bool.eq_iff_iff]; simp
  · exact h.elim


theorem boolsK_sound {op : BinOp} {a b : Bool} {K : FV → Prop} (h : boolsK op a b K) :
    ∃ r, K r ∧ ((op = .eql ∧ r = .s (.lf (.bool (a == b)))) ∨ (op = .neq ∧ r = .s (.lf (.bool (!(a == b)))))) := by
  unfold boolsK at h
  split at h
  · exact ⟨_, h, .inl ⟨rfl, rfl⟩⟩
  · exact ⟨_, h, .inr ⟨rfl, rfl⟩⟩
  · exact h.elim

theorem run_underlying' {P : Program} {t : TypeId} {d : TypeDesc} (h : P.underlying t = some d) (w : World) : (underlying t).run P w = .ok d w := run_underlying h w


section
variable {P : Program} {t : TypeId} (w : World) (n : Nat)
theorem equalIn_bool (hd : P.underlying t = some .bool) (a b : Bool) : (Op.equalIn (n + 1) t (.bool a) (.bool b)).run P w = .ok (a == b) w := by simp [Op.equalIn, run_underlying hd]
theorem equalIn_nil_ptr {e : TypeId} (hd : P.underlying t = some (.pointer e)) (a : Option Addr) : (Op.equalIn (n + 1) t (.pointer none) (.pointer a)).run P w = .ok a.isNone w := by simp [Op.equalIn, run_underlying hd]
theorem equalIn_ptr_nil {e : TypeId} (hd : P.underlying t = some (.pointer e)) (a : Addr) : (Op.equalIn (n + 1) t (.pointer (some a)) (.pointer none)).run P w = .ok false w := by simp [Op.equalIn, run_underlying hd]
theorem equalIn_slice_nil {e : TypeId} (hd : P.underlying t = some (.slice e)) (a : Option Addr) (l c : Nat) : (Op.equalIn (n + 1) t (.slice a l c) (.slice none 0 0)).run P w = .ok a.isNone w := by cases a <;> simp [Op.equalIn, run_underlying hd]
theorem equalIn_nilf {a b c} (hd : P.underlying t = some (.func a b c)) : (Op.equalIn (n + 1) t .nilFunc .nilFunc).run P w = .ok true w := by simp [Op.equalIn, run_underlying hd]
theorem equalIn_fn_nil {a b c} (hd : P.underlying t = some (.func a b c)) (f : Fn) (x y : Array Value) : (Op.equalIn (n + 1) t (.func f x y) .nilFunc).run P w = .ok false w := by simp [Op.equalIn, run_underlying hd]
end

theorem run_bools {P : Program} {op : BinOp} {a b : Bool} {r : FV} {t : TypeId} {w : World} {L : NM} (hd : P.underlying t = some .bool)
    (h : (op = .eql ∧ r = .s (.lf (.bool (a == b)))) ∨ (op = .neq ∧ r = .s (.lf (.bool (!(a == b)))))) :
    ∃ rv, (binOp op t (.bool a) (.bool b)).run P w = .ok rv w ∧ repF w L r rv := by
  have he : (Op.equal t (.bool a) (.bool b)).run P w = .ok (a == b) w := by
    exact equalIn_bool w 9999 hd a b
  rcases h with ⟨rfl, rfl⟩ | ⟨rfl, rfl⟩
  · exact ⟨.bool (a == b), by simp [binOp, he], rfl⟩
  · exact ⟨.bool (!(a == b)), by simp [binOp, he], rfl⟩

theorem toB_rep {v : LV} {b : Bool} (h : toB v = some b) {w : World} {L : NM} {x : Value} (hv : rep w L v x) : x = .bool b := by
  cases v <;> simp [toB] at h <;> subst h <;> exact hv

theorem binL_bools {op : BinOp} {d : TD} {a : Bool} {v : LV} {K : FV → Prop}
    (h : match d with | .bool => (match toB v with | some b => boolsK op a b K | none => False) | _ => False) :
    ∃ r, K r ∧ ∀ (P : Program) (t : TypeId) (w : World) (L : NM) (y : Value), d.fits P t → rep w L v y → ∃ rv, (binOp op t (.bool a) y).run P w = .ok rv w ∧ repF w L r rv := by
  cases d <;> try exact h.elim
  cases hb : toB v with
  | none => rw [hb] at h; exact h.elim
  | some b =>
    rw [hb] at h
    obtain ⟨r, hr, hop⟩ := boolsK_sound h
    exact ⟨r, hr, fun P t w L y hf hy => by rw [toB_rep hb hy]; exact run_bools hf hop⟩

theorem roRep_nn {w : World} {L : NM} {cl : Bool} {st len : Nat} {p : Nat → Nat → Value → Prop} {v : Value} (h : roRep w L true cl st len p v) : ∃ a cap, v = .slice (some a) len cap := by
  rcases h with h | ⟨a, cap, h, _⟩
  · exact absurd h.1 (by simp)
  · exact ⟨a, cap, h⟩

theorem binL_sound {op : BinOp} {d : TD} {H : Hp} {u v : LV} {K : FV → Prop} (h : binL op d H u v K) :
    ∃ r, K r ∧ ∀ (P : Program) (t : TypeId) (w : World) (L : NM) (x y : Value), d.fits P t → HRep w L H → rep w L u x → rep w L v y →
      ∃ rv, (binOp op t x y).run P w = .ok rv w ∧ repF w L r rv := by
  cases u with
  | int k a =>
    cases v <;> try exact h.elim
    rename_i k' b
    obtain ⟨r, hr, hk⟩ := run_binOp_int h
    refine ⟨r, hr, fun P t w L x y _ _ hx hy => ?_⟩
    obtain ⟨rfl, hx⟩ := hx
    obtain ⟨rfl, _⟩ := hy
    exact hk P t w L hx
  | str s =>
    cases v <;> try exact h.elim
    rename_i s'
    obtain ⟨r, hr, hk⟩ := run_strK h
    refine ⟨r, hr, fun P t w L x y _ _ hx hy => ?_⟩
    obtain ⟨rfl, hx⟩ := hx
    obtain ⟨rfl, _⟩ := hy
    exact hk P t w L
  | tt =>
    obtain ⟨r, hr, hk⟩ := binL_bools (a := true) h
    exact ⟨r, hr, fun P t w L x y hf _ hx hy => by rw [show x = .bool true from hx]; exact hk P t w L y hf hy⟩
  | ff =>
    obtain ⟨r, hr, hk⟩ := binL_bools (a := false) h
    exact ⟨r, hr, fun P t w L x y hf _ hx hy => by rw [show x = .bool false from hx]; exact hk P t w L y hf hy⟩
  | bool b =>
    obtain ⟨r, hr, hk⟩ := binL_bools (a := b) h
    exact ⟨r, hr, fun P t w L x y hf _ hx hy => by rw [show x = .bool b from hx]; exact hk P t w L y hf hy⟩
  | nilp =>
    cases d <;> try exact h.elim
    rename_i e
    have key : ∀ (bb : Bool), eqlit op bb K → (∀ w L y, HRep w L H → rep w L v y → ∃ a, y = .pointer a ∧ a.isNone = bb) →
        ∃ r, K r ∧ ∀ (P : Program) (t : TypeId) (w : World) (L : NM) (x y : Value), (TD.ptr e).fits P t → HRep w L H → rep w L .nilp x → rep w L v y →
      ∃ rv, (binOp op t x y).run P w = .ok rv w ∧ repF w L r rv := by
      intro bb hb hy
      obtain ⟨r, hr, hop⟩ := eqlit_sound hb
      refine ⟨r, hr, fun P t w L x y hf hH hx hv => ?_⟩
      obtain ⟨a, rfl, ha⟩ := hy w L y hH hv
      rw [show x = .pointer none from hx]
      exact run_eqlit hop (by rw [← ha]; exact equalIn_nil_ptr w 9999 hf a) (by simp [binOp]) (by simp [binOp])
    cases v <;> try exact h.elim
    · exact key true h (fun w L y _ hy => ⟨none, hy, rfl⟩)
    · exact key false h.out (fun w L y hH hy => by
        obtain ⟨_, b, hb⟩ := hH.of_live h
        simp only [rep, hb] at hy; exact ⟨_, hy, rfl⟩)
    · exact key false h.out (fun w L y hH hy => by
        obtain ⟨_, b, hb⟩ := hH.of_live h
        simp only [rep, hb] at hy; exact ⟨_, hy, rfl⟩)
    · exact key false h (fun w L y hH hy => by obtain ⟨a, hy, _⟩ := hy; exact ⟨_, hy, rfl⟩)
  | ptr nm base =>
    cases d <;> try exact h.elim
    rename_i e
    cases v <;> try exact h.elim
    obtain ⟨r, hr, hop⟩ := eqlit_sound (liveK.out h)
    refine ⟨r, hr, fun P t w L x y hf hH hx hy => ?_⟩
    obtain ⟨_, b, hb⟩ := hH.of_live h
    simp only [rep, hb] at hx
    rw [show y = .pointer none from hy, hx]
    exact run_eqlit hop (equalIn_ptr_nil w 9999 hf _) (by simp [binOp]) (by simp [binOp])
  | pti nm base i st j =>
    cases d <;> try exact h.elim
    rename_i e
    cases v <;> try exact h.elim
    obtain ⟨r, hr, hop⟩ := eqlit_sound (liveK.out h)
    refine ⟨r, hr, fun P t w L x y hf hH hx hy => ?_⟩
    obtain ⟨_, b, hb⟩ := hH.of_live h
    simp only [rep, hb] at hx
    rw [show y = .pointer none from hy, hx]
    exact run_eqlit hop (equalIn_ptr_nil w 9999 hf _) (by simp [binOp]) (by simp [binOp])
  | rop n f =>
    cases d <;> try exact h.elim
    rename_i e
    cases v <;> try exact h.elim
    obtain ⟨r, hr, hop⟩ := eqlit_sound h
    refine ⟨r, hr, fun P t w L x y hf hH hx hy => ?_⟩
    obtain ⟨a, hx, _⟩ := hx
    rw [show y = .pointer none from hy, hx]
    exact run_eqlit hop (equalIn_ptr_nil w 9999 hf _) (by simp [binOp]) (by simp [binOp])
  | sl0 =>
    cases d <;> try exact h.elim
    rename_i e
    cases v <;> try exact h.elim
    obtain ⟨r, hr, hop⟩ := eqlit_sound h
    refine ⟨r, hr, fun P t w L x y hf hH hx hy => ?_⟩
    rw [show y = .slice none 0 0 from hy, show x = .slice none 0 0 from hx]
    exact run_eqlit hop (equalIn_slice_nil w 9999 hf _ _ _) (by simp [binOp]) (by simp [binOp])
  | own nm base st off len =>
    cases d <;> try exact h.elim
    rename_i e
    cases v <;> try exact h.elim
    obtain ⟨r, hr, hop⟩ := eqlit_sound (liveK.out h)
    refine ⟨r, hr, fun P t w L x y hf hH hx hy => ?_⟩
    obtain ⟨_, b, hb⟩ := hH.of_live h
    simp only [rep, hb] at hx
    obtain ⟨cap, o, hx, _⟩ := hx
    rw [show y = .slice none 0 0 from hy, hx]
    exact run_eqlit hop (equalIn_slice_nil w 9999 hf _ _ _) (by simp [binOp]) (by simp [binOp])
  | rob nn cl xs =>
    cases nn
    · exact h.elim
    cases d <;> try exact h.elim
    rename_i e
    cases v <;> try exact h.elim
    obtain ⟨r, hr, hop⟩ := eqlit_sound h
    refine ⟨r, hr, fun P t w L x y hf hH hx hy => ?_⟩
    obtain ⟨a, cap, hx⟩ := roRep_nn hx
    rw [show y = .slice none 0 0 from hy, hx]
    exact run_eqlit hop (equalIn_slice_nil w 9999 hf _ _ _) (by simp [binOp]) (by simp [binOp])
  | ro nn cl st len f =>
    cases nn
    · exact h.elim
    cases d <;> try exact h.elim
    rename_i e
    cases v <;> try exact h.elim
    obtain ⟨r, hr, hop⟩ := eqlit_sound h
    refine ⟨r, hr, fun P t w L x y hf hH hx hy => ?_⟩
    obtain ⟨a, cap, hx⟩ := roRep_nn hx
    rw [show y = .slice none 0 0 from hy, hx]
    exact run_eqlit hop (equalIn_slice_nil w 9999 hf _ _ _) (by simp [binOp]) (by simp [binOp])
  | nilf =>
    cases d <;> try exact h.elim
    cases v <;> try exact h.elim
    obtain ⟨r, hr, hop⟩ := eqlit_sound h
    refine ⟨r, hr, fun P t w L x y hf hH hx hy => ?_⟩
    obtain ⟨ps, rs, vv, hf⟩ := hf
    rw [show y = .nilFunc from hy, show x = .nilFunc from hx]
    exact run_eqlit hop (equalIn_nilf w 9999 hf) (by simp [binOp]) (by simp [binOp])
  | fn f n caps =>
    cases d <;> try exact h.elim
    cases v <;> try exact h.elim
    obtain ⟨r, hr, hop⟩ := eqlit_sound h
    refine ⟨r, hr, fun P t w L x y hf hH hx hy => ?_⟩
    obtain ⟨ps, rs, vv, hf⟩ := hf
    obtain ⟨arr, hx, _⟩ := hx
    rw [show y = .nilFunc from hy, hx]
    exact run_eqlit hop (equalIn_fn_nil w 9999 hf _ _ _) (by simp [binOp]) (by simp [binOp])
  | _ => exact h.elim

end Go.Sym

set_option linter.unusedVariables false
set_option linter.unusedSimpArgs false
namespace Go.Sym
open Go

/-! ### Segments: reading -/
def sgetK : List Seg → Nat → (LV → Prop) → Prop
  | [], _, _ => False
  | s :: l, o, K => match Nat.blt o s.width with | true => lK (s.at o) K | false => sgetK l (o - s.width) K

theorem blt_true {a b : Nat} (h : Nat.blt a b = true) : a < b := Nat.le_of_ble_eq_true h
theorem blt_false {a b : Nat} (h : Nat.blt a b = false) : ¬ a < b := fun h' => by
  have : Nat.blt a b = true := Nat.ble_eq_true_of_le h'
  rw [h] at this; exact Bool.noConfusion this
theorem beq_true {a b : Nat} (h : Nat.beq a b = true) : a = b := Nat.eq_of_beq_eq_true h
theorem ble_true {a b : Nat} (h : Nat.ble a b = true) : a ≤ b := Nat.le_of_ble_eq_true h

theorem sgetK_sound {l : List Seg} {o : Nat} {K : LV → Prop} (h : sgetK l o K) : o < tot l ∧ K (cellD l o) := by
  induction l generalizing o with
  | nil => exact h.elim
  | cons s l ih =>
    simp only [sgetK] at h
    split at h
    · rename_i hb
      rw [lK_eq] at h
      have := blt_true hb
      exact ⟨by simp [tot]; omega, by simp [cellD, this]; exact h⟩
    · rename_i hb
      have := blt_false hb
      obtain ⟨h1, h2⟩ := ih h
      exact ⟨by simp [tot]; omega, by simp [cellD, this]; exact h2⟩

/-- The segment that begins at a place. -/
def rowK : List Seg → Nat → (Seg → Prop) → Prop
  | [], _, _ => False
  | s :: l, b, K => match Nat.beq b 0 with
    | true => K s
    | false => match Nat.ble s.width b with | true => rowK l (b - s.width) K | false => False

theorem rowK_sound {l : List Seg} {b : Nat} {K : Seg → Prop} (h : rowK l b K) : ∃ p s q, l = p ++ s :: q ∧ tot p = b ∧ K s := by
  induction l generalizing b with
  | nil => exact h.elim
  | cons s l ih =>
    simp only [rowK] at h
    split at h
    · rename_i hb
      exact ⟨[], s, l, rfl, (beq_true hb).symm, h⟩
    · split at h
      · rename_i hb
        obtain ⟨p, s', q, h1, h2, h3⟩ := ih h
        exact ⟨s :: p, s', q, by rw [h1]; rfl, by have := ble_true hb; simp [tot]; omega, h3⟩
      · exact h.elim

def elemK (s : Seg) (i st j : Nat) (K : LV → Prop) : Prop :=
  match s with
  | .bytes n xs => match Nat.beq st 1, Nat.beq j 0 with | true, true => i < n ∧ K (.int .u8 ((xs.getD i 0).toNat : Int)) | _, _ => False
  | .ints k n xs => match Nat.beq st 1, Nat.beq j 0 with | true, true => i < n ∧ K (.int k (xs.getD i 0)) | _, _ => False
  | .recs st' n f => match Nat.beq st st', Nat.blt j st' with | true, true => i < n ∧ lK (f i j) K | _, _ => False
  | .one _ => False

theorem mul_lt_of {i n st j : Nat} (hi : i < n) (hj : j < st) : i * st + j < n * st := by
  have : (i + 1) * st ≤ n * st := Nat.mul_le_mul_right st hi
  rw [Nat.add_mul] at this
  omega

theorem elemK_sound {s : Seg} {i st j : Nat} {K : LV → Prop} (h : elemK s i st j K) : i * st + j < s.width ∧ K (s.at (i * st + j)) := by
  unfold elemK at h
  split at h
  · split at h
    · rename_i h1 h2
      have h1 := beq_true h1; have h2 := beq_true h2
      subst h1; subst h2
      simpa [Seg.width, Seg.at] using h
    · exact h.elim
  · split at h
    · rename_i h1 h2
      have h1 := beq_true h1; have h2 := beq_true h2
      subst h1; subst h2
      simpa [Seg.width, Seg.at] using h
    · exact h.elim
  · split at h
    · rename_i h1 h2
      have h1 := beq_true h1; have h2 := blt_true h2
      subst h1
      rw [lK_eq] at h
      refine ⟨mul_lt_of h.1 h2, ?_⟩
      simp only [Seg.at]
      rw [show (i * st + j) / st = i by rw [Nat.mul_comm, Nat.mul_add_div (by omega), Nat.div_eq_of_lt h2]; rfl, show (i * st + j) % st = j by rw [Nat.mul_comm, Nat.mul_add_mod, Nat.mod_eq_of_lt h2]]
      exact h.2
    · exact h.elim
  · exact h.elim

theorem cellD_mid {p : List Seg} {s : Seg} {q : List Seg} {o : Nat} (h : o < s.width) : cellD (p ++ s :: q) (tot p + o) = s.at o := by
  rw [cellD_append_right]; simp [cellD, h]

theorem tot_mid {p : List Seg} {s : Seg} {q : List Seg} {o : Nat} (h : o < s.width) : tot p + o < tot (p ++ s :: q) := by
  rw [tot_append]; simp [tot]; omega

def dropS : List Seg → Nat → Option (List Seg × List Seg)
  | [], b => match Nat.beq b 0 with | true => some ([], []) | false => none
  | s :: l, b => match Nat.beq b 0 with
    | true => some ([], s :: l)
    | false => match Nat.ble s.width b with
      | true => (match dropS l (b - s.width) with | some (p, r) => some (s :: p, r) | none => none)
      | false => none

theorem dropS_sound {l : List Seg} {b : Nat} {p r : List Seg} (h : dropS l b = some (p, r)) : l = p ++ r ∧ tot p = b := by
  induction l generalizing b p r with
  | nil =>
    simp only [dropS] at h
    split at h
    · rename_i hb
      simp at h; obtain ⟨rfl, rfl⟩ := h
      exact ⟨rfl, (beq_true hb).symm⟩
    · simp at h
  | cons s l ih =>
    simp only [dropS] at h
    split at h
    · rename_i hb
      simp at h; obtain ⟨rfl, rfl⟩ := h
      exact ⟨rfl, (beq_true hb).symm⟩
    · split at h
      · rename_i hb
        split at h
        · rename_i p' r' hd
          simp at h; obtain ⟨rfl, rfl⟩ := h
          obtain ⟨h1, h2⟩ := ih hd
          exact ⟨by rw [h1]; rfl, by have := ble_true hb; simp [tot]; omega⟩
        · simp at h
      · simp at h

/-! ### Segments: writing -/
def leafy : LV → Bool
  | .any => false
  | .aggl _ _ => false
  | .val v => v.oneCell'
  | _ => true

theorem roRep_oneCell {w : World} {L : NM} {nn cl : Bool} {st len : Nat} {p : Nat → Nat → Value → Prop} {v : Value} (h : roRep w L nn cl st len p v) : v.oneCell' = true := by
  rcases h with ⟨_, _, rfl⟩ | ⟨a, cap, rfl, _⟩ <;> rfl

theorem leafy_oneCell {w : World} {L : NM} {v : LV} {x : Value} (hl : leafy v = true) (h : rep w L v x) : x.oneCell' = true := by
  cases v <;> simp only [leafy, Bool.false_eq_true] at hl
  case unk => exact h
  case int => obtain ⟨rfl, _⟩ := h; rfl
  case tt => rw [show x = _ from h]; rfl
  case ff => rw [show x = _ from h]; rfl
  case bool => rw [show x = _ from h]; rfl
  case str => obtain ⟨rfl, _⟩ := h; rfl
  case nilp => rw [show x = _ from h]; rfl
  case ptr nm base =>
    simp only [rep] at h
    split at h
    · exact h.elim
    · exact h
    · rw [h]; rfl
  case pti nm base i st j =>
    simp only [rep] at h
    split at h
    · exact h.elim
    · exact h
    · rw [h]; rfl
  case rop => obtain ⟨a, rfl, _⟩ := h; rfl
  case sl0 => rw [show x = _ from h]; rfl
  case own nm base st off len =>
    simp only [rep] at h
    split at h
    · exact h.elim
    · exact h
    · obtain ⟨cap, o, rfl, _⟩ := h; rfl
  case rob => exact roRep_oneCell h
  case ro => exact roRep_oneCell h
  case fn => obtain ⟨arr, rfl, _⟩ := h; rfl
  case bfn => obtain ⟨arr, rfl, _⟩ := h; rfl
  case nilf => rw [show x = _ from h]; rfl
  case ifc => obtain ⟨y, rfl, _⟩ := h; rfl
  case nili => rw [show x = _ from h]; rfl
  case val => rw [show x = _ from h]; exact hl

/-- A value put at place o of a segment. -/
def putSegK (s : Seg) (o : Nat) (v : LV) (K : Seg → Prop) : Prop :=
  match s with
  | .one _ => match leafy v with | true => K (.one v) | false => False
  | .bytes n xs => match v with
    | .int k a => match k with | .u8 => o < xs.length ∧ K (.bytes n (xs.set o (UInt8.ofNat a.toNat))) | _ => False
    | _ => False
  | .ints k n xs => match v with
    | .int k' a => match decide (k = k') with | true => o < xs.length ∧ K (.ints k n (xs.set o a)) | false => False
    | _ => False
  | .recs st n f => match leafy v with
    | true => K (.recs st n (fun i j => match decide (i * st + j = o) with | true => v | false => f i j))
    | false => False

theorem u8_back {a : Int} (h0 : IntKind.u8.min ≤ a) (h1 : a ≤ IntKind.u8.max) : (((UInt8.ofNat a.toNat).toNat : Nat) : Int) = a := by
  have e0 : IntKind.u8.min = 0 := by decide
  have e1 : IntKind.u8.max = 255 := by decide
  rw [e0] at h0; rw [e1] at h1
  have : (UInt8.ofNat a.toNat).toNat = a.toNat % 256 := by simp
  rw [this]
  omega

theorem putSegK_sound {s : Seg} {o : Nat} {v : LV} {K : Seg → Prop} (h : putSegK s o v K) (ho : o < s.width) :
    leafy v = true ∧ ∃ s', K s' ∧ s'.width = s.width ∧ (∀ o', o' < s.width → o' ≠ o → s'.at o' = s.at o') ∧ ∀ w L x, rep w L v x → rep w L (s'.at o) x := by
  unfold putSegK at h
  split at h
  · split at h
    · rename_i hl
      refine ⟨hl, _, h, rfl, ?_, fun w L x hx => hx⟩
      intro o' h1 h2
      simp [Seg.width] at ho h1
      omega
    · exact h.elim
  · split at h
    · split at h
      · refine ⟨rfl, _, h.2, rfl, ?_, ?_⟩
        · intro o' h1 h2
          simp only [Seg.at]
          rw [List.getD_eq_getElem?_getD, List.getD_eq_getElem?_getD, List.getElem?_set_ne (Ne.symm h2)]
        · intro w L x hx
          obtain ⟨rfl, h3, h4⟩ := hx
          simp only [Seg.at]
          rw [List.getD_eq_getElem?_getD, List.getElem?_set_self h.1]
          exact ⟨by rw [Option.getD_some, u8_back h3 h4], by rw [Option.getD_some, u8_back h3 h4]; exact ⟨h3, h4⟩⟩
      · exact h.elim
    · exact h.elim
  · split at h
    · split at h
      · rename_i hk
        have hk := of_decide_eq_true hk
        subst hk
        refine ⟨rfl, _, h.2, rfl, ?_, ?_⟩
        · intro o' h1 h2
          simp only [Seg.at]
          rw [List.getD_eq_getElem?_getD, List.getD_eq_getElem?_getD, List.getElem?_set_ne (Ne.symm h2)]
        · intro w L x hx
          simp only [Seg.at]
          rw [List.getD_eq_getElem?_getD, List.getElem?_set_self h.1]
          exact hx
      · exact h.elim
    · exact h.elim
  · split at h
    · rename_i hl
      refine ⟨hl, _, h, rfl, ?_, ?_⟩
      · intro o' h1 h2
        simp only [Seg.at]
        rw [Nat.mul_comm, Nat.div_add_mod, show decide (o' = o) = false by simp [h2]]
      · intro w L x hx
        simp only [Seg.at]
        rw [Nat.mul_comm, Nat.div_add_mod, show decide (o = o) = true by simp]
        exact hx
    · exact h.elim

def sputK : List Seg → Nat → LV → (List Seg → Prop) → Prop
  | [], _, _, _ => False
  | s :: l, o, v, K => match Nat.blt o s.width with
    | true => putSegK s o v fun s' => K (s' :: l)
    | false => sputK l (o - s.width) v fun l' => K (s :: l')

/-- What a put does to a row. -/
structure Puts (l l' : List Seg) (o : Nat) (v : LV) : Prop where
  leaf : leafy v = true
  lt : o < tot l
  tot : tot l' = tot l
  other : ∀ o', o' < Sym.tot l → o' ≠ o → cellD l' o' = cellD l o'
  same : ∀ w L x, rep w L v x → rep w L (cellD l' o) x

theorem sputK_sound {l : List Seg} {o : Nat} {v : LV} {K : List Seg → Prop} (h : sputK l o v K) : ∃ l', K l' ∧ Puts l l' o v := by
  induction l generalizing o K with
  | nil => exact h.elim
  | cons s l ih =>
    simp only [sputK] at h
    split at h
    · rename_i hb
      have hb := blt_true hb
      obtain ⟨hl, s', hK, h1, h2, h3⟩ := putSegK_sound h hb
      refine ⟨_, hK, hl, by simp [tot]; omega, by simp [tot, h1], ?_, ?_⟩
      · intro o' ho hne
        simp only [cellD, h1]
        split
        · rename_i hlt; exact h2 o' hlt hne
        · rfl
      · intro w L x hx
        simp only [cellD, h1, hb, if_true]
        exact h3 w L x hx
    · rename_i hb
      have hb := blt_false hb
      obtain ⟨l', hK, h1⟩ := ih h
      refine ⟨_, hK, h1.leaf, by simp [tot]; have := h1.lt; omega, by simp [tot, h1.tot], ?_, ?_⟩
      · intro o' ho hne
        simp only [cellD]
        split
        · rfl
        · rename_i hlt
          simp only [tot] at ho
          exact h1.other _ (by omega) (by omega)
      · intro w L x hx
        simp only [cellD, hb, if_false]
        exact h1.same w L x hx

/-- A value put at an element of the row that begins at a place. -/
def rowPutK : List Seg → Nat → (i st j : Nat) → LV → (List Seg → Prop) → Prop
  | [], _, _, _, _, _, _ => False
  | s :: l, b, i, st, j, v, K => match Nat.beq b 0 with
    | true => (match s with
      | .bytes n xs => (match Nat.beq st 1, Nat.beq j 0 with | true, true => i < n ∧ putSegK s i v fun s' => K (s' :: l) | _, _ => False)
      | .ints k n xs => (match Nat.beq st 1, Nat.beq j 0 with | true, true => i < n ∧ putSegK s i v fun s' => K (s' :: l) | _, _ => False)
      | .recs st' n f => (match Nat.beq st st', Nat.blt j st', leafy v with
        | true, true, true => i < n ∧ K (.recs st' n (fun i' j' => match Nat.beq j' j with | true => (match decide (i' = i) with | true => v | false => f i' j') | false => f i' j') :: l)
        | _, _, _ => False)
      | .one _ => False)
    | false => match Nat.ble s.width b with | true => rowPutK l (b - s.width) i st j v fun l' => K (s :: l') | false => False

theorem rowPutK_sound {l : List Seg} {b i st j : Nat} {v : LV} {K : List Seg → Prop} (h : rowPutK l b i st j v K) : ∃ l', K l' ∧ Puts l l' (b + i * st + j) v := by
  induction l generalizing b K with
  | nil => exact h.elim
  | cons s l ih =>
    simp only [rowPutK] at h
    split at h
    · rename_i hb
      have hb := beq_true hb
      subst hb
      have fin : ∀ s' o, leafy v = true → o < s.width → s'.width = s.width → (∀ o', o' < s.width → o' ≠ o → s'.at o' = s.at o') → (∀ w L x, rep w L v x → rep w L (s'.at o) x) →
          K (s' :: l) → 0 + i * st + j = o → ∃ l', K l' ∧ Puts (s :: l) l' (0 + i * st + j) v := by
        intro s' o hl ho h1 h2 h3 hK e
        rw [e]
        refine ⟨_, hK, hl, by simp [tot]; omega, by simp [tot, h1], ?_, ?_⟩
        · intro o' ho' hne
          simp only [cellD, h1]
          split
          · rename_i hlt; exact h2 o' hlt hne
          · rfl
        · intro w L x hx
          simp only [cellD, h1, ho, if_true]
          exact h3 w L x hx
      split at h
      · split at h
        · rename_i h1 h2
          have h1 := beq_true h1; have h2 := beq_true h2
          subst h1; subst h2
          obtain ⟨hl, s', hK, a, b, c⟩ := putSegK_sound h.2 (by simpa [Seg.width] using h.1)
          exact fin s' i hl (by simpa [Seg.width] using h.1) a b c hK (by omega)
        · exact h.elim
      · split at h
        · rename_i h1 h2
          have h1 := beq_true h1; have h2 := beq_true h2
          subst h1; subst h2
          obtain ⟨hl, s', hK, a, b, c⟩ := putSegK_sound h.2 (by simpa [Seg.width] using h.1)
          exact fin s' i hl (by simpa [Seg.width] using h.1) a b c hK (by omega)
        · exact h.elim
      · split at h
        · rename_i hh1 hh2 hh3
          have h1 := beq_true hh1; have h2 := blt_true hh2
          subst h1
          refine fin _ (i * st + j) hh3 (mul_lt_of h.1 h2) ?_ ?_ ?_ h.2 (by omega)
          · rfl
          · intro o' ho' hne
            simp only [Seg.at]
            split
            · rename_i hj
              have hj := beq_true hj
              split
              · rename_i hi
                have hi := of_decide_eq_true hi
                exact absurd (by rw [← hi, ← hj, Nat.mul_comm, Nat.div_add_mod]) hne
              · rfl
            · rfl
          · intro w L x hx
            simp only [Seg.at]
            rw [show (i * st + j) / st = i by rw [Nat.mul_comm, Nat.mul_add_div (by omega), Nat.div_eq_of_lt h2]; rfl, show (i * st + j) % st = j by rw [Nat.mul_comm, Nat.mul_add_mod, Nat.mod_eq_of_lt h2]]
            simpa using hx
        · exact h.elim
      · exact h.elim
    · split at h
      · rename_i hb
        have hb := ble_true hb
        obtain ⟨l', hK, h1⟩ := ih h
        have e : b + i * st + j = s.width + (b - s.width + i * st + j) := by omega
        rw [e]
        refine ⟨_, hK, h1.leaf, by simp [tot]; have := h1.lt; omega, by simp [tot, h1.tot], ?_, ?_⟩
        · intro o' ho hne
          simp only [cellD]
          split
          · rfl
          · simp only [tot] at ho
            exact h1.other _ (by omega) (by omega)
        · intro w L x hx
          simp only [cellD]
          rw [if_neg (by omega), show s.width + (b - s.width + i * st + j) - s.width = b - s.width + i * st + j by omega]
          exact h1.same w L x hx
      · exact h.elim

end Go.Sym

set_option linter.unusedVariables false
set_option linter.unusedSimpArgs false
namespace Go.Sym
open Go

/-! ### Writing into a block -/
def wr : Array Value → Nat → List Value → Array Value
  | c, _, [] => c
  | c, k, v :: l => wr (c.setIfInBounds k v) (k + 1) l

theorem wr_size (c : Array Value) (k : Nat) (l : List Value) : (wr c k l).size = c.size := by
  induction l generalizing c k with
  | nil => rfl
  | cons v l ih => simp [wr, ih]

theorem wr_get (c : Array Value) (k : Nat) (l : List Value) (h : k + l.length ≤ c.size) (j : Nat) :
    (wr c k l)[j]? = if k ≤ j ∧ j < k + l.length then l[j - k]? else c[j]? := by
  induction l generalizing c k with
  | nil => simp only [wr]; rw [if_neg (by simp only [List.length_nil]; omega)]
  | cons v l ih =>
    simp only [wr]
    simp only [List.length_cons] at h ⊢
    rw [ih _ _ (by simp; omega)]
    by_cases h1 : k + 1 ≤ j ∧ j < k + 1 + l.length
    · rw [if_pos h1, if_pos (by omega), show j - k = (j - (k + 1)) + 1 by omega]; simp
    · rw [if_neg h1]
      by_cases h2 : k = j
      · subst h2
        rw [if_pos (by omega)]
        simp [show k < c.size by omega]
      · rw [if_neg (by omega), Array.getElem?_setIfInBounds, if_neg h2]

theorem setRow_self (w : World) (g : Nat) (c : Array Value) (t : TypeId) (fz : Nat × Nat) (h : w.heap[g]? = some (.cells c t fz)) : w.setRow g c = w := by
  have hlt : g < w.heap.size := (Array.getElem?_eq_some_iff.1 h).1
  have hv : w.heap[g] = .cells c t fz := (Array.getElem?_eq_some_iff.1 h).2
  unfold World.setRow
  cases w with
  | mk heap tape drawn os output =>
    congr 1
    apply Array.ext
    · simp
    · intro k h1 h2
      simp only [Array.getElem_modify]
      split
      · rename_i hk; subst hk; simp at hv; simp [hv]
      · rfl

theorem run_storeCells_wr {P : Program} (b o : Nat) (ty : TypeId) (fz : Nat × Nat) : ∀ (vs : List Value) (i : Nat) (cur : Array Value) (w : World), w.heap[b]? = some (.cells cur ty fz) →
    o + i + vs.length ≤ cur.size → (∀ k, k < cur.size → ¬ (fz.1 ≤ k ∧ k < fz.2)) → (∀ v ∈ vs, v.oneCell' = true) →
    (storeCells ⟨b, o, none⟩ vs i).run P w = .ok () (w.setRow b (wr cur (o + i) vs))
  | [], i, cur, w, hg, hl, hf, h1 => by simp only [storeCells, wr]; rw [setRow_self w b cur ty fz hg]; rfl
  | v :: rest, i, cur, w, hg, hl, hf, h1 => by
    simp only [List.length_cons] at hl
    have hadd : (⟨b, o, none⟩ : Addr).add i = ⟨b, o + i, none⟩ := by unfold Addr.add; split <;> simp_all
    have hcell : w.cell? ⟨b, o + i, none⟩ = some (cur[o + i]'(by omega)) := by simp [World.cell?, hg, show o + i < cur.size by omega]
    have hfro : w.frozen? ⟨b, o + i, none⟩ = false := by
      have := hf (o + i) (by omega)
      simp only [World.frozen?, hg, Bool.and_eq_false_iff, decide_eq_false_iff_not]
      omega
    have hst : (store ((⟨b, o, none⟩ : Addr).add i) v).run P w = .ok () (w.setRow b (cur.setIfInBounds (o + i) v)) := by
      rw [hadd, run_store P w _ v _ (h1 v (by simp)), hcell]
      simp [hfro, setCell_eq_setRow w b (o + i) cur ty fz v hg]
    have ih := run_storeCells_wr (P := P) b o ty fz rest (i + 1) (cur.setIfInBounds (o + i) v) (w.setRow b (cur.setIfInBounds (o + i) v)) (setRow_heap w b cur _ ty _ hg) (by simp; omega)
      (by simpa using hf) (fun x hx => h1 x (by simp [hx]))
    simp only [storeCells, Sem.run_bind, hst, Result.andThen_ok, ih, setRow_setRow, wr]
    rw [show o + i + 1 = o + (i + 1) by omega]

theorem run_sizeOf {P : Program} {t : TypeId} {i : TypeInfo} (h : P.info? t = some i) (w : World) : (sizeOf t).run P w = .ok i.size w := by
  simp [sizeOf, typeInfo, h]

theorem run_storeVar {P : Program} {b o : Nat} {t ty : TypeId} {fz : Nat × Nat} {cur arr : Array Value} {v : Value} {w : World} {i : TypeInfo} (hg : w.heap[b]? = some (.cells cur ty fz))
    (hv : v.cells = arr) (hi : P.info? t = some i) (hs : i.size = arr.size) (hl : o + arr.size ≤ cur.size) (hf : ∀ k, k < cur.size → ¬ (fz.1 ≤ k ∧ k < fz.2)) (h1 : ∀ v ∈ arr.toList, v.oneCell' = true) :
    (storeVar t ⟨b, o, none⟩ v).run P w = .ok () (w.setRow b (wr cur o arr.toList)) := by
  have := run_storeCells_wr (P := P) b o ty fz arr.toList 0 cur w hg (by simpa using hl) hf h1
  simp [storeVar, run_sizeOf hi, hv, hs, this]

theorem oneCell_cells {v : Value} (h : v.oneCell' = true) : v.cells = #[v] := by cases v <;> first | rfl | simp [Value.oneCell'] at h

/-! ### What becomes of the heap -/
theorem Ev.setRow {w : World} {L : NM} {nm b : Nat} {c : Array Value} {ty : TypeId} {fz : Nat × Nat} (hL : L nm = some (some b)) (hb : w.heap[b]? = some (.cells c ty fz)) (c' : Array Value) (hs : c'.size = c.size) :
    Ev w L (w.setRow b c') L where
  os := rfl
  tape := rfl
  output := rfl
  size := by simp
  keep := fun k hk hn => setRow_other w b k c' (fun e => hn ⟨nm, by rw [e]; exact hL⟩)
  names := fun _ _ => .inr rfl
  fresh := fun _ h => .inl h
  shape := fun nm' b' h1 h2 cc t z hc => by
    by_cases e : b' = b
    · subst e
      rw [hb] at hc
      simp only [Option.some.injEq, Obj.cells.injEq] at hc
      obtain ⟨rfl, rfl, rfl⟩ := hc
      exact ⟨c', fz, setRow_heap w b' c c' ty fz hb, hs⟩
    · exact ⟨cc, z, by rw [setRow_other w b b' c' e]; exact hc, rfl⟩
  far := rfl

theorem HRep.write {w : World} {L : NM} {H : Hp} {nm b : Nat} {ob ob' : OB} {c c' : Array Value} {ty : TypeId} {fz : Nat × Nat} (h : HRep w L H) (hH : H[nm]? = some (some ob)) (hL : L nm = some (some b))
    (hb : w.heap[b]? = some (.cells c ty fz)) (hs : c'.size = c.size) (ht : ob'.ty = ob.ty) (htot : tot ob'.segs ≤ c.size) (hr : repA w L ob'.segs c') :
    HRep (w.setRow b c') L (H.set nm (some ob')) ∧ Ev w L (w.setRow b c') L := by
  have hev := Ev.setRow hL hb c' hs
  obtain ⟨b0, c0, fz0, e1, e2, e3, e4, e5⟩ := h.live nm ob hH
  rw [hL] at e1
  simp only [Option.some.injEq] at e1
  subst e1
  rw [hb] at e2
  simp only [Option.some.injEq, Obj.cells.injEq] at e2
  obtain ⟨rfl, rfl, rfl⟩ := e2
  have hlt : nm < H.length := by
    rcases Nat.lt_or_ge nm H.length with h' | h'
    · exact h'
    · rw [List.getElem?_eq_none h'] at hH; simp at hH
  refine ⟨⟨?_, ?_, ?_, h.inj, fun b hb => by have := h.far b hb; exact ⟨by simpa using this.1, this.2⟩⟩, hev⟩
  · intro n hn
    rw [List.getElem?_set] at hn
    split at hn
    · rename_i e
      subst e
      simp [hlt] at hn
    · exact h.unused n hn
  · intro n hn
    rw [List.getElem?_set] at hn
    split at hn
    · rename_i e
      subst e
      simp [hlt] at hn
    · exact h.dead n hn
  · intro n o hn
    rw [List.getElem?_set] at hn
    split at hn
    · rename_i e
      subst e
      simp only [hlt, if_true, Option.some.injEq] at hn
      subst hn
      exact ⟨b, c', fz, hL, by rw [setRow_heap w b c c' _ fz hb, ht], by rw [hs]; exact e3, by rw [hs]; exact htot, hr.mono hev⟩
    · rename_i e
      obtain ⟨b1, c1, fz1, f1, f2, f3, f4, f5⟩ := h.live n o hn
      have hne : b1 ≠ b := fun e' => e (h.inj nm n b hL (by rw [← e']; exact f1))
      exact ⟨b1, c1, fz1, f1, by rw [setRow_other w b b1 c' hne]; exact f2, f3, f4, f5.mono hev⟩

theorem Ev.drew (w : World) (L : NM) : Ev w L w.drew L :=
  ⟨rfl, rfl, rfl, Nat.le_refl _, fun _ _ _ => rfl, fun _ _ => .inr rfl, fun _ h => .inl h, fun _ _ _ _ c t fz h => ⟨c, fz, h, rfl⟩, rfl⟩

theorem HRep.drew {w : World} {L : NM} {H : Hp} (h : HRep w L H) : HRep w.drew L H :=
  ⟨h.unused, h.dead, fun nm ob hn => let ⟨b, c, fz, h1, h2, h3, h4, h5⟩ := h.live nm ob hn; ⟨b, c, fz, h1, h2, h3, h4, h5.mono (Ev.drew w L)⟩, h.inj, h.far⟩

/-- A name more. -/
def NM.with (L : NM) (nm : Nat) (o : Option Nat) : NM := ⟨fun n => if n = nm then some o else L n, L.X⟩

theorem heap_alloc_old' (w : World) (o : Obj) (k : Nat) (h : k < w.heap.size) : (w.alloc o).heap[k]? = w.heap[k]? := by
  show (w.heap.push o)[k]? = _
  rw [Array.getElem?_push, if_neg (by omega)]

theorem heap_alloc_new' (w : World) (o : Obj) : (w.alloc o).heap[w.heap.size]? = some o := by
  show (w.heap.push o)[w.heap.size]? = _
  rw [Array.getElem?_push, if_pos rfl]

theorem HRep.block_lt {w : World} {L : NM} {H : Hp} (h : HRep w L H) {nm b : Nat} (hL : L nm = some (some b)) : b < w.heap.size := by
  cases hH : H[nm]? with
  | none => have := h.unused nm hH; rw [hL] at this; simp at this
  | some o =>
    cases o with
    | none => have := h.dead nm hH; rw [hL] at this; simp at this
    | some ob =>
      obtain ⟨b0, c0, fz0, e1, e2, _⟩ := h.live nm ob hH
      rw [hL] at e1
      simp only [Option.some.injEq] at e1
      subst e1
      exact (Array.getElem?_eq_some_iff.1 e2).1

theorem HRep.alloc {w : World} {L : NM} {H : Hp} (h : HRep w L H) (ob : OB) (c : Array Value) (fz : Nat × Nat) (hf : FzOK fz c.size) (ht : tot ob.segs ≤ c.size) (hr : repA w L ob.segs c) :
    HRep (w.alloc (.cells c ob.ty fz)) (L.with H.length (some w.heap.size)) (H ++ [some ob]) ∧ Ev w L (w.alloc (.cells c ob.ty fz)) (L.with H.length (some w.heap.size)) := by
  have hun : L H.length = none := h.unused _ (List.getElem?_eq_none (Nat.le_refl _))
  have hev : Ev w L (w.alloc (.cells c ob.ty fz)) (L.with H.length (some w.heap.size)) := by
    refine ⟨rfl, rfl, rfl, by simp, fun b hb _ => heap_alloc_old' w _ b hb, ?_, ?_, ?_, rfl⟩
    · intro nm hnm
      right
      simp only [NM.with]
      rw [if_neg (fun e => hnm (by rw [e]; exact hun))]
    · rintro b ⟨nm, hb⟩
      simp only [NM.with] at hb
      split at hb
      · right; simp at hb; omega
      · exact .inl ⟨nm, hb⟩
    · intro nm b h1 h2 cc t z hc
      exact ⟨cc, z, by rw [heap_alloc_old' w _ b (h.block_lt h1)]; exact hc, rfl⟩
  refine ⟨⟨?_, ?_, ?_, ?_, ?_⟩, hev⟩
  · intro n hn
    have : H.length + 1 ≤ n := by
      have := List.getElem?_eq_none_iff.1 hn
      simpa using this
    simp only [NM.with]
    rw [if_neg (by omega)]
    exact h.unused n (List.getElem?_eq_none (by omega))
  · intro n hn
    rw [List.getElem?_append] at hn
    split at hn
    · simp only [NM.with]
      rw [if_neg (by omega)]
      exact h.dead n hn
    · cases hk : n - H.length with
      | zero => rw [hk] at hn; simp at hn
      | succ k => rw [hk] at hn; simp at hn
  · intro n o hn
    rw [List.getElem?_append] at hn
    split at hn
    · obtain ⟨b1, c1, fz1, f1, f2, f3, f4, f5⟩ := h.live n o hn
      refine ⟨b1, c1, fz1, ?_, by rw [heap_alloc_old' w _ b1 (h.block_lt f1)]; exact f2, f3, f4, f5.mono hev⟩
      simp only [NM.with]
      rw [if_neg (by omega)]
      exact f1
    · rename_i hge
      cases hk : n - H.length with
      | zero =>
        rw [hk] at hn
        simp at hn
        subst hn
        refine ⟨w.heap.size, c, fz, ?_, heap_alloc_new' w _, hf, ht, hr.mono hev⟩
        simp only [NM.with]
        rw [if_pos (by omega)]
      | succ k => rw [hk] at hn; simp at hn
  · intro n n' b h1 h2
    simp only [NM.with] at h1 h2
    split at h1 <;> split at h2
    · omega
    · simp at h1
      have := h.block_lt h2
      omega
    · simp at h2
      have := h.block_lt h1
      omega
    · exact h.inj n n' b h1 h2
  · exact fun b hb => ⟨by have := (h.far b hb).1; simp; omega, fun hh => by
      rcases hev.fresh b hh with h1 | h1
      · exact (h.far b hb).2 h1
      · have := (h.far b hb).1; omega⟩

theorem HRep.not_has {w : World} {L : NM} {H : Hp} (h : HRep w L H) {b : Nat} (hb : w.heap.size ≤ b) : ¬ L.has b := by
  rintro ⟨nm, hn⟩
  have := h.block_lt hn
  omega

theorem HRep.not_X {w : World} {L : NM} {H : Hp} (h : HRep w L H) {b : Nat} (hb : w.heap.size ≤ b) : ¬ L.X b := by
  intro hn
  have := (h.far b hn).1
  omega

/-- A new block without a name. -/
theorem HRep.alloc_free {w : World} {L : NM} {H : Hp} (h : HRep w L H) (o : Obj) : HRep (w.alloc o) L H ∧ Ev w L (w.alloc o) L := by
  have hev : Ev w L (w.alloc o) L :=
    ⟨rfl, rfl, rfl, by simp, fun b hb _ => heap_alloc_old' w _ b hb, fun _ _ => .inr rfl, fun _ h => .inl h, fun nm b h1 h2 cc t z hc => ⟨cc, z, by rw [heap_alloc_old' w _ b (h.block_lt h1)]; exact hc, rfl⟩, rfl⟩
  refine ⟨⟨h.unused, h.dead, fun nm ob hn => ?_, h.inj, fun b hb => by have := h.far b hb; exact ⟨by simp; omega, this.2⟩⟩, hev⟩
  obtain ⟨b1, c1, fz1, f1, f2, f3, f4, f5⟩ := h.live nm ob hn
  exact ⟨b1, c1, fz1, f1, by rw [heap_alloc_old' w _ b1 (h.block_lt f1)]; exact f2, f3, f4, f5.mono hev⟩

/-- A name that is given up. -/
theorem HRep.kill {w : World} {L : NM} {H : Hp} (h : HRep w L H) {nm : Nat} {o : Option OB} (hH : H[nm]? = some o) :
    HRep w (L.with nm none) (H.set nm none) ∧ Ev w L w (L.with nm none) := by
  have hlt : nm < H.length := by
    rcases Nat.lt_or_ge nm H.length with h' | h'
    · exact h'
    · rw [List.getElem?_eq_none h'] at hH; simp at hH
  have hev : Ev w L w (L.with nm none) := by
    refine ⟨rfl, rfl, rfl, Nat.le_refl _, fun b hb _ => rfl, ?_, ?_, fun nm b _ _ cc t z hc => ⟨cc, z, hc, rfl⟩, rfl⟩
    · intro n hn
      simp only [NM.with]
      split
      · exact .inl rfl
      · exact .inr rfl
    · rintro b ⟨n, hb⟩
      simp only [NM.with] at hb
      split at hb
      · simp at hb
      · exact .inl ⟨n, hb⟩
  refine ⟨⟨?_, ?_, ?_, ?_, ?_⟩, hev⟩
  · intro n hn
    rw [List.getElem?_set] at hn
    simp only [NM.with]
    split at hn
    · rename_i e
      subst e
      simp [hlt] at hn
    · rename_i e
      rw [if_neg (fun e' => e e'.symm)]
      exact h.unused n hn
  · intro n hn
    rw [List.getElem?_set] at hn
    simp only [NM.with]
    split at hn
    · rename_i e; rw [if_pos e.symm]
    · rename_i e
      rw [if_neg (fun e' => e e'.symm)]
      exact h.dead n hn
  · intro n ob hn
    rw [List.getElem?_set] at hn
    split at hn
    · rename_i e
      subst e
      simp [hlt] at hn
    · rename_i e
      obtain ⟨b1, c1, fz1, f1, f2, f3, f4, f5⟩ := h.live n ob hn
      refine ⟨b1, c1, fz1, ?_, f2, f3, f4, f5.mono hev⟩
      simp only [NM.with]
      rw [if_neg (fun e' => e e'.symm)]
      exact f1
  · intro n n' b h1 h2
    simp only [NM.with] at h1 h2
    split at h1 <;> split at h2 <;> first | (simp at h1; done) | (simp at h2; done) | exact h.inj n n' b h1 h2
  · exact fun b hb => ⟨(h.far b hb).1, fun hh => by
      rcases hev.fresh b hh with h1 | h1
      · exact (h.far b hb).2 h1
      · have := (h.far b hb).1; omega⟩

/-- A block under another name. -/
theorem HRep.rename {w : World} {L : NM} {H : Hp} (h : HRep w L H) {nm b : Nat} {ob : OB} (hH : H[nm]? = some (some ob)) (hL : L nm = some (some b)) :
    HRep w ((L.with nm none).with H.length (some b)) (H.set nm none ++ [some ob]) ∧ Ev w L w ((L.with nm none).with H.length (some b)) := by
  have hlt : nm < H.length := by
    rcases Nat.lt_or_ge nm H.length with h' | h'
    · exact h'
    · rw [List.getElem?_eq_none h'] at hH; simp at hH
  have hun : L H.length = none := h.unused _ (List.getElem?_eq_none (Nat.le_refl _))
  have hev : Ev w L w ((L.with nm none).with H.length (some b)) := by
    refine ⟨rfl, rfl, rfl, Nat.le_refl _, fun b hb _ => rfl, ?_, ?_, fun nm b _ _ cc t z hc => ⟨cc, z, hc, rfl⟩, rfl⟩
    · intro n hn
      simp only [NM.with]
      rw [if_neg (fun e => hn (by rw [e]; exact hun))]
      split
      · exact .inl rfl
      · exact .inr rfl
    · rintro b' ⟨n, hb⟩
      simp only [NM.with] at hb
      split at hb
      · simp at hb; subst hb; exact .inl ⟨nm, hL⟩
      · split at hb
        · simp at hb
        · exact .inl ⟨n, hb⟩
  refine ⟨⟨?_, ?_, ?_, ?_, ?_⟩, hev⟩
  · intro n hn
    have : H.length + 1 ≤ n := by
      have := List.getElem?_eq_none_iff.1 hn
      simpa using this
    simp only [NM.with]
    rw [if_neg (by omega), if_neg (by omega)]
    exact h.unused n (List.getElem?_eq_none (by omega))
  · intro n hn
    rw [List.getElem?_append] at hn
    simp only [List.length_set] at hn
    split at hn
    · simp only [NM.with]
      rw [if_neg (by omega)]
      rw [List.getElem?_set] at hn
      split at hn
      · rename_i e; rw [if_pos e.symm]
      · rename_i e
        rw [if_neg (fun e' => e e'.symm)]
        exact h.dead n hn
    · cases hk : n - H.length with
      | zero => rw [hk] at hn; simp at hn
      | succ k => rw [hk] at hn; simp at hn
  · intro n o hn
    rw [List.getElem?_append] at hn
    simp only [List.length_set] at hn
    split at hn
    · rw [List.getElem?_set] at hn
      split at hn
      · rename_i e
        subst e
        simp [hlt] at hn
      · rename_i e
        obtain ⟨b1, c1, fz1, f1, f2, f3, f4, f5⟩ := h.live n o hn
        refine ⟨b1, c1, fz1, ?_, f2, f3, f4, f5.mono hev⟩
        simp only [NM.with]
        rw [if_neg (by omega), if_neg (fun e' => e e'.symm)]
        exact f1
    · rename_i hge
      cases hk : n - H.length with
      | zero =>
        rw [hk] at hn
        simp at hn
        subst hn
        obtain ⟨b1, c1, fz1, f1, f2, f3, f4, f5⟩ := h.live nm ob hH
        rw [hL] at f1
        simp only [Option.some.injEq] at f1
        subst f1
        refine ⟨b, c1, fz1, ?_, f2, f3, f4, f5.mono hev⟩
        simp only [NM.with]
        rw [if_pos (by omega)]
      | succ k => rw [hk] at hn; simp at hn
  · intro n n' b' h1 h2
    simp only [NM.with] at h1 h2
    split at h1 <;> split at h2
    · omega
    · simp at h1
      subst h1
      split at h2
      · simp at h2
      · rename_i e1 e2 e3
        exact absurd (h.inj n' nm b h2 hL) e3
    · simp at h2
      subst h2
      split at h1
      · simp at h1
      · rename_i e1 e2 e3
        exact absurd (h.inj n nm b h1 hL) e3
    · split at h1
      · simp at h1
      · split at h2
        · simp at h2
        · exact h.inj n n' b' h1 h2
  · exact fun b hb => ⟨(h.far b hb).1, fun hh => by
      rcases hev.fresh b hh with h1 | h1
      · exact (h.far b hb).2 h1
      · have := (h.far b hb).1; omega⟩

/-! ### The heap in the evaluator -/
def hsetK : Hp → Nat → Option OB → (Hp → Prop) → Prop
  | [], _, _, _ => False
  | _ :: l, 0, x, K => K (x :: l)
  | a :: l, n + 1, x, K => hsetK l n x fun l' => K (a :: l')

theorem hsetK_out {H : Hp} {nm : Nat} {x : Option OB} {K : Hp → Prop} (h : hsetK H nm x K) : K (H.set nm x) := by
  induction H generalizing nm K with
  | nil => exact h.elim
  | cons a l ih =>
    cases nm with
    | zero => exact h
    | succ n => exact ih h

def hpushK : Hp → Option OB → (Hp → Prop) → Prop
  | [], x, K => K [x]
  | a :: l, x, K => hpushK l x fun l' => K (a :: l')

theorem hpushK_out {H : Hp} {x : Option OB} {K : Hp → Prop} (h : hpushK H x K) : K (H ++ [x]) := by
  induction H generalizing K with
  | nil => exact h
  | cons a l ih => exact ih h

end Go.Sym

set_option linter.unusedVariables false
set_option linter.unusedSimpArgs false
namespace Go.Sym
open Go

variable {P : Program} {Γ : Tab}

/-- The outcome of an evaluator of one operation. -/
def Outc (P : Program) (o : Oper) (vs : Operand → FV) (H : Hp) (K : FV → Hp → Prop) : Prop := ∃ r H', OpSem P o vs H r H' ∧ K r H'

/-! ### Facts on types -/
theorem TOK.und (hΓ : TOK P Γ) {t : TypeId} {d : TD} (h : (tget Γ t).d = d) : d.fits P t := h ▸ (hΓ t).fits

theorem isAgg_run (hΓ : TOK P Γ) {t : TypeId} (h : (tget Γ t).d.isOther = false) (w : World) : (isAgg t).run P w = .ok (tget Γ t).d.isAgg w := by
  have hf := (hΓ t).fits
  cases hd : (tget Γ t).d with
  | other => rw [hd] at h; simp [TD.isOther] at h
  | struct fs => rw [hd] at hf; obtain ⟨fields, h1, _⟩ := hf; simp [isAgg, run_underlying h1, TD.isAgg]
  | bstruct fs => rw [hd] at hf; obtain ⟨fields, h1, _⟩ := hf; simp [isAgg, run_underlying h1, TD.isAgg]
  | iface => rw [hd] at hf; obtain ⟨ms, h1⟩ := hf; simp [isAgg, run_underlying h1, TD.isAgg]
  | func => rw [hd] at hf; obtain ⟨a, b, c, h1⟩ := hf; simp [isAgg, run_underlying h1, TD.isAgg]
  | int k => rw [hd] at hf; simp [isAgg, run_underlying (show P.underlying t = _ from hf), TD.isAgg]
  | bool => rw [hd] at hf; simp [isAgg, run_underlying (show P.underlying t = _ from hf), TD.isAgg]
  | str => rw [hd] at hf; simp [isAgg, run_underlying (show P.underlying t = _ from hf), TD.isAgg]
  | ptr e => rw [hd] at hf; simp [isAgg, run_underlying (show P.underlying t = _ from hf), TD.isAgg]
  | slice e => rw [hd] at hf; simp [isAgg, run_underlying (show P.underlying t = _ from hf), TD.isAgg]
  | arr n e => rw [hd] at hf; simp [isAgg, run_underlying (show P.underlying t = _ from hf), TD.isAgg]

theorem size_run (hΓ : TOK P Γ) {t : TypeId} (h : (tget Γ t).d.isOther = false) (w : World) : (sizeOf t).run P w = .ok (tget Γ t).size w := by
  obtain ⟨i, z, h1, h2, _⟩ := (hΓ t).info h
  rw [run_sizeOf h1, h2]

/-! ### Loading -/
def onesK (f : Nat → LV) : Nat → Nat → (List Seg → Prop) → Prop
  | _, 0, K => K []
  | k, n + 1, K => lK (f k) fun v => litK (k + 1) fun k' => onesK f k' n fun l => K (.one v :: l)

def ones (f : Nat → LV) : Nat → Nat → List Seg
  | _, 0 => []
  | k, n + 1 => .one (f k) :: ones f (k + 1) n

theorem onesK_eq (f : Nat → LV) (k n : Nat) (K : List Seg → Prop) : onesK f k n K = K (ones f k n) := by
  induction n generalizing k K with
  | zero => rfl
  | succ n ih => simp only [onesK, ones, lK_eq, litK_eq, ih]

theorem tot_ones (f : Nat → LV) (k n : Nat) : tot (ones f k n) = n := by
  induction n generalizing k with
  | zero => rfl
  | succ n ih => simp [ones, tot, Seg.width, ih]; omega

theorem cellD_ones (f : Nat → LV) (k n o : Nat) (h : o < n) : cellD (ones f k n) o = f (k + o) := by
  induction n generalizing k o with
  | zero => omega
  | succ n ih =>
    simp only [ones, cellD, Seg.width, Seg.at]
    cases o with
    | zero => simp
    | succ o =>
      have e : ¬ (o + 1 < 1) := by omega
      simp only [e, if_false, Nat.add_sub_cancel]
      rw [ih _ _ (by omega)]; congr 1; omega

def loadK (Γ : Tab) (t : TypeId) (x : FV) (H : Hp) (K : FV → Prop) : Prop :=
  match (tget Γ t).d.isOther with
  | true => False
  | false =>
  match x with
  | .s (.lf (.ptr nm base)) => match hget H nm with
    | some ob => (match (tget Γ t).d.isAgg with
      | true => (match dropS ob.segs base with
        | some (_, r) => (match dropS r (tget Γ t).size with | some (m, _) => segsK m fun m => K (.s (.agg m)) | none => False)
        | none => False)
      | false => sgetK ob.segs base fun v => K (.s (.lf v)))
    | none => False
  | .s (.lf (.pti nm base i st j)) => match hget H nm with
    | some ob => (match (tget Γ t).d.isAgg with
      | true => rowK ob.segs base fun s => (match s with
        | .recs st' n f => (match Nat.beq st st', Nat.beq j 0, Nat.beq (tget Γ t).size st with
          | true, true, true => i < n ∧ onesK (f i) 0 st fun l => K (.s (.agg l))
          | _, _, _ => False)
        | _ => False)
      | false => rowK ob.segs base fun s => elemK s i st j fun v => K (.s (.lf v)))
    | none => False
  | .s (.lf (.rop n f)) => (match (tget Γ t).d.isAgg with
    | true => (match Nat.ble (tget Γ t).size n with | true => onesK f 0 (tget Γ t).size fun l => K (.s (.agg l)) | false => False)
    | false => (match Nat.blt 0 n with | true => lK (f 0) fun v => K (.s (.lf v)) | false => False))
  | _ => False

theorem run_loadVar_leaf (hΓ : TOK P Γ) {t : TypeId} (h : (tget Γ t).d.isOther = false) (ha : (tget Γ t).d.isAgg = false) {a : Addr} {w : World} {v : Value} (hc : w.cell? a = some v) :
    (loadVar t a).run P w = .ok v w := by
  simp [loadVar, isAgg_run hΓ h, ha, hc]

theorem run_loadVar_agg (hΓ : TOK P Γ) {t : TypeId} (h : (tget Γ t).d.isOther = false) (ha : (tget Γ t).d.isAgg = true) {b o : Nat} {w : World} {arr : Array Value} (hs : arr.size = (tget Γ t).size)
    (hc : ∀ j v, arr[j]? = some v → w.cell? ⟨b, o + j, none⟩ = some v) :
    (loadVar t ⟨b, o, none⟩).run P w = .ok (.agg arr) w := by
  have := run_loadCells_list (P := P) w ⟨b, o, none⟩ arr.toList (fun j v hj => by rw [Addr.add_lit]; exact hc j v (by simpa using hj))
  simp only [Array.length_toList, hs] at this
  simp [loadVar, isAgg_run hΓ h, ha, size_run hΓ h, this]

/-- The cells of a row read as an array, from cells that each can be read. -/
theorem gather {w : World} {L : NM} (l : List Seg) (rd : Nat → Option Value) (h : ∀ o, o < tot l → ∃ y, rd o = some y ∧ y.oneCell' = true ∧ rep w L (cellD l o) y) :
    ∃ arr : Array Value, arr.size = tot l ∧ repA w L l arr ∧ ∀ j v, arr[j]? = some v → rd j = some v := by
  refine ⟨((List.range (tot l)).map fun o => (rd o).getD undef).toArray, by simp, ?_, ?_⟩
  · intro o ho
    obtain ⟨y, h1, h2, h3⟩ := h o ho
    exact ⟨y, by simp [ho, h1], h2, h3⟩
  · intro j v hj
    have hlt : j < tot l := by
      rcases Nat.lt_or_ge j (tot l) with h' | h'
      · exact h'
      · rw [Array.getElem?_eq_none (by simpa using h')] at hj; simp at hj
    obtain ⟨y, h1, h2, h3⟩ := h j hlt
    simp [hlt, h1] at hj
    rw [h1, hj]

theorem cell_of_block {w : World} {b : Nat} {c : Array Value} {t : TypeId} {fz : Nat × Nat} (h : w.heap[b]? = some (.cells c t fz)) (o : Nat) : w.cell? ⟨b, o, none⟩ = c[o]? := by
  simp [World.cell?, h]

theorem loadK_sound (hΓ : TOK P Γ) {t : TypeId} {x : FV} {H : Hp} {K : FV → Prop} (h : loadK Γ t x H K) :
    ∃ r, K r ∧ ∀ (w : World) (L : NM) (v : Value), HRep w L H → repF w L x v → ∃ rv, (Instr.loadAt t v).run P w = .ok rv w ∧ repF w L r rv := by
  unfold loadK at h
  split at h
  · exact h.elim
  rename_i hno
  split at h
  · -- ptr
    rename_i nm base
    split at h
    · rename_i ob hob
      have hH := hget_some hob
      split at h
      · rename_i ha
        split at h
        · rename_i p r hd
          split at h
          · rename_i m q hd2
            rw [segsK_eq] at h
            obtain ⟨e1, e2⟩ := dropS_sound hd
            obtain ⟨e3, e4⟩ := dropS_sound hd2
            refine ⟨_, h, fun w L v hw hv => ?_⟩
            obtain ⟨b, c, fz, f1, f2, f3, f4, f5⟩ := hw.live nm ob hH
            simp only [repF, repS, rep, f1] at hv
            subst hv
            have hcell : ∀ o, o < tot m → ∃ y, c[base + o]? = some y ∧ y.oneCell' = true ∧ rep w L (cellD m o) y := by
              intro o ho
              have := f5 (base + o) (by rw [e1, e3, tot_append, tot_append]; omega)
              rw [e1, e3, ← e2, cellD_append_right, cellD_append_left _ _ _ ho] at this
              rw [← e2]
              exact this
            obtain ⟨arr, g1, g2, g3⟩ := gather m (fun o => c[base + o]?) hcell
            exact ⟨.agg arr, by
              simp only [Instr.loadAt, Instr.sureAddr, Sem.run_bind, Sem.run_pure, Result.andThen_ok]
              exact run_loadVar_agg hΓ hno ha (by rw [g1, e4]) (fun j u hj => by rw [cell_of_block f2]; exact g3 j u hj), ⟨arr, rfl, g1, g2⟩⟩
          · exact h.elim
        · exact h.elim
      · rename_i ha
        obtain ⟨h1, h2⟩ := sgetK_sound h
        refine ⟨_, h2, fun w L v hw hv => ?_⟩
        obtain ⟨b, c, fz, f1, f2, f3, f4, f5⟩ := hw.live nm ob hH
        simp only [repF, repS, rep, f1] at hv
        subst hv
        obtain ⟨y, g1, g2, g3⟩ := f5 base h1
        exact ⟨y, by
          simp only [Instr.loadAt, Instr.sureAddr, Sem.run_bind, Sem.run_pure, Result.andThen_ok]
          exact run_loadVar_leaf hΓ hno ha (by rw [cell_of_block f2]; exact g1), g3⟩
    · exact h.elim
  · -- pti
    rename_i nm base i st j
    split at h
    · rename_i ob hob
      have hH := hget_some hob
      split at h
      · rename_i ha
        obtain ⟨p, s, q, e1, e2, h'⟩ := rowK_sound h
        clear h
        split at h'
        · rename_i st' n f
          split at h'
          · rename_i hh1 hh2 hh3
            have h1 := beq_true hh1; have h2 := beq_true hh2; have h3 := beq_true hh3
            subst h1; subst h2
            rw [onesK_eq] at h'
            have h := h'
            refine ⟨_, h.2, fun w L v hw hv => ?_⟩
            obtain ⟨b, c, fz, f1, f2, f3, f4, f5⟩ := hw.live nm ob hH
            simp only [repF, repS, rep, f1] at hv
            subst hv
            have hcell : ∀ o, o < tot (ones (f i) 0 st) → ∃ y, c[base + i * st + 0 + o]? = some y ∧ y.oneCell' = true ∧ rep w L (cellD (ones (f i) 0 st) o) y := by
              intro o ho
              rw [tot_ones] at ho
              rw [cellD_ones _ _ _ _ ho]
              have hlt : i * st + o < (Seg.recs st n f).width := mul_lt_of h.1 ho
              have := f5 (base + (i * st + o)) (by rw [e1, ← e2]; exact tot_mid hlt)
              rw [e1, ← e2, cellD_mid hlt] at this
              simp only [Seg.at] at this
              rw [show (i * st + o) / st = i by rw [Nat.mul_comm, Nat.mul_add_div (by omega), Nat.div_eq_of_lt ho]; rfl, show (i * st + o) % st = o by rw [Nat.mul_comm, Nat.mul_add_mod, Nat.mod_eq_of_lt ho]] at this
              rw [← e2, show tot p + i * st + 0 + o = tot p + (i * st + o) by omega, Nat.zero_add]
              exact this
            obtain ⟨arr, g1, g2, g3⟩ := gather _ (fun o => c[base + i * st + 0 + o]?) hcell
            exact ⟨.agg arr, by
              simp only [Instr.loadAt, Instr.sureAddr, Sem.run_bind, Sem.run_pure, Result.andThen_ok]
              exact run_loadVar_agg hΓ hno ha (by rw [g1, tot_ones, h3]) (fun j u hj => by rw [cell_of_block f2]; exact g3 j u hj), ⟨arr, rfl, g1, g2⟩⟩
          · exact h'.elim
        · exact h'.elim
      · rename_i ha
        obtain ⟨p, s, q, e1, e2, h'⟩ := rowK_sound h
        obtain ⟨h1, h2⟩ := elemK_sound h'
        refine ⟨_, h2, fun w L v hw hv => ?_⟩
        obtain ⟨b, c, fz, f1, f2, f3, f4, f5⟩ := hw.live nm ob hH
        simp only [repF, repS, rep, f1] at hv
        subst hv
        have := f5 (base + (i * st + j)) (by rw [e1, ← e2]; exact tot_mid h1)
        rw [e1, ← e2, cellD_mid h1] at this
        obtain ⟨y, g1, g2, g3⟩ := this
        exact ⟨y, by
          simp only [Instr.loadAt, Instr.sureAddr, Sem.run_bind, Sem.run_pure, Result.andThen_ok]
          refine run_loadVar_leaf hΓ hno ha ?_
          rw [cell_of_block f2, ← e2, Nat.add_assoc]; exact g1, g3⟩
    · exact h.elim
  · -- rop
    rename_i n f
    split at h
    · rename_i ha
      split at h
      · rename_i hn
        have hn := ble_true hn
        rw [onesK_eq] at h
        refine ⟨_, h, fun w L v hw hv => ?_⟩
        obtain ⟨a, rfl, hs, hro, hc⟩ := hv
        obtain ⟨arr, g1, g2, g3⟩ := gather (w := w) (L := L) (ones f 0 (tget Γ t).size) (fun o => w.cell? ⟨a.block, a.off + o, none⟩) (by
          intro o ho
          rw [tot_ones] at ho
          rw [cellD_ones _ _ _ _ ho, Nat.zero_add]
          obtain ⟨y, k1, k2, k3⟩ := hc o (by omega)
          exact ⟨y, k1, k2, k3⟩)
        have ea : a = ⟨a.block, a.off, none⟩ := by cases a; simp at hs; simp [hs]
        exact ⟨.agg arr, by
          rw [ea]
          simp only [Instr.loadAt, Instr.sureAddr, Sem.run_bind, Sem.run_pure, Result.andThen_ok]
          exact run_loadVar_agg hΓ hno ha (by rw [g1, tot_ones]) (fun j u hj => g3 j u hj), ⟨arr, rfl, g1, g2⟩⟩
      · exact h.elim
    · rename_i ha
      split at h
      · rename_i hn
        have hn := blt_true hn
        rw [lK_eq] at h
        refine ⟨_, h, fun w L v hw hv => ?_⟩
        obtain ⟨a, rfl, hs, hro, hc⟩ := hv
        have ea : a = ⟨a.block, a.off, none⟩ := by cases a; simp at hs; simp [hs]
        obtain ⟨y, k1, k2, k3⟩ := hc 0 hn
        exact ⟨y, by
          rw [ea]
          simp only [Instr.loadAt, Instr.sureAddr, Sem.run_bind, Sem.run_pure, Result.andThen_ok]
          exact run_loadVar_leaf hΓ hno ha k1, k3⟩
      · exact h.elim
  · exact h.elim

end Go.Sym

