/- A framework for walking through the program's functions, proved sound, part 5: the table of types is checked; regions that draw their order. It has no condition. -/
import Derived.Test.YtlmcdgbjbamdnaaFw4
import Derived.Orders
set_option linter.unusedVariables false
set_option linter.unusedSimpArgs false
namespace Go.Sym
open Go

variable {P : Program} {Γ : Tab}

/-! ### The table of types, checked -/
def leafOK (v : LV) (x : Value) : Bool :=
  match v with
  | .int k n => (match x with | .int k' m => decide (k = k') && decide (n = m) && decide (k.min ≤ n) && decide (n ≤ k.max) | _ => false)
  | .ff => (match x with | .bool b => !b | _ => false)
  | .str s => (match s, x with | [], .string t => t.data.toList.isEmpty | _, _ => false)
  | .nilp => (match x with | .pointer none => true | _ => false)
  | .sl0 => (match x with | .slice none 0 0 => true | _ => false)
  | .nilf => (match x with | .nilFunc => true | _ => false)
  | .nili => (match x with | .nilIface => true | _ => false)
  | .any => x.oneCell'
  | .unk => x.oneCell'
  | _ => false

theorem leafOK_rep {v : LV} {x : Value} (h : leafOK v x = true) (w : World) (L : NM) : x.oneCell' = true ∧ rep w L v x := by
  unfold leafOK at h
  split at h
  · split at h
    · simp only [Bool.and_eq_true, decide_eq_true_eq] at h
      obtain ⟨⟨⟨rfl, rfl⟩, h1⟩, h2⟩ := h
      exact ⟨rfl, rfl, h1, h2⟩
    · simp at h
  · split at h
    · rename_i b
      cases b
      · exact ⟨rfl, rfl⟩
      · simp at h
    · simp at h
  · split at h
    · rename_i t
      have : t = ⟨#[]⟩ := by
        cases t with
        | mk d =>
          simp only [List.isEmpty_iff, Array.toList_eq_nil_iff] at h
          rw [h]
      subst this
      exact ⟨rfl, rfl, by simp [maxLen]⟩
    · simp at h
  all_goals first
    | (split at h <;> first | exact ⟨rfl, rfl⟩ | simp at h)
    | exact ⟨h, trivial⟩
    | exact ⟨h, h⟩
    | simp at h

def allB : Nat → (Nat → Bool) → Bool
  | 0, _ => true
  | n + 1, f => f n && allB n f

theorem allB_get {n : Nat} {f : Nat → Bool} (h : allB n f = true) {i : Nat} (hi : i < n) : f i = true := by
  induction n with
  | zero => omega
  | succ n ih =>
    simp only [allB, Bool.and_eq_true] at h
    by_cases e : i = n
    · subst e; exact h.1
    · exact ih h.2 (by omega)

def fieldsB : List Field → List (Nat × TypeId) → Bool
  | [], [] => true
  | f :: l, (o, t) :: m => Nat.beq f.offset o && Nat.beq f.type t && !(f.name == "_") && fieldsB l m
  | _, _ => false

def fieldsBB : List Field → List (Nat × TypeId) → Bool
  | [], [] => true
  | f :: l, (o, t) :: m => Nat.beq f.offset o && Nat.beq f.type t && fieldsBB l m
  | _, _ => false

theorem fieldsBB_sound : ∀ {l : List Field} {m : List (Nat × TypeId)}, fieldsBB l m = true → l.map (fun f => (f.offset, f.type)) = m
  | [], [], _ => rfl
  | f :: l, (o, t) :: m, h => by
    simp only [fieldsBB, Bool.and_eq_true] at h
    obtain ⟨⟨h1, h2⟩, h4⟩ := h
    simp [beq_true h1, beq_true h2, fieldsBB_sound h4]
  | [], (_, _) :: _, h => by simp [fieldsBB] at h
  | _ :: _, [], h => by simp [fieldsBB] at h

theorem fieldsB_sound : ∀ {l : List Field} {m : List (Nat × TypeId)}, fieldsB l m = true → l.map (fun f => (f.offset, f.type)) = m ∧ ∀ f ∈ l, f.name ≠ "_"
  | [], [], _ => ⟨rfl, by simp⟩
  | f :: l, (o, t) :: m, h => by
    simp only [fieldsB, Bool.and_eq_true, Bool.not_eq_true', beq_eq_false_iff_ne] at h
    obtain ⟨⟨⟨h1, h2⟩, h3⟩, h4⟩ := h
    obtain ⟨k1, k2⟩ := fieldsB_sound h4
    refine ⟨by simp [beq_true h1, beq_true h2, k1], fun g hg => ?_⟩
    rcases List.mem_cons.1 hg with rfl | hg
    · exact h3
    · exact k2 g hg
  | [], (_, _) :: _, h => by simp [fieldsB] at h
  | _ :: _, [], h => by simp [fieldsB] at h

def fitsB (d : TD) (u : Option TypeDesc) : Bool :=
  match d with
  | .int k => (match u with | some (.int k') => decide (k = k') | _ => false)
  | .bool => (match u with | some .bool => true | _ => false)
  | .str => (match u with | some .string => true | _ => false)
  | .ptr e => (match u with | some (.pointer e') => Nat.beq e e' | _ => false)
  | .slice e => (match u with | some (.slice e') => Nat.beq e e' | _ => false)
  | .arr n e => (match u with | some (.array n' e') => Nat.beq n n' && Nat.beq e e' | _ => false)
  | .struct fs => (match u with | some (.struct fields) => fieldsB fields.toList fs | _ => false)
  | .bstruct fs => (match u with | some (.struct fields) => fieldsBB fields.toList fs | _ => false)
  | .iface => (match u with | some (.interface _) => true | _ => false)
  | .func => (match u with | some (.func _ _ _) => true | _ => false)
  | .other => true

theorem fitsB_sound {d : TD} {t : TypeId} (h : fitsB d (P.underlying t) = true) : d.fits P t := by
  unfold fitsB at h
  unfold TD.fits
  split at h
  all_goals first
    | trivial
    | (split at h
       · rename_i hu
         first
          | (simp only [decide_eq_true_eq] at h; subst h; exact hu)
          | exact hu
          | (have := beq_true h; subst this; exact hu)
          | (simp only [Bool.and_eq_true] at h; have h1 := beq_true h.1; have h2 := beq_true h.2; subst h1; subst h2; exact hu)
          | exact ⟨_, hu, fieldsB_sound h⟩
          | exact ⟨_, hu, fieldsBB_sound h⟩
          | exact ⟨_, hu⟩
          | exact ⟨_, _, _, hu⟩
       · simp at h)

def infoB (ti : TI) (i : Option TypeInfo) : Bool :=
  match i with
  | none => false
  | some i => Nat.beq i.size ti.size && Nat.beq i.bytes ti.bytes && (match i.zero with
    | none => false
    | some z => Nat.beq z.cells.size (tot ti.zero) && Nat.beq (tot ti.zero) ti.size &&
        allB (tot ti.zero) (fun o => match z.cells[o]? with | some y => leafOK (cellD ti.zero o) y | none => false) &&
        (match ti.d.isAgg with | true => (match z with | .agg _ => true | _ => false) | false => z.oneCell'))

def tiB (P : Program) (t : TypeId) (ti : TI) : Bool :=
  match ti.d.isOther with
  | true => true
  | false => fitsB ti.d (P.underlying t) && infoB ti (P.info? t) && (match ti.d.isAgg with | true => !(P.eqGuardType P.depth t) && !(P.stoodInHeld t) | false => true)

theorem tiB_sound {t : TypeId} {ti : TI} (h : tiB P t ti = true) : TIOK P t ti := by
  unfold tiB at h
  split at h
  · rename_i ho
    have hd : ti.d = .other := by cases hd : ti.d <;> simp [hd, TD.isOther] at ho; rfl
    have ha : ti.d.isAgg = false := by rw [hd]; rfl
    exact ⟨by rw [hd]; trivial, fun h => by rw [ho] at h; simp at h, fun h => by rw [ha] at h; simp at h, fun h => by rw [ha] at h; simp at h⟩
  · simp only [Bool.and_eq_true] at h
    obtain ⟨⟨h1, h2⟩, h3⟩ := h
    refine ⟨fitsB_sound h1, fun _ => ?_, fun ha => ?_, fun ha => ?_⟩
    · unfold infoB at h2
      split at h2
      · simp at h2
      · rename_i i hi
        simp only [Bool.and_eq_true] at h2
        obtain ⟨⟨g1, g2⟩, g3⟩ := h2
        split at g3
        · simp at g3
        · rename_i z hz
          simp only [Bool.and_eq_true] at g3
          obtain ⟨⟨⟨g4, g5⟩, g6⟩, g7⟩ := g3
          refine ⟨i, z, hi, beq_true g1, beq_true g2, hz, beq_true g4, beq_true g5, fun w L o ho => ?_, fun ha => ?_, fun ha => ?_⟩
          · have := allB_get g6 ho
            split at this
            · rename_i y hy
              exact ⟨y, hy, leafOK_rep this w L⟩
            · simp at this
          · rw [ha] at g7
            simp only [] at g7
            split at g7
            · exact ⟨_, rfl⟩
            · simp at g7
          · rw [ha] at g7; exact g7
    · rw [ha] at h3; simp only [Bool.and_eq_true, Bool.not_eq_true'] at h3; exact h3.1
    · rw [ha] at h3; simp only [Bool.and_eq_true, Bool.not_eq_true'] at h3; exact h3.2

def tabB (P : Program) : List TI → TypeId → Bool
  | [], _ => true
  | x :: l, t => tiB P t x && tabB P l (t + 1)

theorem tabB_sound {l : List TI} {t : TypeId} (h : tabB P l t = true) : ∀ i, TIOK P (t + i) (tget l i) := by
  induction l generalizing t with
  | nil => exact fun i => tiB_sound (by simp [tget, tiB, TD.isOther])
  | cons x l ih =>
    simp only [tabB, Bool.and_eq_true] at h
    intro i
    cases i with
    | zero => exact tiB_sound h.1
    | succ i =>
      have := ih h.2 i
      rw [Nat.add_assoc t 1 i, Nat.add_comm 1 i] at this
      exact this

theorem TOK.of (h : tabB P Γ 0 = true) : TOK P Γ := fun t => by
  have := tabB_sound h t
  rw [Nat.zero_add] at this
  exact this

end Go.Sym

set_option linter.unusedVariables false
set_option linter.unusedSimpArgs false
namespace Go.Sym
open Go

variable {P : Program} {Γ : Tab}

/-! ### Regions that draw their order: one order shown -/
/-- Operations in an order that is followed here: its number, its class (0: it meets no heap; 1: it only looks at it; 2: it may change it), and, of class 1, how many changes back the heaps lie that it may meet. -/
abbrev Plan := List (Nat × Nat × List Nat)

def histN : List Hp → Nat → Hp
  | [], _ => []
  | H :: _, 0 => H
  | _ :: l, n + 1 => histN l n

def sameK (P : Program) (Γ : Tab) (op : Op) (vs : Operand → FV) (r : FV) (hs : List Hp) : List Nat → Prop → Prop
  | [], k => k
  | v :: l, k => opR P Γ op vs (histN hs v) fun r' => r' = r ∧ sameK P Γ op vs r hs l k

/-- A guard, told without learning from it. -/
def dGuardK (all : List Oper) (g : Option (Nat × Bool)) (fr : Fr) (K : Bool → Prop) : Prop :=
  match g with
  | none => K true
  | some (j, want) => (match nthO all j with
    | some oj => (match oj.dst with
      | some d => (match get fr d with
        | .s (.lf .tt) => (match want with | true => K true | false => K false)
        | .s (.lf .ff) => (match want with | true => K false | false => K true)
        | .s (.lf (.bool b)) => CaseB b fun b => (match b with
          | true => (match want with | true => K true | false => K false)
          | false => (match want with | true => K false | false => K true))
        | .s (.lf (.val v)) => (match v with | .tuple _ => K false | _ => False)
        | _ => False)
      | none => False)
    | none => False)

def stepD (P : Program) (Γ : Tab) (n : Nat) (all : List Oper) (i cls : Nat) (vers : List Nat) (next : Fr → List Hp → (Fr → Hp → Prop) → Prop) (fr : Fr) (hs : List Hp) (K : Fr → Hp → Prop) : Prop :=
  match nthO all i with
    | none => False
    | some o => dGuardK all o.guard fr fun want => match want with
      | false => (match cls with
        | 2 => putK n o.dst (.s (.lf (.val (.tuple #[])))) fr fun fr' => next fr' (histN hs 0 :: hs) K
        | 0 => putK n o.dst (.s (.lf (.val (.tuple #[])))) fr fun fr' => next fr' hs K
        | 1 => putK n o.dst (.s (.lf (.val (.tuple #[])))) fr fun fr' => next fr' hs K
        | _ => False)
      | true => (match cls with
        | 0 => opP Γ o.op (opv fr) fun v => putK n o.dst v fr fun fr' => next fr' hs K
        | 1 => (match vers with
          | [] => False
          | v0 :: vl => opR P Γ o.op (opv fr) (histN hs v0) fun r => sameK P Γ o.op (opv fr) r hs vl (putK n o.dst r fr fun fr' => next fr' hs K))
        | 2 => opW P Γ o.op (opv fr) (histN hs 0) fun r H' => putK n o.dst r fr fun fr' => next fr' (H' :: hs) K
        | _ => False)

def drawV (P : Program) (Γ : Tab) (n : Nat) (all : List Oper) : Plan → Fr → List Hp → (Fr → Hp → Prop) → Prop
  | [], fr, hs, K => K fr (histN hs 0)
  | (i, cls, vers) :: rest, fr, hs, K => stepD P Γ n all i cls vers (drawV P Γ n all rest) fr hs K

/-! ### What such an order shows -/
structure TS where
  i : Nat
  cls : Nat
  vers : List Nat
  o : Oper
  want : Bool
  v : FV

def consF (d : Option Tmp) (v : FV) (fr : Fr) : Fr :=
  match d with
  | some d => (d, v) :: fr
  | none => fr

def frR (fr0 : Fr) : List TS → Fr
  | [] => fr0
  | s :: p => consF s.o.dst s.v (frR fr0 p)

def GuardF (all : List Oper) (o : Oper) (fr : Fr) (want : Bool) : Prop :=
  match o.guard with
  | none => want = true
  | some (j, w) => ∃ oj d b, all[j]? = some oj ∧ oj.dst = some d ∧ want = (b == some w) ∧ ∀ (w : World) (L : NM) (x : Value), repF w L (get fr d) x → boolOf x = b

structure Fact (P : Program) (n : Nat) (all : List Oper) (s : TS) (fr : Fr) (hs hs' : List Hp) : Prop where
  op : all[s.i]? = some s.o
  dst : ∀ d, s.o.dst = some d → d < n
  guard : GuardF all s.o fr s.want
  skip : s.want = false → s.v = .s (.lf (.val (.tuple #[])))
  c0 : s.cls = 0 → s.want = true → ∀ H, OpSem P s.o (opv fr) H s.v H
  c1 : s.cls = 1 → s.want = true → ∀ u ∈ s.vers, OpSem P s.o (opv fr) (histN hs u) s.v (histN hs u)
  c2 : s.cls = 2 → s.want = true → OpSem P s.o (opv fr) (histN hs 0) s.v (histN hs' 0)
  c2s : s.cls = 2 → s.want = false → histN hs' 0 = histN hs 0
  low : s.cls ≤ 2
  keep : s.cls ≠ 2 → hs' = hs
  more : s.cls = 2 → ∃ H', hs' = H' :: hs

inductive Ref (P : Program) (n : Nat) (all : List Oper) (fr0 : Fr) (H0 : Hp) : List TS → List Hp → Prop where
  | nil : Ref P n all fr0 H0 [] [H0]
  | cons {s : TS} {q : List TS} {hs hs' : List Hp} (h : Ref P n all fr0 H0 q hs) (f : Fact P n all s (frR fr0 q) hs hs') : Ref P n all fr0 H0 (s :: q) hs'

theorem dGuardK_sound {all : List Oper} {o : Oper} {fr : Fr} {K : Bool → Prop} (h : dGuardK all o.guard fr K) : ∃ want, K want ∧ GuardF all o fr want := by
  unfold dGuardK at h
  unfold GuardF
  split at h
  · rename_i hg
    exact ⟨true, h, rfl⟩
  · rename_i j want hg
    split at h
    · rename_i oj hj
      rw [nthO_eq] at hj
      split at h
      · rename_i d hd
        have fin : ∀ b : Bool, (∀ (w : World) (L : NM) (x : Value), repF w L (get fr d) x → x = .bool b) → K (b == want) → ∃ want', K want' ∧
            ∃ oj d b, all[j]? = some oj ∧ oj.dst = some d ∧ want' = (b == some want) ∧ ∀ (w : World) (L : NM) (x : Value), repF w L (get fr d) x → boolOf x = b :=
          fun b hb hk => ⟨_, hk, oj, d, some b, hj, hd, by cases b <;> cases want <;> rfl, fun w L x hx => by rw [hb w L x hx]; rfl⟩
        split at h
        · rename_i hv
          refine fin true (fun w L x hx => by rw [hv] at hx; exact hx) ?_
          cases want <;> exact h
        · rename_i hv
          refine fin false (fun w L x hx => by rw [hv] at hx; exact hx) ?_
          cases want <;> exact h
        · rename_i b hv
          have h' := h.out
          refine fin b (fun w L x hx => by rw [hv] at hx; exact hx) ?_
          cases b <;> cases want <;> exact h'
        · rename_i v hv
          split at h
          · rename_i c
            exact ⟨false, h, oj, d, none, hj, hd, rfl, fun w L x hx => by rw [hv] at hx; have : x = .tuple c := hx; rw [this]; rfl⟩
          · exact h.elim
        · exact h.elim
      · exact h.elim
    · exact h.elim

theorem putK_split {n : Nat} {d : Option Tmp} {v : FV} {fr : Fr} {K : Fr → Prop} (h : putK n d v fr K) : (∀ d', d = some d' → d' < n) ∧ K (consF d v fr) := by
  unfold putK at h
  split at h
  · exact ⟨fun d' h => by simp at h, h⟩
  · split at h
    · rename_i d hlt
      exact ⟨fun d' h => by simp at h; subst h; exact blt_true hlt, h⟩
    · exact h.elim

theorem sameK_sound (hΓ : TOK P Γ) {o : Oper} {vs : Operand → FV} {r : FV} {hs : List Hp} {l : List Nat} {k : Prop} (h : sameK P Γ o.op vs r hs l k) : k ∧ ∀ u ∈ l, OpSem P o vs (histN hs u) r (histN hs u) := by
  induction l with
  | nil => exact ⟨h, by simp⟩
  | cons v l ih =>
    obtain ⟨r', ⟨rfl, h1⟩, h2⟩ := opR_sound hΓ h
    obtain ⟨h3, h4⟩ := ih h1
    refine ⟨h3, fun u hu => ?_⟩
    rcases List.mem_cons.1 hu with rfl | hu
    · exact h2
    · exact h4 u hu

theorem drawV_sound (hΓ : TOK P Γ) {n : Nat} {all : List Oper} {fr0 : Fr} {H0 : Hp} {K : Fr → Hp → Prop} : ∀ (plan : Plan) (q : List TS) (hs : List Hp), drawV P Γ n all plan (frR fr0 q) hs K → Ref P n all fr0 H0 q hs →
    ∃ q' hs', Ref P n all fr0 H0 q' hs' ∧ K (frR fr0 q') (histN hs' 0) ∧ q'.reverse.map (fun s => (s.i, s.cls, s.vers)) = q.reverse.map (fun s => (s.i, s.cls, s.vers)) ++ plan := by
  intro plan
  induction plan with
  | nil => intro q hs h hr; exact ⟨q, hs, hr, h, by simp⟩
  | cons st rest ih =>
    obtain ⟨i, cls, vers⟩ := st
    intro q hs h hr
    simp only [drawV, stepD] at h
    split at h
    · exact h.elim
    rename_i o ho
    rw [nthO_eq] at ho
    obtain ⟨want, h1, hg⟩ := dGuardK_sound h
    have go : ∀ (v : FV) (hs' : List Hp), (∀ d', o.dst = some d' → d' < n) → drawV P Γ n all rest (consF o.dst v (frR fr0 q)) hs' K →
        Fact P n all ⟨i, cls, vers, o, want, v⟩ (frR fr0 q) hs hs' →
        ∃ q' hs', Ref P n all fr0 H0 q' hs' ∧ K (frR fr0 q') (histN hs' 0) ∧ q'.reverse.map (fun s => (s.i, s.cls, s.vers)) = q.reverse.map (fun s => (s.i, s.cls, s.vers)) ++ (i, cls, vers) :: rest := by
      intro v hs' hd hv hf
      obtain ⟨q', hs2, g1, g2, g3⟩ := ih (⟨i, cls, vers, o, want, v⟩ :: q) hs' hv (.cons hr hf)
      exact ⟨q', hs2, g1, g2, by rw [g3]; simp⟩
    cases want with
    | false =>
      simp only [] at h1
      split at h1
      · obtain ⟨hd, hk⟩ := putK_split h1
        exact go _ _ hd hk ⟨ho, hd, hg, fun _ => rfl, fun h => by simp at h, fun h => by simp at h, fun _ h => by simp at h, fun _ _ => rfl, Nat.le_refl _, fun h => absurd rfl h, fun _ => ⟨_, rfl⟩⟩
      · obtain ⟨hd, hk⟩ := putK_split h1
        exact go _ _ hd hk ⟨ho, hd, hg, fun _ => rfl, fun _ h => by simp at h, fun h => by simp at h, fun h => by simp at h, fun h => by simp at h, Nat.zero_le _, fun _ => rfl, fun h => by simp at h⟩
      · obtain ⟨hd, hk⟩ := putK_split h1
        exact go _ _ hd hk ⟨ho, hd, hg, fun _ => rfl, fun h => by simp at h, fun _ h => by simp at h, fun h => by simp at h, fun h => by simp at h, by simp, fun _ => rfl, fun h => by simp at h⟩
      · exact h1.elim
    | true =>
      simp only [] at h1
      split at h1
      · obtain ⟨r, hk, hr'⟩ := opP_sound hΓ h1
        obtain ⟨hd, hk⟩ := putK_split hk
        exact go _ _ hd hk ⟨ho, hd, hg, fun h => by simp at h, fun _ _ => hr', fun h => by simp at h, fun h => by simp at h, fun h => by simp at h, Nat.zero_le _, fun _ => rfl, fun h => by simp at h⟩
      · split at h1
        · exact h1.elim
        · rename_i v0 vl
          obtain ⟨r, hk, hr'⟩ := opR_sound hΓ h1
          obtain ⟨hk, hr2⟩ := sameK_sound hΓ hk
          obtain ⟨hd, hk⟩ := putK_split hk
          refine go _ _ hd hk ⟨ho, hd, hg, fun h => by simp at h, fun h => by simp at h, fun _ _ u hu => ?_, fun h => by simp at h, fun h => by simp at h, by simp, fun _ => rfl, fun h => by simp at h⟩
          rcases List.mem_cons.1 hu with rfl | hu
          · exact hr'
          · exact hr2 u hu
      · obtain ⟨r, H', hr', hk⟩ := opW_sound hΓ h1
        obtain ⟨hd, hk⟩ := putK_split hk
        exact go _ _ hd hk ⟨ho, hd, hg, fun h => by simp at h, fun h => by simp at h, fun h => by simp at h, fun _ _ => hr', fun _ h => by simp at h, Nat.le_refl _, fun h => absurd rfl h, fun _ => ⟨_, rfl⟩⟩
      · exact h1.elim

end Go.Sym

set_option linter.unusedVariables false
set_option linter.unusedSimpArgs false
namespace Go.Sym
open Go

variable {P : Program} {Γ : Tab}

/-! ### What is asked of the order that is shown -/
def predsE (o : Oper) : List Nat := o.after.toList.filterMap fun e => match Region.binds .any e with | true => some e.on | false => none

/-- What stands ahead of a number in a list. -/
def prevIn : List Nat → Nat → Option Nat
  | a :: b :: l, i => match Nat.beq b i with | true => some a | false => prevIn (b :: l) i
  | _, _ => none

def chainP (chain : Bool) (σ : List Nat) (i : Nat) : List Nat :=
  match chain with
  | true => (match prevIn σ i with | some j => [j] | none => [])
  | false => []

/-- The operations that may change the heap, as the plan has them. -/
def c2s (plan : Plan) : List Nat := plan.filterMap fun x => match Nat.beq x.2.1 2 with | true => some x.1 | false => none

structure DOK (chain : Bool) (ops : Array Oper) (A : Nat → Nat → Prop) (plan : Plan) : Prop where
  mem : ∀ i, i < ops.size → i ∈ plan.map (·.1)
  nodup : (plan.map (·.1)).Nodup
  edge : ∀ i o, ops[i]? = some o → ∀ e ∈ predsE o, e < i
  anc : ∀ i o, ops[i]? = some o → ∀ j, A j i → ∃ e ∈ predsE o ++ chainP chain (c2s plan) i, e = j ∨ A j e
  topo : ∀ l1 x l2, plan = l1 ++ x :: l2 → ∀ j, A j x.1 → j ∈ l1.map (·.1)
  reads : ∀ i oi j oj t, ops[i]? = some oi → ops[j]? = some oj → t ∈ oi.looksAt ops → oj.dst = some t → j ≠ i → A j i ∨ A i j
  writes : ∀ i oi j oj t, ops[i]? = some oi → ops[j]? = some oj → oi.dst = some t → oj.dst = some t → j ≠ i → A j i ∨ A i j
  tot : ∀ (a b : Nat) (x y : Nat), a < b → (c2s plan)[a]? = some x → (c2s plan)[b]? = some y → A x y
  vers : ∀ l1 x l2, plan = l1 ++ x :: l2 → x.2.1 = 1 → ∀ k, k ≤ (c2s plan).length →
    (∃ u ∈ x.2.2, u + k = (c2s l1).length) ∨ (∃ (k' j : Nat), k' < k ∧ (c2s plan)[k']? = some j ∧ A x.1 j) ∨ (∃ (k' j : Nat), k ≤ k' ∧ (c2s plan)[k']? = some j ∧ A j x.1)

/-! ### Frames, whatever the order -/
theorem get_frR (fr0 : Fr) (p : List TS) (t : Nat) : get (frR fr0 p) t = (match p.find? (fun s => s.o.dst == some t) with | some s => s.v | none => get fr0 t) := by
  induction p with
  | nil => rfl
  | cons s p ih =>
    simp only [frR, List.find?_cons]
    cases hd : s.o.dst with
    | none =>
      simp only [consF, ih]
      rw [show (none == some t) = false from rfl]
    | some d =>
      simp only [consF, get]
      by_cases e : d = t
      · subst e
        rw [show Nat.beq d d = true from Nat.beq_refl d, show (some d == some d) = true from by simp]
      · have h1 : Nat.beq d t = false := by
          cases hb : Nat.beq d t
          · rfl
          · exact absurd (Nat.eq_of_beq_eq_true hb) e
        have h2 : (some d == some t) = false := by simp [e]
        rw [h1, h2]
        exact ih

def TopoP (A : Nat → Nat → Prop) (p : List TS) : Prop := ∀ a s b, p = a ++ s :: b → ∀ j, A j s.i → j ∈ b.map (·.i)

theorem nodup_mid {a b : List TS} {s : TS} (h : ((a ++ s :: b).map (·.i)).Nodup) : s.i ∉ a.map (·.i) ∧ s.i ∉ b.map (·.i) := by
  simp only [List.map_append, List.map_cons, List.nodup_append, List.nodup_cons] at h
  exact ⟨fun hh => h.2.2 _ hh s.i (by simp) rfl, h.2.1.1⟩

theorem nodup_uniq {q : List TS} (h : (q.map (·.i)).Nodup) {s s' : TS} (hs : s ∈ q) (hs' : s' ∈ q) (e : s.i = s'.i) : s = s' := by
  obtain ⟨a, b, rfl⟩ := List.append_of_mem hs
  obtain ⟨h1, h2⟩ := nodup_mid h
  rcases List.mem_append.1 hs' with k | k
  · exact absurd (by rw [e]; exact List.mem_map.2 ⟨s', k, rfl⟩) h1
  · rcases List.mem_cons.1 k with k | k
    · exact k.symm
    · exact absurd (by rw [e]; exact List.mem_map.2 ⟨s', k, rfl⟩) h2

/-- Two orders that agree on who writes a slot agree on what is in it. -/
theorem get_same {A : Nat → Nat → Prop} {fr0 : Fr} {p q : List TS} {t : Nat} (hp : TopoP A p) (hq : TopoP A q) (np : (p.map (·.i)).Nodup) (nq : (q.map (·.i)).Nodup)
    (h1 : ∀ s ∈ p, s.o.dst = some t → s ∈ q) (h2 : ∀ s ∈ q, s.o.dst = some t → s ∈ p)
    (hw : ∀ s s', s ∈ p → s' ∈ p → s.o.dst = some t → s'.o.dst = some t → s.i ≠ s'.i → A s.i s'.i ∨ A s'.i s.i) : get (frR fr0 p) t = get (frR fr0 q) t := by
  rw [get_frR, get_frR]
  have key : p.find? (fun s => s.o.dst == some t) = q.find? (fun s => s.o.dst == some t) := by
    cases hf : p.find? (fun s => s.o.dst == some t) with
    | none =>
      symm
      rw [List.find?_eq_none] at hf ⊢
      intro s hs hd
      exact hf s (h2 s hs (by simpa using hd)) hd
    | some s =>
      obtain ⟨hd, a, b, rfl, ha⟩ := List.find?_eq_some_iff_append.1 hf
      have hsd : s.o.dst = some t := by simpa using hd
      have hsq : s ∈ q := h1 s (by simp) hsd
      cases hg : q.find? (fun s => s.o.dst == some t) with
      | none =>
        rw [List.find?_eq_none] at hg
        exact absurd hd (hg s hsq)
      | some s' =>
        obtain ⟨hd', a', b', rfl, ha'⟩ := List.find?_eq_some_iff_append.1 hg
        have hsd' : s'.o.dst = some t := by simpa using hd'
        have hsp' : s' ∈ a ++ s :: b := h2 s' (by simp) hsd'
        by_cases e : s = s'
        · rw [e]
        · exfalso
          have hne : s.i ≠ s'.i := fun ei => e (nodup_uniq np (by simp) hsp' ei)
          have hb : s' ∈ b := by
            rcases List.mem_append.1 hsp' with k | k
            · have := ha s' k; simp [hsd'] at this
            · rcases List.mem_cons.1 k with k | k
              · exact absurd k.symm e
              · exact k
          have hb' : s ∈ b' := by
            rcases List.mem_append.1 hsq with k | k
            · have := ha' s k; simp [hsd] at this
            · rcases List.mem_cons.1 k with k | k
              · exact absurd k e
              · exact k
          rcases hw s s' (by simp) hsp' hsd hsd' hne with h | h
          · obtain ⟨b1, b2, rfl⟩ := List.append_of_mem hb
            have := hp (a ++ s :: b1) s' b2 (by simp) s.i h
            refine (nodup_mid np).2 ?_
            simp only [List.map_append, List.map_cons, List.mem_append, List.mem_cons]
            exact .inr (.inr this)
          · obtain ⟨b1, b2, rfl⟩ := List.append_of_mem hb'
            have := hq (a' ++ s' :: b1) s b2 (by simp) s'.i h
            refine (nodup_mid nq).2 ?_
            simp only [List.map_append, List.map_cons, List.mem_append, List.mem_cons]
            exact .inr (.inr this)
  rw [key]

/-! ### The heaps that are met -/
def n2 (q : List TS) : Nat := (q.filter fun s => Nat.beq s.cls 2).length

theorem Ref.split {n : Nat} {all : List Oper} {fr0 : Fr} {H0 : Hp} : ∀ {qa qb : List TS} {hs : List Hp}, Ref P n all fr0 H0 (qa ++ qb) hs → ∃ pre hb, Ref P n all fr0 H0 qb hb ∧ hs = pre ++ hb ∧ pre.length = n2 qa
  | [], qb, hs, h => ⟨[], hs, h, rfl, rfl⟩
  | s :: qa, qb, hs, h => by
    cases h with
    | cons h f =>
      obtain ⟨pre, hb, h1, h2, h3⟩ := Ref.split h
      by_cases hc : s.cls = 2
      · obtain ⟨H', e⟩ := f.more hc
        exact ⟨H' :: pre, hb, h1, by rw [e, h2]; rfl, by simp [n2, hc] at h3 ⊢; exact h3⟩
      · refine ⟨pre, hb, h1, by rw [f.keep hc, h2], ?_⟩
        have : Nat.beq s.cls 2 = false := by
          cases hb : Nat.beq s.cls 2
          · rfl
          · exact absurd (Nat.eq_of_beq_eq_true hb) hc
        simpa [n2, this] using h3

theorem Ref.fact {n : Nat} {all : List Oper} {fr0 : Fr} {H0 : Hp} {qb : List TS} {s : TS} {hs : List Hp} (h : Ref P n all fr0 H0 (s :: qb) hs) : ∃ hb, Ref P n all fr0 H0 qb hb ∧ Fact P n all s (frR fr0 qb) hb hs := by
  cases h with
  | cons h f => exact ⟨_, h, f⟩

theorem histN_append (pre hb : List Hp) (u : Nat) : histN (pre ++ hb) (pre.length + u) = histN hb u := by
  induction pre with
  | nil => simp
  | cons x l ih => rw [List.length_cons, show l.length + 1 + u = (l.length + u) + 1 by omega]; exact ih

end Go.Sym

set_option linter.unusedVariables false
set_option linter.unusedSimpArgs false
namespace Go.Sym
open Go

variable {P : Program} {Γ : Tab}

/-! ### The orders that may be drawn -/
inductive Lin (ops : Array Oper) : Array Bool → List Nat → Prop where
  | done {listed : Array Bool} (h : Region.ready .any ops listed = []) : Lin ops listed []
  | step {listed : Array Bool} {i : Nat} {π : List Nat} (h : i ∈ Region.ready .any ops listed) (r : Lin ops (listed.setIfInBounds i true) π) : Lin ops listed (i :: π)

theorem filter_lt {α : Type} {p p' : α → Bool} : ∀ {l : List α}, (∀ x ∈ l, p' x = true → p x = true) → (∃ x ∈ l, p x = true ∧ p' x = false) → (l.filter p').length < (l.filter p).length
  | [], _, h => by obtain ⟨x, hx, _⟩ := h; simp at hx
  | y :: l, hle, h => by
    have hle' : (l.filter p').length ≤ (l.filter p).length := by
      clear h
      induction l with
      | nil => simp
      | cons z l ih =>
        have := ih (fun x hx => hle x (by rcases List.mem_cons.1 hx with e | e <;> simp [e]))
        simp only [List.filter_cons]
        cases hp' : p' z
        · cases p z <;> simp <;> omega
        · rw [hle z (by simp) hp']; simp; omega
    simp only [List.filter_cons]
    obtain ⟨x, hx, h1, h2⟩ := h
    rcases List.mem_cons.1 hx with e | e
    · subst e
      rw [h1, h2]; simp; omega
    · have ih := filter_lt (p := p) (p' := p') (l := l) (fun z hz => hle z (by simp [hz])) ⟨x, e, h1, h2⟩
      cases hp' : p' y
      · cases p y <;> simp <;> omega
      · rw [hle y (by simp) hp']; simp; omega

def unl (ops : Array Oper) (listed : Array Bool) : Nat := ((List.range ops.size).filter fun i => !listed.getD i true).length

theorem ready_lt {ops : Array Oper} {listed : Array Bool} {i : Nat} (h : i ∈ Region.ready .any ops listed) : i < ops.size := by
  obtain ⟨_, o, ho, _⟩ := mem_ready.1 h
  exact (Array.getElem?_eq_some_iff.1 ho).1

theorem lin_go (ops : Array Oper) : ∀ (fuel t : Nat) (listed : Array Bool), unl ops listed ≤ fuel → Lin ops listed (Region.linearise.go .any ops fuel t listed []) := by
  intro fuel
  induction fuel with
  | zero =>
    intro t listed h
    simp only [Region.linearise.go, List.reverse_nil]
    refine .done ?_
    cases hr : Region.ready .any ops listed with
    | nil => rfl
    | cons i l =>
      exfalso
      have hi : i ∈ Region.ready .any ops listed := by rw [hr]; simp
      have h0 := (mem_ready.1 hi).1
      have hmem : i ∈ (List.range ops.size).filter fun i => !listed.getD i true := by
        rw [List.mem_filter, List.mem_range]; exact ⟨ready_lt hi, by simp [h0]⟩
      have := List.length_pos_of_mem hmem
      unfold unl at h
      omega
  | succ fuel ih =>
    intro t listed h
    simp only [Region.linearise.go]
    change Lin ops listed (match (Region.ready .any ops listed)[t % (Region.ready .any ops listed).length]? with
      | some i => Region.linearise.go .any ops fuel (t / (Region.ready .any ops listed).length) (listed.setIfInBounds i true) [i]
      | none => [].reverse)
    cases hi : (Region.ready .any ops listed)[t % (Region.ready .any ops listed).length]? with
    | none =>
      refine .done ?_
      cases hr : Region.ready .any ops listed with
      | nil => rfl
      | cons x xs =>
        rw [hr] at hi
        have hlt : t % (x :: xs).length < (x :: xs).length := Nat.mod_lt _ (by simp)
        simp at hi
        simp at hlt
        omega
    | some i =>
      have hmem : i ∈ Region.ready .any ops listed := List.mem_of_getElem? hi
      simp only []
      rw [linearise_go_acc]
      refine .step hmem (ih _ _ ?_)
      have h0 := (mem_ready.1 hmem).1
      have hs : i < listed.size := by
        rcases Nat.lt_or_ge i listed.size with h' | h'
        · exact h'
        · rw [Array.getD_eq_getD_getElem?, Array.getElem?_eq_none h'] at h0; simp at h0
      have : unl ops (listed.setIfInBounds i true) < unl ops listed := by
        unfold unl
        refine filter_lt (fun x _ hx => ?_) ⟨i, List.mem_range.2 (ready_lt hmem), by simp [h0], by simp [Array.getD_eq_getD_getElem?, hs]⟩
        by_cases e : i = x
        · subst e
          simp [Array.getD_eq_getD_getElem?, hs] at hx
        · rw [getD_set_ne _ e] at hx; exact hx
      omega

theorem lin_linearise (ops : Array Oper) (t : Nat) : Lin ops (Array.replicate ops.size false) (Region.linearise .any ops t) := by
  unfold Region.linearise
  refine lin_go ops _ _ _ ?_
  unfold unl
  exact Nat.le_trans (List.length_filter_le _ _) (by simp)

/-! ### One operation -/
theorem R.stepv {w0 : W0} {L0 : NM} {n0 n : Nat} {fr : Fr} {H : Hp} {a : Act} {w : World} (hR : R w0 L0 n0 n fr H a w) {o : Oper} {vs : Operand → FV} {r : FV} {H' : Hp} (hs : OpSem P o vs H r H')
    (he : ∀ x, x ∈ o.op.operands.toList → vs x = opv fr x) (hd : ∀ d, o.dst = some d → d < n) {next : Act → World → Prop} {Q : Exit → Act → World → Prop}
    (hn : ∀ a' w', R w0 L0 n0 n (consF o.dst r fr) H' a' w' → next a' w') : o.wp P a w next Q := by
  obtain ⟨⟨L, h1, h2, h3⟩, hb, h4, h5⟩ := hR
  refine hs w L a h1 (fun x hx => by rw [he x hx]; exact h2.opv x) next Q fun rv w' L' g1 g2 g3 => hn _ _ ?_
  cases hdst : o.dst with
  | none => exact ⟨⟨L', g1, h2.mono g3, h3.trans g3⟩, hb, h4, h5⟩
  | some d => exact ⟨⟨L', g1, (h2.mono g3).put (by rw [h4]; exact hd d hdst) g2, h3.trans g3⟩, hb, by rw [put_size]; exact h4, by rw [put_defers]; exact h5⟩

theorem R.skipv {w0 : W0} {L0 : NM} {n0 n : Nat} {fr : Fr} {H : Hp} {a : Act} {w : World} (hR : R w0 L0 n0 n fr H a w) {d : Option Tmp} (hd : ∀ d', d = some d' → d' < n) :
    R w0 L0 n0 n (consF d (.s (.lf (.val (.tuple #[])))) fr) H (a.put d undef) w := by
  obtain ⟨⟨L, h1, h2, h3⟩, hb, h4, h5⟩ := hR
  cases d with
  | none => exact ⟨⟨L, h1, h2, h3⟩, hb, h4, h5⟩
  | some d => exact ⟨⟨L, h1, h2.put (by rw [h4]; exact hd d rfl) rfl, h3⟩, hb, by rw [put_size]; exact h4, by rw [put_defers]; exact h5⟩

theorem R.get_same {w0 : W0} {L0 : NM} {n0 n : Nat} {fr fr' : Fr} {H : Hp} {a : Act} {w : World} (hR : R w0 L0 n0 n fr H a w) (h : ∀ t, get fr t = get fr' t) : R w0 L0 n0 n fr' H a w := by
  obtain ⟨⟨L, h1, h2, h3⟩, hb, h4, h5⟩ := hR
  exact ⟨⟨L, h1, fun t => by rw [← h t]; exact h2 t, h3⟩, hb, h4, h5⟩

theorem opv_same {fr fr' : Fr} {x : Operand} (h : ∀ t, x = .tmp t → get fr t = get fr' t) : opv fr x = opv fr' x := by
  cases x with
  | tmp t => exact h t rfl
  | _ => rfl

theorem mem_looksAt {ops : Array Oper} {o : Oper} {t : Tmp} (h : Operand.tmp t ∈ o.op.operands.toList) : t ∈ o.looksAt ops := by
  unfold Oper.looksAt
  rw [List.mem_append]
  left
  rw [List.mem_filterMap]
  exact ⟨_, h, rfl⟩

theorem mem_looksAt_guard {ops : Array Oper} {o : Oper} {j : Nat} {w : Bool} {oj : Oper} {d : Tmp} (hg : o.guard = some (j, w)) (hj : ops[j]? = some oj) (hd : oj.dst = some d) : d ∈ o.looksAt ops := by
  unfold Oper.looksAt
  rw [List.mem_append]
  right
  rw [hg]
  simp [hj, hd]

theorem c2s_map (l : List TS) : c2s (l.map fun s => (s.i, s.cls, s.vers)) = (l.filter fun s => Nat.beq s.cls 2).map (·.i) := by
  induction l with
  | nil => rfl
  | cons s l ih =>
    simp only [c2s, List.map_cons, List.filterMap_cons, List.filter_cons] at ih ⊢
    cases hb : Nat.beq s.cls 2
    · simp only [Bool.false_eq_true, if_false]; exact ih
    · simp only [if_true, List.map_cons, List.cons.injEq, true_and]; exact ih

theorem n2_reverse (q : List TS) : n2 q.reverse = n2 q := by simp [n2, List.filter_reverse]
theorem n2_append (a b : List TS) : n2 (a ++ b) = n2 a + n2 b := by simp [n2]
theorem n2_cons (s : TS) (b : List TS) : n2 (s :: b) = (if s.cls = 2 then 1 else 0) + n2 b := by
  by_cases h : s.cls = 2
  · simp [n2, h]; omega
  · have hb : Nat.beq s.cls 2 = false := by
      cases hb : Nat.beq s.cls 2
      · rfl
      · exact absurd (Nat.eq_of_beq_eq_true hb) h
    simp [n2, h, hb]

end Go.Sym

set_option linter.unusedVariables false
set_option linter.unusedSimpArgs false
namespace Go.Sym
open Go

variable {P : Program} {Γ : Tab}

structure Setup (P : Program) (chain : Bool) (ops : Array Oper) (A : Nat → Nat → Prop) (plan : Plan) (n : Nat) (fr0 : Fr) (H0 : Hp) (q : List TS) (hs : List Hp) : Prop where
  ok : DOK chain ops A plan
  ref : Ref P n ops.toList fr0 H0 q hs
  eq : q.reverse.map (fun s => (s.i, s.cls, s.vers)) = plan

section
variable {chain : Bool} {ops : Array Oper} {A : Nat → Nat → Prop} {plan : Plan} {n : Nat} {fr0 : Fr} {H0 : Hp} {q : List TS} {hs : List Hp} (S : Setup P chain ops A plan n fr0 H0 q hs)
include S

theorem Setup.idx : plan.map (·.1) = (q.map (·.i)).reverse := by rw [← S.eq]; simp

theorem Setup.nodup : (q.map (·.i)).Nodup := by
  have := S.ok.nodup
  rw [S.idx] at this
  exact (List.pairwise_reverse.1 this).imp fun h e => h e.symm

theorem Setup.cut {a b : List TS} {s : TS} (h : q = a ++ s :: b) : plan = b.reverse.map (fun s => (s.i, s.cls, s.vers)) ++ (s.i, s.cls, s.vers) :: a.reverse.map (fun s => (s.i, s.cls, s.vers)) := by
  rw [← S.eq, h]; simp

theorem Setup.topo : TopoP A q := by
  intro a s b h j hj
  have := S.ok.topo _ _ _ (S.cut h) j hj
  simpa using this

theorem Setup.all {i : Nat} (h : i < ops.size) : ∃ s ∈ q, s.i = i := by
  have := S.ok.mem i h
  rw [S.idx] at this
  simpa using this

theorem Setup.fact {a b : List TS} {s : TS} (h : q = a ++ s :: b) : ∃ hb hb', Fact P n ops.toList s (frR fr0 b) hb hb' ∧ ∃ pre, hs = pre ++ hb' ∧ pre.length = n2 a := by
  have hr := S.ref
  rw [h] at hr
  obtain ⟨pre, hb', h1, h2, h3⟩ := hr.split
  obtain ⟨hb, h4, h5⟩ := h1.fact
  exact ⟨hb, hb', h5, pre, h2, h3⟩

theorem Setup.at {s : TS} (h : s ∈ q) : ops[s.i]? = some s.o := by
  obtain ⟨a, b, e⟩ := List.append_of_mem h
  obtain ⟨hb, hb', hf, _⟩ := S.fact e
  have := hf.op
  simpa using this

theorem Setup.lt {s : TS} (h : s ∈ q) : s.i < ops.size := (Array.getElem?_eq_some_iff.1 (S.at h)).1

theorem Setup.c2 : c2s plan = (q.reverse.filter fun s => Nat.beq s.cls 2).map (·.i) := by rw [← S.eq, c2s_map]

theorem Setup.len : (c2s plan).length = n2 q := by rw [S.c2, List.length_map]; exact n2_reverse q

theorem Setup.c2mem {k x : Nat} (h : (c2s plan)[k]? = some x) : ∃ s ∈ q, s.i = x ∧ s.cls = 2 := by
  have := List.mem_of_getElem? h
  rw [S.c2, List.mem_map] at this
  obtain ⟨s, h1, h2⟩ := this
  rw [List.mem_filter] at h1
  exact ⟨s, by simpa using h1.1, h2, Nat.eq_of_beq_eq_true h1.2⟩

theorem Setup.pos {a b : List TS} {s : TS} (h : q = a ++ s :: b) (hc : s.cls = 2) : (c2s plan)[n2 b]? = some s.i := by
  rw [S.c2, h]
  simp only [List.reverse_append, List.reverse_cons, List.append_assoc, List.filter_append, List.map_append]
  rw [List.getElem?_append_right (by simp [n2, List.filter_reverse])]
  simp [n2, List.filter_reverse, hc]

structure Inv (A : Nat → Nat → Prop) (plan : Plan) (q p : List TS) (c : Nat) : Prop where
  sub : ∀ s ∈ p, s ∈ q
  nodup : (p.map (·.i)).Nodup
  topo : TopoP A p
  pre : ∀ (k x : Nat), (c2s plan)[k]? = some x → (x ∈ p.map (·.i) ↔ k < c)
  cle : c ≤ (c2s plan).length

omit S in
theorem mem_map_i {p : List TS} {j : Nat} : j ∈ p.map (·.i) ↔ ∃ s ∈ p, s.i = j := by simp

theorem Setup.mem_of {p : List TS} (hsub : ∀ s ∈ p, s ∈ q) {s : TS} (hs : s ∈ q) (h : s.i ∈ p.map (·.i)) : s ∈ p := by
  obtain ⟨s', h1, h2⟩ := mem_map_i.1 h
  rw [nodup_uniq S.nodup hs (hsub s' h1) h2.symm]; exact h1

theorem Setup.writes {t : Tmp} {s s' : TS} (h : s ∈ q) (h' : s' ∈ q) (hd : s.o.dst = some t) (hd' : s'.o.dst = some t) (hne : s.i ≠ s'.i) : A s.i s'.i ∨ A s'.i s.i :=
  (S.ok.writes _ _ _ _ t (S.at h) (S.at h') hd hd' (fun e => hne e.symm)).symm

omit S in
theorem predsE_mem {o : Oper} {e : Nat} (h : e ∈ predsE o) : ∃ ed ∈ o.after, Region.binds .any ed = true ∧ ed.on = e := by
  unfold predsE at h
  rw [List.mem_filterMap] at h
  obtain ⟨ed, h1, h2⟩ := h
  split at h2
  · rename_i hb
    simp only [Option.some.injEq] at h2
    exact ⟨ed, by simpa using h1, hb, h2⟩
  · simp at h2

omit S in
theorem mem_predsE {o : Oper} {ed : Edge} (h : ed ∈ o.after) (hb : Region.binds .any ed = true) : ed.on ∈ predsE o := by
  unfold predsE
  rw [List.mem_filterMap]
  exact ⟨ed, by simpa using h, by rw [hb]⟩

omit S in
theorem listed_of {listed : Array Bool} {i : Nat} (h : listed.getD i false = true) : i < listed.size ∧ listed.getD i true = true := by
  rw [Array.getD_eq_getD_getElem?] at h ⊢
  cases hg : listed[i]? with
  | none => rw [hg] at h; simp at h
  | some b => rw [hg] at h; exact ⟨(Array.getElem?_eq_some_iff.1 hg).1, h⟩

omit S in
theorem prevIn_get : ∀ {l : List Nat} {i j : Nat}, prevIn l i = some j → ∃ k, l[k]? = some j ∧ l[k + 1]? = some i
  | [], _, _, h => by simp [prevIn] at h
  | [_], _, _, h => by simp [prevIn] at h
  | a :: b :: l, i, j, h => by
    simp only [prevIn] at h
    split at h
    · rename_i hb
      simp only [Option.some.injEq] at h
      exact ⟨0, by simp [h], by simp [beq_true hb]⟩
    · obtain ⟨k, h1, h2⟩ := prevIn_get h
      exact ⟨k + 1, by simpa using h1, by simpa using h2⟩

/-- Whoever has all his edges behind him has all that lies ahead of him behind him. -/
theorem Setup.anc_in {p : List TS} {c : Nat} (hI : Inv A plan q p c) {i : Nat} {o : Oper} (ho : ops[i]? = some o) (he : ∀ e ∈ predsE o, e ∈ p.map (·.i)) (hc : ∀ e ∈ chainP chain (c2s plan) i, e ∈ p.map (·.i)) {j : Nat} (hj : A j i) : j ∈ p.map (·.i) := by
  obtain ⟨e, h1, h2⟩ := S.ok.anc i o ho j hj
  have hin : e ∈ p.map (·.i) := by
    rcases List.mem_append.1 h1 with h | h
    · exact he e h
    · exact hc e h
  rcases h2 with rfl | h2
  · exact hin
  · obtain ⟨s, h3, h4⟩ := mem_map_i.1 hin
    obtain ⟨a, b, e'⟩ := List.append_of_mem h3
    have := hI.topo a s b e' j (by rw [h4]; exact h2)
    rw [e']
    simp only [List.map_append, List.map_cons, List.mem_append, List.mem_cons]
    exact .inr (.inr this)

/-- What an operation reads, here and in the order that is shown. -/
theorem Setup.same_reads {p : List TS} {c : Nat} (hI : Inv A plan q p c) {a b : List TS} {s : TS} (h : q = a ++ s :: b) (hn : s.i ∉ p.map (·.i)) (hanc : ∀ j, A j s.i → j ∈ p.map (·.i)) {t : Tmp} (ht : t ∈ s.o.looksAt ops) :
    get (frR fr0 p) t = get (frR fr0 b) t := by
  have hsq : s ∈ q := by rw [h]; simp
  have hbq : ∀ x ∈ b, x ∈ q := fun x hx => by rw [h]; simp [hx]
  have hnb : (b.map (·.i)).Nodup := by
    have := S.nodup
    rw [h] at this
    simp only [List.map_append, List.map_cons, List.nodup_append, List.nodup_cons] at this
    exact this.2.1.2
  have htb : TopoP A b := by
    intro a' x b' e j hj
    exact S.topo (a ++ s :: a') x b' (by rw [h, e]; simp) j hj
  have hib : s.i ∉ b.map (·.i) := (nodup_mid (by rw [← h]; exact S.nodup)).2
  refine Go.Sym.get_same hI.topo htb hI.nodup hnb (fun x hx hd => ?_) (fun x hx hd => ?_) (fun x x' hx hx' hd hd' hne => S.writes (hI.sub x hx) (hI.sub x' hx') hd hd' hne)
  · have hne : x.i ≠ s.i := fun e => hn (e ▸ mem_map_i.2 ⟨x, hx, rfl⟩)
    rcases S.ok.reads _ _ _ _ t (S.at hsq) (S.at (hI.sub x hx)) ht hd hne with h1 | h1
    · have := S.topo a s b h _ h1
      exact S.mem_of hbq (hI.sub x hx) this
    · exfalso
      obtain ⟨a', b', e⟩ := List.append_of_mem hx
      have := hI.topo a' x b' e _ h1
      apply hn
      rw [e]
      simp only [List.map_append, List.map_cons, List.mem_append, List.mem_cons]
      exact .inr (.inr this)
  · have hne : x.i ≠ s.i := fun e => hib (e ▸ mem_map_i.2 ⟨x, hx, rfl⟩)
    rcases S.ok.reads _ _ _ _ t (S.at hsq) (S.at (hbq x hx)) ht hd hne with h1 | h1
    · exact S.mem_of hI.sub (hbq x hx) (hanc _ h1)
    · exfalso
      obtain ⟨a', b', e⟩ := List.append_of_mem hx
      have := htb a' x b' e _ h1
      apply hib
      rw [e]
      simp only [List.map_append, List.map_cons, List.mem_append, List.mem_cons]
      exact .inr (.inr this)

omit S in
theorem Setup.inv_cons {p : List TS} {c : Nat} (hI : Inv A plan q p c) {s : TS} (hs : s ∈ q) (hn : s.i ∉ p.map (·.i)) (hanc : ∀ j, A j s.i → j ∈ p.map (·.i)) {c' : Nat} (hc : c' ≤ (c2s plan).length)
    (hpre : ∀ (k x : Nat), (c2s plan)[k]? = some x → (x = s.i ∨ k < c ↔ k < c')) : Inv A plan q (s :: p) c' := by
  refine ⟨fun x hx => ?_, ?_, ?_, fun k x hk => ?_, hc⟩
  · rcases List.mem_cons.1 hx with rfl | hx
    · exact hs
    · exact hI.sub x hx
  · simp only [List.map_cons, List.nodup_cons]; exact ⟨hn, hI.nodup⟩
  · intro a x b e j hj
    cases a with
    | nil =>
      simp only [List.nil_append, List.cons.injEq] at e
      obtain ⟨rfl, rfl⟩ := e
      exact hanc j hj
    | cons y a =>
      simp only [List.cons_append, List.cons.injEq] at e
      exact hI.topo a x b e.2 j hj
  · simp only [List.map_cons, List.mem_cons]
    rw [hI.pre k x hk]
    exact hpre k x hk
end

end Go.Sym

