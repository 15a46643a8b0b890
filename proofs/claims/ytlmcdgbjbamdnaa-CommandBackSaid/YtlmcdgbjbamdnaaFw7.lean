/- A framework for walking through the program's functions, proved sound, part 7: calls with blocks of a caller; laws; what arguments are read as. It has no condition. -/
import Derived.Test.YtlmcdgbjbamdnaaFw6
import Derived.ChangeSame
import Derived.Carry
import Derived.ProofKit
import Derived.OpenShut
import Derived.Defers
import Derived.Laws.LoneSync
import Derived.ChangeShapes
set_option linter.unusedVariables false
set_option linter.unusedSimpArgs false
namespace Go.Sym
open Go

variable {P : Program} {Γ : Tab}

/-! ### Calls that are given one block of the caller's -/
def ρ1 (nm n i : Nat) : Option Nat :=
  match Nat.beq i nm with
  | true => some 0
  | false => (match Nat.blt i n with | true => none | false => some (i - n + 1))

abbrev Down1 (H : Hp) (ob : OB) (nm : Nat) : Rel := Down H [some ob] (fun _ => nm) (fun i => i ≠ nm)
abbrev Up1 (nm n : Nat) : Rel := Up (ρ1 nm n) True

theorem ρ1_self (nm n : Nat) : ρ1 nm n nm = some 0 := by simp [ρ1, Nat.beq_refl]

theorem SCalls.frame1 {f : FuncId} {args : List FV} {r : FV} {ob ob' : OB} (h : SCalls P f args [some ob] r [some ob']) {H : Hp} {nm : Nat} {ob1 ob2 : OB} {cs : List FV} {rc : FV} (hn : H[nm]? = some (some ob1)) (ht : ob1.ty = ob.ty)
    (ho : WSs (Down1 H ob nm) ob1.segs ob.segs) (ha : WVs' (Down1 H ob nm) cs args) (ht' : ob2.ty = ob'.ty) (ho' : WSs (Up1 nm H.length) ob'.segs ob2.segs) (hr : WV (Up1 nm H.length) r rc) : SCalls P f cs H rc (H.set nm (some ob2)) := by
  have hlt : nm < H.length := (List.getElem?_eq_some_iff.1 hn).1
  have hρ : ∀ i, i ≠ nm → i < H.length → ρ1 nm H.length i = none := by
    intro i h1 h2
    have e1 : Nat.beq i nm = false := by
      cases hb : Nat.beq i nm
      · rfl
      · exact absurd (Nat.eq_of_beq_eq_true hb) h1
    have e2 : Nat.blt i H.length = true := by simp [Nat.blt, Nat.ble_eq]; omega
    simp [ρ1, e1, e2]
  have hρ' : ∀ i, H.length ≤ i → ρ1 nm H.length i = some (i - H.length + 1) := by
    intro i h1
    have e1 : Nat.beq i nm = false := by
      cases hb : Nat.beq i nm
      · rfl
      · have := Nat.eq_of_beq_eq_true hb; omega
    have e2 : Nat.blt i H.length = false := by
      cases hb : Nat.blt i H.length
      · rfl
      · have := blt_true hb; omega
    simp [ρ1, e1, e2]
  refine h.frame (μ := fun _ => nm) (hid := fun i => i ≠ nm) (ρ := ρ1 nm H.length) (nb := True) ⟨fun i ob0 hi => ?_, fun i j a b hi hj _ => ?_, fun i ob0 _ hh => hh rfl⟩ ha ⟨fun i hi => ?_, fun i j hi hj => ?_, fun i ob0 hi => ?_, fun i hi hj => ?_, fun i j hi hj => ?_, fun i j hi hj => ?_, fun i j ob0 hi hj => ?_⟩ hr (fun _ i hi hj e => ?_)
  · cases i with
    | zero => simp at hi; subst hi; exact ⟨ob1, hn, ht, ho.ws⟩
    | succ i => simp at hi
  · cases i with
    | zero => cases j with
      | zero => rfl
      | succ j => simp at hj
    | succ i => simp at hi
  · rw [hρ' i hi]; simp
  · by_cases e : i = nm
    · subst e; rw [ρ1_self] at hj; simp at hj; subst hj; exact ⟨by simp, ⟨ob, rfl⟩, rfl⟩
    · rw [hρ i e hi] at hj; simp at hj
  · cases i with
    | zero => exact ρ1_self nm _
    | succ i => simp at hi
  · by_cases e : i = nm
    · subst e; rw [ρ1_self] at hj; simp at hj
    · rw [List.getElem?_set, if_neg (fun e' => e e'.symm)]
  · by_cases e : i = nm
    · subst e; rw [ρ1_self] at hi; simp at hi; subst hi; simp at hj
    · rcases Nat.lt_or_ge i H.length with g | g
      · rw [hρ i e g] at hi; simp at hi
      · exact List.getElem?_eq_none (by simpa using g)
  · by_cases e : i = nm
    · subst e; rw [ρ1_self] at hi; simp at hi; subst hi; simp at hj
    · rcases Nat.lt_or_ge i H.length with g | g
      · rw [hρ i e g] at hi; simp at hi
      · rw [hρ' i g] at hi; simp at hi; subst hi; simp at hj
  · by_cases e : i = nm
    · subst e; rw [ρ1_self] at hi; simp at hi; subst hi; simp at hj; subst hj
      exact ⟨ob2, by rw [List.getElem?_set, if_pos rfl, if_pos hlt], ht', ho'.ws⟩
    · rcases Nat.lt_or_ge i H.length with g | g
      · rw [hρ i e g] at hi; simp at hi
      · rw [hρ' i g] at hi; simp at hi; subst hi; simp at hj
  · subst e; rw [ρ1_self] at hj; simp at hj

end Go.Sym

set_option linter.unusedVariables false
set_option linter.unusedSimpArgs false
namespace Go.Sym
open Go

variable {P : Program} {Γ : Tab}

/-! ### States under other names -/
def HpWi (D : Rel) (H : Hp) (μ : Nat → Nat) : Nat → Hp → Prop
  | _, [] => True
  | i, none :: m => HpWi D H μ (i + 1) m
  | i, some b :: m => (match hget H (μ i) with | some a => a.ty = b.ty ∧ WSs D a.segs b.segs | none => False) ∧ HpWi D H μ (i + 1) m

theorem HpWi.get {D : Rel} {H : Hp} {μ : Nat → Nat} : ∀ {m : Hp} {k : Nat}, HpWi D H μ k m → ∀ (i : Nat) (b : OB), m[i]? = some (some b) → ∃ a, H[μ (k + i)]? = some (some a) ∧ a.ty = b.ty ∧ WS D a.segs b.segs
  | [], _, _, i, b, h => by simp at h
  | none :: m, k, h, i, b, hi => by
    cases i with
    | zero => simp at hi
    | succ i =>
      have := HpWi.get (k := k + 1) h i b (by simpa using hi)
      rw [Nat.add_assoc, Nat.add_comm 1 i] at this
      exact this
  | some b' :: m, k, h, i, b, hi => by
    cases i with
    | zero =>
      simp at hi; subst hi
      have h1 := h.1
      split at h1
      · rename_i a ha
        exact ⟨a, hget_some ha, h1.1, h1.2.ws⟩
      · exact h1.elim
    | succ i =>
      have := HpWi.get (k := k + 1) h.2 i b (by simpa using hi)
      rw [Nat.add_assoc, Nat.add_comm 1 i] at this
      exact this

theorem nthN_get {l : List Nat} {i : Nat} (h : i < l.length) : l[i]? = some (nthN l i) := by
  induction l generalizing i with
  | nil => simp at h
  | cons x l ih => cases i with
    | zero => rfl
    | succ i => simpa [nthN] using ih (by simpa using h)

theorem nthN_inj {l : List Nat} (h : l.Nodup) {i j : Nat} (hi : i < l.length) (hj : j < l.length) (e : nthN l i = nthN l j) : i = j := by
  have hpw := List.pairwise_iff_getElem.1 h
  have e1 := (List.getElem?_eq_some_iff.1 (nthN_get hi)).2
  have e2 := (List.getElem?_eq_some_iff.1 (nthN_get hj)).2
  rcases Nat.lt_trichotomy i j with k | k | k
  · exact absurd (e1.trans (e.trans e2.symm)) (hpw _ _ hi hj k)
  · exact k
  · exact absurd (e2.trans (e.symm.trans e1.symm)) (hpw _ _ hj hi k)

theorem WHp.perm {n0 : Nat} {H H' : Hp} (ms : List Nat) (h : HpWi (Down H H' (nthN ms) noHid) H (nthN ms) 0 H') (hnd : nodupB ms = true) (hl : H'.length ≤ ms.length) (hb : allB n0 (fun i => Nat.beq (nthN ms i) i) = true) (hn : n0 ≤ H'.length) :
    WHp n0 H H' (nthN ms) :=
  ⟨⟨fun i b hi => by simpa using h.get i b hi, fun i j a b hi hj e => nthN_inj (nodupB_sound hnd) (Nat.lt_of_lt_of_le (List.getElem?_eq_some_iff.1 hi).1 hl) (Nat.lt_of_lt_of_le (List.getElem?_eq_some_iff.1 hj).1 hl) e, fun _ _ _ h => h⟩,
    fun i b _ hi => Nat.eq_of_beq_eq_true (allB_get hb hi), hn⟩

theorem Weak.perm {n0 : Nat} {fr : Fr} {H : Hp} {fr' : Fr} {H' : Hp} (ms : List Nat) (h : HpWi (Down H H' (nthN ms) noHid) H (nthN ms) 0 H') (hF : WFr (Down H H' (nthN ms) noHid) fr fr') (hnd : nodupB ms = true) (hl : H'.length ≤ ms.length)
    (hb : allB n0 (fun i => Nat.beq (nthN ms i) i) = true) (hn : n0 ≤ H'.length) : Weak n0 fr H fr' H' := Weak.mk _ (WHp.perm ms h hnd hl hb hn) hF

/-! ### Several orders, listed -/
def eqL : List Nat → List Nat → Bool
  | [], [] => true
  | a :: l, b :: m => Nat.beq a b && eqL l m
  | _, _ => false

theorem eqL_sound : ∀ {l m : List Nat}, eqL l m = true → l = m
  | [], [], _ => rfl
  | a :: l, b :: m, h => by
    simp only [eqL, Bool.and_eq_true] at h
    rw [Nat.eq_of_beq_eq_true h.1, eqL_sound h.2]
  | [], _ :: _, h => by simp [eqL] at h
  | _ :: _, [], h => by simp [eqL] at h

def plansB (ops : Array Oper) (anc0 C : List Nat) (pls : List (List Nat × Plan)) : Bool :=
  anc0B ops anc0 C && (exts (ancB ops.size anc0) C.length C).all (fun σ => pls.any fun p => eqL (c2s p.2) σ) &&
  pls.all fun p => dokB true ops p.1 p.2 && C.all (memB (c2s p.2)) && (c2s p.2).all (memB C)

def allPlans (P : Program) (Γ : Tab) (n : Nat) (all : List Oper) (fr : Fr) (H : Hp) (K : Fr → Hp → Prop) : List (List Nat × Plan) → Prop
  | [] => True
  | p :: l => drawV P Γ n all p.2 fr [H] K ∧ allPlans P Γ n all fr H K l

theorem allPlans.get {n : Nat} {all : List Oper} {fr : Fr} {H : Hp} {K : Fr → Hp → Prop} : ∀ {l : List (List Nat × Plan)}, allPlans P Γ n all fr H K l → ∀ p ∈ l, drawV P Γ n all p.2 fr [H] K
  | [], _, p, hp => by simp at hp
  | q :: l, h, p, hp => by
    rcases List.mem_cons.1 hp with rfl | hp
    · exact h.1
    · exact h.2.get p hp

theorem DrawK.mkL (hΓ : TOK P Γ) (hm : P.follows .mixedOrders = true) {n0 n : Nat} {ops : Array Oper} {fr : Fr} {H : Hp} {K : Fr → Hp → Prop} (anc0 C : List Nat) (pls : List (List Nat × Plan)) (hok : plansB ops anc0 C pls = true)
    (h : allPlans P Γ n ops.toList fr H K pls) : DrawK P Γ n0 n ops fr H K := by
  unfold plansB at hok
  simp only [Bool.and_eq_true, List.all_eq_true, List.any_eq_true] at hok
  obtain ⟨⟨h1, h2⟩, h3⟩ := hok
  refine DrawK.mkN hΓ hm anc0 C h1 fun σ hσ => ?_
  obtain ⟨p, hp, he⟩ := h2 σ hσ
  obtain ⟨⟨k1, k2⟩, k3⟩ := h3 p hp
  have e := eqL_sound he
  exact ⟨p.1, p.2, e, fun x => ⟨fun hx => e ▸ memB_iff.1 (k2 x hx), fun hx => memB_iff.1 (k3 x (e ▸ hx))⟩, k1, h.get p hp⟩

end Go.Sym

set_option linter.unusedVariables false
set_option linter.unusedSimpArgs false
namespace Go.Sym
open Go

/-- A loop whose states hang on one thing. -/
theorem LoopK.mk1 {n0 : Nat} {body : Fr → Hp → (Fr → Hp → Prop) → Prop} {fr : Fr} {H : Hp} {α : Type} (F : α → Fr) (G : α → Hp) (p : α → Prop) (m : α → Nat) (x0 : α) (h0 : p x0) (hw : Weak n0 fr H (F x0) (G x0))
    (h : ∀ x, p x → body (F x) (G x) fun fr' H' => ∃ y, p y ∧ m y < m x ∧ Weak n0 fr' H' (F y) (G y)) : LoopK n0 body fr H :=
  LoopK.mk' (fun x => (F x, G x)) p m x0 h0 hw h

/-- On two. -/
theorem LoopK.mk2 {n0 : Nat} {body : Fr → Hp → (Fr → Hp → Prop) → Prop} {fr : Fr} {H : Hp} {α β : Type} (F : α → β → Fr) (G : α → β → Hp) (p : α → β → Prop) (m : α → β → Nat) (x0 : α) (y0 : β) (h0 : p x0 y0) (hw : Weak n0 fr H (F x0 y0) (G x0 y0))
    (h : ∀ x y, p x y → body (F x y) (G x y) fun fr' H' => ∃ z : α × β, p z.1 z.2 ∧ m z.1 z.2 < m x y ∧ Weak n0 fr' H' (F z.1 z.2) (G z.1 z.2)) : LoopK n0 body fr H :=
  LoopK.mk' (α := α × β) (fun z => (F z.1 z.2, G z.1 z.2)) (fun z => p z.1 z.2) (fun z => m z.1 z.2) (x0, y0) h0 hw fun z hz => h z.1 z.2 hz

/-- On three. -/
theorem LoopK.mk3 {n0 : Nat} {body : Fr → Hp → (Fr → Hp → Prop) → Prop} {fr : Fr} {H : Hp} {α β γ : Type} (F : α → β → γ → Fr) (G : α → β → γ → Hp) (p : α → β → γ → Prop) (m : α → β → γ → Nat) (x0 : α) (y0 : β) (z0 : γ) (h0 : p x0 y0 z0) (hw : Weak n0 fr H (F x0 y0 z0) (G x0 y0 z0))
    (h : ∀ x y z, p x y z → body (F x y z) (G x y z) fun fr' H' => ∃ u : α × β × γ, p u.1 u.2.1 u.2.2 ∧ m u.1 u.2.1 u.2.2 < m x y z ∧ Weak n0 fr' H' (F u.1 u.2.1 u.2.2) (G u.1 u.2.1 u.2.2)) : LoopK n0 body fr H :=
  LoopK.mk' (α := α × β × γ) (fun u => (F u.1 u.2.1 u.2.2, G u.1 u.2.1 u.2.2)) (fun u => p u.1 u.2.1 u.2.2) (fun u => m u.1 u.2.1 u.2.2) (x0, y0, z0) h0 hw fun u hu => h u.1 u.2.1 u.2.2 hu

theorem tmod_nat (a b : Nat) : Int.tmod (a : Int) (b : Int) = ((a % b : Nat) : Int) := rfl

end Go.Sym

set_option linter.unusedVariables false
set_option linter.unusedSimpArgs false
namespace Go.Sym
open Go Go.ChangeShapes Go.RowKit

variable {P : Program} {H : Type} {enc : TypeId × Value → H}

/-! ### From a function's contract to its law -/
theorem Ev.below {w w' : World} {L L' : NM} (hL : ∀ nm, L nm = none) (h : Ev w L w' L') : Below w.heap.size w w' :=
  ⟨h.os, h.tape, h.output, h.size, fun k hk => h.keep k hk fun ⟨nm, hn⟩ => by rw [hL nm] at hn; simp at hn⟩

theorem Below.kept {w w' : World} (h : Below w.heap.size w w') (may : MemPlace → Prop) : w.keptBut w' may := by
  refine ⟨h.os, h.output, fun i hi => ?_⟩
  rw [h.block i hi]
  cases hc : w.heap[i]? with
  | none => simp
  | some o =>
    cases o with
    | cells c t fr => exact ⟨rfl, rfl, rfl, fun _ _ => rfl⟩
    | map es clock => exact .inr ⟨rfl, rfl⟩
    | _ => rfl

theorem trodAll_below (hl : laidOutB P = true) {W W' : World} (hb : Below W.heap.size W W') : ∀ {ts : List TypeId} {vs : List Value} {ds : List (DataW H)} {ps : List MemPlace},
    (∀ t ∈ ts, P.readableRec t = true ∧ t < P.types.size) → DataW.TrodAll enc P W 0 (fun _ => true) true ts vs ds ps → (∀ x ∈ ps, x.block < W.heap.size) →
    DataW.TrodAll enc P W' 0 (fun b => decide (b < W.heap.size)) true ts vs ds ps
  | [], [], [], ps, _, h, _ => h
  | t :: ts, v :: vs, d :: ds, ps, hr, h, hlt => by
    obtain ⟨p, q, h1, h2, rfl⟩ := h
    have h3 := hr t (by simp)
    exact ⟨p, q, hb.trod hl h3.1 h3.2 h1 (fun x hx => hlt x (by simp [hx])), trodAll_below hl hb (fun t ht => hr t (by simp [ht])) h2 (fun x hx => hlt x (by simp [hx])), rfl⟩
  | [], _ :: _, _, _, _, h, _ => h.elim
  | _ :: _, [], _, _, _, h, _ => h.elim
  | [], [], _ :: _, _, _, h, _ => h.elim
  | _ :: _, _ :: _, [], _, _, h, _ => h.elim

theorem law_post {f : Func} {s : ChangeSpec} {bt : TypeId} (hv : s.vars = []) (hl : laidOutB P = true) (hr : ∀ t ∈ f.params.toList, P.readableRec t = true ∧ t < P.types.size) (hbt : f.resultTypes = #[bt]) (hbu : P.underlying bt = some .bool)
    {apart : Bool} {W W' : World} {args : Array Value} {ds : List (DataW H)} {before : List MemPlace} (hW : DataW.Whole enc P f.params.toList s.vars apart W args.toList ds [] before)
    (hres : (s.fn H (ds ++ [])).results = [.lit (.bool true)]) (hargs : (s.fn H (ds ++ [])).args = ds) (hvars : (s.fn H (ds ++ [])).vars = []) (hb : Below W.heap.size W W') : s.post enc P f apart true false false W args (.bool true) W' := by
  obtain ⟨p, q, hA, hV, hps, hfz, hnd⟩ := id hW
  rw [hv] at hV
  obtain rfl : q = [] := hV
  rw [List.append_nil] at hps
  subst hps
  refine ⟨ds, [], before, [], before, [], hW, ?_, ?_, ?_, Below.kept hb _, fun h => by simp at h⟩
  · rw [hres, hbt]
    exact ⟨[], [], shut_bool hbu true, rfl, rfl⟩
  · rw [hargs]
    exact trodAll_below hl hb hr hA (fun x hx => hW.lt x hx)
  · rw [hvars, hv]; rfl

end Go.Sym

set_option linter.unusedVariables false
set_option linter.unusedSimpArgs false
namespace Go.Sym
open Go

variable {P : Program} {Γ : Tab} {H : Type} {enc : TypeId × Value → H}

/-! ### What an argument is read as -/
def isU8 : TD → Bool
  | .int .u8 => true
  | _ => false

theorem isU8_eq {d : TD} (h : isU8 d = true) : d = .int .u8 := by
  unfold isU8 at h
  split at h
  · rfl
  · simp at h

def contB (Γ : Tab) : Nat → List (Nat × TypeId) → Nat → Bool
  | o, [], m => Nat.beq o m
  | o, x :: l, m => Nat.beq x.1 o && contB Γ (o + (tget Γ x.2).size) l m

/-- The types that are read. -/
def rdB (Γ : Tab) : Nat → TypeId → Bool
  | 0, _ => false
  | n + 1, t => match (tget Γ t).d with
    | .slice e => Nat.beq (tget Γ t).size 1 && (Nat.blt 0 (tget Γ e).size && rdB Γ n e)
    | .struct fs => contB Γ 0 fs (tget Γ t).size && fs.all fun x => rdB Γ n x.2
    | .arr m e => Nat.beq (m * (tget Γ e).size) (tget Γ t).size && rdB Γ n e
    | .other => false
    | .bstruct _ => false
    | _ => Nat.beq (tget Γ t).size 1

/-- What the cells of a type may be read as, from cell o on. -/
def RdL (Γ : Tab) : Nat → TypeId → (Nat → LV) → Nat → Prop
  | 0, _, _, _ => False
  | n + 1, t, g, o => match (tget Γ t).d with
    | .int k => ∃ x : Int, k.min ≤ x ∧ x ≤ k.max ∧ g o = .int k x
    | .bool => ∃ b, g o = .bool b
    | .str => ∃ s, s.length ≤ maxLen ∧ g o = .str s
    | .slice e => match isU8 (tget Γ e).d with
      | true => g o = .sl0 ∨ ∃ xs : List UInt8, xs.length ≤ maxLen ∧ g o = .rob true false xs
      | false => g o = .sl0 ∨ ∃ len f, len ≤ maxLen ∧ g o = .ro true false (tget Γ e).size len f ∧ ∀ i, i < len → RdL Γ n e (f i) 0
    | .struct fs => fs.foldr (fun x Q => RdL Γ n x.2 g (o + x.1) ∧ Q) True
    | .arr m e => ∀ i, i < m → RdL Γ n e g (o + i * (tget Γ e).size)
    | .other => False
    | .bstruct _ => False
    | _ => g o = .unk

theorem contB_le : ∀ {fs : List (Nat × TypeId)} {o m : Nat}, contB Γ o fs m = true → o ≤ m ∧ ∀ x ∈ fs, x.1 + (tget Γ x.2).size ≤ m
  | [], o, m, h => ⟨by have := beq_true (a := o) (b := m) (by simpa [contB] using h); omega, by simp⟩
  | x :: l, o, m, h => by
    simp only [contB, Bool.and_eq_true] at h
    have h1 : x.1 = o := beq_true h.1
    obtain ⟨h2, h3⟩ := contB_le h.2
    refine ⟨by omega, fun y hy => ?_⟩
    rcases List.mem_cons.1 hy with rfl | hy
    · omega
    · exact h3 y hy

theorem fold_iff {fs : List (Nat × TypeId)} {Q : Nat × TypeId → Prop} : fs.foldr (fun x R => Q x ∧ R) True ↔ ∀ x ∈ fs, Q x := by
  induction fs with
  | nil => simp
  | cons x l ih => simp [ih]

theorem RdL.congr : ∀ {n : Nat} {t : TypeId} {g g' : Nat → LV} {o o' : Nat}, rdB Γ n t = true → (∀ j, j < (tget Γ t).size → g' (o' + j) = g (o + j)) → RdL Γ n t g o → RdL Γ n t g' o'
  | 0, _, _, _, _, _, h, _, _ => by simp [rdB] at h
  | n + 1, t, g, g', o, o', hb, hj, h => by
    unfold rdB at hb
    unfold RdL at h ⊢
    cases hd : (tget Γ t).d with
    | other => simp [hd] at hb
    | bstruct fs => simp [hd] at hb
    | struct fs =>
      simp only [hd, Bool.and_eq_true, List.all_eq_true] at hb h ⊢
      rw [fold_iff] at h ⊢
      intro x hx
      refine RdL.congr (hb.2 x hx) (fun j hj' => ?_) (h x hx)
      have := (contB_le hb.1).2 x hx
      rw [Nat.add_assoc, Nat.add_assoc]
      exact hj _ (by omega)
    | arr m e =>
      simp only [hd, Bool.and_eq_true] at hb h ⊢
      have hm := beq_true hb.1
      intro i hi
      refine RdL.congr hb.2 (fun j hj' => ?_) (h i hi)
      have : i * (tget Γ e).size + (tget Γ e).size ≤ m * (tget Γ e).size := by rw [← Nat.succ_mul]; exact Nat.mul_le_mul_right _ hi
      rw [Nat.add_assoc, Nat.add_assoc]
      exact hj _ (by omega)
    | slice e =>
      simp only [hd, Bool.and_eq_true] at hb h ⊢
      have hs := beq_true hb.1
      have := hj 0 (by omega)
      simp only [Nat.add_zero] at this
      rw [this]
      exact h
    | _ =>
      simp only [hd] at hb h ⊢
      have hs := beq_true hb
      have := hj 0 (by omega)
      simp only [Nat.add_zero] at this
      rw [this]
      exact h

theorem mem_of_field {fields : Array Field} {fs : List (Nat × TypeId)} (h : fields.toList.map (fun f => (f.offset, f.type)) = fs) {i : Nat} {x : Nat × TypeId} (hx : fs[i]? = some x) : ∃ f, fields[i]? = some f ∧ f.offset = x.1 ∧ f.type = x.2 := by
  rw [← h, List.getElem?_map] at hx
  cases hf : fields.toList[i]? with
  | none => rw [hf] at hx; simp at hx
  | some f =>
    rw [hf] at hx
    simp only [Option.map_some, Option.some.injEq] at hx
    subst hx
    exact ⟨f, by simpa using hf, rfl, rfl⟩

/-- The cells cs, from the place o on, are worth g from the place o' on. -/
def Cells (w : World) (L : NM) (cs : List Value) (g : Nat → LV) (k m : Nat) : Prop :=
  ∀ j, k ≤ j → j < m → ∃ c, cs[j]? = some c ∧ c.oneCell' = true ∧ rep w L (g j) c

theorem cellsOf_eq (hΓ : TOK P Γ) {t : TypeId} (h : (tget Γ t).d.isOther = false) : P.cellsOf t = (tget Γ t).size := by
  obtain ⟨i, z, h1, h2, _⟩ := (hΓ t).info h
  simp [Program.cellsOf, h1, h2]

theorem rdB_other {n : Nat} {t : TypeId} (h : rdB Γ n t = true) : (tget Γ t).d.isOther = false := by
  cases n with
  | zero => simp [rdB] at h
  | succ n =>
    unfold rdB at h
    cases hd : (tget Γ t).d <;> simp [hd, TD.isOther] at h ⊢

/-- What is read at a type: its cells. -/
def RdOf (Γ : Tab) (w : World) (L : NM) (n : Nat) (t : TypeId) (cs : List Value) : Prop :=
  cs.length = (tget Γ t).size ∧ ∃ g, RdL Γ n t g 0 ∧ Cells w L cs g 0 (tget Γ t).size

theorem rd_fields {w : World} {L : NM} {n : Nat} {cs : List Value} : ∀ {fs : List (Nat × TypeId)} {o m : Nat}, contB Γ o fs m = true → cs.length = m → (∀ x ∈ fs, rdB Γ n x.2 = true ∧ RdOf Γ w L n x.2 ((cs.drop x.1).take (tget Γ x.2).size)) →
    ∃ g : Nat → LV, (∀ x ∈ fs, RdL Γ n x.2 g x.1) ∧ Cells w L cs g o m
  | [], o, m, h, _, _ => ⟨fun _ => .any, by simp, fun j h1 h2 => by have := beq_true (a := o) (b := m) (by simpa [contB] using h); omega⟩
  | x :: l, o, m, h, hm, hr => by
    have h' := h
    simp only [contB, Bool.and_eq_true] at h
    have h1 : x.1 = o := beq_true h.1
    obtain ⟨g2, hg2, hc2⟩ := rd_fields h.2 hm fun y hy => hr y (by simp [hy])
    obtain ⟨hb, hl, g1, hg1, hc1⟩ := hr x (by simp)
    have hle := contB_le h.2
    refine ⟨fun j => if j < o + (tget Γ x.2).size then g1 (j - o) else g2 j, fun y hy => ?_, fun j hj1 hj2 => ?_⟩
    · rcases List.mem_cons.1 hy with rfl | hy
      · refine hg1.congr hb fun j hj => ?_
        simp only [Nat.zero_add]
        rw [if_pos (by omega), show y.1 + j - o = j by omega]
      · have hge : ∀ {fs : List (Nat × TypeId)} {o m : Nat}, contB Γ o fs m = true → ∀ y ∈ fs, o ≤ y.1 := by
          intro fs
          induction fs with
          | nil => intro o m _ y hy; simp at hy
          | cons z k ih =>
            intro o m hk y hy
            simp only [contB, Bool.and_eq_true] at hk
            have hz : z.1 = o := beq_true hk.1
            rcases List.mem_cons.1 hy with rfl | hy
            · omega
            · have := ih hk.2 y hy; omega
        have := hge h.2 y hy
        refine (hg2 y hy).congr (hr y (by simp [hy])).1 fun j hj => ?_
        exact if_neg (by omega)
    · simp only []
      by_cases hjo : j < o + (tget Γ x.2).size
      · rw [if_pos hjo]
        obtain ⟨c, hc, ho, hrep⟩ := hc1 (j - o) (by omega) (by omega)
        refine ⟨c, ?_, ho, hrep⟩
        rw [List.getElem?_take, if_pos (by omega), List.getElem?_drop, h1, show o + (j - o) = j by omega] at hc
        exact hc
      · rw [if_neg hjo]
        exact hc2 j (by omega) hj2

theorem rd_elems {w : World} {L : NM} {n e : Nat} {cs : List Value} (hb : rdB Γ n e = true) : ∀ (m : Nat), (∀ i, i < m → RdOf Γ w L n e ((cs.drop (i * (tget Γ e).size)).take (tget Γ e).size)) →
    ∃ g : Nat → LV, (∀ i, i < m → RdL Γ n e g (i * (tget Γ e).size)) ∧ Cells w L cs g 0 (m * (tget Γ e).size)
  | 0, _ => ⟨fun _ => .any, by omega, fun j h1 h2 => by simp at h2⟩
  | m + 1, hr => by
    obtain ⟨g1, hg1, hc1⟩ := rd_elems hb m fun i hi => hr i (by omega)
    obtain ⟨hl, g2, hg2, hc2⟩ := hr m (by omega)
    refine ⟨fun j => if j < m * (tget Γ e).size then g1 j else g2 (j - m * (tget Γ e).size), fun i hi => ?_, fun j hj1 hj2 => ?_⟩
    · by_cases him : i < m
      · have : i * (tget Γ e).size + (tget Γ e).size ≤ m * (tget Γ e).size := by rw [← Nat.succ_mul]; exact Nat.mul_le_mul_right _ him
        refine (hg1 i him).congr hb fun j hj => ?_
        exact if_pos (by omega)
      · obtain rfl : i = m := by omega
        refine hg2.congr hb fun j hj => ?_
        simp only [Nat.zero_add]
        rw [if_neg (by omega), show i * (tget Γ e).size + j - i * (tget Γ e).size = j by omega]
    · simp only []
      rw [Nat.succ_mul] at hj2
      by_cases hjo : j < m * (tget Γ e).size
      · rw [if_pos hjo]; exact hc1 j hj1 hjo
      · rw [if_neg hjo]
        obtain ⟨c, hc, ho, hrep⟩ := hc2 (j - m * (tget Γ e).size) (by omega) (by omega)
        refine ⟨c, ?_, ho, hrep⟩
        rw [List.getElem?_take, if_pos (by omega), List.getElem?_drop, show m * (tget Γ e).size + (j - m * (tget Γ e).size) = j by omega] at hc
        exact hc

theorem choose_rd {α : Type} {n : Nat} {p : Nat → α → Prop} (d : α) (h : ∀ i, i < n → ∃ x, p i x) : ∃ f : Nat → α, ∀ i, i < n → p i (f i) := by
  refine ⟨fun i => if hi : i < n then Classical.choose (h i hi) else d, fun i hi => ?_⟩
  simp only [hi, dif_pos]
  exact Classical.choose_spec (h i hi)

theorem trod_rd (hΓ : TOK P Γ) {w : World} {L : NM} (hL : ∀ nm, L nm = none) (hX : ∀ b, ¬ L.X b) {base : Nat} {sp : Nat → Bool} {held : Bool} : ∀ {n : Nat} {t : TypeId}, rdB Γ n t = true → ∀ {fuel : Nat} {cs : List Value} {x : DataW H × List MemPlace},
    DataW.trod enc P w base sp held fuel t cs = some x → RdOf Γ w L n t cs := by
  intro n
  induction n with
  | zero => intro t h; simp [rdB] at h
  | succ n ih =>
    intro t hb fuel cs x hx
    have hno := rdB_other hb
    have hfit := (hΓ t).fits
    have hsz := cellsOf_eq hΓ hno
    have hb0 := hb
    unfold rdB at hb
    have h1 : ∀ (c : Value) (v : LV), cs = [c] → (tget Γ t).size = 1 → c.oneCell' = true → rep w L v c → RdL Γ (n + 1) t (fun _ => v) 0 → RdOf Γ w L (n + 1) t cs := by
      intro c v hcs hs ho hr hrd
      subst hcs
      refine ⟨by simp [hs], fun _ => v, hrd, fun j _ hj => ⟨c, ?_, ho, hr⟩⟩
      have : j = 0 := by omega
      subst this; rfl
    unfold RdL at h1
    cases hd : (tget Γ t).d with
    | other => simp [hd] at hb
    | bstruct fs => simp [hd] at hb
    | int k =>
      simp only [hd] at hb hfit h1
      obtain ⟨m, rfl, _, hw⟩ := DataW.trod_int hfit hx
      simp only [Lit.wf, Bool.and_eq_true, decide_eq_true_eq] at hw
      exact h1 _ (.int k m) rfl (beq_true hb) rfl ⟨rfl, hw.1, hw.2⟩ ⟨m, hw.1, hw.2, rfl⟩
    | bool =>
      simp only [hd] at hb hfit h1
      obtain ⟨b, rfl, _⟩ := DataW.trod_bool hfit hx
      exact h1 _ (.bool b) rfl (beq_true hb) rfl rfl ⟨b, rfl⟩
    | str =>
      simp only [hd] at hb hfit h1
      obtain ⟨s, rfl, _, hs⟩ := DataW.trod_string hfit hx
      have hl : s.data.toList.length ≤ maxLen := by simpa using hs
      exact h1 _ (.str s.data.toList) rfl (beq_true hb) rfl ⟨rfl, hl⟩ ⟨_, hl, rfl⟩
    | ptr e =>
      simp only [hd] at hb hfit h1
      rcases DataW.trod_pointer hfit hx with ⟨rfl, _⟩ | ⟨a, cs', y, n', _, rfl, _⟩
      · exact h1 _ .unk rfl (beq_true hb) rfl rfl rfl
      · exact h1 _ .unk rfl (beq_true hb) rfl rfl rfl
    | iface =>
      simp only [hd] at hb hfit h1
      obtain ⟨ms, hfit⟩ := hfit
      cases fuel with
      | zero => simp [DataW.trod] at hx
      | succ f =>
        unfold DataW.trod at hx
        rw [hfit] at hx
        split at hx <;> try (first | (simp at hx; done) | (simp_all; done))
        · exact h1 _ .unk rfl (beq_true hb) rfl rfl rfl
        · exact h1 _ .unk rfl (beq_true hb) rfl rfl rfl
    | func =>
      simp only [hd] at hb hfit h1
      obtain ⟨a, b, c, hfit⟩ := hfit
      cases fuel with
      | zero => simp [DataW.trod] at hx
      | succ f =>
        unfold DataW.trod at hx
        rw [hfit] at hx
        split at hx <;> try (first | (simp at hx; done) | (simp_all; done))
        · exact h1 _ .unk rfl (beq_true hb) rfl rfl rfl
        · exact h1 _ .unk rfl (beq_true hb) rfl rfl rfl
    | slice e =>
      simp only [hd, Bool.and_eq_true] at hb hfit h1
      have hs1 := beq_true hb.1
      have hse : 0 < (tget Γ e).size := by simpa [Nat.blt_eq] using hb.2.1
      have hze := cellsOf_eq hΓ (rdB_other hb.2.2)
      rcases DataW.trod_slice hfit hx with ⟨rfl, _⟩ | ⟨a, len, cap, elems, rest, m, _, rfl, _, hbl, hlc, hcm, hel, hget, _⟩
      · cases hu : isU8 (tget Γ e).d with
        | true =>
          rw [hu] at h1
          exact h1 _ .sl0 rfl hs1 rfl rfl (.inl rfl)
        | false =>
          rw [hu] at h1
          exact h1 _ .sl0 rfl hs1 rfl rfl (.inl rfl)
      · have hg' : ∀ i, i < len → ∃ cs' y, w.cells? base (a.add (i * P.cellsOf e)) (P.cellsOf e) = some cs' ∧ DataW.trod enc P w base sp held m e cs' = some y := by
          intro i hi
          have hg := hget i hi
          have hsome : elems[i]? = some (elems[i]'(by omega)) := List.getElem?_eq_getElem (by omega)
          rw [hsome, Option.bind_eq_some_iff] at hg
          obtain ⟨cs', hcs, htr⟩ := hg
          exact ⟨cs', _, hcs, htr⟩
        have hsp : 0 < len → a.spot = none := by
          intro hl
          obtain ⟨cs', y, hcs, htr⟩ := hg' 0 hl
          obtain ⟨_, hl', hc'⟩ := World.cells?_some hcs
          rw [hze] at hl' hc'
          have := hc' 0 hse
          rw [List.getElem?_eq_getElem (by omega)] at this
          have := World.cell?_spot this
          simpa [Addr.add] using this
        have hall : ∀ i, i < len → ∃ g : Nat → LV, RdL Γ n e g 0 ∧ RO w L a.block ∧ ∀ j, j < (tget Γ e).size → ∃ c, w.cell? ⟨a.block, a.off + i * (tget Γ e).size + j, none⟩ = some c ∧ c.oneCell' = true ∧ rep w L (g j) c := by
          intro i hi
          obtain ⟨cs', y, hcs, htr⟩ := hg' i hi
          obtain ⟨hlen, g, hrd, hcell⟩ := ih hb.2.2 htr
          obtain ⟨_, hl', hc'⟩ := World.cells?_some hcs
          rw [hze] at hl' hc'
          have hspot : ∀ j, j < (tget Γ e).size → ∃ c, w.cell? ((a.add (i * (tget Γ e).size)).add j) = some c ∧ cs'[j]? = some c := by
            intro j hj
            have := hc' j hj
            rw [List.getElem?_eq_getElem (by omega)] at this
            exact ⟨_, this, by rw [List.getElem?_eq_getElem (by omega)]⟩
          have hadd : ∀ j, j < (tget Γ e).size → ∃ c, w.cell? ⟨a.block, a.off + i * (tget Γ e).size + j, none⟩ = some c ∧ cs'[j]? = some c := by
            intro j hj
            obtain ⟨c, h2, h3⟩ := hspot j hj
            have h4 := World.cell?_spot h2
            refine ⟨c, ?_, h3⟩
            rw [← h2]
            congr 1
            have hk : ∀ k : Nat, ((a.add k).add j).spot = none → (⟨a.block, a.off + k + j, none⟩ : Addr) = (a.add k).add j := by
              intro k hk
              unfold Addr.add at hk ⊢
              obtain ⟨ab, ao, as⟩ := a
              by_cases hk0 : k = 0 <;> by_cases hj0 : j = 0 <;> simp_all
            exact hk _ h4
          obtain ⟨c0, h20, _⟩ := hadd 0 hse
          refine ⟨g, hrd, ?_, fun j hj => ?_⟩
          · refine ⟨?_, fun ⟨nm, hn⟩ => by rw [hL nm] at hn; simp at hn, hX _⟩
            unfold World.cell? at h20
            by_cases hlt : a.block < w.heap.size
            · exact hlt
            · rw [Array.getElem?_eq_none (by simp only []; omega)] at h20; simp at h20
          · obtain ⟨c, h2, h3⟩ := hadd j hj
            obtain ⟨c', h4, h5, h6⟩ := hcell j (by omega) hj
            rw [h3] at h4
            obtain rfl : c = c' := by simpa using h4
            exact ⟨c, h2, h5, h6⟩
        obtain ⟨f, hf⟩ := choose_rd (fun _ => LV.any) hall
        cases hu : isU8 (tget Γ e).d with
        | true =>
          rw [hu] at h1
          have hu8 := isU8_eq hu
          have hs8 : (tget Γ e).size = 1 := by
            have := hb.2.2
            cases n with
            | zero => simp [rdB] at this
            | succ n => unfold rdB at this; simp only [hu8] at this; exact beq_true this
          have hx8 : ∀ i, i < len → ∃ x : UInt8, f i 0 = .int .u8 (x.toNat : Int) := by
            intro i hi
            have := (hf i hi).1
            cases n with
            | zero => exact this.elim
            | succ n =>
              unfold RdL at this
              simp only [hu8] at this
              obtain ⟨x, h2, h3, h4⟩ := this
              refine ⟨UInt8.ofNat x.toNat, ?_⟩
              rw [h4]
              simp [IntKind.min, IntKind.max, IntKind.signed, IntKind.bits] at h2 h3
              congr 1
              rw [UInt8.toNat_ofNat']
              omega
          obtain ⟨g, hg⟩ := choose_rd (0 : UInt8) hx8
          refine h1 _ (.rob true false ((List.range len).map g)) rfl hs1 rfl (.inr ⟨a, cap, by simp, by simpa using hlc, hcm, by simp, fun hl => ?_, fun i hi j hj => ?_⟩) (.inr ⟨_, by simp; omega, rfl⟩)
          · have hl' : 0 < len := by simpa using hl
            exact ⟨hsp hl', (hf 0 hl').2.1⟩
          · have hi' : i < len := by simpa using hi
            obtain ⟨c, h2, h3, h4⟩ := (hf i hi').2.2 0 (by omega)
            obtain rfl : j = 0 := by omega
            rw [hg i hi'] at h4
            rw [hs8] at h2
            refine ⟨c, h2, h3, ?_⟩
            rw [h4.1]
            simp [List.getD, hi']
        | false =>
          rw [hu] at h1
          refine h1 _ (.ro true false (tget Γ e).size len f) rfl hs1 rfl ?_ (.inr ⟨len, f, by omega, rfl, fun i hi => (hf i hi).1⟩)
          exact .inr ⟨a, cap, rfl, hlc, hcm, by simp, fun hl => ⟨hsp hl, (hf 0 hl).2.1⟩, fun i hi j hj => (hf i hi).2.2 j hj⟩
    | struct fs =>
      simp only [hd, Bool.and_eq_true, List.all_eq_true] at hb hfit
      obtain ⟨fields, hu, hfs, _⟩ := hfit
      obtain ⟨xs, m, _, _, hl, hxs, hget⟩ := DataW.trod_struct hu hx
      rw [hsz] at hl
      refine ⟨hl, ?_⟩
      obtain ⟨g, h2, h3⟩ := rd_fields (w := w) (L := L) (n := n) hb.1 hl fun y hy => by
        refine ⟨hb.2 y hy, ?_⟩
        obtain ⟨i, hi⟩ := List.getElem?_of_mem hy
        obtain ⟨f, hf, hfo, hft⟩ := mem_of_field hfs hi
        have := hget i f hf
        rw [List.getElem?_eq_getElem (by rw [hxs]; exact (Array.getElem?_eq_some_iff.1 hf).1)] at this
        rw [hfo, hft, cellsOf_eq hΓ (rdB_other (hb.2 y hy))] at this
        exact ih (hb.2 y hy) this
      refine ⟨g, ?_, h3⟩
      unfold RdL
      simp only [hd]
      rw [fold_iff]
      intro y hy
      rw [Nat.zero_add]
      exact h2 y hy
    | arr k e =>
      simp only [hd, Bool.and_eq_true] at hb hfit
      have hm := beq_true hb.1
      have hze := cellsOf_eq hΓ (rdB_other hb.2)
      obtain ⟨xs, m, _, _, hl, hxs, hget⟩ := DataW.trod_array hfit hx
      rw [hsz] at hl
      refine ⟨hl, ?_⟩
      obtain ⟨g, h2, h3⟩ := rd_elems (w := w) (L := L) (cs := cs) hb.2 k fun i hi => by
        have := hget i hi
        rw [List.getElem?_eq_getElem (by omega), hze] at this
        exact ih hb.2 this
      refine ⟨g, ?_, by rw [← hm]; exact h3⟩
      unfold RdL
      simp only [hd]
      intro i hi
      rw [Nat.zero_add]
      exact h2 i hi
end Go.Sym

set_option linter.unusedVariables false
set_option linter.unusedSimpArgs false
namespace Go.Sym
open Go Go.ChangeShapes Go.RowKit

variable {P : Program} {Γ : Tab} {H : Type} {enc : TypeId × Value → H}

/-! ### Arguments of a law -/
/-- No names: nothing is the program's own. -/
def L0 : NM := ⟨fun _ => none, fun _ => False⟩

theorem HRep.none (w : World) : HRep w L0 [] :=
  ⟨fun _ _ => rfl, fun nm h => by simp at h, fun nm ob h => by simp at h, fun nm nm' b h => by simp [L0] at h, fun b h => h.elim⟩

theorem okWide_one {w : World} {r : Reach} {base : Nat} {t : TypeId} {v : Value} {d : TypeDesc} (hd : P.underlying t = some d) (hs : ∀ fs, d ≠ .struct fs) (ha : ∀ n e, d ≠ .array n e) (h : Value.okWide P w r base t v) : v.oneCell' = true := by
  unfold Value.okWide at h
  rw [hd] at h
  cases v with
  | agg cs =>
    exfalso
    cases d <;> first | exact hs _ rfl | exact ha _ _ rfl | (simp only [Cell.okWide, Cell.ok, hd] at h)
  | tuple cs =>
    exfalso
    cases d <;> first | exact hs _ rfl | exact ha _ _ rfl | (simp only [Cell.okWide, Cell.ok, hd] at h)
  | _ => rfl

theorem cells_one {v : Value} (h : v.oneCell' = true) : v.cells = #[v] := by
  cases v <;> first | rfl | simp [Value.oneCell'] at h

/-- An argument of one cell. -/
theorem rd_leaf (hΓ : TOK P Γ) {n : Nat} {t : TypeId} (hb : rdB Γ n t = true) (ha : (tget Γ t).d.isAgg = false) {w : World} {r : Reach} {base base' : Nat} {sp : Nat → Bool} {held : Bool} {v : Value} {d : DataW H} {ps : List MemPlace}
    (hval : Value.okWide P w r base t v) (h : DataW.Trod enc P w base' sp held t v d ps) : ∃ g, RdL Γ n t g 0 ∧ repF w L0 (.s (.lf (g 0))) v := by
  obtain ⟨fuel, hf⟩ := h
  obtain ⟨hl, g, hg, hc⟩ := trod_rd hΓ (w := w) (L := L0) (fun _ => rfl) (fun _ h => h) hb hf
  have ho : v.oneCell' = true := by
    have hfit := (hΓ t).fits
    cases hd : (tget Γ t).d with
    | other => have := rdB_other hb; rw [hd] at this; simp [TD.isOther] at this
    | bstruct fs => rw [hd] at ha; simp [TD.isAgg] at ha
    | struct fs => rw [hd] at ha; simp [TD.isAgg] at ha
    | arr k e => rw [hd] at ha; simp [TD.isAgg] at ha
    | iface => rw [hd] at hfit; obtain ⟨ms, hu⟩ := hfit; exact okWide_one hu (by simp) (by simp) hval
    | func => rw [hd] at hfit; obtain ⟨_, _, _, hu⟩ := hfit; exact okWide_one hu (by simp) (by simp) hval
    | _ => rw [hd] at hfit; exact okWide_one (show P.underlying t = _ from hfit) (by simp) (by simp) hval
  rw [cells_one ho] at hl hc
  obtain ⟨c, h1, h2, h3⟩ := hc 0 (by omega) (by simp at hl; omega)
  simp at h1
  subst h1
  exact ⟨g, hg, h3⟩

/-- An argument that is a struct or an array. -/
theorem rd_agg (hΓ : TOK P Γ) {n : Nat} {t : TypeId} (hb : rdB Γ n t = true) (ha : (tget Γ t).d.isAgg = true) {w : World} {r : Reach} {base base' : Nat} {sp : Nat → Bool} {held : Bool} {v : Value} {d : DataW H} {ps : List MemPlace}
    (hval : Value.okWide P w r base t v) (h : DataW.Trod enc P w base' sp held t v d ps) : ∃ g, RdL Γ n t g 0 ∧ ∀ l, tot l = (tget Γ t).size → (∀ o, o < tot l → cellD l o = g o) → repF w L0 (.s (.agg l)) v := by
  obtain ⟨fuel, hf⟩ := h
  obtain ⟨hl, g, hg, hc⟩ := trod_rd hΓ (w := w) (L := L0) (fun _ => rfl) (fun _ h => h) hb hf
  have ho : ∃ cs, v = .agg cs := by
    have hfit := (hΓ t).fits
    unfold Value.okWide at hval
    cases hd : (tget Γ t).d with
    | struct fs => rw [hd] at hfit; obtain ⟨_, hu, _⟩ := hfit; rw [hu] at hval; obtain ⟨cs, h, _⟩ := hval; exact ⟨cs, h⟩
    | arr k e => rw [hd] at hfit; rw [show P.underlying t = _ from hfit] at hval; obtain ⟨cs, h, _⟩ := hval; exact ⟨cs, h⟩
    | bstruct fs => rw [hd] at hfit; obtain ⟨_, hu, _⟩ := hfit; rw [hu] at hval; obtain ⟨cs, h, _⟩ := hval; exact ⟨cs, h⟩
    | _ => rw [hd] at ha; simp [TD.isAgg] at ha
  obtain ⟨cs, rfl⟩ := ho
  refine ⟨g, hg, fun l ht hcell => ⟨cs, rfl, by rw [ht]; simpa [Value.cells] using hl, fun o ho => ?_⟩⟩
  obtain ⟨c, h1, h2, h3⟩ := hc o (by omega) (by omega)
  rw [hcell o ho]
  exact ⟨c, by simpa [Value.cells] using h1, h2, h3⟩

theorem repArgs_nil {w : World} {L : NM} : RepArgs w L [] #[] := ⟨rfl, fun i v h => by simp at h⟩

def RepL (w : World) (L : NM) : List FV → List Value → Prop
  | [], [] => True
  | a :: l, v :: m => repF w L a v ∧ RepL w L l m
  | _, _ => False

theorem RepL.args {w : World} {L : NM} : ∀ {l : List FV} {m : List Value}, RepL w L l m → RepArgs w L l m.toArray
  | [], [], _ => repArgs_nil
  | a :: l, v :: m, h => by
    obtain ⟨h1, h2⟩ := RepL.args h.2
    refine ⟨by simpa using h1, fun i x hx => ?_⟩
    cases i with
    | zero => simp at hx; subst hx; exact ⟨v, by simp, h.1⟩
    | succ i =>
      obtain ⟨y, h3, h4⟩ := h2 i x (by simpa using hx)
      exact ⟨y, by simpa using h3, h4⟩
  | [], _ :: _, h => h.elim
  | _ :: _, [], h => h.elim

/-- A law's call: it answers true, and leaves what was there as it was. -/
theorem SCalls.law {f : FuncId} {args : List FV} (h : SCalls P f args [] (.s (.lf .tt)) []) {W : World} {vals : List Value} (hr : RepL W L0 args vals) :
    Calls P f vals.toArray W fun e W' => e = .returned (.bool true) ∧ Below W.heap.size W W' := by
  refine (h.2 W L0 vals.toArray (HRep.none W) hr.args).mono fun e W' he => ?_
  obtain ⟨v, L', rfl, h1, h2, h3⟩ := he
  have : v = .bool true := h2
  exact ⟨by rw [this], Ev.below (fun _ => rfl) h3⟩

/-- Integers in a row. -/
theorem rd_ints {k : IntKind} {n o : Nat} {g : Nat → LV} (h : ∀ i, i < n → ∃ x : Int, k.min ≤ x ∧ x ≤ k.max ∧ g (o + i) = .int k x) : ∃ xs : List Int, xs.length = n ∧ (∀ x ∈ xs, k.min ≤ x ∧ x ≤ k.max) ∧ ∀ i, i < n → g (o + i) = .int k (xs.getD i 0) := by
  obtain ⟨f, hf⟩ := choose_rd (0 : Int) h
  refine ⟨(List.range n).map f, by simp, fun x hx => ?_, fun i hi => ?_⟩
  · obtain ⟨i, hi, rfl⟩ := List.mem_map.1 hx
    have := hf i (List.mem_range.1 hi)
    exact ⟨this.1, this.2.1⟩
  · rw [(hf i hi).2.2]
    simp [List.getD, hi]

theorem rd_u32s {n o : Nat} {g : Nat → LV} (h : ∀ i, i < n → ∃ x : Int, IntKind.u32.min ≤ x ∧ x ≤ IntKind.u32.max ∧ g (o + i) = .int .u32 x) : ∃ xs : List UInt32, xs.length = n ∧ ∀ i, i < n → g (o + i) = .int .u32 ((xs.getD i 0).toNat : Int) := by
  have h' : ∀ i, i < n → ∃ x : UInt32, g (o + i) = .int .u32 (x.toNat : Int) := by
    intro i hi
    obtain ⟨x, h1, h2, h3⟩ := h i hi
    refine ⟨UInt32.ofNat x.toNat, ?_⟩
    rw [h3]
    simp [IntKind.min, IntKind.max, IntKind.signed, IntKind.bits] at h1 h2
    congr 1
    rw [UInt32.toNat_ofNat']
    omega
  obtain ⟨f, hf⟩ := choose_rd (0 : UInt32) h'
  refine ⟨(List.range n).map f, by simp, fun i hi => ?_⟩
  rw [hf i hi]
  simp [List.getD, hi]

theorem u8_of {x : Int} (h1 : IntKind.u8.min ≤ x) (h2 : x ≤ IntKind.u8.max) : ∃ y : UInt8, x = (y.toNat : Int) := by
  refine ⟨UInt8.ofNat x.toNat, ?_⟩
  simp [IntKind.min, IntKind.max, IntKind.signed, IntKind.bits] at h1 h2
  rw [UInt8.toNat_ofNat']
  omega

theorem rd_u8s {n o : Nat} {g : Nat → LV} (h : ∀ i, i < n → ∃ x : Int, IntKind.u8.min ≤ x ∧ x ≤ IntKind.u8.max ∧ g (o + i) = .int .u8 x) : ∃ xs : List UInt8, xs.length = n ∧ ∀ i, i < n → g (o + i) = .int .u8 ((xs.getD i 0).toNat : Int) := by
  have h' : ∀ i, i < n → ∃ x : UInt8, g (o + i) = .int .u8 (x.toNat : Int) := by
    intro i hi
    obtain ⟨x, h1, h2, h3⟩ := h i hi
    obtain ⟨y, hy⟩ := u8_of h1 h2
    exact ⟨y, by rw [h3, hy]⟩
  obtain ⟨f, hf⟩ := choose_rd (0 : UInt8) h'
  refine ⟨(List.range n).map f, by simp, fun i hi => ?_⟩
  rw [hf i hi]
  simp [List.getD, hi]

theorem params_ok {l : List TypeId} (h : (l.all fun t => P.readableRec t && Nat.blt t P.types.size) = true) : ∀ t ∈ l, P.readableRec t = true ∧ t < P.types.size := by
  intro t ht
  have := List.all_eq_true.1 h t ht
  simp only [Bool.and_eq_true, Nat.blt_eq] at this
  exact this

end Go.Sym

set_option linter.unusedVariables false
set_option linter.unusedSimpArgs false
namespace Go.Sym
open Go

variable {P : Program} {Γ : Tab}

/-! ### Calls that make blocks -/
def ρm (n nm : Nat) : Option Nat := match Nat.blt nm n with | true => none | false => some (nm - n)

theorem ρm_new {n nm : Nat} (h : n ≤ nm) : ρm n nm = some (nm - n) := by
  have e : Nat.blt nm n = false := by
    cases hb : Nat.blt nm n
    · rfl
    · have := blt_true hb; omega
  simp [ρm, e]

theorem ρm_old {n nm : Nat} (h : nm < n) : ρm n nm = none := by
  have e : Nat.blt nm n = true := by simp [Nat.blt, Nat.ble_eq]; omega
  simp [ρm, e]

/-- The blocks a call makes, as the caller has them. -/
def MadeW (D : Rel) : Hp → Hp → Prop
  | [], [] => True
  | none :: l, none :: m => MadeW D l m
  | some a :: l, some b :: m => b.ty = a.ty ∧ WSs D a.segs b.segs ∧ MadeW D l m
  | _, _ => False

theorem MadeW.get {D : Rel} : ∀ {l m : Hp}, MadeW D l m → l.length = m.length ∧ (∀ i : Nat, l[i]? = some none → m[i]? = some none) ∧ (∀ (i : Nat) (a : OB), l[i]? = some (some a) → ∃ b, m[i]? = some (some b) ∧ b.ty = a.ty ∧ WSs D a.segs b.segs)
  | [], [], _ => ⟨rfl, by simp, by simp⟩
  | none :: l, none :: m, h => by
    obtain ⟨h1, h2, h3⟩ := MadeW.get (l := l) (m := m) h
    refine ⟨by simp [h1], fun i hi => ?_, fun i a hi => ?_⟩
    · cases i with
      | zero => rfl
      | succ i => simpa using h2 i (by simpa using hi)
    · cases i with
      | zero => simp at hi
      | succ i => simpa using h3 i a (by simpa using hi)
  | some a :: l, some b :: m, h => by
    obtain ⟨h1, h2, h3⟩ := MadeW.get (l := l) (m := m) h.2.2
    refine ⟨by simp [h1], fun i hi => ?_, fun i c hi => ?_⟩
    · cases i with
      | zero => simp at hi
      | succ i => simpa using h2 i (by simpa using hi)
    · cases i with
      | zero => simp at hi; subst hi; exact ⟨b, rfl, h.1, h.2.1⟩
      | succ i => simpa using h3 i c (by simpa using hi)
  | none :: _, some _ :: _, h => h.elim
  | some _ :: _, none :: _, h => h.elim
  | [], some _ :: _, h => h.elim
  | [], none :: _, h => h.elim
  | some _ :: _, [], h => h.elim
  | none :: _, [], h => h.elim

theorem SCalls.made {f : FuncId} {args : List FV} {r : FV} {Hs' : Hp} (h : SCalls P f args [] r Hs') (H : Hp) {cs : List FV} {rc : FV} {Hn : Hp} (ha : WVs' (Down H [] id fun _ => True) cs args) (hr : WV (Up (ρm H.length) True) r rc) (hH : MadeW (Up (ρm H.length) True) Hs' Hn) :
    SCalls P f cs H rc (H ++ Hn) := by
  obtain ⟨g1, g2, g3⟩ := hH.get
  refine h.frame (μ := id) (hid := fun _ => True) (ρ := ρm H.length) (nb := True) ⟨fun i ob hi => by simp at hi, fun i j a b hi => by simp at hi, fun i ob hi => by simp at hi⟩ ha ?_ hr (fun _ _ _ _ => trivial)
  refine ⟨fun nm hnm => ?_, fun nm i hnm hi => ?_, fun i ob hi => by simp at hi, fun nm hnm _ => ?_, fun nm i hi h0 => ?_, fun nm i hi h0 => ?_, fun nm i ob hi h0 => ?_⟩
  · rw [ρm_new hnm]; simp
  · rw [ρm_old hnm] at hi; simp at hi
  · rw [List.getElem?_append_left hnm]
  all_goals
    rcases Nat.lt_or_ge nm H.length with e | e
    · rw [ρm_old e] at hi; simp at hi
    rw [ρm_new e] at hi
    simp only [Option.some.injEq] at hi
    subst hi
    rw [List.getElem?_append_right e]
  · have := List.getElem?_eq_none_iff.1 h0
    exact List.getElem?_eq_none (by omega)
  · exact g2 _ h0
  · obtain ⟨b, k1, k2, k3⟩ := g3 _ _ h0
    exact ⟨b, k1, k2, k3.ws⟩

/-- The blocks of a call come back under the names that the caller gives them. -/
theorem RetK.perm {n0 : Nat} {r : FV} {H' : Hp} {v : FV} {H : Hp} (ms : List Nat) (h : HpWi (Down H H' (nthN ms) noHid) H (nthN ms) 0 H') (hv : WV (Down H H' (nthN ms) noHid) v r) (hnd : nodupB ms = true) (hl : H'.length ≤ ms.length)
    (hb : allB n0 (fun i => Nat.beq (nthN ms i) i) = true) (hn : n0 ≤ H'.length) : RetK n0 r H' v H := ⟨⟨nthN ms, WHp.perm ms h hnd hl hb hn, hv⟩⟩

/-! ### Arguments that are rows of bytes -/
theorem rep_rob_weak {w : World} {L : NM} {xs : List UInt8} {v : Value} (h : rep w L (.rob true false xs) v) : rep w L (.rob false false xs) v := by
  rcases h with ⟨h, _⟩ | h
  · simp at h
  · exact .inr h

theorem rep_sl0_rob {w : World} {L : NM} {v : Value} (h : rep w L .sl0 v) : rep w L (.rob false false []) v := .inl ⟨rfl, rfl, h⟩

theorem rd_rob {w : World} {v : Value} {x : LV} (h : x = .sl0 ∨ ∃ xs : List UInt8, xs.length ≤ maxLen ∧ x = .rob true false xs) (hr : repF w L0 (.s (.lf x)) v) : ∃ xs : List UInt8, xs.length ≤ maxLen ∧ repF w L0 (.s (.lf (.rob false false xs))) v := by
  rcases h with rfl | ⟨xs, hl, rfl⟩
  · exact ⟨[], by simp [maxLen], rep_sl0_rob hr⟩
  · exact ⟨xs, hl, rep_rob_weak hr⟩

end Go.Sym

set_option linter.unusedVariables false
set_option linter.unusedSimpArgs false
namespace Go.Sym
open Go

variable {P : Program} {Γ : Tab}

/-! ### Arguments that are rows -/
theorem rep_ro_weak {w : World} {L : NM} {st len : Nat} {f : Nat → Nat → LV} {v : Value} (h : rep w L (.ro true false st len f) v) : rep w L (.ro false false st len f) v := by
  rcases h with ⟨h, _⟩ | h
  · simp at h
  · exact .inr h

theorem rep_sl0_ro {w : World} {L : NM} {st : Nat} {f : Nat → Nat → LV} {v : Value} (h : rep w L .sl0 v) : rep w L (.ro false false st 0 f) v := .inl ⟨rfl, rfl, h⟩

theorem rd_ro {w : World} {v : Value} {x : LV} {st : Nat} {p : (Nat → LV) → Prop} (h : x = .sl0 ∨ ∃ len f, len ≤ maxLen ∧ x = .ro true false st len f ∧ ∀ i, i < len → p (f i)) (hr : repF w L0 (.s (.lf x)) v) :
    ∃ len f, len ≤ maxLen ∧ (∀ i, i < len → p (f i)) ∧ repF w L0 (.s (.lf (.ro false false st len f))) v := by
  rcases h with rfl | ⟨len, f, hl, rfl, hp⟩
  · exact ⟨0, fun _ _ => .any, by simp [maxLen], fun i hi => by omega, rep_sl0_ro hr⟩
  · exact ⟨len, f, hl, hp, rep_ro_weak hr⟩

/-- Rows of bytes, each with the bytes that it holds. -/
theorem rd_pieces {len : Nat} {f : Nat → Nat → LV} (h : ∀ i, i < len → f i 0 = .sl0 ∨ ∃ xs : List UInt8, xs.length ≤ maxLen ∧ f i 0 = .rob true false xs) : ∃ xs : Nat → List UInt8, ∀ i, i < len → (f i 0 = .sl0 ∧ xs i = []) ∨ f i 0 = .rob true false (xs i) := by
  refine choose_rd (p := fun i x => (f i 0 = .sl0 ∧ x = []) ∨ f i 0 = .rob true false x) [] fun i hi => ?_
  rcases h i hi with e | ⟨xs, _, e⟩
  · exact ⟨[], .inl ⟨e, rfl⟩⟩
  · exact ⟨xs, .inr e⟩

/-! ### Calls that are lent blocks of the caller's, to read -/
/-- Values that lead to no memory. -/
def plainL : LV → Prop
  | .any | .unk | .int _ _ | .tt | .ff | .bool _ | .str _ | .nilp | .sl0 | .nilf | .nili | .val _ => True
  | _ => False

theorem plainL.wl {D : Rel} {v : LV} (h : plainL v) : WL D v v := by
  cases v <;> first | exact fun _ _ _ _ _ hx => hx | exact h.elim

def plainG : Seg → Prop
  | .one v => plainL v
  | .bytes _ _ => True
  | .ints _ _ _ => True
  | .recs _ _ _ => False

def plainGs : List Seg → Prop
  | [] => True
  | s :: l => plainG s ∧ plainGs l

theorem plainGs.ws {D : Rel} : ∀ {l : List Seg}, plainGs l → WSs D l l
  | [], _ => trivial
  | s :: l, h => by
    refine ⟨?_, plainGs.ws h.2⟩
    have h1 := h.1
    cases s with
    | one v => exact .one (plainL.wl h1)
    | bytes n xs => exact .bytes rfl fun _ _ => rfl
    | ints k n xs => exact .ints rfl fun _ _ => rfl
    | recs st n f => exact h1.elim

def plainS : SV → Prop
  | .lf v => plainL v
  | .agg l => plainGs l

def plainSs : List SV → Prop
  | [] => True
  | s :: l => plainS s ∧ plainSs l

def plainF : FV → Prop
  | .s v => plainS v
  | .tup l => plainSs l

theorem plainS.wv {D : Rel} {v : SV} (h : plainS v) : WV D (.s v) (.s v) := by
  cases v with
  | lf v => exact WV.lf (plainL.wl h)
  | agg l => exact WV.agg (plainGs.ws h)

theorem plainSs.wvs {D : Rel} : ∀ {l : List SV}, plainSs l → WVs D l l
  | [], _ => trivial
  | s :: l, h => ⟨h.1.wv, plainSs.wvs h.2⟩

theorem plainF.wv {D : Rel} {v : FV} (h : plainF v) : WV D v v := by
  cases v with
  | s v => exact plainS.wv h
  | tup l => exact WV.tup (plainSs.wvs h)

/-- A call that is lent what is not hidden, and gives back nothing that leads there. -/
theorem SCalls.lend (hid : Nat → Prop) {f : FuncId} {args : List FV} {r : FV} (h : SCalls P f args [] r []) (H : Hp) {cs : List FV} {rc : FV} (ha : WVs' (Down H [] id hid) cs args) (hr : WV (Up (ρm H.length) False) r rc) : SCalls P f cs H rc H := by
  refine h.frame (μ := id) (hid := hid) (ρ := ρm H.length) (nb := False) ⟨fun i ob hi => by simp at hi, fun i j a b hi => by simp at hi, fun i ob hi => by simp at hi⟩ ha ?_ hr (fun h => h.elim)
  refine ⟨fun nm hnm => by rw [ρm_new hnm]; simp, fun nm i hnm hi => by rw [ρm_old hnm] at hi; simp at hi, fun i ob hi => by simp at hi, fun nm _ _ => rfl, fun nm i hi _ => ?_, fun nm i _ hi => by simp at hi, fun nm i ob _ hi => by simp at hi⟩
  rcases Nat.lt_or_ge nm H.length with e | e
  · rw [ρm_old e] at hi; simp at hi
  · exact List.getElem?_eq_none e

abbrev DownL (H : Hp) (ob : OB) (nm : Nat) (hid : Nat → Prop) : Rel := Down H [some ob] (fun _ => nm) hid
abbrev UpL (nm n : Nat) : Rel := Up (ρ1 nm n) False

theorem SCalls.frame1l (hid : Nat → Prop) {f : FuncId} {args : List FV} {r : FV} {ob ob' : OB} (h : SCalls P f args [some ob] r [some ob']) {H : Hp} {nm : Nat} {ob1 ob2 : OB} {cs : List FV} {rc : FV} (hn : H[nm]? = some (some ob1)) (ht : ob1.ty = ob.ty)
    (hh : ¬ hid nm) (ho : WSs (DownL H ob nm hid) ob1.segs ob.segs) (ha : WVs' (DownL H ob nm hid) cs args) (ht' : ob2.ty = ob'.ty) (ho' : WSs (UpL nm H.length) ob'.segs ob2.segs) (hr : WV (UpL nm H.length) r rc) : SCalls P f cs H rc (H.set nm (some ob2)) := by
  have hlt : nm < H.length := (List.getElem?_eq_some_iff.1 hn).1
  have hρ : ∀ i, i ≠ nm → i < H.length → ρ1 nm H.length i = none := by
    intro i h1 h2
    have e1 : Nat.beq i nm = false := by
      cases hb : Nat.beq i nm
      · rfl
      · exact absurd (Nat.eq_of_beq_eq_true hb) h1
    have e2 : Nat.blt i H.length = true := by simp [Nat.blt, Nat.ble_eq]; omega
    simp [ρ1, e1, e2]
  have hρ' : ∀ i, H.length ≤ i → ρ1 nm H.length i = some (i - H.length + 1) := by
    intro i h1
    have e1 : Nat.beq i nm = false := by
      cases hb : Nat.beq i nm
      · rfl
      · have := Nat.eq_of_beq_eq_true hb; omega
    have e2 : Nat.blt i H.length = false := by
      cases hb : Nat.blt i H.length
      · rfl
      · have := blt_true hb; omega
    simp [ρ1, e1, e2]
  refine h.frame (μ := fun _ => nm) (hid := hid) (ρ := ρ1 nm H.length) (nb := False) ⟨fun i ob0 hi => ?_, fun i j a b hi hj _ => ?_, fun i ob0 _ => hh⟩ ha ⟨fun i hi => ?_, fun i j hi hj => ?_, fun i ob0 hi => ?_, fun i hi hj => ?_, fun i j hi hj => ?_, fun i j hi hj => ?_, fun i j ob0 hi hj => ?_⟩ hr (fun h => h.elim)
  · cases i with
    | zero => simp at hi; subst hi; exact ⟨ob1, hn, ht, ho.ws⟩
    | succ i => simp at hi
  · cases i with
    | zero => cases j with
      | zero => rfl
      | succ j => simp at hj
    | succ i => simp at hi
  · rw [hρ' i hi]; simp
  · by_cases e : i = nm
    · subst e; rw [ρ1_self] at hj; simp at hj; subst hj; exact ⟨by simp, ⟨ob, rfl⟩, rfl⟩
    · rw [hρ i e hi] at hj; simp at hj
  · cases i with
    | zero => exact ρ1_self nm _
    | succ i => simp at hi
  · by_cases e : i = nm
    · subst e; rw [ρ1_self] at hj; simp at hj
    · rw [List.getElem?_set, if_neg (fun e' => e e'.symm)]
  · by_cases e : i = nm
    · subst e; rw [ρ1_self] at hi; simp at hi; subst hi; simp at hj
    · rcases Nat.lt_or_ge i H.length with g | g
      · rw [hρ i e g] at hi; simp at hi
      · exact List.getElem?_eq_none (by simpa using g)
  · by_cases e : i = nm
    · subst e; rw [ρ1_self] at hi; simp at hi; subst hi; simp at hj
    · rcases Nat.lt_or_ge i H.length with g | g
      · rw [hρ i e g] at hi; simp at hi
      · rw [hρ' i g] at hi; simp at hi; subst hi; simp at hj
  · by_cases e : i = nm
    · subst e; rw [ρ1_self] at hi; simp at hi; subst hi; simp at hj; subst hj
      exact ⟨ob2, by rw [List.getElem?_set, if_pos rfl, if_pos hlt], ht', ho'.ws⟩
    · rcases Nat.lt_or_ge i H.length with g | g
      · rw [hρ i e g] at hi; simp at hi
      · rw [hρ' i g] at hi; simp at hi; subst hi; simp at hj

end Go.Sym

set_option linter.unusedVariables false
set_option linter.unusedSimpArgs false
namespace Go.Sym
open Go

variable {P : Program} {Γ : Tab}

/-! ### Calls that are given one block, and make others -/
theorem ρ1_lt {nm n i : Nat} (h1 : i ≠ nm) (h2 : i < n) : ρ1 nm n i = none := by
  have e1 : Nat.beq i nm = false := by
    cases hb : Nat.beq i nm
    · rfl
    · exact absurd (Nat.eq_of_beq_eq_true hb) h1
  have e2 : Nat.blt i n = true := by simp [Nat.blt, Nat.ble_eq]; omega
  simp [ρ1, e1, e2]

theorem ρ1_ge {nm n i : Nat} (hn : nm < n) (h1 : n ≤ i) : ρ1 nm n i = some (i - n + 1) := by
  have e1 : Nat.beq i nm = false := by
    cases hb : Nat.beq i nm
    · rfl
    · have := Nat.eq_of_beq_eq_true hb; omega
  have e2 : Nat.blt i n = false := by
    cases hb : Nat.blt i n
    · rfl
    · have := blt_true hb; omega
  simp [ρ1, e1, e2]

theorem SCalls.frame1m {f : FuncId} {args : List FV} {r : FV} {ob : OB} {o' : Option OB} {rest : Hp} (h : SCalls P f args [some ob] r (o' :: rest)) {H : Hp} {nm : Nat} {ob1 : OB} {o2 : Option OB} {Hn : Hp} {cs : List FV} {rc : FV} (hn : H[nm]? = some (some ob1)) (ht : ob1.ty = ob.ty)
    (ho : WSs (Down1 H ob nm) ob1.segs ob.segs) (ha : WVs' (Down1 H ob nm) cs args) (hm : MadeW (Up1 nm H.length) (o' :: rest) (o2 :: Hn)) (hr : WV (Up1 nm H.length) r rc) : SCalls P f cs H rc (H.set nm o2 ++ Hn) := by
  have hlt : nm < H.length := (List.getElem?_eq_some_iff.1 hn).1
  obtain ⟨g1, g2, g3⟩ := hm.get
  have hset : ∀ i, i < H.length → (H.set nm o2 ++ Hn)[i]? = (if i = nm then some o2 else H[i]?) := by
    intro i hi
    rw [List.getElem?_append_left (by simpa using hi), List.getElem?_set]
    by_cases e : nm = i
    · rw [if_pos e, if_pos hlt, if_pos e.symm]
    · rw [if_neg e, if_neg (fun e' => e e'.symm)]
  have hnew : ∀ i, H.length ≤ i → (H.set nm o2 ++ Hn)[i]? = (o2 :: Hn)[i - H.length + 1]? := by
    intro i hi
    rw [List.getElem?_append_right (by simpa using hi)]
    simp
  have hcase : ∀ i j, ρ1 nm H.length i = some j → (i = nm ∧ j = 0) ∨ (H.length ≤ i ∧ j = i - H.length + 1) := by
    intro i j hi
    by_cases e : i = nm
    · subst e; rw [ρ1_self] at hi; simp at hi; exact .inl ⟨rfl, hi.symm⟩
    · rcases Nat.lt_or_ge i H.length with g | g
      · rw [ρ1_lt e g] at hi; simp at hi
      · rw [ρ1_ge hlt g] at hi; simp at hi; exact .inr ⟨g, hi.symm⟩
  have hH' : ∀ i j, ρ1 nm H.length i = some j → (H.set nm o2 ++ Hn)[i]? = (o2 :: Hn)[j]? := by
    intro i j hi
    rcases hcase i j hi with ⟨rfl, rfl⟩ | ⟨g, rfl⟩
    · rw [hset _ hlt, if_pos rfl]; rfl
    · exact hnew i g
  refine h.frame (μ := fun _ => nm) (hid := fun i => i ≠ nm) (ρ := ρ1 nm H.length) (nb := True) ⟨fun i ob0 hi => ?_, fun i j a b hi hj _ => ?_, fun i ob0 _ hh => hh rfl⟩ ha ⟨fun i hi => ?_, fun i j hi hj => ?_, fun i ob0 hi => ?_, fun i hi hj => ?_, fun i j hi hj => ?_, fun i j hi hj => ?_, fun i j ob0 hi hj => ?_⟩ hr (fun _ i hi hj e => ?_)
  · cases i with
    | zero => simp at hi; subst hi; exact ⟨ob1, hn, ht, ho.ws⟩
    | succ i => simp at hi
  · cases i with
    | zero => cases j with
      | zero => rfl
      | succ j => simp at hj
    | succ i => simp at hi
  · rw [ρ1_ge hlt hi]; simp
  · by_cases e : i = nm
    · subst e; rw [ρ1_self] at hj; simp at hj; subst hj; exact ⟨by simp, ⟨ob, rfl⟩, rfl⟩
    · rw [ρ1_lt e hi] at hj; simp at hj
  · cases i with
    | zero => exact ρ1_self nm _
    | succ i => simp at hi
  · rw [hset i hi]
    by_cases e : i = nm
    · subst e; rw [ρ1_self] at hj; simp at hj
    · rw [if_neg e]
  · rw [hH' i j hi]
    have := List.getElem?_eq_none_iff.1 hj
    exact List.getElem?_eq_none (by omega)
  · rw [hH' i j hi]; exact g2 j hj
  · rw [hH' i j hi]
    obtain ⟨b, k1, k2, k3⟩ := g3 j ob0 hj
    exact ⟨b, k1, k2, k3.ws⟩
  · subst e; rw [ρ1_self] at hj; simp at hj

/-- A call that is lent blocks, and makes others. -/
theorem SCalls.madeL (hid : Nat → Prop) {f : FuncId} {args : List FV} {r : FV} {Hs' : Hp} (h : SCalls P f args [] r Hs') (H : Hp) {cs : List FV} {rc : FV} {Hn : Hp} (ha : WVs' (Down H [] id hid) cs args) (hr : WV (Up (ρm H.length) False) r rc) (hH : MadeW (Up (ρm H.length) False) Hs' Hn) :
    SCalls P f cs H rc (H ++ Hn) := by
  obtain ⟨g1, g2, g3⟩ := hH.get
  refine h.frame (μ := id) (hid := hid) (ρ := ρm H.length) (nb := False) ⟨fun i ob hi => by simp at hi, fun i j a b hi => by simp at hi, fun i ob hi => by simp at hi⟩ ha ?_ hr (fun h => h.elim)
  refine ⟨fun nm hnm => ?_, fun nm i hnm hi => ?_, fun i ob hi => by simp at hi, fun nm hnm _ => ?_, fun nm i hi h0 => ?_, fun nm i hi h0 => ?_, fun nm i ob hi h0 => ?_⟩
  · rw [ρm_new hnm]; simp
  · rw [ρm_old hnm] at hi; simp at hi
  · rw [List.getElem?_append_left hnm]
  all_goals
    rcases Nat.lt_or_ge nm H.length with e | e
    · rw [ρm_old e] at hi; simp at hi
    rw [ρm_new e] at hi
    simp only [Option.some.injEq] at hi
    subst hi
    rw [List.getElem?_append_right e]
  · have := List.getElem?_eq_none_iff.1 h0
    exact List.getElem?_eq_none (by omega)
  · exact g2 _ h0
  · obtain ⟨b, k1, k2, k3⟩ := g3 _ _ h0
    exact ⟨b, k1, k2, k3.ws⟩

end Go.Sym

set_option linter.unusedVariables false
set_option linter.unusedSimpArgs false
namespace Go.Sym
open Go

variable {P : Program} {Γ : Tab}

/-- A contract's end, told otherwise. -/
theorem SCalls.after {f : FuncId} {args : List FV} {H : Hp} {r : FV} {H' : Hp} (h : SCalls P f args H r H') {r' : FV} {H'' : Hp} (k : RetK H.length r' H'' r H') : SCalls P f args H r' H'' := by
  refine ⟨h.1, fun w L vals hw ha => ?_⟩
  refine (h.2 w L vals hw ha).mono ?_
  rintro e w' ⟨v, L', rfl, h1, h2, h3⟩
  obtain ⟨⟨μ, k1, k2⟩⟩ := k
  have hb : ∀ nm, L nm ≠ none → nm < H.length := fun nm hnm => by
    rcases Nat.lt_or_ge nm H.length with h' | h'
    · exact h'
    · exact absurd (hw.unused nm (List.getElem?_eq_none h')) hnm
  exact ⟨v, _, rfl, k1.hrep h1, k2 w' L' _ v ⟨h1, newL_ok H'' μ _ L'⟩ h2, k1.ev hb h3⟩

theorem gone_none {μ : Nat → Nat} {nm : Nat} {hid : Nat → Prop} (h : ¬ hid nm) : gone [] μ hid nm := ⟨h, fun i o hi => by simp at hi⟩

/-- A row of bytes that a call made, handed on as bytes that nobody changes any more. -/
theorem SCalls.frozen {f : FuncId} {args : List FV} {n : Nat} {xs : List UInt8} {ty : TypeId} (h : SCalls P f args [] (.s (.lf (.own 0 0 1 0 n))) [some ⟨ty, [.bytes n xs]⟩]) (hn : n = xs.length) : SCalls P f args [] (.s (.lf (.rob true false xs))) [] :=
  h.after (RetK.empty (WV.lf (WL.freezeB (ob := ⟨ty, [.bytes n xs]⟩) (p := []) (q := []) rfl rfl rfl (by omega) (by omega) (by rw [List.drop_zero, hn, List.take_length]) (gone_none fun h => h))))
end Go.Sym

set_option linter.unusedVariables false
set_option linter.unusedSimpArgs false
namespace Go.Sym
open Go

variable {P : Program} {Γ : Tab}

/-! ### Functions that defer calls -/
/-- A deferred call, with what was captured. -/
structure AD where
  f : FuncId
  args : List FV

def DR (w : World) (L : NM) (d : AD) (x : Deferred) : Prop := ∃ caps vals : Array Value, x = { target := .fn (.func d.f) caps, args := vals } ∧ RepArgs w L d.args (vals ++ caps)
def DRs (w : World) (L : NM) : List AD → List Deferred → Prop
  | [], [] => True
  | d :: l, x :: m => DR w L d x ∧ DRs w L l m
  | _, _ => False

theorem RepArgs.mono {w w' : World} {L L' : NM} {l : List FV} {v : Array Value} (h : Ev w L w' L') (hr : RepArgs w L l v) : RepArgs w' L' l v :=
  ⟨hr.1, fun i v hi => let ⟨x, h1, h2⟩ := hr.2 i v hi; ⟨x, h1, repF.mono h h2⟩⟩
theorem DRs.mono {w w' : World} {L L' : NM} (h : Ev w L w' L') : ∀ {l : List AD} {m : List Deferred}, DRs w L l m → DRs w' L' l m
  | [], [], _ => trivial
  | d :: l, x :: m, hr => ⟨let ⟨c, v, e, r⟩ := hr.1; ⟨c, v, e, r.mono h⟩, DRs.mono h hr.2⟩

structure RD (w0 : World) (L0 : NM) (n0 n : Nat) (fr : Fr) (H : Hp) (D : List AD) (a : Act) (w : World) : Prop where
  ex : ∃ L, HRep w L H ∧ FRep w L fr a ∧ DRs w L D a.defers ∧ Ev w0 L0 w L
  base : ∀ nm, L0 nm ≠ none → nm < n0
  size : a.tmps.size = n

theorem RD.open {w0 : World} {L0 : NM} {n0 n : Nat} {fr : Fr} {H : Hp} {D : List AD} {a : Act} {w : World} (h : RD w0 L0 n0 n fr H D a w) :
    ∃ L, R ⟨w, a.defers⟩ L H.length n fr H a w ∧ ∀ {fr' : Fr} {H' : Hp} {a' : Act} {w' : World}, R ⟨w, a.defers⟩ L H.length n fr' H' a' w' → RD w0 L0 n0 n fr' H' D a' w' := by
  obtain ⟨⟨L, h1, h2, h3, h4⟩, hb, hs⟩ := h
  refine ⟨L, ⟨⟨L, h1, h2, Ev.refl w L⟩, fun nm hnm => ?_, hs, rfl⟩, fun {fr' H' a' w'} hr => ?_⟩
  · rcases Nat.lt_or_ge nm H.length with h' | h'
    · exact h'
    · exact absurd (h1.unused nm (List.getElem?_eq_none h')) hnm
  · obtain ⟨⟨L', g1, g2, g3⟩, _, g5, g6⟩ := hr
    exact ⟨⟨L', g1, g2, by rw [g6]; exact h3.mono g3, h4.trans g3⟩, hb, g5⟩

def PostD (w0 : World) (L0 : NM) (n0 n : Nat) (Q : AX → Fr → Hp → List AD → Prop) : Exit → Act → World → Prop := fun e a w => ∃ x fr H D, e = x.real ∧ Q x fr H D ∧ RD w0 L0 n0 n fr H D a w

def nextD (next : Fr → Hp → List AD → (Fr → Hp → List AD → Prop) → Prop) (D : List AD) (K : Fr → Hp → List AD → Prop) (fr : Fr) (H : Hp) (_ : Fr → Hp → Prop) : Prop := next fr H D K

/-- An operation of a region, when calls may be deferred. -/
def stepDf (P : Program) (Γ : Tab) (n : Nat) (all : List Oper) (o : Oper) (next : Fr → Hp → List AD → (Fr → Hp → List AD → Prop) → Prop) (fr : Fr) (H : Hp) (D : List AD) (K : Fr → Hp → List AD → Prop) : Prop :=
  match o.op, o.guard with
  | .defer c, none => (match c.callee with
    | .value x => (match opv fr x with
      | .s (.lf (.fn g m caps)) => mapK (opv fr) c.args.toList fun as => capsK caps 0 m fun cs => putK n o.dst (.s (.lf (.val (.tuple #[])))) fr fun fr' => next fr' H (⟨g, as ++ cs⟩ :: D) K
      | _ => False)
    | _ => False)
  | .convert _ _ _, none => stepK P Γ n all o (nextD next D K) fr H (fun _ _ => True) ∨
      ∃ r H', OpSem P o (opv fr) H r H' ∧ putK n o.dst r fr fun fr' => next fr' H' D K
  | _, _ => stepK P Γ n all o (nextD next D K) fr H (fun _ _ => True)

def opsDf (P : Program) (Γ : Tab) (n : Nat) (all : List Oper) : List Oper → Fr → Hp → List AD → (Fr → Hp → List AD → Prop) → Prop
  | [], fr, H, D, K => K fr H D
  | o :: l, fr, H, D, K => stepDf P Γ n all o (opsDf P Γ n all l) fr H D K

theorem run_defer {o : Oper} {c : Call} {x : Operand} (ho : o.op = .defer c) (hc : c.callee = .value x) {a : Act} {g : FuncId} {arr : Array Value} (hx : a.eval x = .func (.func g) #[] arr) (w : World) :
    (execOp a.eval o).run P w = .ok (.defer { target := .fn (.func g) arr, args := c.args.map a.eval }) w := by
  simp [execOp, ho, resolve, hc, hx, Deferred.ofValue]

theorem plainStep (hΓ : TOK P Γ) {ops : Array Oper} {w0 : World} {L0 : NM} {n0 n : Nat} {Q : Exit → Act → World → Prop} {K : Fr → Hp → List AD → Prop} {o : Oper} {l : List Oper} {k : Nat} {fr : Fr} {H : Hp} {D : List AD} {a : Act} {w : World} {L : NM}
    (ih : ∀ (k : Nat) (fr : Fr) (H : Hp) (D : List AD) (a : Act) (w : World), (∀ i, l[i]? = ops.toList[k + i]?) → opsDf P Γ n ops.toList l fr H D K → RD w0 L0 n0 n fr H D a w → wpOps P ops Q (List.range' k l.length) a w)
    (hk : ops[k]? = some o) (hl' : ∀ i, l[i]? = ops.toList[k + 1 + i]?) (h : stepK P Γ n ops.toList o (nextD (opsDf P Γ n ops.toList l) D K) fr H (fun _ _ => True)) (hr : R ⟨w, a.defers⟩ L H.length n fr H a w)
    (hback : ∀ {fr' : Fr} {H' : Hp} {a' : Act} {w' : World}, R ⟨w, a.defers⟩ L H.length n fr' H' a' w' → RD w0 L0 n0 n fr' H' D a' w') : wpOps P ops Q (k :: List.range' (k + 1) l.length) a w := by
  simp only [stepK] at h
  obtain ⟨b, fr', hK, hR', hw⟩ := guardK_sound rfl h hr
  simp only [wpOps, hk, hw]
  cases b with
  | true =>
    simp only [if_true]
    left
    obtain ⟨r, H', h1, h2⟩ := opW_sound hΓ hK
    exact hR'.step h1 h2 fun fr'' a' w' hk' hr' => ih (k + 1) fr'' H' D a' w' hl' hk' (hback hr')
  | false =>
    simp only [Bool.false_eq_true, if_false]
    obtain ⟨fr'', h1, h2⟩ := hR'.skip hK
    exact ih (k + 1) fr'' H D _ w hl' h1 (hback h2)

theorem opsDf_sound (hΓ : TOK P Γ) {ops : Array Oper} {w0 : World} {L0 : NM} {n0 n : Nat} {Q : Exit → Act → World → Prop} {K : Fr → Hp → List AD → Prop} (hQ : ∀ fr H D a w, K fr H D → RD w0 L0 n0 n fr H D a w → Q .normal a w) :
    ∀ (l : List Oper) (k : Nat) (fr : Fr) (H : Hp) (D : List AD) (a : Act) (w : World), (∀ i, l[i]? = ops.toList[k + i]?) → opsDf P Γ n ops.toList l fr H D K → RD w0 L0 n0 n fr H D a w → wpOps P ops Q (List.range' k l.length) a w := by
  intro l
  induction l with
  | nil => intro k fr H D a w _ h hR; exact hQ fr H D a w h hR
  | cons o l ih =>
    intro k fr H D a w hl h hR
    have hk : ops[k]? = some o := by have := hl 0; simpa using this.symm
    have hl' : ∀ i, l[i]? = ops.toList[k + 1 + i]? := fun i => by have := hl (i + 1); rw [show k + 1 + i = k + (i + 1) by omega, ← this]; rfl
    rw [List.length_cons, List.range'_succ]
    simp only [opsDf, stepDf] at h
    split at h
    · rename_i c ho hg
      split at h
      · rename_i x hc
        split at h
        · rename_i g m caps hv
          rw [mapK_eq, capsK_eq] at h
          have hw : Region.wanted o (yielded ops a.tmps) = true := by simp [Region.wanted, hg]
          simp only [wpOps, hk, hw, if_true]
          left
          obtain ⟨⟨L, h1, h2, h3, h4⟩, hb, hs⟩ := hR
          have hx := h2.opv x
          rw [hv] at hx
          obtain ⟨arr, he, hsz, hcp⟩ := hx
          unfold Oper.wp
          rw [run_defer ho hc he w, Oper.upon_defer]
          have hargs : RepArgs w L (c.args.toList.map (opv fr) ++ capsL caps 0 m) (c.args.map a.eval ++ arr) := by
            exact repArgs_of (fun x _ => h2.opv x) hsz hcp
          unfold putK at h
          split at h
          · rename_i hd
            rw [hd]
            refine ih (k + 1) fr H _ _ w hl' h ⟨⟨L, h1, h2, ⟨⟨arr, _, rfl, hargs⟩, h3⟩, h4⟩, hb, hs⟩
          · rename_i d hd
            split at h
            · rename_i hlt
              have hlt := blt_true hlt
              rw [hd]
              refine ih (k + 1) _ H _ _ w hl' h ⟨⟨L, h1, ?_, ?_, h4⟩, hb, ?_⟩
              · have hf : FRep w L fr { a with defers := { target := .fn (.func g) arr, args := c.args.map a.eval } :: a.defers } := h2
                exact hf.put (Nat.lt_of_lt_of_eq hlt hs.symm) rfl
              · rw [put_defers]; exact ⟨⟨arr, _, rfl, hargs⟩, h3⟩
              · rw [put_size]; exact hs
            · exact h.elim
        · exact h.elim
      · exact h.elim
    · rename_i ho hg
      rcases h with h | ⟨r, H', h1, h2⟩
      · obtain ⟨L, hr, hback⟩ := hR.open
        exact plainStep hΓ ih hk hl' h hr hback
      · obtain ⟨L, hr, hback⟩ := hR.open
        have hw : Region.wanted o (yielded ops a.tmps) = true := by simp [Region.wanted, hg]
        simp only [wpOps, hk, hw, if_true]
        left
        exact hr.step h1 h2 fun fr'' a' w' hk' hr' => ih (k + 1) fr'' H' D a' w' hl' hk' (hback hr')
    · obtain ⟨L, hr, hback⟩ := hR.open
      exact plainStep hΓ ih hk hl' h hr hback

def seqQD (next : Fr → Hp → List AD → (AX → Fr → Hp → List AD → Prop) → Prop) (Q : AX → Fr → Hp → List AD → Prop) (e : AX) (fr : Fr) (H : Hp) (D : List AD) : Prop :=
  match e with
  | .normal => next fr H D Q
  | .exit i => Q (.exit i) fr H D
  | .goto l => Q (.goto l) fr H D
  | .ret => Q .ret fr H D

def condQD (x y : Fr → Hp → List AD → (AX → Fr → Hp → List AD → Prop) → Prop) (H : Hp) (D : List AD) (Q : AX → Fr → Hp → List AD → Prop) (b : Bool) (fr : Fr) : Prop :=
  match b with
  | true => x fr H D Q
  | false => y fr H D Q

def baseQD (Q : AX → Fr → Hp → List AD → Prop) (D : List AD) (e : AX) (fr : Fr) (H : Hp) : Prop := Q e fr H D

def vcD (P : Program) (Γ : Tab) (n : Nat) : Code → Fr → Hp → List AD → (AX → Fr → Hp → List AD → Prop) → Prop
  | .seq x y, fr, H, D, Q => vcD P Γ n x fr H D (seqQD (vcD P Γ n y) Q)
  | .cond c x y, fr, H, D, Q => condK c fr (condQD (vcD P Γ n x) (vcD P Γ n y) H D Q)
  | .region id ops false, fr, H, D, Q => opsDf P Γ n ops.toList ops.toList fr H D (Q .normal)
  | c, fr, H, D, Q => vc P Γ H.length n c fr H (baseQD Q D)

theorem vcD_base (hΓ : TOK P Γ) {w0 : World} {L0 : NM} {n0 n : Nat} {c : Code} {fr : Fr} {H : Hp} {D : List AD} {Q : AX → Fr → Hp → List AD → Prop} {a : Act} {w : World}
    (h : vc P Γ H.length n c fr H (baseQD Q D)) (hR : RD w0 L0 n0 n fr H D a w) : c.wp P (PostD w0 L0 n0 n Q) a w := by
  obtain ⟨L, hr, hback⟩ := hR.open
  refine wp_mono (vc_sound hΓ c fr H _ a w h hr) ?_
  rintro e a' w' ⟨x, fr', H', rfl, hq, hr'⟩
  exact ⟨x, fr', H', D, rfl, hq, hback hr'⟩

theorem vcD_sound (hΓ : TOK P Γ) {w0 : World} {L0 : NM} {n0 n : Nat} : ∀ (c : Code) (fr : Fr) (H : Hp) (D : List AD) (Q : AX → Fr → Hp → List AD → Prop) (a : Act) (w : World), vcD P Γ n c fr H D Q → RD w0 L0 n0 n fr H D a w →
    c.wp P (PostD w0 L0 n0 n Q) a w := by
  intro c
  induction c with
  | seq x y ihx ihy =>
    intro fr H D Q a w h hR
    refine wp_seq (wp_mono (ihx fr H D _ a w h hR) ?_)
    rintro e a' w' ⟨x', fr', H', D', rfl, hq, hr⟩
    cases x' with
    | normal => exact ihy fr' H' D' Q a' w' hq hr
    | exit i => exact ⟨.exit i, fr', H', D', rfl, hq, hr⟩
    | goto l => exact ⟨.goto l, fr', H', D', rfl, hq, hr⟩
    | ret => exact ⟨.ret, fr', H', D', rfl, hq, hr⟩
  | cond c x y ihx ihy =>
    intro fr H D Q a w h hR
    obtain ⟨L, hr, hback⟩ := hR.open
    obtain ⟨b, fr', hk, hr, hc⟩ := condK_sound h hr
    refine wp_cond hc ?_
    cases b with
    | true => exact ihx fr' H D Q a w hk (hback hr)
    | false => exact ihy fr' H D Q a w hk (hback hr)
  | region id ops draw =>
    intro fr H D Q a w h hR
    cases draw with
    | false =>
      refine wp_region ?_
      rw [List.range_eq_range']
      have := opsDf_sound hΓ (ops := ops) (Q := PostD w0 L0 n0 n Q) (K := Q .normal) (fun fr H D a w hk hr => ⟨.normal, fr, H, D, rfl, hk, hr⟩) ops.toList 0 fr H D a w (fun i => by simp) h hR
      simpa using this
    | true => exact vcD_base hΓ h hR
  | skip => intro fr H D Q a w h hR; exact vcD_base hΓ h hR
  | block id x ih => intro fr H D Q a w h hR; exact vcD_base hΓ h hR
  | loop x ih => intro fr H D Q a w h hR; exact vcD_base hΓ h hR
  | rangeFunc _ _ _ _ _ _ => intro fr H D Q a w h hR; exact vcD_base hΓ h hR
  | exit id => intro fr H D Q a w h hR; exact vcD_base hΓ h hR
  | scope _ _ => intro fr H D Q a w h hR; exact vcD_base hΓ h hR
  | label l => intro fr H D Q a w h hR; exact vcD_base hΓ h hR
  | goto l => intro fr H D Q a w h hR; exact vcD_base hΓ h hR
  | ret => intro fr H D Q a w h hR; exact vcD_base hΓ h hR
  | refuse _ => intro fr H D Q a w h hR; exact vcD_base hΓ h hR

/-! ### What a deferred call does -/
def SCallsD (P : Program) (f : FuncId) (args : List FV) (H : Hp) (r : FV) (H' : Hp) : Prop :=
  (∃ fn, P.funcs[f]? = some fn ∧ fn.body.isNone = false ∧ (fn.name == "runtime.NumGoroutine") = false) ∧
  ∀ (u : FrameMode) (w : World) (L : NM) (vals : Array Value), HRep w L H → RepArgs w L args vals →
    CallsD P f vals u w fun e u' w' => u' = u ∧ ∃ v L', e = .returned v ∧ HRep w' L' H' ∧ repF w' L' r v ∧ Ev w L w' L'

/-- A function's body, told by the evaluator. -/
theorem body_wp (hΓ : TOK P Γ) {f : FuncId} {fn : Func} {args : List FV} {H : Hp} {r : FV} {H' : Hp} (h : vcFn P Γ H.length fn args H (RetK H.length r H')) :
    ∃ c, fn.body = some c ∧ (fn.name == "runtime.NumGoroutine") = false ∧ ∀ (w : World) (L : NM) (vals : Array Value), HRep w L H → RepArgs w L args vals →
      c.wp P (bodyPost P fn fun e w' => ∃ v L', e = .returned v ∧ HRep w' L' H' ∧ repF w' L' r v ∧ Ev w L w' L') { tmps := vals ++ Array.replicate (fn.ntmps - vals.size) undef, defers := [] } w := by
  unfold vcFn at h
  split at h
  · rename_i c hb hle hn
    refine ⟨c, hb, hn, fun w L vals hw ha => ?_⟩
    have hsz : (vals ++ Array.replicate (fn.ntmps - vals.size) undef).size = fn.ntmps := by
      have := ble_true hle
      have := ha.1
      simp; omega
    have hR : R ⟨w, []⟩ L H.length fn.ntmps (argFr args 0) H { tmps := vals ++ Array.replicate (fn.ntmps - vals.size) undef, defers := [] } w := by
      refine ⟨⟨L, hw, fun t => ?_, Ev.refl w L⟩, fun nm hnm => ?_, hsz, rfl⟩
      · rw [get_argFr, if_pos (Nat.zero_le _), Nat.sub_zero]
        cases ht : args[t]? with
        | none => trivial
        | some v =>
          obtain ⟨x, h1, h2⟩ := ha.2 t v ht
          have hlt : t < vals.size := (Array.getElem?_eq_some_iff.1 h1).1
          simp only [Option.getD_some, Array.getD_eq_getD_getElem?]
          rw [Array.getElem?_append_left hlt, h1]
          exact h2
      · rcases Nat.lt_or_ge nm H.length with h' | h'
        · exact h'
        · exact absurd (hw.unused nm (List.getElem?_eq_none h')) hnm
    refine wp_mono (vc_sound hΓ c _ _ _ _ _ h hR) ?_
    rintro e a w' ⟨x, fr, H1, rfl, hq, ⟨L1, g1, g2, g3⟩, g4, g5, g6⟩
    have fin : ∀ (v : FV), RetK H.length r H' v H1 → ∀ (rv : Value), repF w' L1 v rv → ∃ v' L', Ending.returned rv = .returned v' ∧ HRep w' L' H' ∧ repF w' L' r v' ∧ Ev w L w' L' := by
      rintro v ⟨⟨μ, k1, k2⟩⟩ rv hv
      exact ⟨rv, _, rfl, k1.hrep g1, k2 w' L1 _ rv ⟨g1, newL_ok H' μ _ L1⟩ hv, k1.ev g4 g3⟩
    cases x with
    | normal =>
      obtain ⟨v, h1, h2⟩ := retK_sound hΓ hq
      obtain ⟨rv, h3, h4⟩ := h2 w' L1 a g1 g2
      exact ⟨g6, rv, h3, fin v h1 rv h4⟩
    | ret =>
      obtain ⟨v, h1, h2⟩ := retK_sound hΓ hq
      obtain ⟨rv, h3, h4⟩ := h2 w' L1 a g1 g2
      exact ⟨g6, rv, h3, fin v h1 rv h4⟩
    | exit i => exact hq.elim
    | goto l => exact hq.elim
  · exact h.elim

theorem SCallsD.intro (hΓ : TOK P Γ) {f : FuncId} {fn : Func} (hf : P.funcs[f]? = some fn) {args : List FV} {H : Hp} {r : FV} {H' : Hp} (h : vcFn P Γ H.length fn args H (RetK H.length r H')) : SCallsD P f args H r H' := by
  obtain ⟨c, hb, hn, hw⟩ := body_wp (f := f) hΓ h
  exact ⟨⟨fn, hf, by rw [hb]; rfl, hn⟩, fun u w L vals h1 h2 => callsD_of_wp hf hb (hw w L vals h1 h2)⟩

structure CallKD (P : Program) (f : FuncId) (args : List FV) (H : Hp) (K : Hp → Prop) : Prop where
  out : ∃ r H', SCallsD P f args H r H' ∧ K H'
theorem CallKD.mk' {f : FuncId} {args : List FV} {H : Hp} {K : Hp → Prop} (r : FV) (H' : Hp) (h : SCallsD P f args H r H') (k : K H') : CallKD P f args H K := ⟨⟨r, H', h, k⟩⟩

/-- A function's end: the deferred calls, then the results. -/
def leaveD (P : Program) (Γ : Tab) (rs : List ResultVar) (fr : Fr) (K : FV → Hp → Prop) : List AD → Hp → Prop
  | [], H => retK Γ rs fr H fun v => K v H
  | d :: D, H => CallKD P d.f d.args H fun H' => leaveD P Γ rs fr K D H'

def endD (P : Program) (Γ : Tab) (rs : List ResultVar) (K : FV → Hp → Prop) (e : AX) (fr : Fr) (H : Hp) (D : List AD) : Prop :=
  match e with
  | .normal => leaveD P Γ rs fr K D H
  | .ret => leaveD P Γ rs fr K D H
  | _ => False

def vcFnD (P : Program) (Γ : Tab) (fn : Func) (args : List FV) (H : Hp) (K : FV → Hp → Prop) : Prop :=
  match fn.body, Nat.ble args.length fn.ntmps, fn.name == "runtime.NumGoroutine" with
  | some c, true, false => vcD P Γ fn.ntmps c (argFr args 0) H [] (endD P Γ fn.results.toList K)
  | _, _, _ => False

theorem leaves_of (hΓ : TOK P Γ) {fn : Func} {tmps : Array Value} {n0 : Nat} {r : FV} {H' : Hp} {w0 : World} {L0 : NM} (hb : ∀ nm, L0 nm ≠ none → nm < n0) {fr : Fr} (a : Act) (ha : a.tmps = tmps) :
    ∀ (D : List AD) (ds : List Deferred) (H : Hp) (w : World) (L : NM), leaveD P Γ fn.results.toList fr (RetK n0 r H') D H → HRep w L H → FRep w L fr a → DRs w L D ds → Ev w0 L0 w L →
      Leaves P fn tmps (fun e w' => ∃ v L', e = .returned v ∧ HRep w' L' H' ∧ repF w' L' r v ∧ Ev w0 L0 w' L') ds .returning w
  | [], [], H, w, L, h, h1, h2, _, h4 => by
    obtain ⟨v, g1, g2⟩ := retK_sound hΓ h
    obtain ⟨rv, g3, g4⟩ := g2 w L a h1 h2
    obtain ⟨⟨μ, k1, k2⟩⟩ := g1
    rw [ha] at g3
    exact ⟨rv, g3, rv, _, rfl, k1.hrep h1, k2 w L _ rv ⟨h1, newL_ok H' μ _ L⟩ g4, k1.ev hb h4⟩
  | d :: D, x :: ds, H, w, L, h, h1, h2, h3, h4 => by
    obtain ⟨r', H1, ⟨⟨fnx, q1, q2, q3⟩, hc⟩, hK⟩ := h.out
    obtain ⟨⟨caps, vals, rfl, hargs⟩, h3'⟩ := h3
    have hinv : (invoke (.fn (.func d.f) caps) vals).run P w = .ok (.enter d.f (vals ++ caps)) w := by
      simp only [invoke, callFunc, Sem.run_bind, run_program, Result.andThen_ok, q1, q3, q2, Bool.false_eq_true, if_false, Sem.run_pure]
    refine leaves_cons (by simp) hinv ((hc .returning w L _ h1 hargs).mono ?_)
    rintro e u' w' ⟨rfl, v, L', rfl, g1, g2, g3⟩
    exact leaves_of hΓ hb a ha D ds H1 w' L' hK g1 (h2.mono g3) (h3'.mono g3) (h4.trans g3)

theorem SCalls.introD (hΓ : TOK P Γ) {f : FuncId} {fn : Func} (hf : P.funcs[f]? = some fn) {args : List FV} {H : Hp} {r : FV} {H' : Hp} (h : vcFnD P Γ fn args H (RetK H.length r H')) : SCalls P f args H r H' := by
  unfold vcFnD at h
  split at h
  · rename_i c hb hle hn
    refine ⟨⟨fn, hf, by rw [hb]; rfl, hn⟩, fun w L vals hw ha => ?_⟩
    refine calls_of_wp_defers hf hb ?_
    have hsz : (vals ++ Array.replicate (fn.ntmps - vals.size) undef).size = fn.ntmps := by
      have := ble_true hle
      have := ha.1
      simp; omega
    have hbase : ∀ nm, L nm ≠ none → nm < H.length := fun nm hnm => by
      rcases Nat.lt_or_ge nm H.length with h' | h'
      · exact h'
      · exact absurd (hw.unused nm (List.getElem?_eq_none h')) hnm
    have hR : RD w L H.length fn.ntmps (argFr args 0) H [] { tmps := vals ++ Array.replicate (fn.ntmps - vals.size) undef, defers := [] } w := by
      refine ⟨⟨L, hw, fun t => ?_, trivial, Ev.refl w L⟩, hbase, hsz⟩
      rw [get_argFr, if_pos (Nat.zero_le _), Nat.sub_zero]
      cases ht : args[t]? with
      | none => trivial
      | some v =>
        obtain ⟨x, h1, h2⟩ := ha.2 t v ht
        have hlt : t < vals.size := (Array.getElem?_eq_some_iff.1 h1).1
        simp only [Option.getD_some, Array.getD_eq_getD_getElem?]
        rw [Array.getElem?_append_left hlt, h1]
        exact h2
    refine wp_mono (vcD_sound hΓ c _ _ _ _ _ _ h hR) ?_
    rintro e a w' ⟨x, fr, H1, D, rfl, hq, ⟨L1, g1, g2, g2', g3⟩, g4, g5⟩
    cases x with
    | normal => exact leaves_of hΓ g4 a rfl D a.defers H1 w' L1 hq g1 g2 g2' g3
    | ret => exact leaves_of hΓ g4 a rfl D a.defers H1 w' L1 hq g1 g2 g2' g3
    | exit i => exact hq.elim
    | goto l => exact hq.elim
  · exact h.elim
end Go.Sym

set_option linter.unusedVariables false
set_option linter.unusedSimpArgs false
namespace Go.Sym
open Go

variable {P : Program} {Γ : Tab}

/-! ### sync/atomic's functions and internal/race's marks -/
theorem ptr_at {w : World} {L : NM} {H : Hp} {nm base : Nat} {ob : OB} {x : Value} (hw : HRep w L H) (hH : H[nm]? = some (some ob)) (hx : repF w L (.s (.lf (.ptr nm base))) x) :
    ∃ b c fz, L nm = some (some b) ∧ x = .pointer (some ⟨b, base, none⟩) ∧ w.heap[b]? = some (.cells c ob.ty fz) ∧ FzOK fz c.size ∧ tot ob.segs ≤ c.size ∧ repA w L ob.segs c := by
  obtain ⟨b, c, fz, f1, f2, f3, f4, f5⟩ := hw.live nm ob hH
  simp only [repF, repS, rep, f1] at hx
  exact ⟨b, c, fz, f1, hx, f2, f3, f4, f5⟩

theorem cell_at {w : World} {L : NM} {segs : List Seg} {b : Nat} {c : Array Value} {t : TypeId} {fz : Nat × Nat} (hb : w.heap[b]? = some (.cells c t fz)) (hr : repA w L segs c) {o : Nat} (ho : o < tot segs) :
    ∃ y, w.cell? ⟨b, o, none⟩ = some y ∧ rep w L (cellD segs o) y := by
  obtain ⟨y, h1, h2, h3⟩ := hr o ho
  exact ⟨y, by rw [cell_of_block hb]; exact h1, h3⟩

theorem frozen_at {w : World} {b o : Nat} {c : Array Value} {t : TypeId} {fz : Nat × Nat} (hb : w.heap[b]? = some (.cells c t fz)) (hf : FzOK fz c.size) (ho : o < c.size) : w.frozen? ⟨b, o, none⟩ = false := by
  have := hf.out o ho
  simp only [World.frozen?, hb, Bool.and_eq_false_iff, decide_eq_false_iff_not]
  omega

theorem put_at {w : World} {L : NM} {H : Hp} {nm b o : Nat} {ob : OB} {c : Array Value} {fz : Nat × Nat} (hw : HRep w L H) (hH : H[nm]? = some (some ob)) (hL : L nm = some (some b)) (hb : w.heap[b]? = some (.cells c ob.ty fz))
    (h4 : tot ob.segs ≤ c.size) (h5 : repA w L ob.segs c) {l' : List Seg} {u : LV} (hp : Puts ob.segs l' o u) {x : Value} (hx : rep w L u x) :
    HRep (w.setCell ⟨b, o, none⟩ x) L (H.set nm (some ⟨ob.ty, l'⟩)) ∧ Ev w L (w.setCell ⟨b, o, none⟩ x) L := by
  have e : w.setCell ⟨b, o, none⟩ x = w.setRow b (wr c o [x]) := setCell_eq_setRow w b o c ob.ty fz x hb
  rw [e]
  exact hw.write hH hL hb (wr_size c o [x]) (ob' := ⟨ob.ty, l'⟩) rfl (by simp only; rw [hp.tot]; exact h4) (repA_puts hp h5 h4 hx)

theorem vals1 {w : World} {L : NM} {u : FV} {vals : Array Value} (h : RepArgs w L [u] vals) : ∃ x, vals = #[x] ∧ repF w L u x := by
  obtain ⟨h1, h2⟩ := h
  obtain ⟨x, hx, hr⟩ := h2 0 u rfl
  refine ⟨x, ?_, hr⟩
  apply Array.ext
  · simpa using h1
  · intro i a b
    have : i = 0 := by simp at b; exact b
    subst this
    simpa using (Array.getElem?_eq_some_iff.1 hx).2
theorem vals2 {w : World} {L : NM} {u v : FV} {vals : Array Value} (h : RepArgs w L [u, v] vals) : ∃ x y, vals = #[x, y] ∧ repF w L u x ∧ repF w L v y := by
  obtain ⟨h1, h2⟩ := h
  obtain ⟨x, hx, hr⟩ := h2 0 u rfl
  obtain ⟨y, hy, hs⟩ := h2 1 v rfl
  refine ⟨x, y, ?_, hr, hs⟩
  apply Array.ext
  · simpa using h1
  · intro i a b
    have : i = 0 ∨ i = 1 := by simp at b; omega
    rcases this with rfl | rfl
    · simpa using (Array.getElem?_eq_some_iff.1 hx).2
    · simpa using (Array.getElem?_eq_some_iff.1 hy).2
theorem vals3 {w : World} {L : NM} {u v t : FV} {vals : Array Value} (h : RepArgs w L [u, v, t] vals) : ∃ x y z, vals = #[x, y, z] ∧ repF w L u x ∧ repF w L v y ∧ repF w L t z := by
  obtain ⟨h1, h2⟩ := h
  obtain ⟨x, hx, hr⟩ := h2 0 u rfl
  obtain ⟨y, hy, hs⟩ := h2 1 v rfl
  obtain ⟨z, hz, ht⟩ := h2 2 t rfl
  refine ⟨x, y, z, ?_, hr, hs, ht⟩
  apply Array.ext
  · simpa using h1
  · intro i a b
    have : i = 0 ∨ i = 1 ∨ i = 2 := by simp at b; omega
    rcases this with rfl | rfl | rfl
    · simpa using (Array.getElem?_eq_some_iff.1 hx).2
    · simpa using (Array.getElem?_eq_some_iff.1 hy).2
    · simpa using (Array.getElem?_eq_some_iff.1 hz).2

section
variable {f : FuncId} {fn : Func} (hf : P.funcs[f]? = some fn) (hname : (fn.name == "runtime.NumGoroutine") = false) (hb : fn.body.isNone = true) (hn : Extern.findNext fn = none)
include hf hname hb hn

theorem sem_load (k : IntKind) (he : Extern.find fn = some (Extern.Atomic.loadT (.int k))) {H : Hp} {nm base : Nat} {ob : OB} (hH : H[nm]? = some (some ob)) {x : Int} (hlt : base < tot ob.segs) (hc : cellD ob.segs base = .int k x) :
    CallSem P f [.s (.lf (.ptr nm base))] H (.s (.lf (.int k x))) H := by
  intro w L vals hw ha o a next Q hnx
  obtain ⟨v, rfl, hv⟩ := vals1 ha
  obtain ⟨b, c, fz, f1, rfl, f2, f3, f4, f5⟩ := ptr_at hw hH hv
  obtain ⟨y, g1, g2⟩ := cell_at f2 f5 hlt
  rw [hc] at g2
  obtain ⟨rfl, g3⟩ := g2
  rw [run_call_load hf hname hb hn k he g1]
  exact hnx _ w L hw ⟨rfl, g3⟩ (Ev.refl w L)

theorem sem_store (he : Extern.find fn = some Extern.Atomic.storeT) {H : Hp} {nm base : Nat} {ob : OB} (hH : H[nm]? = some (some ob)) {k : IntKind} {y : Int} {l' : List Seg} (hp : Puts ob.segs l' base (.int k y)) :
    CallSem P f [.s (.lf (.ptr nm base)), .s (.lf (.int k y))] H (.tup []) (H.set nm (some ⟨ob.ty, l'⟩)) := by
  intro w L vals hw ha o a next Q hnx
  obtain ⟨v, u, rfl, hv, hu⟩ := vals2 ha
  obtain ⟨b, c, fz, f1, rfl, f2, f3, f4, f5⟩ := ptr_at hw hH hv
  obtain ⟨z, g1, g2⟩ := cell_at f2 f5 hp.lt
  have hu' : rep w L (.int k y) u := hu
  obtain ⟨k1, k2⟩ := put_at hw hH f1 f2 f4 f5 hp hu'
  have hue : u = .int k y := hu'.1
  subst hue
  rw [run_call_store hf hname hb hn he g1 (frozen_at f2 f3 (by have := hp.lt; omega))]
  exact hnx _ _ L k1 ⟨#[], rfl, rfl, fun i hi => by simp at hi⟩ k2

theorem sem_cas (k : IntKind) (he : Extern.find fn = some (Extern.Atomic.casT (.int k))) {H : Hp} {nm base : Nat} {ob : OB} (hH : H[nm]? = some (some ob)) {x y : Int} (hc : cellD ob.segs base = .int k x) {l' : List Seg} (hp : Puts ob.segs l' base (.int k y)) :
    CallSem P f [.s (.lf (.ptr nm base)), .s (.lf (.int k x)), .s (.lf (.int k y))] H (.s (.lf .tt)) (H.set nm (some ⟨ob.ty, l'⟩)) := by
  intro w L vals hw ha o a next Q hnx
  obtain ⟨v, u, t, rfl, hv, hu, ht⟩ := vals3 ha
  obtain ⟨b, c, fz, f1, rfl, f2, f3, f4, f5⟩ := ptr_at hw hH hv
  obtain ⟨z, g1, g2⟩ := cell_at f2 f5 hp.lt
  rw [hc] at g2
  have ht' : rep w L (.int k y) t := ht
  have hu' : rep w L (.int k x) u := hu
  obtain ⟨k1, k2⟩ := put_at hw hH f1 f2 f4 f5 hp ht'
  have e1 : t = .int k y := ht'.1
  have e2 : u = .int k x := hu'.1
  have e3 : z = .int k x := g2.1
  subst e1 e2 e3
  rw [run_call_cas_hit hf hname hb hn k he g1 (frozen_at f2 f3 (by have := hp.lt; omega))]
  exact hnx _ _ L k1 rfl k2

theorem sem_add (k : IntKind) (he : Extern.find fn = some (Extern.Atomic.update (Op.intArith .add) k true)) {H : Hp} {nm base : Nat} {ob : OB} (hH : H[nm]? = some (some ob)) {x y s : Int} (hc : cellD ob.segs base = .int k x) {l' : List Seg} (hp : Puts ob.segs l' base (.int k s))
    (hs : ∀ w : World, (Op.intArith .add k x y).run P w = .ok (.int k s) w) (hr : k.min ≤ s ∧ s ≤ k.max) :
    CallSem P f [.s (.lf (.ptr nm base)), .s (.lf (.int k y))] H (.s (.lf (.int k s))) (H.set nm (some ⟨ob.ty, l'⟩)) := by
  intro w L vals hw ha o a next Q hnx
  obtain ⟨v, u, rfl, hv, hu⟩ := vals2 ha
  obtain ⟨b, c, fz, f1, rfl, f2, f3, f4, f5⟩ := ptr_at hw hH hv
  obtain ⟨z, g1, g2⟩ := cell_at f2 f5 hp.lt
  rw [hc] at g2
  have hu' : rep w L (.int k y) u := hu
  have e2 : u = .int k y := hu'.1
  have e3 : z = .int k x := g2.1
  subst e2 e3
  obtain ⟨k1, k2⟩ := put_at hw hH f1 f2 f4 f5 hp (x := .int k s) ⟨rfl, hr⟩
  rw [run_call_add hf hname hb hn k he g1 (frozen_at f2 f3 (by have := hp.lt; omega)) (hs w)]
  exact hnx _ _ L k1 ⟨rfl, hr⟩ k2

theorem sem_mark0 (m : Mark) (he : Extern.find fn = some (fun _ => do mark m; pure Extern.Race.none_)) {H : Hp} : CallSem P f [] H (.tup []) H := by
  intro w L vals hw ha o a next Q hnx
  have hv : vals = #[] := by
    have := ha.1
    apply Array.ext
    · simpa using this
    · intro i h1 h2; simp at h2
  subst hv
  rw [run_call_mark0 hf hname hb hn m he]
  exact hnx _ w L hw ⟨#[], rfl, rfl, fun i hi => by simp at hi⟩ (Ev.refl w L)

theorem sem_marked (m : Addr → Mark) (he : Extern.find fn = some (Extern.Race.marked m)) {H : Hp} {nm base : Nat} {ob : OB} (hH : H[nm]? = some (some ob)) : CallSem P f [.s (.lf (.ptr nm base))] H (.tup []) H := by
  intro w L vals hw ha o a next Q hnx
  obtain ⟨v, rfl, hv⟩ := vals1 ha
  obtain ⟨b, c, fz, f1, rfl, f2, f3, f4, f5⟩ := ptr_at hw hH hv
  rw [run_call_marked hf hname hb hn m he]
  exact hnx _ w L hw ⟨#[], rfl, rfl, fun i hi => by simp at hi⟩ (Ev.refl w L)
end

/-- A pointer, handed on without its type. -/
theorem sem_unsafe {o : Oper} {src dst t : TypeId} {x : Operand} (ho : o.op = .convert src dst x) (hs : P.underlying src = some (.pointer t)) (hd : P.underlying dst = some .unsafePointer) (hsz : (P.info? t).map (fun i => decide (i.size = 0)) = some false)
    {vs : Operand → FV} {H : Hp} {nm base : Nat} (hx : vs x = .s (.lf (.ptr nm base))) {ob : OB} (hH : H[nm]? = some (some ob)) (hlt : base < tot ob.segs) : OpSem P o vs H (.s (.lf (.ptr nm base))) H := by
  intro w L a hw hvs next Q hnx
  have hv := hvs x (by rw [ho]; simp [Op.operands])
  rw [hx] at hv
  have hv0 := hv
  obtain ⟨b, c, fz, f1, he, f2, f3, f4, f5⟩ := ptr_at hw hH hv
  obtain ⟨y, g1, g2⟩ := cell_at f2 f5 hlt
  unfold Oper.wp
  have hrun : (execOp a.eval o).run P w = .ok (.value (a.eval x)) w := by
    simp only [execOp, ho]
    rw [he]
    simp only [Sem.run_bind, run_convert_to_unsafe hs hd hsz g1, Result.andThen_ok, Sem.run_pure]
  rw [hrun]
  exact hnx _ w L hw hv0 (Ev.refl w L)
end Go.Sym

set_option linter.unusedVariables false
set_option linter.unusedSimpArgs false
namespace Go.Sym
open Go

variable {P : Program} {Γ : Tab}

/-! ### Heaps whose names are all known, by evaluation -/
def knownB (H : Hp) (nm : Nat) : Bool := Nat.blt nm H.length

def okLB (H : Hp) : LV → Bool
  | .ptr nm _ => knownB H nm
  | .pti nm _ _ _ _ => knownB H nm
  | .own nm _ _ _ _ => knownB H nm
  | .rob _ _ _ => true
  | .int _ _ => true
  | .str _ => true
  | .bool _ => true
  | .tt => true
  | .ff => true
  | .nilp => true
  | .sl0 => true
  | .nilf => true
  | .nili => true
  | _ => false

def okGsB (H : Hp) : List Seg → Bool
  | [] => true
  | .one v :: l => okLB H v && okGsB H l
  | .bytes _ _ :: l => okGsB H l
  | .ints _ _ _ :: l => okGsB H l
  | .recs st n f :: l => allB n (fun i => allB st fun j => okLB H (f i j)) && okGsB H l

def okHB (H : Hp) : Hp → Bool
  | [] => true
  | none :: l => okHB H l
  | some a :: l => okGsB H a.segs && okHB H l

theorem knownB_ok {H : Hp} {nm : Nat} (h : knownB H nm = true) : known H nm := by
  have := blt_true h
  unfold known
  rw [List.getElem?_eq_getElem this]
  rfl

theorem okLB_ok {H : Hp} {v : LV} (h : okLB H v = true) : okL H v := by
  cases v <;> first | exact trivial | (simp [okLB] at h; done) | exact knownB_ok h

theorem okGsB_ok {H : Hp} : ∀ {l : List Seg}, okGsB H l = true → okGs H l
  | [], _ => trivial
  | .one v :: l, h => by
    simp only [okGsB, Bool.and_eq_true] at h
    exact ⟨okLB_ok h.1, okGsB_ok h.2⟩
  | .bytes _ _ :: l, h => ⟨trivial, okGsB_ok (l := l) h⟩
  | .ints _ _ _ :: l, h => ⟨trivial, okGsB_ok (l := l) h⟩
  | .recs st n f :: l, h => by
    simp only [okGsB, Bool.and_eq_true] at h
    exact ⟨fun i hi j hj => okLB_ok (allB_get (allB_get h.1 hi) hj), okGsB_ok h.2⟩

theorem HpW.okB {H0 H1 : Hp} : ∀ {l : Hp}, okHB H1 l = true → HpW (DownI H0 H1) l l
  | [], _ => trivial
  | none :: l, h => HpW.okB (l := l) h
  | some a :: l, h => by
    simp only [okHB, Bool.and_eq_true] at h
    exact ⟨rfl, (okGsB_ok h.1).ws, HpW.okB h.2⟩

/-- A return over the same heap. -/
theorem RetK.same {n0 : Nat} {r : FV} {H : Hp} {v : FV} (h : okHB H H = true) (hn : n0 ≤ H.length) (hv : WV (DownI H H) v r) : RetK n0 r H v H := RetK.of (HpW.okB h) hn hv
/-- A return over the same heap, with blocks of its own behind it that are left. -/
theorem HpW.append {D : Rel} : ∀ {l m : Hp} (k : Hp), HpW D l m → HpW D (l ++ k) m
  | l, [], k, _ => HpW.nil
  | [], _ :: _, _, h => h.elim
  | some _ :: _, some _ :: _, k, h => ⟨h.1, h.2.1, HpW.append k h.2.2⟩
  | some _ :: l, none :: m, k, h => HpW.append (l := l) (m := m) k h
  | none :: l, none :: m, k, h => HpW.append (l := l) (m := m) k h
  | none :: _, some _ :: _, k, h => h.elim
theorem RetK.more {n0 : Nat} {r : FV} {H : Hp} (k : Hp) {v : FV} (h : okHB H H = true) (hn : n0 ≤ H.length) (hv : WV (DownI (H ++ k) H) v r) : RetK n0 r H v (H ++ k) := RetK.of (HpW.append k (HpW.okB h)) hn hv
end Go.Sym

set_option linter.unusedVariables false
set_option linter.unusedSimpArgs false
namespace Go.Sym
open Go

variable {P : Program} {Γ : Tab}

/-! ### Calls on the first blocks of a heap -/
def ρt (m n : Nat) (nm : Nat) : Option Nat := match Nat.blt nm m with
  | true => some nm
  | false => (match Nat.blt nm n with | true => none | false => some (nm - n + m))

theorem ρt_lt {m n nm : Nat} (h : nm < m) : ρt m n nm = some nm := by
  have : Nat.blt nm m = true := by simp [Nat.blt, Nat.ble_eq]; omega
  simp [ρt, this]
theorem blt_ge {a b : Nat} (h : b ≤ a) : Nat.blt a b = false := by
  cases hb : Nat.blt a b
  · rfl
  · have := blt_true hb; omega
theorem ρt_mid {m n nm : Nat} (h : m ≤ nm) (h' : nm < n) : ρt m n nm = none := by
  have : Nat.blt nm n = true := by simp [Nat.blt, Nat.ble_eq]; omega
  simp [ρt, this, blt_ge h]
theorem ρt_ge {m n nm : Nat} (hmn : m ≤ n) (h : n ≤ nm) : ρt m n nm = some (nm - n + m) := by
  simp [ρt, blt_ge h, blt_ge (Nat.le_trans hmn h)]

theorem okLB_up {H : Hp} {ρ : Nat → Option Nat} (hρ : ∀ nm, nm < H.length → ρ nm = some nm) {v : LV} (h : okLB H v = true) : WL (Up ρ True) v v := by
  cases v <;> first
    | (simp [okLB] at h; done)
    | exact fun _ _ _ _ _ hx => hx
    | exact WL.rob rfl (fun h => h) (fun h => h)
    | exact WL.uptr (hρ _ (blt_true h))
    | exact WL.upti (hρ _ (blt_true h)) rfl rfl
    | exact WL.uown (hρ _ (blt_true h)) rfl rfl

theorem okGsB_up {H : Hp} {ρ : Nat → Option Nat} (hρ : ∀ nm, nm < H.length → ρ nm = some nm) : ∀ {l : List Seg}, okGsB H l = true → WSs (Up ρ True) l l
  | [], _ => trivial
  | .one v :: l, h => by
    simp only [okGsB, Bool.and_eq_true] at h
    exact ⟨.one (okLB_up hρ h.1), okGsB_up hρ h.2⟩
  | .bytes _ _ :: l, h => ⟨.bytes rfl fun _ _ => rfl, okGsB_up (l := l) hρ h⟩
  | .ints _ _ _ :: l, h => ⟨.ints rfl fun _ _ => rfl, okGsB_up (l := l) hρ h⟩
  | .recs st n f :: l, h => by
    simp only [okGsB, Bool.and_eq_true] at h
    exact ⟨.recs rfl fun i hi j hj => okLB_up hρ (allB_get (allB_get h.1 hi) hj), okGsB_up hρ h.2⟩

def okFsB (H : Hp) : List FV → Bool
  | [] => true
  | .s (.lf v) :: l => okLB H v && okFsB H l
  | _ :: _ => false

theorem okFsB_ok {H H0 : Hp} {hid : Nat → Prop} : ∀ {l : List FV}, okFsB H l = true → WVs' (Down H0 H id hid) l l
  | [], _ => trivial
  | .s (.lf v) :: l, h => by
    simp only [okFsB, Bool.and_eq_true] at h
    exact ⟨WV.lf (okL.wl (okLB_ok h.1)), okFsB_ok h.2⟩
  | .s (.agg _) :: _, h => by simp [okFsB] at h
  | .tup _ :: _, h => by simp [okFsB] at h

theorem okHB_get {H0 : Hp} : ∀ {l : Hp} {i : Nat} {ob : OB}, okHB H0 l = true → l[i]? = some (some ob) → okGsB H0 ob.segs = true
  | [], i, ob, _, h => by simp at h
  | none :: l, i, ob, h, hi => by
    cases i with
    | zero => simp at hi
    | succ i => exact okHB_get (l := l) (i := i) h (by simpa using hi)
  | some a :: l, i, ob, h, hi => by
    simp only [okHB, Bool.and_eq_true] at h
    cases i with
    | zero => simp at hi; subst hi; exact h.1
    | succ i => exact okHB_get (l := l) (i := i) h.2 (by simpa using hi)

def liveHB : Hp → Bool
  | [] => true
  | some _ :: l => liveHB l
  | none :: _ => false

theorem liveHB_get : ∀ {l : Hp} {i : Nat}, liveHB l = true → i < l.length → ∃ ob, l[i]? = some (some ob)
  | [], i, _, h => by simp at h
  | none :: _, _, h, _ => by simp [liveHB] at h
  | some a :: l, 0, _, _ => ⟨a, rfl⟩
  | some a :: l, i + 1, h, hi => by simpa using liveHB_get (l := l) (i := i) h (by simpa using hi)

theorem SCalls.tail {f : FuncId} {args : List FV} {Hs : Hp} {r : FV} {Hs' : Hp} (h : SCalls P f args Hs r Hs') (k : Hp) (hl : Hs'.length = Hs.length) (hv : liveHB Hs = true) (hb : okHB Hs Hs = true) (hb' : okHB Hs' Hs' = true) (ha : okFsB Hs args = true) (hr : freeF r) :
    SCalls P f args (Hs ++ k) r (Hs' ++ k) := by
  have hρ : ∀ nm, nm < Hs.length → ρt Hs.length (Hs ++ k).length nm = some nm := fun nm h => ρt_lt h
  have hge : ∀ nm, (Hs ++ k).length ≤ nm → ρt Hs.length (Hs ++ k).length nm = some (nm - (Hs ++ k).length + Hs.length) := fun nm h => ρt_ge (by simp) h
  refine h.frame (μ := id) (hid := fun nm => Hs.length ≤ nm) (ρ := ρt Hs.length (Hs ++ k).length) (nb := True) ⟨fun i ob hi => ?_, fun i j a b _ _ e => e, fun i ob hi => ?_⟩ (okFsB_ok ha) ⟨hge, fun nm i hn hi => ?_, fun i ob hi => ?_, fun nm hn h0 => ?_, fun nm i hi h0 => ?_, fun nm i hi h0 => ?_, fun nm i ob hi h0 => ?_⟩ hr.wv (fun _ nm hn h0 => ?_)
  · have hlt : i < Hs.length := (List.getElem?_eq_some_iff.1 hi).1
    exact ⟨ob, by rw [id, List.getElem?_append_left hlt]; exact hi, rfl, (okGsB_ok (okHB_get hb hi)).ws.ws⟩
  · have hlt : i < Hs.length := (List.getElem?_eq_some_iff.1 hi).1
    exact fun h => by have : Hs.length ≤ i := h; omega
  · rcases Nat.lt_or_ge nm Hs.length with g | g
    · rw [hρ nm g] at hi
      simp only [Option.some.injEq] at hi
      subst hi
      exact ⟨g, liveHB_get hv g, rfl⟩
    · rw [ρt_mid g hn] at hi; simp at hi
  · exact hρ i (List.getElem?_eq_some_iff.1 hi).1
  · rcases Nat.lt_or_ge nm Hs.length with g | g
    · rw [hρ nm g] at h0; simp at h0
    · rw [List.getElem?_append_right (by omega), List.getElem?_append_right g, hl]
  all_goals
    rcases Nat.lt_or_ge nm Hs.length with g | g
    · first
        | (rw [hρ nm g] at hi; simp only [Option.some.injEq] at hi; subst hi; rw [List.getElem?_append_left (by omega)]; first | exact h0 | exact ⟨ob, h0, rfl, (okGsB_up (fun nm h => by rw [hl] at h; exact hρ nm h) (okHB_get hb' h0)).ws⟩)
        | (rw [hρ nm g] at h0; simp at h0)
    · first
        | exact g
        | (rcases Nat.lt_or_ge nm (Hs ++ k).length with q | q
           · rw [ρt_mid g q] at hi; simp at hi
           · rw [hge nm q] at hi
             simp only [Option.some.injEq] at hi
             subst hi
             first
               | (have := (List.getElem?_eq_some_iff.1 h0).1; rw [hl] at this; omega)
               | exact List.getElem?_eq_none (by simp at q ⊢; omega))
end Go.Sym

set_option linter.unusedVariables false
namespace Go.Sym
open Go Go.ChangeShapes

/-! ### Laws of more parameters -/
theorem trodAll_five {H : Type} {enc : TypeId × Value → H} {P : Program} {w : World} {base : Nat} {spare : Nat → Bool} {held : Bool} {t0 t1 t2 t3 t4 : TypeId} {args : Array Value} {ds : List (DataW H)} {ps : List MemPlace} (h : DataW.TrodAll enc P w base spare held [t0, t1, t2, t3, t4] args.toList ds ps) :
    ∃ v0 v1 v2 v3 v4 d0 d1 d2 d3 d4 p0 p1 p2 p3 p4, args = #[v0, v1, v2, v3, v4] ∧ ds = [d0, d1, d2, d3, d4] ∧ ps = p0 ++ p1 ++ p2 ++ p3 ++ p4 ∧ DataW.Trod enc P w base spare held t0 v0 d0 p0 ∧ DataW.Trod enc P w base spare held t1 v1 d1 p1 ∧ DataW.Trod enc P w base spare held t2 v2 d2 p2 ∧ DataW.Trod enc P w base spare held t3 v3 d3 p3 ∧ DataW.Trod enc P w base spare held t4 v4 d4 p4 := by
  obtain ⟨v0, w0, d0, e0, p0, q0, hargs, rfl, rfl, h0, g0⟩ := trodAll_cons h
  obtain ⟨v1, w1, d1, e1, p1, q1, rfl, rfl, rfl, h1, g1⟩ := trodAll_cons g0
  obtain ⟨v2, w2, d2, e2, p2, q2, rfl, rfl, rfl, h2, g2⟩ := trodAll_cons g1
  obtain ⟨v3, w3, d3, e3, p3, q3, rfl, rfl, rfl, h3, g3⟩ := trodAll_cons g2
  obtain ⟨v4, w4, d4, e4, p4, q4, rfl, rfl, rfl, h4, g4⟩ := trodAll_cons g3
  obtain ⟨rfl, rfl, rfl⟩ := trodAll_nil g4
  exact ⟨v0, v1, v2, v3, v4, d0, d1, d2, d3, d4, p0, p1, p2, p3, p4, by cases args; simp_all, rfl, by simp, h0, h1, h2, h3, h4⟩

theorem trodAll_six {H : Type} {enc : TypeId × Value → H} {P : Program} {w : World} {base : Nat} {spare : Nat → Bool} {held : Bool} {t0 t1 t2 t3 t4 t5 : TypeId} {args : Array Value} {ds : List (DataW H)} {ps : List MemPlace} (h : DataW.TrodAll enc P w base spare held [t0, t1, t2, t3, t4, t5] args.toList ds ps) :
    ∃ v0 v1 v2 v3 v4 v5 d0 d1 d2 d3 d4 d5 p0 p1 p2 p3 p4 p5, args = #[v0, v1, v2, v3, v4, v5] ∧ ds = [d0, d1, d2, d3, d4, d5] ∧ ps = p0 ++ p1 ++ p2 ++ p3 ++ p4 ++ p5 ∧ DataW.Trod enc P w base spare held t0 v0 d0 p0 ∧ DataW.Trod enc P w base spare held t1 v1 d1 p1 ∧ DataW.Trod enc P w base spare held t2 v2 d2 p2 ∧ DataW.Trod enc P w base spare held t3 v3 d3 p3 ∧ DataW.Trod enc P w base spare held t4 v4 d4 p4 ∧ DataW.Trod enc P w base spare held t5 v5 d5 p5 := by
  obtain ⟨v0, w0, d0, e0, p0, q0, hargs, rfl, rfl, h0, g0⟩ := trodAll_cons h
  obtain ⟨v1, w1, d1, e1, p1, q1, rfl, rfl, rfl, h1, g1⟩ := trodAll_cons g0
  obtain ⟨v2, w2, d2, e2, p2, q2, rfl, rfl, rfl, h2, g2⟩ := trodAll_cons g1
  obtain ⟨v3, w3, d3, e3, p3, q3, rfl, rfl, rfl, h3, g3⟩ := trodAll_cons g2
  obtain ⟨v4, w4, d4, e4, p4, q4, rfl, rfl, rfl, h4, g4⟩ := trodAll_cons g3
  obtain ⟨v5, w5, d5, e5, p5, q5, rfl, rfl, rfl, h5, g5⟩ := trodAll_cons g4
  obtain ⟨rfl, rfl, rfl⟩ := trodAll_nil g5
  exact ⟨v0, v1, v2, v3, v4, v5, d0, d1, d2, d3, d4, d5, p0, p1, p2, p3, p4, p5, by cases args; simp_all, rfl, by simp, h0, h1, h2, h3, h4, h5⟩

end Go.Sym

