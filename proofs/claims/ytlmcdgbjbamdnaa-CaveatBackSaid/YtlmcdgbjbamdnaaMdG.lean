/- Contracts of the program's functions, proved by the framework (text MdG), without conditions but those that each theorem states. -/
import Derived.Test.YtlmcdgbjbamdnaaPoHF
set_option linter.unusedVariables false
set_option linter.unusedSimpArgs false
set_option maxRecDepth 10000
namespace Go.Sym.Md
open Go Go.Sym

/-! ### What a reader reads -/
structure Rd where
  l : List UInt8
  e : Int

/-- Nothing is left behind an error. -/
structure Rd.ok (r : Rd) : Prop where
  nil : r.e ≠ 0 → r.l = []
  lo : IntKind.i64.min ≤ r.e
  hi : r.e ≤ IntKind.i64.max
  len : r.l.length ≤ 140737488355328

def failR (r : Rd) (e : Int) : Rd := if r.e = 0 ∧ e ≠ 0 then ⟨[], e⟩ else r

/-- How many bytes a number has that stands ahead, and the error if none does. -/
def wF : List UInt8 → Nat → Nat × Int
  | [], _ => (0, 4)
  | x :: l, i => if (i = 0 ∧ x.toNat = 128) ∨ (i = 8 ∧ 128 ≤ x.toNat) then (0, 3) else if x.toNat < 128 then (i + 1, 0) else wF l (i + 1)

/-- The number that bytes are. -/
def valF (l : List UInt8) (n : Nat) : Nat := (l.take n).foldl (fun n x => n * 128 + x.toNat % 128) 0

def numR (r : Rd) (most : Int) : Int × Rd :=
  if r.e ≠ 0 then (0, r) else
  if (wF r.l 0).2 ≠ 0 then (0, ⟨[], (wF r.l 0).2⟩) else
  if most < (valF r.l (wF r.l 0).1 : Int) then (0, ⟨[], 5⟩) else ((valF r.l (wF r.l 0).1 : Int), ⟨r.l.drop (wF r.l 0).1, 0⟩)

def textR (r : Rd) (most : Int) : List UInt8 × Rd :=
  if (numR r most).2.e ≠ 0 then ([], (numR r most).2) else
  if (numR r most).2.l.length < (numR r most).1.toNat then ([], ⟨[], 4⟩) else
  ((numR r most).2.l.take (numR r most).1.toNat, ⟨(numR r most).2.l.drop (numR r most).1.toNat, 0⟩)

theorem wF_le : ∀ (l : List UInt8) (i : Nat), i ≤ 8 → (wF l i).1 ≤ 9 ∧ (wF l i).1 ≤ l.length + i ∧ ((wF l i).2 = 0 → i < (wF l i).1) ∧ ((wF l i).2 = 0 ∨ (wF l i).2 = 3 ∨ (wF l i).2 = 4)
  | [], i, h => by simp [wF]
  | x :: l, i, h => by
    unfold wF
    split
    · simp
    · split
      · simp; omega
      · rename_i h1 h2
        have := wF_le l (i + 1) (by omega)
        simp only [List.length_cons]
        omega

theorem valF_zero (l : List UInt8) : valF l 0 = 0 := rfl
theorem valF_succ (l : List UInt8) (n : Nat) (h : n < l.length) : valF l (n + 1) = valF l n * 128 + (l.getD n 0).toNat % 128 := by
  unfold valF
  rw [List.take_add_one, List.foldl_append]
  simp [List.getElem?_eq_getElem h, List.getD_eq_getElem?_getD]

theorem valF_lt (l : List UInt8) (n : Nat) (h : n ≤ l.length) : valF l n < 128 ^ n := by
  induction n with
  | zero => simp [valF]
  | succ n ih =>
    rw [valF_succ l n (by omega), Nat.pow_succ]
    have := ih (by omega)
    omega

theorem valF_small (l : List UInt8) (n : Nat) (h : n ≤ l.length) (h9 : n ≤ 9) : valF l n < 9223372036854775808 :=
  Nat.lt_of_lt_of_le (valF_lt l n h) (by have := Nat.pow_le_pow_right (show 0 < 128 by omega) h9; omega)

/-- The width, from a byte on. -/
theorem wF_step (l : List UInt8) (i : Nat) (h : i < l.length) : wF (l.drop i) i = if (i = 0 ∧ (l.getD i 0).toNat = 128) ∨ (i = 8 ∧ 128 ≤ (l.getD i 0).toNat) then (0, 3) else if (l.getD i 0).toNat < 128 then (i + 1, 0) else wF (l.drop (i + 1)) (i + 1) := by
  rw [List.drop_eq_getElem_cons h, wF]
  simp only [List.getD_eq_getElem?_getD, List.getElem?_eq_getElem h, Option.getD_some]

theorem failR_ok {r : Rd} (h : r.ok) {e : Int} (h1 : IntKind.i64.min ≤ e) (h2 : e ≤ IntKind.i64.max) : (failR r e).ok := by
  unfold failR
  split
  · exact ⟨fun _ => rfl, h1, h2, by simp⟩
  · exact h

theorem numR_ok {r : Rd} (h : r.ok) (most : Int) : (numR r most).2.ok := by
  unfold numR
  split
  · exact h
  · have := wF_le r.l 0 (by omega)
    split
    · exact ⟨fun _ => rfl, by have : IntKind.i64.min = -9223372036854775808 := rfl; rw [this]; show _ ≤ (wF r.l 0).2; omega, by have : IntKind.i64.max = 9223372036854775807 := rfl; rw [this]; show (wF r.l 0).2 ≤ _; omega, by simp⟩
    · split
      · exact ⟨fun _ => rfl, by decide, by decide, by simp⟩
      · exact ⟨fun h => absurd rfl h, by show IntKind.i64.min ≤ 0; decide, by show (0:Int) ≤ IntKind.i64.max; decide, by have := h.len; simp; omega⟩

theorem numR_range {r : Rd} (h : r.ok) (most : Int) : 0 ≤ (numR r most).1 ∧ (numR r most).1 < 9223372036854775808 ∧ (0 ≤ most → (numR r most).1 ≤ most) := by
  unfold numR
  split
  · simp
  · split
    · simp
    · split
      · simp
      · have := wF_le r.l 0 (by omega)
        have := valF_small r.l (wF r.l 0).1 (by omega) (by omega)
        simp only []
        omega

theorem textR_ok {r : Rd} (h : r.ok) (most : Int) : (textR r most).2.ok := by
  have h1 := numR_ok h most
  unfold textR
  split
  · exact h1
  · split
    · exact ⟨fun _ => rfl, by decide, by decide, by simp⟩
    · exact ⟨fun h => absurd rfl h, by show IntKind.i64.min ≤ 0; decide, by show (0:Int) ≤ IntKind.i64.max; decide, by have := h1.len; simp; omega⟩

theorem textR_len {r : Rd} (h : r.ok) (most : Int) (h0 : 0 ≤ most) : ((textR r most).1.length : Int) ≤ most := by
  have h1 := numR_range h most
  unfold textR
  split
  · simpa using h0
  · split
    · simpa using h0
    · simp only [List.length_take]; omega
end Go.Sym.Md
