/- Contracts of the program's functions, proved by the framework (text ShT), without conditions but those that each theorem states. -/
import Derived.Test.YtlmcdgbjbamdnaaShS
set_option linter.unusedVariables false
set_option linter.unusedSimpArgs false
namespace Go.Sym.Sh
open Go Go.Sym

/-! ### Sums, part by part -/
/-- What a hash holds. -/
structure St where
  h : List UInt32
  p : List UInt8
  n : Nat

def step1 (s : St) (x : UInt8) : St :=
  ⟨if (s.n + 1) % 64 = 0 then blockF s.h (s.p.set (s.n % 64) x) else s.h, s.p.set (s.n % 64) x, s.n + 1⟩

def writeF (s : St) (b : List UInt8) : St := b.foldl step1 s

def st0 : St := ⟨H0w, List.replicate 64 0, 0⟩

structure St.ok (s : St) : Prop where
  h : s.h.length = 8
  p : s.p.length = 64

theorem step1_ok {s : St} (hs : s.ok) (x : UInt8) : (step1 s x).ok := by
  refine ⟨?_, by simp [step1, hs.p]⟩
  simp only [step1]
  split
  · exact blockF_length _ _ hs.h
  · exact hs.h

theorem writeF_ok {s : St} (hs : s.ok) (b : List UInt8) : (writeF s b).ok := by
  induction b generalizing s with
  | nil => exact hs
  | cons x b ih => exact ih (step1_ok hs x)

theorem writeF_n (s : St) (b : List UInt8) : (writeF s b).n = s.n + b.length := by
  induction b generalizing s with
  | nil => rfl
  | cons x b ih =>
    show (writeF (step1 s x) b).n = _
    rw [ih]; simp [step1]; omega

theorem writeF_append (s : St) (a b : List UInt8) : writeF s (a ++ b) = writeF (writeF s a) b := by simp [writeF, List.foldl_append]

/-- A piece that stays within a block. -/
theorem writeF_piece (b : List UInt8) : ∀ (s : St), s.p.length = 64 → 0 < b.length → s.n % 64 + b.length ≤ 64 →
    writeF s b = ⟨if (s.n + b.length) % 64 = 0 then blockF s.h (spl s.p (s.n % 64) b) else s.h, spl s.p (s.n % 64) b, s.n + b.length⟩ := by
  induction b with
  | nil => intro s _ h; simp at h
  | cons x b ih =>
    intro s hp _ hle
    simp only [List.length_cons] at hle
    cases hb : b with
    | nil =>
      have : spl s.p (s.n % 64) [x] = s.p.set (s.n % 64) x := by
        simp only [spl, List.length_cons, List.length_nil]
        rw [List.set_eq_take_append_cons_drop, if_pos (by omega)]
        simp
      simp [writeF, step1, this]
    | cons y b' =>
      rw [← hb]
      have hbl : 0 < b.length := by rw [hb]; simp
      have hm : (s.n + 1) % 64 = s.n % 64 + 1 := by omega
      have h1 : step1 s x = ⟨s.h, s.p.set (s.n % 64) x, s.n + 1⟩ := by
        simp only [step1]; rw [if_neg (by omega)]
      show writeF (step1 s x) b = _
      rw [ih (step1 s x) (by rw [h1]; simp [hp]) hbl (by rw [h1]; simp only; omega), h1]
      simp only
      have hsp : spl (s.p.set (s.n % 64) x) ((s.n + 1) % 64) b = spl s.p (s.n % 64) (x :: b) := by
        rw [hm]
        generalize s.n % 64 = k at *
        simp only [spl, List.length_cons]
        have l1 : (s.p.take k).length = k := by rw [List.length_take]; omega
        have e : s.p.set k x = s.p.take k ++ x :: s.p.drop (k + 1) := by rw [List.set_eq_take_append_cons_drop, if_pos (by omega)]
        have e1 : (s.p.set k x).take (k + 1) = s.p.take k ++ [x] := by
          rw [e, List.take_append, l1, List.take_of_length_le (by omega), show k + 1 - k = 1 by omega]; rfl
        have e2 : (s.p.set k x).drop (k + 1 + b.length) = s.p.drop (k + (b.length + 1)) := by
          rw [List.drop_set_of_lt (by omega)]; congr 1; omega
        rw [e1, e2]; simp
      rw [hsp, List.length_cons, show s.n + 1 + b.length = s.n + (b.length + 1) by omega]

/-- Byte m of some words. -/
def byteOf (h : List UInt32) (m : Nat) : UInt8 := ((h.getD (m / 4) 0) >>> (UInt32.ofNat (24 - 8 * (m % 4)))).toUInt8
/-- The first m bytes of eight words, zeros behind them. -/
def tF (h : List UInt32) (m : Nat) : List UInt8 := (List.range m).map (byteOf h) ++ List.replicate (32 - m) 0
/-- Eight words as bytes. -/
def toldF (h : List UInt32) : List UInt8 := (List.range 32).map (byteOf h)

theorem tF_length (h : List UInt32) (m : Nat) (hm : m ≤ 32) : (tF h m).length = 32 := by simp [tF]; omega
theorem tF_full (h : List UInt32) : tF h 32 = toldF h := by simp [tF, toldF]
theorem tF_set (h : List UInt32) (m : Nat) (hm : m < 32) : (tF h m).set m (byteOf h m) = tF h (m + 1) := by
  simp only [tF]
  rw [List.set_append_right _ _ (by simp), show m - ((List.range m).map (byteOf h)).length = 0 by simp, show 32 - m = (32 - (m + 1)) + 1 by omega, List.replicate_succ, List.set_cons_zero, List.range_succ, List.map_append]
  simp

/-- Byte i, from behind, of the bits of a text of n bytes. -/
def lenByte (n i : Nat) : UInt8 := UInt8.ofNat (8 * n / 256 ^ i)
def zeros (n : Nat) : Nat := (119 - n % 64) % 64
/-- What stands behind a text of n bytes, i bytes of the length told. -/
def pF (n i : Nat) : List UInt8 := 128 :: List.replicate (zeros n + (8 - i)) 0 ++ ((List.range i).map (lenByte n)).reverse
def padF (n : Nat) : List UInt8 := pF n 8

end Go.Sym.Sh
