/- Contracts of the program's functions, proved by the framework (text ShST), without conditions but those that each theorem states. -/
import Derived.Test.YtlmcdgbjbamdnaaFw6
set_option linter.unusedVariables false
set_option linter.unusedSimpArgs false
namespace Go.Sym.Sh
open Go Go.Sym

/-! ### What the two programs compute, said once -/
def Kw : List UInt32 := [
  0x428a2f98, 0x71374491, 0xb5c0fbcf, 0xe9b5dba5, 0x3956c25b, 0x59f111f1, 0x923f82a4, 0xab1c5ed5,
  0xd807aa98, 0x12835b01, 0x243185be, 0x550c7dc3, 0x72be5d74, 0x80deb1fe, 0x9bdc06a7, 0xc19bf174,
  0xe49b69c1, 0xefbe4786, 0x0fc19dc6, 0x240ca1cc, 0x2de92c6f, 0x4a7484aa, 0x5cb0a9dc, 0x76f988da,
  0x983e5152, 0xa831c66d, 0xb00327c8, 0xbf597fc7, 0xc6e00bf3, 0xd5a79147, 0x06ca6351, 0x14292967,
  0x27b70a85, 0x2e1b2138, 0x4d2c6dfc, 0x53380d13, 0x650a7354, 0x766a0abb, 0x81c2c92e, 0x92722c85,
  0xa2bfe8a1, 0xa81a664b, 0xc24b8b70, 0xc76c51a3, 0xd192e819, 0xd6990624, 0xf40e3585, 0x106aa070,
  0x19a4c116, 0x1e376c08, 0x2748774c, 0x34b0bcb5, 0x391c0cb3, 0x4ed8aa4a, 0x5b9cca4f, 0x682e6ff3,
  0x748f82ee, 0x78a5636f, 0x84c87814, 0x8cc70208, 0x90befffa, 0xa4506ceb, 0xbef9a3f7, 0xc67178f2]

def H0w : List UInt32 := [0x6a09e667, 0xbb67ae85, 0x3c6ef372, 0xa54ff53a, 0x510e527f, 0x9b05688c, 0x1f83d9ab, 0x5be0cd19]

def U (x : UInt32) : Int := (x.toNat : Int)
/-- Words as a row of the model. -/
def Us (l : List UInt32) : List Int := l.map U

def lowA (x : UInt32) : UInt32 := (ror x 7 ^^^ ror x 18) ^^^ (x >>> (UInt32.ofNat 3))
def lowB (x : UInt32) : UInt32 := (ror x 17 ^^^ ror x 19) ^^^ (x >>> (UInt32.ofNat 10))
def highA (x : UInt32) : UInt32 := (ror x 2 ^^^ ror x 13) ^^^ ror x 22
def highB (x : UInt32) : UInt32 := (ror x 6 ^^^ ror x 11) ^^^ ror x 25
def choose (x y z : UInt32) : UInt32 := z ^^^ (x &&& (y ^^^ z))
def most (x y z : UInt32) : UInt32 := (x &&& y) ||| (z &&& (x ||| y))

/-- The first j bytes of word t of a block. -/
def acc (b : List UInt8) (t : Nat) : Nat → UInt32
  | 0 => 0
  | j + 1 => (acc b t j <<< (UInt32.ofNat 8)) ||| (b.getD (4 * t + j) 0).toUInt32

/-- The row of words, t of them made. -/
def ws (b : List UInt8) : Nat → List UInt32
  | 0 => List.replicate 64 0
  | t + 1 => let l := ws b t
    l.set t (if t < 16 then acc b t 4 else lowB (l.getD (t - 2) 0) + l.getD (t - 7) 0 + lowA (l.getD (t - 15) 0) + l.getD (t - 16) 0)

theorem ws_length (b : List UInt8) (t : Nat) : (ws b t).length = 64 := by
  induction t with
  | zero => simp [ws]
  | succ t ih => simp [ws, ih]

theorem ws_zero (b : List UInt8) (t i : Nat) (h : t ≤ i) : (ws b t).getD i 0 = 0 := by
  induction t with
  | zero =>
    simp only [ws, List.getD_eq_getElem?_getD, List.getElem?_replicate]
    split <;> rfl
  | succ t ih =>
    simp only [ws, List.getD_eq_getElem?_getD] at ih ⊢
    rw [List.getElem?_set_ne (by omega)]
    exact ih (by omega)

theorem ws_keep (b : List UInt8) (t i : Nat) (h : i < t) : ∀ k, (ws b (t + k)).getD i 0 = (ws b t).getD i 0 := by
  intro k
  induction k with
  | zero => rfl
  | succ k ih =>
    rw [← Nat.add_assoc]
    simp only [ws, List.getD_eq_getElem?_getD] at ih ⊢
    rw [List.getElem?_set_ne (by omega)]
    exact ih

@[simp] theorem Us_length (l : List UInt32) : (Us l).length = l.length := by simp [Us]
theorem Us_getD (l : List UInt32) (i : Nat) : (Us l).getD i 0 = U (l.getD i 0) := by
  simp only [Us, List.getD_eq_getElem?_getD, List.getElem?_map]
  cases l[i]? <;> rfl
theorem Us_set (l : List UInt32) (i : Nat) (x : UInt32) : (Us l).set i (U x) = Us (l.set i x) := by simp [Us, List.map_set]
theorem Us_zeros (n : Nat) : Us (List.replicate n 0) = List.replicate n 0 := by simp [Us, U]
theorem Us_set' (l : List UInt32) (i : Nat) (x : UInt32) : (Us l).set i (x.toNat : Int) = Us (l.set i x) := Us_set l i x

/-- One round. -/
def round (s : List UInt32) (k w : UInt32) : List UInt32 :=
  let x := s.getD 7 0 + highB (s.getD 4 0) + choose (s.getD 4 0) (s.getD 5 0) (s.getD 6 0) + k + w
  let y := highA (s.getD 0 0) + most (s.getD 0 0) (s.getD 1 0) (s.getD 2 0)
  [x + y, s.getD 0 0, s.getD 1 0, s.getD 2 0, s.getD 3 0 + x, s.getD 4 0, s.getD 5 0, s.getD 6 0]

/-- The words behind t rounds. -/
def rs (h : List UInt32) (b : List UInt8) : Nat → List UInt32
  | 0 => h
  | t + 1 => round (rs h b t) (Kw.getD t 0) ((ws b 64).getD t 0)

theorem rs_length (h : List UInt32) (b : List UInt8) (hh : h.length = 8) (t : Nat) : (rs h b t).length = 8 := by
  cases t with
  | zero => exact hh
  | succ t => simp [rs, round]

/-- The sum of two rows of eight words, i of them made. -/
def addUp (s h : List UInt32) : Nat → List UInt32
  | 0 => s
  | i + 1 => (addUp s h i).set i ((addUp s h i).getD i 0 + h.getD i 0)

theorem addUp_length (s h : List UInt32) (i : Nat) : (addUp s h i).length = s.length := by
  induction i with
  | zero => rfl
  | succ i ih => simp [addUp, ih]

/-- What a block makes of some words. -/
def blockF (h : List UInt32) (b : List UInt8) : List UInt32 := addUp (rs h b 64) h 8

theorem blockF_length (h : List UInt32) (b : List UInt8) (hh : h.length = 8) : (blockF h b).length = 8 := by
  rw [blockF, addUp_length, rs_length h b hh]

theorem eight {s : List UInt32} (h : s.length = 8) : ∃ a b c d e f g i, s = [a, b, c, d, e, f, g, i] := by
  match s, h with
  | [a, b, c, d, e, f, g, i], _ => exact ⟨a, b, c, d, e, f, g, i, rfl⟩

theorem bits_ext {x y : UInt32} (h : ∀ i, i < 32 → x.toBitVec.getLsbD i = y.toBitVec.getLsbD i) : x = y := by
  apply UInt32.toBitVec_inj.1
  exact BitVec.eq_of_getLsbD_eq fun i hi => h i hi

/-- baileyref03's way to say it. -/
theorem choose_ref (e f g : UInt32) : (e &&& f) ^^^ (~~~e &&& g) = choose e f g := by
  apply bits_ext
  intro i hi
  simp only [choose, UInt32.toBitVec_xor, UInt32.toBitVec_and, UInt32.toBitVec_not, BitVec.getLsbD_xor, BitVec.getLsbD_and, BitVec.getLsbD_not, hi, decide_true, Bool.true_and]
  cases e.toBitVec.getLsbD i <;> cases f.toBitVec.getLsbD i <;> cases g.toBitVec.getLsbD i <;> rfl

theorem most_ref (a b c : UInt32) : ((a &&& b) ^^^ (a &&& c)) ^^^ (b &&& c) = most a b c := by
  apply bits_ext
  intro i hi
  simp only [most, UInt32.toBitVec_xor, UInt32.toBitVec_and, UInt32.toBitVec_or, BitVec.getLsbD_xor, BitVec.getLsbD_and, BitVec.getLsbD_or]
  cases a.toBitVec.getLsbD i <;> cases b.toBitVec.getLsbD i <;> cases c.toBitVec.getLsbD i <;> rfl

theorem acc_ref (b : List UInt8) (t : Nat) : (b.getD (4 * t) 0).toUInt32 * 16777216 + (b.getD (4 * t + 1) 0).toUInt32 * 65536 + (b.getD (4 * t + 2) 0).toUInt32 * 256 + (b.getD (4 * t + 3) 0).toUInt32 = acc b t 4 := by
  have step : ∀ (x : UInt32) (y : UInt8), x.toNat < 16777216 → ((x <<< (UInt32.ofNat 8)) ||| y.toUInt32).toNat = x.toNat * 256 + y.toNat := by
    intro x y hx
    have hy := y.toNat_lt
    rw [UInt32.toNat_or, UInt32.toNat_shiftLeft]
    simp only [UInt32.toNat_ofNat', UInt8.toNat_toUInt32, show 8 % 2 ^ 32 % 32 = 8 from rfl]
    rw [Nat.mod_eq_of_lt (by rw [Nat.shiftLeft_eq]; omega), ← Nat.shiftLeft_add_eq_or_of_lt (by omega), Nat.shiftLeft_eq]
  have h0 := (b.getD (4 * t) 0).toNat_lt
  have h1 := (b.getD (4 * t + 1) 0).toNat_lt
  have h2 := (b.getD (4 * t + 2) 0).toNat_lt
  have h3 := (b.getD (4 * t + 3) 0).toNat_lt
  have a1 : (acc b t 1).toNat = (b.getD (4 * t) 0).toNat := by
    simp only [acc]; rw [step _ _ (by simp)]; simp
  have a2 : (acc b t 2).toNat = (b.getD (4 * t) 0).toNat * 256 + (b.getD (4 * t + 1) 0).toNat := by
    rw [acc, step _ _ (by omega), a1]
  have a3 : (acc b t 3).toNat = ((b.getD (4 * t) 0).toNat * 256 + (b.getD (4 * t + 1) 0).toNat) * 256 + (b.getD (4 * t + 2) 0).toNat := by
    rw [acc, step _ _ (by omega), a2]
  apply UInt32.toNat_inj.1
  rw [acc, step _ _ (by omega), a3]
  simp only [UInt32.toNat_add, UInt32.toNat_mul, UInt8.toNat_toUInt32]
  simp only [show UInt32.toNat 16777216 = 16777216 from rfl, show UInt32.toNat 65536 = 65536 from rfl, show UInt32.toNat 256 = 256 from rfl]
  omega

end Go.Sym.Sh

set_option linter.unusedVariables false
set_option linter.unusedSimpArgs false
namespace Go.Sym.Sh
open Go Go.Sym

/-! ### Sums, part by part -/
/-- What a hash holds. -/
structure St where
  h : List UInt32
  p : List UInt8
  n : Nat

def step1 (s : St) (x : UInt8) : St :=
  ⟨if (s.n + 1) % 64 = 0 then blockF s.h (s.p.set (s.n % 64) x) else s.h, s.p.set (s.n % 64) x, s.n + 1⟩

def writeF (s : St) (b : List UInt8) : St := b.foldl step1 s

def st0 : St := ⟨H0w, List.replicate 64 0, 0⟩

structure St.ok (s : St) : Prop where
  h : s.h.length = 8
  p : s.p.length = 64

theorem step1_ok {s : St} (hs : s.ok) (x : UInt8) : (step1 s x).ok := by
  refine ⟨?_, by simp [step1, hs.p]⟩
  simp only [step1]
  split
  · exact blockF_length _ _ hs.h
  · exact hs.h

theorem writeF_ok {s : St} (hs : s.ok) (b : List UInt8) : (writeF s b).ok := by
  induction b generalizing s with
  | nil => exact hs
  | cons x b ih => exact ih (step1_ok hs x)

theorem writeF_n (s : St) (b : List UInt8) : (writeF s b).n = s.n + b.length := by
  induction b generalizing s with
  | nil => rfl
  | cons x b ih =>
    show (writeF (step1 s x) b).n = _
    rw [ih]; simp [step1]; omega

theorem writeF_append (s : St) (a b : List UInt8) : writeF s (a ++ b) = writeF (writeF s a) b := by simp [writeF, List.foldl_append]

/-- A piece that stays within a block. -/
theorem writeF_piece (b : List UInt8) : ∀ (s : St), s.p.length = 64 → 0 < b.length → s.n % 64 + b.length ≤ 64 →
    writeF s b = ⟨if (s.n + b.length) % 64 = 0 then blockF s.h (spl s.p (s.n % 64) b) else s.h, spl s.p (s.n % 64) b, s.n + b.length⟩ := by
  induction b with
  | nil => intro s _ h; simp at h
  | cons x b ih =>
    intro s hp _ hle
    simp only [List.length_cons] at hle
    cases hb : b with
    | nil =>
      have : spl s.p (s.n % 64) [x] = s.p.set (s.n % 64) x := by
        simp only [spl, List.length_cons, List.length_nil]
        rw [List.set_eq_take_append_cons_drop, if_pos (by omega)]
        simp
      simp [writeF, step1, this]
    | cons y b' =>
      rw [← hb]
      have hbl : 0 < b.length := by rw [hb]; simp
      have hm : (s.n + 1) % 64 = s.n % 64 + 1 := by omega
      have h1 : step1 s x = ⟨s.h, s.p.set (s.n % 64) x, s.n + 1⟩ := by
        simp only [step1]; rw [if_neg (by omega)]
      show writeF (step1 s x) b = _
      rw [ih (step1 s x) (by rw [h1]; simp [hp]) hbl (by rw [h1]; simp only; omega), h1]
      simp only
      have hsp : spl (s.p.set (s.n % 64) x) ((s.n + 1) % 64) b = spl s.p (s.n % 64) (x :: b) := by
        rw [hm]
        generalize s.n % 64 = k at *
        simp only [spl, List.length_cons]
        have l1 : (s.p.take k).length = k := by rw [List.length_take]; omega
        have e : s.p.set k x = s.p.take k ++ x :: s.p.drop (k + 1) := by rw [List.set_eq_take_append_cons_drop, if_pos (by omega)]
        have e1 : (s.p.set k x).take (k + 1) = s.p.take k ++ [x] := by
          rw [e, List.take_append, l1, List.take_of_length_le (by omega), show k + 1 - k = 1 by omega]; rfl
        have e2 : (s.p.set k x).drop (k + 1 + b.length) = s.p.drop (k + (b.length + 1)) := by
          rw [List.drop_set_of_lt (by omega)]; congr 1; omega
        rw [e1, e2]; simp
      rw [hsp, List.length_cons, show s.n + 1 + b.length = s.n + (b.length + 1) by omega]

/-- Byte m of some words. -/
def byteOf (h : List UInt32) (m : Nat) : UInt8 := ((h.getD (m / 4) 0) >>> (UInt32.ofNat (24 - 8 * (m % 4)))).toUInt8
/-- The first m bytes of eight words, zeros behind them. -/
def tF (h : List UInt32) (m : Nat) : List UInt8 := (List.range m).map (byteOf h) ++ List.replicate (32 - m) 0
/-- Eight words as bytes. -/
def toldF (h : List UInt32) : List UInt8 := (List.range 32).map (byteOf h)

theorem tF_length (h : List UInt32) (m : Nat) (hm : m ≤ 32) : (tF h m).length = 32 := by simp [tF]; omega
theorem tF_full (h : List UInt32) : tF h 32 = toldF h := by simp [tF, toldF]
theorem tF_set (h : List UInt32) (m : Nat) (hm : m < 32) : (tF h m).set m (byteOf h m) = tF h (m + 1) := by
  simp only [tF]
  rw [List.set_append_right _ _ (by simp), show m - ((List.range m).map (byteOf h)).length = 0 by simp, show 32 - m = (32 - (m + 1)) + 1 by omega, List.replicate_succ, List.set_cons_zero, List.range_succ, List.map_append]
  simp

/-- Byte i, from behind, of the bits of a text of n bytes. -/
def lenByte (n i : Nat) : UInt8 := UInt8.ofNat (8 * n / 256 ^ i)
def zeros (n : Nat) : Nat := (119 - n % 64) % 64
/-- What stands behind a text of n bytes, i bytes of the length told. -/
def pF (n i : Nat) : List UInt8 := 128 :: List.replicate (zeros n + (8 - i)) 0 ++ ((List.range i).map (lenByte n)).reverse
def padF (n : Nat) : List UInt8 := pF n 8

end Go.Sym.Sh

