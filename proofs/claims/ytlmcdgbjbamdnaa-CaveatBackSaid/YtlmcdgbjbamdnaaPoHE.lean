/- Contracts of the program's functions, proved by the framework (text PoHE), without conditions but those that each theorem states. -/
import Derived.Test.YtlmcdgbjbamdnaaPoHD
set_option linter.unusedVariables false
set_option linter.unusedSimpArgs false
set_option maxRecDepth 10000
namespace Go.Sym.Md
open Go Go.Sym Go.Sym.Sh

theorem nat_xor_zero (m n : Nat) : m ^^^ n = 0 ↔ m = n := by
  refine ⟨fun h => ?_, fun h => by rw [h, Nat.xor_self]⟩
  have : (m ^^^ n) ^^^ n = m := by rw [Nat.xor_assoc, Nat.xor_self, Nat.xor_zero]
  rw [h, Nat.zero_xor] at this
  exact this.symm

theorem nat_or_zero (m n : Nat) : m ||| n = 0 ↔ m = 0 ∧ n = 0 := by
  refine ⟨fun h => ?_, fun h => by rw [h.1, h.2]; rfl⟩
  have h1 := Nat.left_le_or (n := m) (m := n)
  have h2 := Nat.right_le_or (n := m) (m := n)
  omega

theorem i64_bv (m : Nat) (h : m < 9223372036854775808) : (BitVec.ofInt 64 (m : Int)).toNat = m := by
  rw [BitVec.ofInt_natCast, BitVec.toNat_ofNat]; omega

theorem i64_xor (m n : Nat) (h : m < 9223372036854775808) (h' : n < 9223372036854775808) : bitsI .xor .i64 (m : Int) (n : Int) = ((m ^^^ n : Nat) : Int) ∧ m ^^^ n < 9223372036854775808 := by
  have hlt : m ^^^ n < 2 ^ 63 := Nat.xor_lt_two_pow h h'
  refine ⟨?_, hlt⟩
  have e : (BitVec.ofInt 64 (m : Int) ^^^ BitVec.ofInt 64 (n : Int)).toNat = m ^^^ n := by rw [BitVec.toNat_xor, i64_bv m h, i64_bv n h']
  show IntKind.i64.wrap (((BitVec.ofInt 64 (m : Int) ^^^ BitVec.ofInt 64 (n : Int)).toNat : Nat) : Int) = _
  rw [e, wrap_i64 (by omega) (by omega)]

theorem i64_or (m n : Nat) (h : m < 9223372036854775808) (h' : n < 9223372036854775808) : bitsI .or .i64 (m : Int) (n : Int) = ((m ||| n : Nat) : Int) ∧ m ||| n < 9223372036854775808 := by
  have hlt : m ||| n < 2 ^ 63 := Nat.or_lt_two_pow h h'
  refine ⟨?_, hlt⟩
  have e : (BitVec.ofInt 64 (m : Int) ||| BitVec.ofInt 64 (n : Int)).toNat = m ||| n := by rw [BitVec.toNat_or, i64_bv m h, i64_bv n h']
  show IntKind.i64.wrap (((BitVec.ofInt 64 (m : Int) ||| BitVec.ofInt 64 (n : Int)).toNat : Nat) : Int) = _
  rw [e, wrap_i64 (by omega) (by omega)]

theorem u8_xor_zero (x y : UInt8) : (x ^^^ y).toNat = 0 ↔ x = y := by
  rw [UInt8.toNat_xor, nat_xor_zero, UInt8.toNat_inj]

/-- hmac.Equal -/
theorem c164 (a b : List UInt8) (ha : a.length ≤ maxLen) (hb : b.length ≤ maxLen) : SCalls Proofs.Try.prog 164 [.s (.lf (.str a)), .s (.lf (.str b))] [] (.s (.lf (.bool (decide (a = b))))) [] := by
  have hm : maxLen = 9223372036854775807 := rfl
  obtain ⟨hx, hxl⟩ := i64_xor a.length b.length (by omega) (by omega)
  refine SCalls.intro tok Proofs.Try.func164 ?_
  conv => whnf
  refine LoopK.mk2 (fun (i d : Nat) => [(0, .s (.lf (.str a))), (1, .s (.lf (.str b))), (5, vI d), (16, vI ((min a.length b.length : Nat) : Int)), (17, vI i)]) (fun i d => [])
    (fun i d => i ≤ min a.length b.length ∧ d < 9223372036854775808 ∧ (d = 0 ↔ a.length = b.length ∧ a.take i = b.take i)) (fun i d => min a.length b.length - i) 0 (a.length ^^^ b.length) ⟨by omega, hxl, by rw [nat_xor_zero]; simp⟩ ?_ ?_
  · exact Weak.of ⟨⟩ (by simp) ⟨okF.wv trivial, okF.wv trivial, WV.lf (WL.int hx), WV.lf (WL.int (by omega)), okF.wv trivial, trivial⟩
  intro i d hi
  obtain ⟨hi, hd, hd0⟩ := hi
  conv => whnf
  by_cases hi' : i < min a.length b.length
  · refine CaseB.of_true (decide_eq_true (by omega)) ?_
    conv => whnf
    refine DrawK.mk1 tok mixed [0, 0, 0, 6, 0, 0, 48, 126, 254, 511, 1023] [(0, 0, []), (1, 0, []), (2, 0, []), (3, 0, []), (4, 0, []), (5, 0, []), (6, 0, []), (7, 0, []), (8, 0, []), (9, 0, []), (10, 0, [])] (by kernel_rfl) ?_
    conv => whnf
    repeat (refine And.intro (by omega) ?_; conv => whnf)
    have hai : a[i]? = some (a.getD i 0) := by rw [List.getD_eq_getElem?_getD, List.getElem?_eq_getElem (by omega)]; rfl
    have hbi : b[i]? = some (b.getD i 0) := by rw [List.getD_eq_getElem?_getD, List.getElem?_eq_getElem (by omega)]; rfl
    have hx8 := (a.getD i 0 ^^^ b.getD i 0).toNat_lt
    obtain ⟨ho, hol⟩ := i64_or d (a.getD i 0 ^^^ b.getD i 0).toNat hd (by omega)
    have e1 : bitsI .or .i64 (d : Int) (IntKind.i64.wrap (bitsI .xor .u8 ((a.getD (Int.toNat (i : Int)) 0).toNat : Int) ((b.getD (Int.toNat (i : Int)) 0).toNat : Int))) = ((d ||| (a.getD i 0 ^^^ b.getD i 0).toNat : Nat) : Int) := by
      rw [Int.toNat_natCast, u8_xor, wrap_i64 (by omega) (by omega), ho]
    refine ⟨(i + 1, d ||| (a.getD i 0 ^^^ b.getD i 0).toNat), ⟨?_, hol, ?_⟩, ?_, ?_⟩
    · show i + 1 ≤ _
      omega
    · show _ = 0 ↔ _
      rw [nat_or_zero, u8_xor_zero, hd0, List.take_add_one, List.take_add_one, hai, hbi]
      constructor
      · rintro ⟨⟨h1, h2⟩, h3⟩
        exact ⟨h1, by rw [h2, h3]⟩
      · rintro ⟨h1, h2⟩
        have h3 := List.append_inj h2 (by simp; omega)
        exact ⟨⟨h1, h3.1⟩, by simpa using h3.2⟩
    · show _ - (i + 1) < _ - i
      omega
    · exact Weak.of ⟨⟩ (by simp) ⟨okF.wv trivial, okF.wv trivial, WV.lf (WL.int e1), okF.wv trivial, WV.lf (WL.int (by rw [wrap_i64 (by omega) (by omega)]; omega)), trivial⟩
  · refine CaseB.of_false (decide_eq_false (by omega)) ?_
    conv => whnf
    have hi0 : i = min a.length b.length := by omega
    refine RetK.empty (WV.lf (WL.bool ?_))
    rw [decide_eq_decide]
    constructor
    · intro h
      obtain ⟨h1, h2⟩ := hd0.1 (by omega)
      rw [List.take_of_length_le (by omega), List.take_of_length_le (by omega)] at h2
      exact h2
    · intro h
      have := hd0.2 ⟨by rw [h], by rw [h]⟩
      omega

end Go.Sym.Md
