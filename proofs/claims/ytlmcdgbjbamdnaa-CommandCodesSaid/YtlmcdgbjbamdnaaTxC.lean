/- Contracts of the program's functions, proved by the framework (text TxC), without conditions but those that each theorem states. -/
import Derived.Test.YtlmcdgbjbamdnaaFw6
import Derived.Test.YtlmcdgbjbamdnaaTxB
import Derived.Test.YtlmcdgbjbamdnaaFw7
import Derived.KernelRfl
set_option linter.unusedVariables false
set_option linter.unusedSimpArgs false
namespace Go.Sym.Sh
open Go Go.Sym

/-! ### What the two programs compute, said once -/
def Kw : List UInt32 := [
  0x428a2f98, 0x71374491, 0xb5c0fbcf, 0xe9b5dba5, 0x3956c25b, 0x59f111f1, 0x923f82a4, 0xab1c5ed5,
  0xd807aa98, 0x12835b01, 0x243185be, 0x550c7dc3, 0x72be5d74, 0x80deb1fe, 0x9bdc06a7, 0xc19bf174,
  0xe49b69c1, 0xefbe4786, 0x0fc19dc6, 0x240ca1cc, 0x2de92c6f, 0x4a7484aa, 0x5cb0a9dc, 0x76f988da,
  0x983e5152, 0xa831c66d, 0xb00327c8, 0xbf597fc7, 0xc6e00bf3, 0xd5a79147, 0x06ca6351, 0x14292967,
  0x27b70a85, 0x2e1b2138, 0x4d2c6dfc, 0x53380d13, 0x650a7354, 0x766a0abb, 0x81c2c92e, 0x92722c85,
  0xa2bfe8a1, 0xa81a664b, 0xc24b8b70, 0xc76c51a3, 0xd192e819, 0xd6990624, 0xf40e3585, 0x106aa070,
  0x19a4c116, 0x1e376c08, 0x2748774c, 0x34b0bcb5, 0x391c0cb3, 0x4ed8aa4a, 0x5b9cca4f, 0x682e6ff3,
  0x748f82ee, 0x78a5636f, 0x84c87814, 0x8cc70208, 0x90befffa, 0xa4506ceb, 0xbef9a3f7, 0xc67178f2]

def H0w : List UInt32 := [0x6a09e667, 0xbb67ae85, 0x3c6ef372, 0xa54ff53a, 0x510e527f, 0x9b05688c, 0x1f83d9ab, 0x5be0cd19]

def U (x : UInt32) : Int := (x.toNat : Int)
/-- Words as a row of the model. -/
def Us (l : List UInt32) : List Int := l.map U

def lowA (x : UInt32) : UInt32 := (ror x 7 ^^^ ror x 18) ^^^ (x >>> (UInt32.ofNat 3))
def lowB (x : UInt32) : UInt32 := (ror x 17 ^^^ ror x 19) ^^^ (x >>> (UInt32.ofNat 10))
def highA (x : UInt32) : UInt32 := (ror x 2 ^^^ ror x 13) ^^^ ror x 22
def highB (x : UInt32) : UInt32 := (ror x 6 ^^^ ror x 11) ^^^ ror x 25
def choose (x y z : UInt32) : UInt32 := z ^^^ (x &&& (y ^^^ z))
def most (x y z : UInt32) : UInt32 := (x &&& y) ||| (z &&& (x ||| y))

/-- The first j bytes of word t of a block. -/
def acc (b : List UInt8) (t : Nat) : Nat → UInt32
  | 0 => 0
  | j + 1 => (acc b t j <<< (UInt32.ofNat 8)) ||| (b.getD (4 * t + j) 0).toUInt32

/-- The row of words, t of them made. -/
def ws (b : List UInt8) : Nat → List UInt32
  | 0 => List.replicate 64 0
  | t + 1 => let l := ws b t
    l.set t (if t < 16 then acc b t 4 else lowB (l.getD (t - 2) 0) + l.getD (t - 7) 0 + lowA (l.getD (t - 15) 0) + l.getD (t - 16) 0)

theorem ws_length (b : List UInt8) (t : Nat) : (ws b t).length = 64 := by
  induction t with
  | zero => simp [ws]
  | succ t ih => simp [ws, ih]

theorem ws_zero (b : List UInt8) (t i : Nat) (h : t ≤ i) : (ws b t).getD i 0 = 0 := by
  induction t with
  | zero =>
    simp only [ws, List.getD_eq_getElem?_getD, List.getElem?_replicate]
    split <;> rfl
  | succ t ih =>
    simp only [ws, List.getD_eq_getElem?_getD] at ih ⊢
    rw [List.getElem?_set_ne (by omega)]
    exact ih (by omega)

theorem ws_keep (b : List UInt8) (t i : Nat) (h : i < t) : ∀ k, (ws b (t + k)).getD i 0 = (ws b t).getD i 0 := by
  intro k
  induction k with
  | zero => rfl
  | succ k ih =>
    rw [← Nat.add_assoc]
    simp only [ws, List.getD_eq_getElem?_getD] at ih ⊢
    rw [List.getElem?_set_ne (by omega)]
    exact ih

@[simp] theorem Us_length (l : List UInt32) : (Us l).length = l.length := by simp [Us]
theorem Us_getD (l : List UInt32) (i : Nat) : (Us l).getD i 0 = U (l.getD i 0) := by
  simp only [Us, List.getD_eq_getElem?_getD, List.getElem?_map]
  cases l[i]? <;> rfl
theorem Us_set (l : List UInt32) (i : Nat) (x : UInt32) : (Us l).set i (U x) = Us (l.set i x) := by simp [Us, List.map_set]
theorem Us_zeros (n : Nat) : Us (List.replicate n 0) = List.replicate n 0 := by simp [Us, U]
theorem Us_set' (l : List UInt32) (i : Nat) (x : UInt32) : (Us l).set i (x.toNat : Int) = Us (l.set i x) := Us_set l i x

/-- One round. -/
def round (s : List UInt32) (k w : UInt32) : List UInt32 :=
  let x := s.getD 7 0 + highB (s.getD 4 0) + choose (s.getD 4 0) (s.getD 5 0) (s.getD 6 0) + k + w
  let y := highA (s.getD 0 0) + most (s.getD 0 0) (s.getD 1 0) (s.getD 2 0)
  [x + y, s.getD 0 0, s.getD 1 0, s.getD 2 0, s.getD 3 0 + x, s.getD 4 0, s.getD 5 0, s.getD 6 0]

/-- The words behind t rounds. -/
def rs (h : List UInt32) (b : List UInt8) : Nat → List UInt32
  | 0 => h
  | t + 1 => round (rs h b t) (Kw.getD t 0) ((ws b 64).getD t 0)

theorem rs_length (h : List UInt32) (b : List UInt8) (hh : h.length = 8) (t : Nat) : (rs h b t).length = 8 := by
  cases t with
  | zero => exact hh
  | succ t => simp [rs, round]

/-- The sum of two rows of eight words, i of them made. -/
def addUp (s h : List UInt32) : Nat → List UInt32
  | 0 => s
  | i + 1 => (addUp s h i).set i ((addUp s h i).getD i 0 + h.getD i 0)

theorem addUp_length (s h : List UInt32) (i : Nat) : (addUp s h i).length = s.length := by
  induction i with
  | zero => rfl
  | succ i ih => simp [addUp, ih]

/-- What a block makes of some words. -/
def blockF (h : List UInt32) (b : List UInt8) : List UInt32 := addUp (rs h b 64) h 8

theorem blockF_length (h : List UInt32) (b : List UInt8) (hh : h.length = 8) : (blockF h b).length = 8 := by
  rw [blockF, addUp_length, rs_length h b hh]

theorem eight {s : List UInt32} (h : s.length = 8) : ∃ a b c d e f g i, s = [a, b, c, d, e, f, g, i] := by
  match s, h with
  | [a, b, c, d, e, f, g, i], _ => exact ⟨a, b, c, d, e, f, g, i, rfl⟩

theorem bits_ext {x y : UInt32} (h : ∀ i, i < 32 → x.toBitVec.getLsbD i = y.toBitVec.getLsbD i) : x = y := by
  apply UInt32.toBitVec_inj.1
  exact BitVec.eq_of_getLsbD_eq fun i hi => h i hi

/-- baileyref03's way to say it. -/
theorem choose_ref (e f g : UInt32) : (e &&& f) ^^^ (~~~e &&& g) = choose e f g := by
  apply bits_ext
  intro i hi
  simp only [choose, UInt32.toBitVec_xor, UInt32.toBitVec_and, UInt32.toBitVec_not, BitVec.getLsbD_xor, BitVec.getLsbD_and, BitVec.getLsbD_not, hi, decide_true, Bool.true_and]
  cases e.toBitVec.getLsbD i <;> cases f.toBitVec.getLsbD i <;> cases g.toBitVec.getLsbD i <;> rfl

theorem most_ref (a b c : UInt32) : ((a &&& b) ^^^ (a &&& c)) ^^^ (b &&& c) = most a b c := by
  apply bits_ext
  intro i hi
  simp only [most, UInt32.toBitVec_xor, UInt32.toBitVec_and, UInt32.toBitVec_or, BitVec.getLsbD_xor, BitVec.getLsbD_and, BitVec.getLsbD_or]
  cases a.toBitVec.getLsbD i <;> cases b.toBitVec.getLsbD i <;> cases c.toBitVec.getLsbD i <;> rfl

theorem acc_ref (b : List UInt8) (t : Nat) : (b.getD (4 * t) 0).toUInt32 * 16777216 + (b.getD (4 * t + 1) 0).toUInt32 * 65536 + (b.getD (4 * t + 2) 0).toUInt32 * 256 + (b.getD (4 * t + 3) 0).toUInt32 = acc b t 4 := by
  have step : ∀ (x : UInt32) (y : UInt8), x.toNat < 16777216 → ((x <<< (UInt32.ofNat 8)) ||| y.toUInt32).toNat = x.toNat * 256 + y.toNat := by
    intro x y hx
    have hy := y.toNat_lt
    rw [UInt32.toNat_or, UInt32.toNat_shiftLeft]
    simp only [UInt32.toNat_ofNat', UInt8.toNat_toUInt32, show 8 % 2 ^ 32 % 32 = 8 from rfl]
    rw [Nat.mod_eq_of_lt (by rw [Nat.shiftLeft_eq]; omega), ← Nat.shiftLeft_add_eq_or_of_lt (by omega), Nat.shiftLeft_eq]
  have h0 := (b.getD (4 * t) 0).toNat_lt
  have h1 := (b.getD (4 * t + 1) 0).toNat_lt
  have h2 := (b.getD (4 * t + 2) 0).toNat_lt
  have h3 := (b.getD (4 * t + 3) 0).toNat_lt
  have a1 : (acc b t 1).toNat = (b.getD (4 * t) 0).toNat := by
    simp only [acc]; rw [step _ _ (by simp)]; simp
  have a2 : (acc b t 2).toNat = (b.getD (4 * t) 0).toNat * 256 + (b.getD (4 * t + 1) 0).toNat := by
    rw [acc, step _ _ (by omega), a1]
  have a3 : (acc b t 3).toNat = ((b.getD (4 * t) 0).toNat * 256 + (b.getD (4 * t + 1) 0).toNat) * 256 + (b.getD (4 * t + 2) 0).toNat := by
    rw [acc, step _ _ (by omega), a2]
  apply UInt32.toNat_inj.1
  rw [acc, step _ _ (by omega), a3]
  simp only [UInt32.toNat_add, UInt32.toNat_mul, UInt8.toNat_toUInt32]
  simp only [show UInt32.toNat 16777216 = 16777216 from rfl, show UInt32.toNat 65536 = 65536 from rfl, show UInt32.toNat 256 = 256 from rfl]
  omega

end Go.Sym.Sh

set_option maxRecDepth 10000
set_option linter.unusedVariables false
set_option linter.unusedSimpArgs false
namespace Go.Sym.Md
open Go Go.Sym Go.Sym.Sh

theorem u32_shr' (x : UInt32) (n : Nat) (h : n < 32) {m : Int} (e : m = (n : Int)) : shrI .u32 (x.toNat : Int) m = ((x >>> (UInt32.ofNat n)).toNat : Int) := by subst e; exact u32_shr x n h

/-- sha.lowA -/
theorem c237 (x : UInt32) : SCalls Proofs.Try.prog 237 [vU x] [] (vU (lowA x)) [] := by
  refine SCalls.intro tok Proofs.Try.func237 ?_
  conv => whnf
  refine CallK.mk' _ [] (c238 x 7 (by omega) (by omega)) ?_
  conv => whnf
  refine CallK.mk' _ [] (c238 x 18 (by omega) (by omega)) ?_
  conv => whnf
  refine ⟨by omega, ?_⟩
  conv => whnf
  refine RetK.empty (WV.lf (WL.int ?_))
  rw [u32_xor, u32_shr' x 3 (m := 3) (by omega) rfl, u32_xor]; rfl

/-- sha.lowB -/
theorem c236 (x : UInt32) : SCalls Proofs.Try.prog 236 [vU x] [] (vU (lowB x)) [] := by
  refine SCalls.intro tok Proofs.Try.func236 ?_
  conv => whnf
  refine CallK.mk' _ [] (c238 x 17 (by omega) (by omega)) ?_
  conv => whnf
  refine CallK.mk' _ [] (c238 x 19 (by omega) (by omega)) ?_
  conv => whnf
  refine ⟨by omega, ?_⟩
  conv => whnf
  refine RetK.empty (WV.lf (WL.int ?_))
  rw [u32_xor, u32_shr' x 10 (m := 10) (by omega) rfl, u32_xor]; rfl

/-- sha.highA -/
theorem c229 (x : UInt32) : SCalls Proofs.Try.prog 229 [vU x] [] (vU (highA x)) [] := by
  refine SCalls.intro tok Proofs.Try.func229 ?_
  conv => whnf
  refine CallK.mk' _ [] (c238 x 2 (by omega) (by omega)) ?_
  conv => whnf
  refine CallK.mk' _ [] (c238 x 13 (by omega) (by omega)) ?_
  conv => whnf
  refine CallK.mk' _ [] (c238 x 22 (by omega) (by omega)) ?_
  conv => whnf
  refine RetK.empty (WV.lf (WL.int ?_))
  rw [u32_xor, u32_xor]; rfl

/-- sha.highB -/
theorem c227 (x : UInt32) : SCalls Proofs.Try.prog 227 [vU x] [] (vU (highB x)) [] := by
  refine SCalls.intro tok Proofs.Try.func227 ?_
  conv => whnf
  refine CallK.mk' _ [] (c238 x 6 (by omega) (by omega)) ?_
  conv => whnf
  refine CallK.mk' _ [] (c238 x 11 (by omega) (by omega)) ?_
  conv => whnf
  refine CallK.mk' _ [] (c238 x 25 (by omega) (by omega)) ?_
  conv => whnf
  refine RetK.empty (WV.lf (WL.int ?_))
  rw [u32_xor, u32_xor]; rfl

/-- sha.choose -/
theorem c228 (x y z : UInt32) : SCalls Proofs.Try.prog 228 [vU x, vU y, vU z] [] (vU (Sh.choose x y z)) [] := by
  refine SCalls.intro tok Proofs.Try.func228 ?_
  conv => whnf
  refine RetK.empty (WV.lf (WL.int ?_))
  rw [u32_xor, u32_and, u32_xor]; rfl

/-- sha.most -/
theorem c230 (x y z : UInt32) : SCalls Proofs.Try.prog 230 [vU x, vU y, vU z] [] (vU (most x y z)) [] := by
  refine SCalls.intro tok Proofs.Try.func230 ?_
  conv => whnf
  refine RetK.empty (WV.lf (WL.int ?_))
  rw [u32_or, u32_and, u32_and, u32_or]; rfl

/-- The constants of the rounds. -/
abbrev vKw : FV := .s (.agg [.ints .u32 64 (Us Kw)])
/-- Eight words. -/
abbrev vH (h : List UInt32) : FV := .s (.agg [.ints .u32 8 (Us h)])
abbrev vBlk (b : List UInt8) : FV := .s (.agg [.bytes 64 b])

theorem wv_ints {D : Rel} {k : IntKind} {n : Nat} {xs ys : List Int} (h : xs = ys) : WV D (.s (.agg [.ints k n xs])) (.s (.agg [.ints k n ys])) := by
  subst h; exact WV.agg ⟨.ints rfl fun _ _ => rfl, trivial⟩

theorem c226 : SCalls Proofs.Try.prog 226 [] [] vKw [] := by
  refine SCalls.intro tok Proofs.Try.func226 ?_
  conv => whnf
  exact RetK.empty (wv_ints (by decide))

theorem c216 : SCalls Proofs.Try.prog 216 [] [] vKw [] := by
  refine SCalls.intro tok Proofs.Try.func216 ?_
  conv => whnf
  exact RetK.empty (wv_ints (by decide))

theorem c213 : SCalls Proofs.Try.prog 213 [] [] (vH H0w) [] := by
  refine SCalls.intro tok Proofs.Try.func213 ?_
  conv => whnf
  exact RetK.empty (wv_ints (by decide))

theorem c191 : SCalls Proofs.Try.prog 191 [] [] (vH H0w) [] := by
  refine SCalls.intro tok Proofs.Try.func191 ?_
  conv => whnf
  exact RetK.empty (wv_ints (by decide))

end Go.Sym.Md

set_option maxRecDepth 10000
set_option linter.unusedVariables false
namespace Go.Sym.Md
open Go Go.Sym Go.Sym.Sh
theorem u32_shl' (x : UInt32) (n : Nat) (h : n < 32) {m : Int} (e : m = (n : Int)) : shlI .u32 (x.toNat : Int) m = ((x <<< (UInt32.ofNat n)).toNat : Int) := by subst e; exact u32_shl x n h
theorem byte_u32 (x : UInt8) : IntKind.u32.wrap (x.toNat : Int) = (x.toUInt32.toNat : Int) := by
  have := x.toNat_lt
  rw [wrap_u32, UInt8.toNat_toUInt32]; omega

/-- sha.schedule -/
theorem c225 (bs : List UInt8) (hb : bs.length = 64) : SCalls Proofs.Try.prog 225 [.s (.lf (.ptr 0 0))] [some ⟨199, [.bytes 64 bs]⟩] (.s (.agg [.ints .u32 64 (Us (ws bs 64))])) [some ⟨199, [.bytes 64 bs]⟩] := by
  refine SCalls.intro tok Proofs.Try.func225 ?_
  conv => whnf
  refine LoopK.upTo 64 (fun k => [(0, .s (.lf (.ptr 0 0))), (2, .s (.lf (.ptr 1 0))), (3, .s (.lf (.ptr 2 0))), (7, vI k)])
    (fun k => [some ⟨199, [.bytes 64 bs]⟩, some ⟨223, [.ints .u32 64 (Us (ws bs 0))]⟩, some ⟨223, [.ints .u32 64 (Us (ws bs k))]⟩]) ?_ ?_
  · refine Weak.of ⟨rfl, okGs.ws (by exact ⟨trivial, trivial⟩), rfl, ?_, rfl, ?_, trivial⟩ (by simp) ?_
    · exact ⟨.ints rfl fun _ _ => rfl, trivial⟩
    · exact ⟨.ints rfl fun _ _ => rfl, trivial⟩
    · exact ⟨okF.wv rfl, okF.wv rfl, okF.wv rfl, okF.wv trivial, trivial⟩
  · intro k hk
    conv => whnf
    by_cases hk' : k < 64
    · refine CaseB.of_true (by simp; omega) ?_
      conv => whnf
      by_cases h16 : k < 16
      · refine CaseB.of_true (by simp; omega) ?_
        conv => whnf
        have e1 : IntKind.i64.wrap (4 * (k : Int)) = ((4 * k : Nat) : Int) := by rw [wrap_i64 (by omega) (by omega)]; omega
        rw [e1]
        have e2 : IntKind.i64.wrap (((4 * k : Nat) : Int) + 4) = ((4 * k + 4 : Nat) : Int) := by rw [wrap_i64 (by omega) (by omega)]; omega
        rw [e2]
        refine ⟨⟨by omega, by simp [maxLen]⟩, ?_⟩
        conv => whnf
        refine LoopK.upTo 4 (fun j => [(0, .s (.lf (.ptr 0 0))), (2, .s (.lf (.ptr 1 0))), (3, .s (.lf (.ptr 2 0))), (7, vI k), (4, vI k), (19, .s (.lf (.own 0 0 1 (4 * k) 4))), (20, vI 4), (21, vI j)])
          (fun j => [some ⟨199, [.bytes 64 bs]⟩, some ⟨223, [.ints .u32 64 (Us (ws bs 0))]⟩, some ⟨223, [.ints .u32 64 (Us ((ws bs k).set k (acc bs k j)))]⟩]) ?_ ?_
        · refine Weak.of ⟨rfl, okGs.ws (by exact ⟨trivial, trivial⟩), rfl, ⟨.ints rfl fun _ _ => rfl, trivial⟩, rfl, ⟨.ints rfl fun i hi => ?_, trivial⟩, trivial⟩ (by simp) ?_
          · have h0 := ws_zero bs k k (Nat.le_refl _)
            rw [Us_getD, Us_getD]
            congr 1
            simp only [List.getD_eq_getElem?_getD, List.getElem?_set] at h0 ⊢
            split
            · rename_i e; subst e; simp only [h0]; rw [if_pos (by rw [ws_length]; exact hk')]; rfl
            · rfl
          · exact ⟨okF.wv rfl, okF.wv rfl, okF.wv rfl, okF.wv trivial, okF.wv trivial, WV.lf (WL.own rfl rfl (by omega) (by omega)), WV.lf (WL.int (by omega)), okF.wv trivial, trivial⟩
        · intro j hj
          conv => whnf
          by_cases hj' : j < 4
          · refine CaseB.of_true (by simp; omega) ?_
            conv => whnf
            refine ⟨by omega, ?_⟩
            conv => whnf
            refine ⟨by omega, ?_⟩
            conv => whnf
            refine ⟨by omega, ?_⟩
            conv => whnf
            refine ⟨by omega, ?_⟩
            conv => whnf
            refine ⟨by omega, ?_⟩
            conv => whnf
            refine ⟨by omega, ?_⟩
            conv => whnf
            refine ⟨by omega, ?_⟩
            conv => whnf
            have hlen : (Int.toNat (k : Int)) < (Us ((ws bs k).set k (acc bs k j))).length := by rw [Us_length, List.length_set, ws_length]; omega
            refine ⟨hlen, ?_⟩
            conv => whnf
            refine next_round hj' (Weak.of ⟨rfl, okGs.ws (by exact ⟨trivial, trivial⟩), rfl, ⟨.ints rfl fun _ _ => rfl, trivial⟩, rfl, ⟨.ints rfl fun i hi => ?_, trivial⟩, trivial⟩ (by simp) ?_)
            · rw [Int.toNat_natCast, Int.toNat_natCast, Us_getD, show ((ws bs k).set k (acc bs k j)).getD k 0 = acc bs k j by
                rw [List.getD_eq_getElem?_getD, List.getElem?_set_self (by rw [ws_length]; exact hk')]; rfl]
              simp only [U]
              rw [u32_shl' _ 8 (m := 8) (by omega) rfl, byte_u32, u32_or, Us_set', List.set_set]
              rfl
            · exact ⟨okF.wv rfl, okF.wv rfl, okF.wv rfl, okF.wv trivial, okF.wv trivial, okF.wv rfl, okF.wv trivial, WV.lf (WL.int (by rw [wrap_i64 (by omega) (by omega)]; omega)), trivial⟩
          · refine CaseB.of_false (by simp; omega) ?_
            conv => whnf
            obtain rfl : j = 4 := by omega
            refine next_round hk' (Weak.of ⟨rfl, okGs.ws (by exact ⟨trivial, trivial⟩), rfl, ⟨.ints rfl fun _ _ => rfl, trivial⟩, rfl, ⟨.ints rfl fun i hi => ?_, trivial⟩, trivial⟩ (by simp) ?_)
            · simp only [ws, h16, if_true]
            · exact ⟨okF.wv rfl, okF.wv rfl, okF.wv rfl, WV.lf (WL.int (by rw [wrap_i64 (by omega) (by omega)]; omega)), trivial⟩
      · refine CaseB.of_false (by simp; omega) ?_
        conv => whnf
        refine DrawK.mk1 tok mixed [0, 0, 2, 6, 14, 30, 0, 64, 192, 448, 1022, 0, 2048, 6144, 14336, 30782, 65534, 0, 131072, 393216, 917504, 2097150, 4194303, 8388607] [(0, 0, []), (1, 0, []), (2, 0, []), (6, 0, []), (7, 0, []), (11, 0, []), (12, 0, []), (17, 0, []), (18, 0, []), (3, 1, [0]), (4, 1, [0]), (5, 1, [0]), (8, 1, [0]), (9, 1, [0]), (10, 0, []), (13, 1, [0]), (14, 1, [0]), (15, 1, [0]), (16, 0, []), (19, 1, [0]), (20, 1, [0]), (21, 0, []), (22, 1, [0]), (23, 2, [])] (by kernel_rfl) ?_
        conv => whnf
        have d : ∀ m : Nat, m ≤ 16 → IntKind.i64.wrap ((k : Int) - (m : Int)) = ((k - m : Nat) : Int) := fun m hm => by rw [wrap_i64 (by omega) (by omega)]; omega
        rw [show IntKind.i64.wrap ((k : Int) - 2) = _ from d 2 (by omega)]
        refine ⟨by omega, ?_⟩
        conv => whnf
        rw [Int.toNat_natCast]
        refine ⟨by omega, ?_⟩
        conv => whnf
        rw [Us_getD]
        refine CallR.mk' _ ((c236 _).free _ ⟨trivial, trivial⟩ trivial) ?_
        conv => whnf
        rw [show IntKind.i64.wrap ((k : Int) - 7) = _ from d 7 (by omega)]
        refine ⟨by omega, ?_⟩
        conv => whnf
        rw [Int.toNat_natCast]
        refine ⟨by omega, ?_⟩
        conv => whnf
        rw [show IntKind.i64.wrap ((k : Int) - 15) = _ from d 15 (by omega)]
        refine ⟨by omega, ?_⟩
        conv => whnf
        rw [Int.toNat_natCast]
        refine ⟨by omega, ?_⟩
        conv => whnf
        rw [Us_getD _ (k - 15)]
        refine CallR.mk' _ ((c237 _).free _ ⟨trivial, trivial⟩ trivial) ?_
        conv => whnf
        rw [show IntKind.i64.wrap ((k : Int) - 16) = _ from d 16 (by omega)]
        refine ⟨by omega, ?_⟩
        conv => whnf
        rw [Int.toNat_natCast]
        refine ⟨by omega, ?_⟩
        conv => whnf
        refine ⟨by omega, ?_⟩
        conv => whnf
        rw [Int.toNat_natCast]
        refine ⟨by omega, ?_⟩
        conv => whnf
        refine ⟨by rw [Us_length, ws_length]; exact hk', ?_⟩
        conv => whnf
        refine next_round hk' (Weak.of ⟨rfl, okGs.ws (by exact ⟨trivial, trivial⟩), rfl, ⟨.ints rfl fun _ _ => rfl, trivial⟩, rfl, ⟨.ints rfl fun i hi => ?_, trivial⟩, trivial⟩ (by simp) ?_)
        · rw [Us_getD _ (k - 7), Us_getD _ (k - 16)]
          simp only [U]
          rw [u32_add, u32_add, u32_add, Us_set']
          simp only [ws, h16, if_false]
        · exact ⟨okF.wv rfl, okF.wv rfl, okF.wv rfl, WV.lf (WL.int (by rw [wrap_i64 (by omega) (by omega)]; omega)), trivial⟩
    · refine CaseB.of_false (by simp; omega) ?_
      conv => whnf
      obtain rfl : k = 64 := by omega
      exact RetK.of ⟨rfl, okGs.ws (by exact ⟨trivial, trivial⟩), trivial⟩ (by simp) (okF.wv ⟨trivial, trivial⟩)
end Go.Sym.Md

set_option maxRecDepth 10000
set_option linter.unusedVariables false
set_option linter.unusedSimpArgs false
namespace Go.Sym.Md
open Go Go.Sym Go.Sym.Sh
attribute [local irreducible] ws acc

/-- baileyref03.words -/
theorem c215 (bs : List UInt8) (hb : bs.length = 64) : SCalls Proofs.Try.prog 215 [vBlk bs] [] (.s (.agg [.ints .u32 64 (Us (ws bs 64))])) [] := by
  refine SCalls.intro tok Proofs.Try.func215 ?_
  conv => whnf
  refine LoopK.upTo 64 (fun k => [(1, .s (.lf (.ptr 0 0))), (2, .s (.lf (.ptr 1 0))), (3, .s (.lf (.ptr 2 0))), (4, vI k)])
    (fun k => [some ⟨199, [.bytes 64 bs]⟩, some ⟨223, [.ints .u32 64 (Us (ws bs 0))]⟩, some ⟨223, [.ints .u32 64 (Us (ws bs k))]⟩]) ?_ ?_
  · refine Weak.of ⟨rfl, okGs.ws (by exact ⟨trivial, trivial⟩), rfl, ⟨.ints rfl fun i _ => ?_, trivial⟩, rfl, ⟨.ints rfl fun i _ => ?_, trivial⟩, trivial⟩ (by simp) ?_
    · rw [ws, Us_zeros]
    · rw [ws, Us_zeros]
    · exact ⟨okF.wv rfl, okF.wv rfl, okF.wv rfl, okF.wv trivial, trivial⟩
  · intro k hk
    conv => whnf
    by_cases hk' : k < 64
    · refine CaseB.of_true (by simp; omega) ?_
      conv => whnf
      by_cases h16 : k < 16
      · refine CaseB.of_true (by simp; omega) ?_
        conv => whnf
        refine DrawK.mk1 tok mixed [0, 0, 2, 6, 14, 30, 62, 0, 128, 384, 896, 1920, 3968, 8064, 16382, 0, 32768, 98304, 229376, 491520, 1015808, 2064384, 4194302, 0, 8388608, 25165824, 58720256, 125829120, 260046848, 536870910, 1073741823, 2147483647] [(0, 0, []), (1, 0, []), (2, 0, []), (7, 0, []), (8, 0, []), (9, 0, []), (15, 0, []), (16, 0, []), (17, 0, []), (23, 0, []), (24, 0, []), (25, 0, []), (3, 1, [0]), (4, 1, [0]), (5, 0, []), (6, 0, []), (10, 1, [0]), (11, 1, [0]), (12, 0, []), (13, 0, []), (14, 0, []), (18, 1, [0]), (19, 1, [0]), (20, 0, []), (21, 0, []), (22, 0, []), (26, 1, [0]), (27, 1, [0]), (28, 0, []), (29, 0, []), (30, 1, [0]), (31, 2, [])] (by kernel_rfl) ?_
        conv => whnf
        have e0 : IntKind.i64.wrap (4 * (k : Int)) = ((4 * k : Nat) : Int) := by rw [wrap_i64 (by omega) (by omega)]; omega
        have e : ∀ j : Nat, j < 4 → IntKind.i64.wrap (((4 * k : Nat) : Int) + (j : Int)) = ((4 * k + j : Nat) : Int) := fun j hj => by rw [wrap_i64 (by omega) (by omega)]; omega
        rw [e0]
        rw [show IntKind.i64.wrap (((4 * k : Nat) : Int) + 1) = _ from e 1 (by omega), show IntKind.i64.wrap (((4 * k : Nat) : Int) + 2) = _ from e 2 (by omega), show IntKind.i64.wrap (((4 * k : Nat) : Int) + 3) = _ from e 3 (by omega)]
        refine ⟨by omega, ?_⟩
        conv => whnf
        refine ⟨by omega, ?_⟩
        conv => whnf
        refine ⟨by omega, ?_⟩
        conv => whnf
        refine ⟨by omega, ?_⟩
        conv => whnf
        refine ⟨by omega, ?_⟩
        conv => whnf
        refine ⟨by omega, ?_⟩
        conv => whnf
        refine ⟨by omega, ?_⟩
        conv => whnf
        refine ⟨by omega, ?_⟩
        conv => whnf
        refine ⟨by omega, ?_⟩
        conv => whnf
        refine ⟨by omega, ?_⟩
        conv => whnf
        refine ⟨by rw [Us_length, ws_length]; omega, ?_⟩
        conv => whnf
        refine next_round hk' (Weak.of ⟨rfl, okGs.ws (by exact ⟨trivial, trivial⟩), rfl, ⟨.ints rfl fun _ _ => rfl, trivial⟩, rfl, ⟨.ints rfl fun i hi => ?_, trivial⟩, trivial⟩ (by simp) ?_)
        · rw [Int.toNat_natCast, Int.toNat_natCast, Int.toNat_natCast, Int.toNat_natCast, Int.toNat_natCast, byte_u32, byte_u32, byte_u32, byte_u32]
          rw [show (16777216 : Int) = ((16777216 : UInt32).toNat : Int) from rfl, show (65536 : Int) = ((65536 : UInt32).toNat : Int) from rfl, show (256 : Int) = ((256 : UInt32).toNat : Int) from rfl]
          rw [u32_mul, u32_mul, u32_mul, u32_add, u32_add, u32_add, acc_ref, Us_set', ws]
          simp only [h16, if_true]
        · exact ⟨okF.wv rfl, okF.wv rfl, okF.wv rfl, WV.lf (WL.int (by rw [wrap_i64 (by omega) (by omega)]; omega)), trivial⟩
      · refine CaseB.of_false (by simp; omega) ?_
        conv => whnf
        refine DrawK.mk1 tok mixed [0, 1, 3, 7, 0, 16, 48, 112, 15, 511] [(0, 0, []), (1, 0, []), (4, 0, []), (5, 0, []), (2, 1, [0]), (3, 1, [0]), (8, 0, []), (6, 1, [0]), (7, 1, [0]), (9, 0, [])] (by kernel_rfl) ?_
        conv => whnf
        have d : ∀ m : Nat, m ≤ 16 → IntKind.i64.wrap ((k : Int) - (m : Int)) = ((k - m : Nat) : Int) := fun m hm => by rw [wrap_i64 (by omega) (by omega)]; omega
        rw [show IntKind.i64.wrap ((k : Int) - 2) = _ from d 2 (by omega), show IntKind.i64.wrap ((k : Int) - 15) = _ from d 15 (by omega)]
        refine ⟨by omega, ?_⟩
        conv => whnf
        refine ⟨by omega, ?_⟩
        conv => whnf
        refine ⟨by omega, ?_⟩
        conv => whnf
        refine ⟨by omega, ?_⟩
        conv => whnf
        refine DrawK.mk1 tok mixed [0, 0, 2, 0, 14, 30, 0, 64, 254, 0, 512, 1536, 3584, 8190, 0, 16414, 0, 114718, 245790, 0, 524288, 2080798, 4194302, 0, 8388608, 25165824, 58720256, 134217726, 268435455, 536870911] [(0, 0, []), (1, 0, []), (3, 0, []), (6, 0, []), (7, 0, []), (9, 0, []), (10, 0, []), (14, 0, []), (16, 0, []), (19, 0, []), (20, 0, []), (23, 0, []), (24, 0, []), (2, 1, [0]), (4, 1, [0]), (5, 0, []), (8, 0, []), (11, 1, [0]), (12, 1, [0]), (13, 0, []), (15, 1, [0]), (17, 1, [0]), (18, 0, []), (21, 0, []), (22, 0, []), (25, 1, [0]), (26, 1, [0]), (27, 0, []), (28, 1, [0]), (29, 2, [])] (by kernel_rfl) ?_
        conv => whnf
        have g : ∀ m : Nat, (Us (ws bs k)).getD (((m : Nat) : Int)).toNat 0 = (((ws bs k).getD m 0).toNat : Int) := fun m => by rw [Int.toNat_natCast, Us_getD]; rfl
        rw [g (k - 2), g (k - 15)]
        refine ⟨by omega, ?_⟩
        conv => whnf
        refine ⟨by omega, ?_⟩
        conv => whnf
        refine CallR.mk' _ ((c217 _ 17 (by omega) (by omega)).free _ ⟨trivial, trivial, trivial⟩ trivial) ?_
        conv => whnf
        refine CallR.mk' _ ((c217 _ 19 (by omega) (by omega)).free _ ⟨trivial, trivial, trivial⟩ trivial) ?_
        conv => whnf
        rw [show IntKind.i64.wrap ((k : Int) - 7) = _ from d 7 (by omega)]
        refine ⟨by omega, ?_⟩
        conv => whnf
        refine ⟨by omega, ?_⟩
        conv => whnf
        refine CallR.mk' _ ((c217 _ 7 (by omega) (by omega)).free _ ⟨trivial, trivial, trivial⟩ trivial) ?_
        conv => whnf
        refine CallR.mk' _ ((c217 _ 18 (by omega) (by omega)).free _ ⟨trivial, trivial, trivial⟩ trivial) ?_
        conv => whnf
        rw [show IntKind.i64.wrap ((k : Int) - 16) = _ from d 16 (by omega)]
        refine ⟨by omega, ?_⟩
        conv => whnf
        refine ⟨by omega, ?_⟩
        conv => whnf
        refine ⟨by omega, ?_⟩
        conv => whnf
        refine ⟨by omega, ?_⟩
        conv => whnf
        refine ⟨by rw [Us_length, ws_length]; omega, ?_⟩
        conv => whnf
        refine next_round hk' (Weak.of ⟨rfl, okGs.ws (by exact ⟨trivial, trivial⟩), rfl, ⟨.ints rfl fun _ _ => rfl, trivial⟩, rfl, ⟨.ints rfl fun i hi => ?_, trivial⟩, trivial⟩ (by simp) ?_)
        · rw [g (k - 7), g (k - 16), Int.toNat_natCast]
          rw [u32_shr' _ 10 (m := 10) (by omega) rfl, u32_shr' _ 3 (m := 3) (by omega) rfl]
          simp only [u32_xor, u32_add]
          rw [Us_set', ws]
          simp only [h16, if_false]
          rfl
        · exact ⟨okF.wv rfl, okF.wv rfl, okF.wv rfl, WV.lf (WL.int (by rw [wrap_i64 (by omega) (by omega)]; omega)), trivial⟩
    · refine CaseB.of_false (by simp; omega) ?_
      conv => whnf
      obtain rfl : k = 64 := by omega
      exact RetK.empty (okF.wv ⟨trivial, trivial⟩)

end Go.Sym.Md

set_option maxRecDepth 10000

set_option linter.unusedVariables false
set_option linter.unusedSimpArgs false
namespace Go.Sym.Md
open Go Go.Sym Go.Sym.Sh
attribute [local irreducible] ws acc rs addUp Kw highA highB Sh.choose most lowA lowB ror

/-- sha.Block -/
theorem c214 (h : List UInt32) (hh : h.length = 8) (bs : List UInt8) (hb : bs.length = 64) : SCalls Proofs.Try.prog 214 [vH h, vBlk bs] [] (vH (blockF h bs)) [] := by
  refine SCalls.intro tok Proofs.Try.func214 ?_
  conv => whnf
  refine CallK.mk' _ [some ⟨198, [.ints .u32 8 (Us h)]⟩, some ⟨199, [.bytes 64 bs]⟩, some ⟨198, [.ints .u32 8 (List.replicate 8 0)]⟩] ((c225 bs hb).frame1 (nm := 1) rfl rfl (freeGs.ws ⟨trivial, trivial⟩) ⟨WV.lf (WL.ptr rfl rfl), trivial⟩ rfl (freeGs.ws ⟨trivial, trivial⟩) (freeF.wv ⟨trivial, trivial⟩)) ?_
  conv => whnf
  refine CallK.mk' _ _ (c226.free _ trivial ⟨trivial, trivial⟩) ?_
  conv => whnf
  refine LoopK.upTo 64 (fun k => [(2, .s (.lf (.ptr 0 0))), (4, .s (.lf (.ptr 2 0))), (5, .s (.lf (.ptr 3 0))), (6, .s (.lf (.ptr 4 0))), (7, .s (.lf (.ptr 5 0))), (15, vI k)])
    (fun k => [some ⟨198, [.ints .u32 8 (Us h)]⟩, none, some ⟨198, [.ints .u32 8 (List.replicate 8 0)]⟩, some ⟨223, [.ints .u32 64 (Us (ws bs 64))]⟩, some ⟨223, [.ints .u32 64 (Us Kw)]⟩, some ⟨198, [.ints .u32 8 (Us (rs h bs k))]⟩]) ?_ ?_
  · refine Weak.of ⟨rfl, okGs.ws (by exact ⟨trivial, trivial⟩), rfl, okGs.ws (by exact ⟨trivial, trivial⟩), rfl, okGs.ws (by exact ⟨trivial, trivial⟩), rfl, okGs.ws (by exact ⟨trivial, trivial⟩), rfl, ⟨.ints rfl fun i _ => ?_, trivial⟩, trivial⟩ (by simp) ?_
    · rw [rs]
    · exact ⟨okF.wv rfl, okF.wv rfl, okF.wv rfl, okF.wv rfl, okF.wv rfl, okF.wv trivial, trivial⟩
  · intro k hk
    conv => whnf
    by_cases hk' : k < 64
    · refine CaseB.of_true (by simp; omega) ?_
      conv => whnf
      obtain ⟨s0, s1, s2, s3, s4, s5, s6, s7, hs⟩ := eight (rs_length h bs hh k)
      rw [hs]
      refine DrawK.mk1 tok mixed [0, 1, 0, 4, 12, 31, 0, 64, 0, 256, 0, 1024, 4060, 8191, 0, 16384, 49152, 131071, 0, 262144, 786432, 2097151, 4194303] [(14, 0, []), (18, 0, []), (0, 1, [0]), (1, 1, [0]), (2, 1, [0]), (3, 1, [0]), (4, 1, [0]), (5, 0, []), (6, 1, [0]), (7, 1, [0]), (8, 1, [0]), (9, 1, [0]), (10, 1, [0]), (11, 1, [0]), (12, 1, [0]), (13, 0, []), (15, 1, [0]), (16, 1, [0]), (17, 0, []), (19, 1, [0]), (20, 1, [0]), (21, 0, []), (22, 0, [])] (by kernel_rfl) ?_
      conv => whnf
      refine ⟨by omega, ?_⟩
      conv => whnf
      refine ⟨by omega, ?_⟩
      conv => whnf
      refine ⟨by omega, ?_⟩
      conv => whnf
      refine ⟨by omega, ?_⟩
      conv => whnf
      refine CallR.mk' _ ((c227 s4).free _ ⟨trivial, trivial⟩ trivial) ?_
      conv => whnf
      refine ⟨by omega, ?_⟩
      conv => whnf
      refine ⟨by omega, ?_⟩
      conv => whnf
      refine ⟨by omega, ?_⟩
      conv => whnf
      refine ⟨by omega, ?_⟩
      conv => whnf
      refine ⟨by omega, ?_⟩
      conv => whnf
      refine ⟨by omega, ?_⟩
      conv => whnf
      refine CallR.mk' _ ((c228 s4 s5 s6).free _ ⟨trivial, trivial, trivial, trivial⟩ trivial) ?_
      conv => whnf
      refine ⟨by omega, ?_⟩
      conv => whnf
      refine ⟨by omega, ?_⟩
      conv => whnf
      refine ⟨by omega, ?_⟩
      conv => whnf
      refine ⟨by omega, ?_⟩
      conv => whnf
      refine DrawK.mk1 tok mixed [0, 1, 3, 0, 8, 0, 32, 0, 128, 511, 1023, 2047] [(0, 1, [0]), (1, 1, [0]), (2, 1, [0]), (3, 1, [0]), (4, 1, [0]), (5, 1, [0]), (6, 1, [0]), (7, 1, [0]), (8, 1, [0]), (9, 1, [0]), (10, 0, []), (11, 0, [])] (by kernel_rfl) ?_
      conv => whnf
      refine ⟨by omega, ?_⟩
      conv => whnf
      refine ⟨by omega, ?_⟩
      conv => whnf
      refine CallR.mk' _ ((c229 s0).free _ ⟨trivial, trivial⟩ trivial) ?_
      conv => whnf
      refine ⟨by omega, ?_⟩
      conv => whnf
      refine ⟨by omega, ?_⟩
      conv => whnf
      refine ⟨by omega, ?_⟩
      conv => whnf
      refine ⟨by omega, ?_⟩
      conv => whnf
      refine ⟨by omega, ?_⟩
      conv => whnf
      refine ⟨by omega, ?_⟩
      conv => whnf
      refine CallR.mk' _ ((c230 s0 s1 s2).free _ ⟨trivial, trivial, trivial, trivial⟩ trivial) ?_
      conv => whnf
      refine DrawK.mk1 tok mixed [0, 0, 3] [(0, 1, [0]), (1, 1, [0]), (2, 2, [])] (by kernel_rfl) ?_
      conv => whnf
      refine ⟨⟨by omega, by simp [maxLen]⟩, ?_⟩
      conv => whnf
      refine ⟨⟨by omega, by simp [maxLen]⟩, ?_⟩
      conv => whnf
      refine ⟨⟨by decide, by simp⟩, ?_⟩
      conv => whnf
      refine ⟨⟨by decide, by simp⟩, ?_⟩
      conv => whnf
      refine ⟨by omega, ?_⟩
      conv => whnf
      refine ⟨by omega, ?_⟩
      conv => whnf
      refine ⟨by omega, ?_⟩
      conv => whnf
      refine ⟨by omega, ?_⟩
      conv => whnf
      have hsp : spl (Us [s0, s1, s2, s3, s4, s5, s6, s7]) (Int.toNat 1) (List.take ((((8 : Nat) : Int)).toNat - Int.toNat 1) (List.take (Int.toNat 7 - Int.toNat 0) (List.drop (Int.toNat 0) (Us [s0, s1, s2, s3, s4, s5, s6, s7])))) = Us [s0, s0, s1, s2, s3, s4, s5, s6] := rfl
      rw [hsp]
      refine ⟨by simp, ?_⟩
      conv => whnf
      refine ⟨by omega, ?_⟩
      conv => whnf
      refine ⟨by decide, ?_⟩
      conv => whnf
      refine ⟨by simp, ?_⟩
      conv => whnf
      refine next_round hk' (Weak.of ⟨rfl, okGs.ws (by exact ⟨trivial, trivial⟩), rfl, okGs.ws (by exact ⟨trivial, trivial⟩), rfl, okGs.ws (by exact ⟨trivial, trivial⟩), rfl, okGs.ws (by exact ⟨trivial, trivial⟩), rfl, ⟨.ints rfl fun i _ => ?_, trivial⟩, trivial⟩ (by simp) ?_)
      · have x1 : (Us [s0, s1, s2, s3, s4, s5, s6, s7]).getD (Int.toNat 7) 0 = (s7.toNat : Int) := rfl
        have x2 : (Us [s0, s0, s1, s2, s3, s4, s5, s6]).getD (Int.toNat 4) 0 = (s3.toNat : Int) := rfl
        have x3 : ∀ l : List UInt32, (Us l).getD (Int.toNat (k : Int)) 0 = ((l.getD k 0).toNat : Int) := fun l => by rw [Int.toNat_natCast, Us_getD]; rfl
        rw [x1, x2, x3, x3]
        simp only [u32_add]
        rw [show (Int.toNat 4) = 4 from rfl, show (Int.toNat 0) = 0 from rfl, Us_set', Us_set', rs, hs]
        rfl
      · exact ⟨okF.wv rfl, okF.wv rfl, okF.wv rfl, okF.wv rfl, okF.wv rfl, WV.lf (WL.int (by rw [wrap_i64 (by omega) (by omega)]; omega)), trivial⟩
    · refine CaseB.of_false (by simp; omega) ?_
      conv => whnf
      obtain rfl : k = 64 := by omega
      refine LoopK.upTo 8 (fun k => [(2, .s (.lf (.ptr 0 0))), (4, .s (.lf (.ptr 2 0))), (7, .s (.lf (.ptr 5 0))), (64, vI k)])
        (fun k => [some ⟨198, [.ints .u32 8 (Us h)]⟩, none, some ⟨198, [.ints .u32 8 (List.replicate 8 0)]⟩, none, none, some ⟨198, [.ints .u32 8 (Us (addUp (rs h bs 64) h k))]⟩]) ?_ ?_
      · refine Weak.of ⟨rfl, okGs.ws (by exact ⟨trivial, trivial⟩), rfl, okGs.ws (by exact ⟨trivial, trivial⟩), rfl, ⟨.ints rfl fun i _ => ?_, trivial⟩, trivial⟩ (by simp) ?_
        · rw [addUp]
        · exact ⟨okF.wv rfl, okF.wv rfl, okF.wv rfl, okF.wv trivial, trivial⟩
      · intro i hi
        conv => whnf
        by_cases hi' : i < 8
        · refine CaseB.of_true (by simp; omega) ?_
          conv => whnf
          refine DrawK.mk1 tok mixed [0, 1, 3, 0, 8, 24, 63, 127, 255] [(0, 0, []), (3, 0, []), (1, 1, [0]), (2, 1, [0]), (4, 1, [0]), (5, 1, [0]), (6, 0, []), (7, 1, [0]), (8, 2, [])] (by kernel_rfl) ?_
          conv => whnf
          refine ⟨by omega, ?_⟩
          conv => whnf
          refine ⟨by omega, ?_⟩
          conv => whnf
          refine ⟨by omega, ?_⟩
          conv => whnf
          refine ⟨by omega, ?_⟩
          conv => whnf
          refine ⟨by omega, ?_⟩
          conv => whnf
          refine ⟨by omega, ?_⟩
          conv => whnf
          refine ⟨by rw [Us_length, addUp_length, rs_length h bs hh]; omega, ?_⟩
          conv => whnf
          refine next_round hi' (Weak.of ⟨rfl, okGs.ws (by exact ⟨trivial, trivial⟩), rfl, okGs.ws (by exact ⟨trivial, trivial⟩), rfl, ⟨.ints rfl fun o _ => ?_, trivial⟩, trivial⟩ (by simp) ?_)
          · have x3 : ∀ l : List UInt32, (Us l).getD (Int.toNat (i : Int)) 0 = ((l.getD i 0).toNat : Int) := fun l => by rw [Int.toNat_natCast, Us_getD]; rfl
            rw [x3, x3, u32_add, Int.toNat_natCast, Us_set', addUp]
          · exact ⟨okF.wv rfl, okF.wv rfl, okF.wv rfl, WV.lf (WL.int (by rw [wrap_i64 (by omega) (by omega)]; omega)), trivial⟩
        · refine CaseB.of_false (by simp; omega) ?_
          conv => whnf
          obtain rfl : i = 8 := by omega
          exact RetK.empty (okF.wv ⟨trivial, trivial⟩)
end Go.Sym.Md

set_option maxRecDepth 10000
set_option linter.unusedVariables false
set_option linter.unusedSimpArgs false
namespace Go.Sym.Md
open Go Go.Sym Go.Sym.Sh
attribute [local irreducible] ws acc rs addUp Kw highA highB Sh.choose most lowA lowB ror

theorem addUp_comm (s h : List UInt32) (hs : s.length = 8) (hh : h.length = 8) : addUp s h 8 = addUp h s 8 := by
  obtain ⟨a0, a1, a2, a3, a4, a5, a6, a7, rfl⟩ := eight hs
  obtain ⟨b0, b1, b2, b3, b4, b5, b6, b7, rfl⟩ := eight hh
  simp only [addUp, List.getD_cons_zero, List.getD_cons_succ, List.set_cons_zero, List.set_cons_succ]
  rw [UInt32.add_comm a0, UInt32.add_comm a1, UInt32.add_comm a2, UInt32.add_comm a3, UInt32.add_comm a4, UInt32.add_comm a5, UInt32.add_comm a6, UInt32.add_comm a7]

/-- baileyref03.Block -/
theorem c192 (h : List UInt32) (hh : h.length = 8) (bs : List UInt8) (hb : bs.length = 64) : SCalls Proofs.Try.prog 192 [vH h, vBlk bs] [] (vH (blockF h bs)) [] := by
  refine SCalls.intro tok Proofs.Try.func192 ?_
  conv => whnf
  refine DrawK.join [(2, .s (.lf (.ptr 0 0))), (4, .s (.lf (.ptr 2 0))), (5, .s (.lf (.ptr 3 0))), (6, .s (.lf (.ptr 4 0))), (7, .s (.lf (.ptr 5 0)))]
    [some ⟨198, [.ints .u32 8 (Us h)]⟩, none, some ⟨198, [.ints .u32 8 (List.replicate 8 0)]⟩, some ⟨223, [.ints .u32 64 (Us (ws bs 64))]⟩, some ⟨223, [.ints .u32 64 (Us Kw)]⟩, some ⟨198, [.ints .u32 8 (Us h)]⟩] ?_ ?_
  · refine DrawK.mkL tok mixed [0, 1, 3, 0, 0, 0, 0, 119, 247, 511] [4, 5, 6, 7, 8, 9] [
      ([0, 1, 3, 0, 0, 16, 48, 119, 247, 511], [(4, 2, []), (5, 2, []), (6, 2, []), (0, 1, [0, 1, 2, 3]), (1, 1, [0, 1, 2, 3]), (2, 1, [0, 1, 2, 3]), (7, 2, []), (8, 2, []), (3, 1, [0, 1, 2, 3, 4, 5]), (9, 2, [])]),
      ([0, 1, 3, 0, 0, 80, 16, 119, 247, 511], [(4, 2, []), (6, 2, []), (5, 2, []), (0, 1, [0, 1, 2, 3]), (1, 1, [0, 1, 2, 3]), (2, 1, [0, 1, 2, 3]), (7, 2, []), (8, 2, []), (3, 1, [0, 1, 2, 3, 4, 5]), (9, 2, [])]),
      ([0, 1, 3, 0, 32, 0, 48, 119, 247, 511], [(5, 2, []), (4, 2, []), (6, 2, []), (0, 1, [0, 1, 2, 3]), (1, 1, [0, 1, 2, 3]), (2, 1, [0, 1, 2, 3]), (7, 2, []), (8, 2, []), (3, 1, [0, 1, 2, 3, 4, 5]), (9, 2, [])]),
      ([0, 1, 3, 0, 96, 0, 32, 119, 247, 511], [(5, 2, []), (6, 2, []), (4, 2, []), (0, 1, [0, 1, 2, 3]), (1, 1, [0, 1, 2, 3]), (2, 1, [0, 1, 2, 3]), (7, 2, []), (8, 2, []), (3, 1, [0, 1, 2, 3, 4, 5]), (9, 2, [])]),
      ([0, 1, 3, 0, 64, 80, 0, 119, 247, 511], [(6, 2, []), (4, 2, []), (5, 2, []), (0, 1, [0, 1, 2, 3]), (1, 1, [0, 1, 2, 3]), (2, 1, [0, 1, 2, 3]), (7, 2, []), (8, 2, []), (3, 1, [0, 1, 2, 3, 4, 5]), (9, 2, [])]),
      ([0, 1, 3, 0, 96, 64, 0, 119, 247, 511], [(6, 2, []), (5, 2, []), (4, 2, []), (0, 1, [0, 1, 2, 3]), (1, 1, [0, 1, 2, 3]), (2, 1, [0, 1, 2, 3]), (7, 2, []), (8, 2, []), (3, 1, [0, 1, 2, 3, 4, 5]), (9, 2, [])])] (by kernel_rfl) ?_
    refine ⟨?_, ?_, ?_, ?_, ?_, ?_, trivial⟩ <;>
      (conv => whnf) <;>
      (repeat (first
        | (refine CallR.mk' _ ((c215 bs hb).free _ ⟨⟨trivial, trivial⟩, trivial⟩ ⟨trivial, trivial⟩) ?_; conv => whnf)
        | (refine CallR.mk' _ (c216.free _ trivial ⟨trivial, trivial⟩) ?_; conv => whnf)
        | (refine ⟨rfl, ?_⟩; conv => whnf)))
    · exact Weak.perm [0, 1, 2, 3, 4, 5] ⟨⟨rfl, freeGs.ws (by exact ⟨trivial, trivial⟩)⟩, ⟨rfl, freeGs.ws (by exact ⟨trivial, trivial⟩)⟩, ⟨rfl, freeGs.ws (by exact ⟨trivial, trivial⟩)⟩, ⟨rfl, freeGs.ws (by exact ⟨trivial, trivial⟩)⟩, ⟨rfl, freeGs.ws (by exact ⟨trivial, trivial⟩)⟩, trivial⟩ ⟨WV.lf (WL.ptr rfl rfl), WV.lf (WL.ptr rfl rfl), WV.lf (WL.ptr rfl rfl), WV.lf (WL.ptr rfl rfl), WV.lf (WL.ptr rfl rfl), trivial⟩ rfl (by simp) rfl (by simp)
    · exact Weak.perm [0, 1, 2, 3, 5, 4] ⟨⟨rfl, freeGs.ws (by exact ⟨trivial, trivial⟩)⟩, ⟨rfl, freeGs.ws (by exact ⟨trivial, trivial⟩)⟩, ⟨rfl, freeGs.ws (by exact ⟨trivial, trivial⟩)⟩, ⟨rfl, freeGs.ws (by exact ⟨trivial, trivial⟩)⟩, ⟨rfl, freeGs.ws (by exact ⟨trivial, trivial⟩)⟩, trivial⟩ ⟨WV.lf (WL.ptr rfl rfl), WV.lf (WL.ptr rfl rfl), WV.lf (WL.ptr rfl rfl), WV.lf (WL.ptr rfl rfl), WV.lf (WL.ptr rfl rfl), trivial⟩ rfl (by simp) rfl (by simp)
    · exact Weak.perm [0, 1, 2, 4, 3, 5] ⟨⟨rfl, freeGs.ws (by exact ⟨trivial, trivial⟩)⟩, ⟨rfl, freeGs.ws (by exact ⟨trivial, trivial⟩)⟩, ⟨rfl, freeGs.ws (by exact ⟨trivial, trivial⟩)⟩, ⟨rfl, freeGs.ws (by exact ⟨trivial, trivial⟩)⟩, ⟨rfl, freeGs.ws (by exact ⟨trivial, trivial⟩)⟩, trivial⟩ ⟨WV.lf (WL.ptr rfl rfl), WV.lf (WL.ptr rfl rfl), WV.lf (WL.ptr rfl rfl), WV.lf (WL.ptr rfl rfl), WV.lf (WL.ptr rfl rfl), trivial⟩ rfl (by simp) rfl (by simp)
    · exact Weak.perm [0, 1, 2, 5, 3, 4] ⟨⟨rfl, freeGs.ws (by exact ⟨trivial, trivial⟩)⟩, ⟨rfl, freeGs.ws (by exact ⟨trivial, trivial⟩)⟩, ⟨rfl, freeGs.ws (by exact ⟨trivial, trivial⟩)⟩, ⟨rfl, freeGs.ws (by exact ⟨trivial, trivial⟩)⟩, ⟨rfl, freeGs.ws (by exact ⟨trivial, trivial⟩)⟩, trivial⟩ ⟨WV.lf (WL.ptr rfl rfl), WV.lf (WL.ptr rfl rfl), WV.lf (WL.ptr rfl rfl), WV.lf (WL.ptr rfl rfl), WV.lf (WL.ptr rfl rfl), trivial⟩ rfl (by simp) rfl (by simp)
    · exact Weak.perm [0, 1, 2, 4, 5, 3] ⟨⟨rfl, freeGs.ws (by exact ⟨trivial, trivial⟩)⟩, ⟨rfl, freeGs.ws (by exact ⟨trivial, trivial⟩)⟩, ⟨rfl, freeGs.ws (by exact ⟨trivial, trivial⟩)⟩, ⟨rfl, freeGs.ws (by exact ⟨trivial, trivial⟩)⟩, ⟨rfl, freeGs.ws (by exact ⟨trivial, trivial⟩)⟩, trivial⟩ ⟨WV.lf (WL.ptr rfl rfl), WV.lf (WL.ptr rfl rfl), WV.lf (WL.ptr rfl rfl), WV.lf (WL.ptr rfl rfl), WV.lf (WL.ptr rfl rfl), trivial⟩ rfl (by simp) rfl (by simp)
    · exact Weak.perm [0, 1, 2, 5, 4, 3] ⟨⟨rfl, freeGs.ws (by exact ⟨trivial, trivial⟩)⟩, ⟨rfl, freeGs.ws (by exact ⟨trivial, trivial⟩)⟩, ⟨rfl, freeGs.ws (by exact ⟨trivial, trivial⟩)⟩, ⟨rfl, freeGs.ws (by exact ⟨trivial, trivial⟩)⟩, ⟨rfl, freeGs.ws (by exact ⟨trivial, trivial⟩)⟩, trivial⟩ ⟨WV.lf (WL.ptr rfl rfl), WV.lf (WL.ptr rfl rfl), WV.lf (WL.ptr rfl rfl), WV.lf (WL.ptr rfl rfl), WV.lf (WL.ptr rfl rfl), trivial⟩ rfl (by simp) rfl (by simp)
  · conv => whnf
    refine LoopK.upTo 64 (fun k => [(2, .s (.lf (.ptr 0 0))), (4, .s (.lf (.ptr 2 0))), (5, .s (.lf (.ptr 3 0))), (6, .s (.lf (.ptr 4 0))), (7, .s (.lf (.ptr 5 0))), (8, vI k)])
      (fun k => [some ⟨198, [.ints .u32 8 (Us h)]⟩, none, some ⟨198, [.ints .u32 8 (List.replicate 8 0)]⟩, some ⟨223, [.ints .u32 64 (Us (ws bs 64))]⟩, some ⟨223, [.ints .u32 64 (Us Kw)]⟩, some ⟨198, [.ints .u32 8 (Us (rs h bs k))]⟩]) ?_ ?_
    · refine Weak.of ⟨rfl, okGs.ws (by exact ⟨trivial, trivial⟩), rfl, okGs.ws (by exact ⟨trivial, trivial⟩), rfl, okGs.ws (by exact ⟨trivial, trivial⟩), rfl, okGs.ws (by exact ⟨trivial, trivial⟩), rfl, ⟨.ints rfl fun i _ => ?_, trivial⟩, trivial⟩ (by simp) ?_
      · rw [rs]
      · exact ⟨okF.wv rfl, okF.wv rfl, okF.wv rfl, okF.wv rfl, okF.wv rfl, okF.wv trivial, trivial⟩
    intro k hk
    conv => whnf
    by_cases hk' : k < 64
    · refine CaseB.of_true (by simp; omega) ?_
      conv => whnf
      obtain ⟨s0, s1, s2, s3, s4, s5, s6, s7, hs⟩ := eight (rs_length h bs hh k)
      rw [hs]
      refine DrawK.mk1 tok mixed [0, 1, 0, 4, 3, 31] [(0, 1, [0]), (1, 1, [0]), (4, 0, []), (2, 1, [0]), (3, 1, [0]), (5, 0, [])] (by kernel_rfl) ?_
      conv => whnf
      refine ⟨by omega, ?_⟩
      conv => whnf
      refine ⟨by omega, ?_⟩
      conv => whnf
      refine ⟨by omega, ?_⟩
      conv => whnf
      refine ⟨by omega, ?_⟩
      conv => whnf
      refine DrawK.mk1 tok mixed [0, 1, 0, 4, 0, 28, 60, 0, 188, 508, 1023, 0, 0, 4096, 14336, 0, 32768, 0, 131072, 491520, 1046528, 2097151, 0, 4194304, 12582912, 33554431, 0, 67108864, 201326592, 536870911, 1073741823] [(2, 0, []), (4, 0, []), (7, 0, []), (11, 0, []), (15, 0, []), (16, 0, []), (22, 0, []), (26, 0, []), (0, 1, [0]), (1, 1, [0]), (3, 1, [0]), (5, 1, [0]), (6, 0, []), (8, 1, [0]), (9, 0, []), (10, 0, []), (12, 1, [0]), (13, 1, [0]), (14, 0, []), (17, 1, [0]), (18, 1, [0]), (19, 0, []), (20, 0, []), (21, 0, []), (23, 1, [0]), (24, 1, [0]), (25, 0, []), (27, 1, [0]), (28, 1, [0]), (29, 0, []), (30, 0, [])] (by kernel_rfl) ?_
      conv => whnf
      refine ⟨by omega, ?_⟩
      conv => whnf
      refine ⟨by omega, ?_⟩
      conv => whnf
      refine CallR.mk' _ ((c217 s4 6 (by omega) (by omega)).free _ ⟨trivial, trivial, trivial⟩ trivial) ?_
      conv => whnf
      refine CallR.mk' _ ((c217 s4 11 (by omega) (by omega)).free _ ⟨trivial, trivial, trivial⟩ trivial) ?_
      conv => whnf
      refine CallR.mk' _ ((c217 s4 25 (by omega) (by omega)).free _ ⟨trivial, trivial, trivial⟩ trivial) ?_
      conv => whnf
      refine ⟨by omega, ?_⟩
      conv => whnf
      refine ⟨by omega, ?_⟩
      conv => whnf
      refine ⟨by omega, ?_⟩
      conv => whnf
      refine ⟨by omega, ?_⟩
      conv => whnf
      refine ⟨by omega, ?_⟩
      conv => whnf
      refine ⟨by omega, ?_⟩
      conv => whnf
      refine ⟨by omega, ?_⟩
      conv => whnf
      refine ⟨by omega, ?_⟩
      conv => whnf
      refine DrawK.mk1 tok mixed [0, 1, 0, 7, 15, 0, 47, 127, 0, 0, 512, 1792, 0, 0, 8192, 28672, 65280, 0, 131072, 0, 524288, 1966080, 4194048, 8388607, 16777215] [(0, 0, []), (2, 0, []), (5, 0, []), (8, 0, []), (12, 0, []), (1, 1, [0]), (3, 1, [0]), (4, 0, []), (6, 1, [0]), (7, 0, []), (9, 1, [0]), (10, 1, [0]), (11, 0, []), (13, 1, [0]), (14, 1, [0]), (15, 0, []), (16, 0, []), (17, 1, [0]), (18, 1, [0]), (19, 1, [0]), (20, 1, [0]), (21, 0, []), (22, 0, []), (23, 0, []), (24, 0, [])] (by kernel_rfl) ?_
      conv => whnf
      refine CallR.mk' _ ((c217 s0 2 (by omega) (by omega)).free _ ⟨trivial, trivial, trivial⟩ trivial) ?_
      conv => whnf
      refine CallR.mk' _ ((c217 s0 13 (by omega) (by omega)).free _ ⟨trivial, trivial, trivial⟩ trivial) ?_
      conv => whnf
      refine CallR.mk' _ ((c217 s0 22 (by omega) (by omega)).free _ ⟨trivial, trivial, trivial⟩ trivial) ?_
      conv => whnf
      refine ⟨by omega, ?_⟩
      conv => whnf
      refine ⟨by omega, ?_⟩
      conv => whnf
      refine ⟨by omega, ?_⟩
      conv => whnf
      refine ⟨by omega, ?_⟩
      conv => whnf
      refine ⟨by omega, ?_⟩
      conv => whnf
      refine ⟨by omega, ?_⟩
      conv => whnf
      refine ⟨by omega, ?_⟩
      conv => whnf
      refine ⟨by omega, ?_⟩
      conv => whnf
      refine ⟨by omega, ?_⟩
      conv => whnf
      refine ⟨by omega, ?_⟩
      conv => whnf
      refine ⟨by omega, ?_⟩
      conv => whnf
      refine ⟨by omega, ?_⟩
      conv => whnf
      refine ⟨by omega, ?_⟩
      conv => whnf
      refine ⟨by omega, ?_⟩
      conv => whnf
      refine ⟨by omega, ?_⟩
      conv => whnf
      refine ⟨by omega, ?_⟩
      conv => whnf
      refine ⟨by omega, ?_⟩
      conv => whnf
      refine ⟨by omega, ?_⟩
      conv => whnf
      refine ⟨by omega, ?_⟩
      conv => whnf
      refine ⟨by omega, ?_⟩
      conv => whnf
      refine ⟨by omega, ?_⟩
      conv => whnf
      refine ⟨by omega, ?_⟩
      conv => whnf
      refine next_round hk' (Weak.of ⟨rfl, okGs.ws (by exact ⟨trivial, trivial⟩), rfl, okGs.ws (by exact ⟨trivial, trivial⟩), rfl, okGs.ws (by exact ⟨trivial, trivial⟩), rfl, okGs.ws (by exact ⟨trivial, trivial⟩), rfl, ⟨.ints rfl fun i _ => ?_, trivial⟩, trivial⟩ (by simp) ?_)
      · congr 1
        have g0 : (Us [s0, s1, s2, s3, s4, s5, s6, s7]).getD (Int.toNat 0) 0 = (s0.toNat : Int) := rfl
        have g1 : (Us [s0, s1, s2, s3, s4, s5, s6, s7]).getD (Int.toNat 1) 0 = (s1.toNat : Int) := rfl
        have g2 : (Us [s0, s1, s2, s3, s4, s5, s6, s7]).getD (Int.toNat 2) 0 = (s2.toNat : Int) := rfl
        have g3 : (Us [s0, s1, s2, s3, s4, s5, s6, s7]).getD (Int.toNat 3) 0 = (s3.toNat : Int) := rfl
        have g4 : (Us [s0, s1, s2, s3, s4, s5, s6, s7]).getD (Int.toNat 4) 0 = (s4.toNat : Int) := rfl
        have g5 : (Us [s0, s1, s2, s3, s4, s5, s6, s7]).getD (Int.toNat 5) 0 = (s5.toNat : Int) := rfl
        have g6 : (Us [s0, s1, s2, s3, s4, s5, s6, s7]).getD (Int.toNat 6) 0 = (s6.toNat : Int) := rfl
        have g7 : (Us [s0, s1, s2, s3, s4, s5, s6, s7]).getD (Int.toNat 7) 0 = (s7.toNat : Int) := rfl
        have x3 : ∀ l : List UInt32, (Us l).getD (Int.toNat (k : Int)) 0 = ((l.getD k 0).toNat : Int) := fun l => by rw [Int.toNat_natCast, Us_getD]; rfl
        rw [g0, g1, g2, g3, g4, g5, g6, g7, x3, x3, u32_not]
        simp only [u32_xor, u32_and, u32_add]
        rw [choose_ref, most_ref, rs, hs, show (ror s4 6 ^^^ ror s4 11) ^^^ ror s4 25 = highB s4 by rw [highB], show (ror s0 2 ^^^ ror s0 13) ^^^ ror s0 22 = highA s0 by rw [highA]]
        rfl
      · exact ⟨okF.wv rfl, okF.wv rfl, okF.wv rfl, okF.wv rfl, okF.wv rfl, WV.lf (WL.int (by rw [wrap_i64 (by omega) (by omega)]; omega)), trivial⟩
    · refine CaseB.of_false (by simp; omega) ?_
      conv => whnf
      obtain rfl : k = 64 := by omega
      refine LoopK.upTo 8 (fun k => [(2, .s (.lf (.ptr 0 0))), (4, .s (.lf (.ptr 2 0))), (7, .s (.lf (.ptr 5 0))), (13, vI k)])
        (fun k => [some ⟨198, [.ints .u32 8 (Us (addUp h (rs h bs 64) k))]⟩, none, some ⟨198, [.ints .u32 8 (List.replicate 8 0)]⟩, none, none, some ⟨198, [.ints .u32 8 (Us (rs h bs 64))]⟩]) ?_ ?_
      · refine Weak.of ⟨rfl, ⟨.ints rfl fun i _ => ?_, trivial⟩, rfl, okGs.ws (by exact ⟨trivial, trivial⟩), rfl, okGs.ws (by exact ⟨trivial, trivial⟩), trivial⟩ (by simp) ?_
        · rw [addUp]
        · exact ⟨okF.wv rfl, okF.wv rfl, okF.wv rfl, okF.wv trivial, trivial⟩
      intro i hi
      conv => whnf
      by_cases hi' : i < 8
      · refine CaseB.of_true (by simp; omega) ?_
        conv => whnf
        refine DrawK.mk1 tok mixed [0, 0, 2, 6, 0, 16, 48, 126, 255, 511] [(0, 0, []), (1, 0, []), (4, 0, []), (2, 1, [0]), (3, 1, [0]), (5, 1, [0]), (6, 1, [0]), (7, 0, []), (8, 1, [0]), (9, 2, [])] (by kernel_rfl) ?_
        conv => whnf
        refine ⟨by omega, ?_⟩
        conv => whnf
        refine ⟨by omega, ?_⟩
        conv => whnf
        refine ⟨by omega, ?_⟩
        conv => whnf
        refine ⟨by omega, ?_⟩
        conv => whnf
        refine ⟨by omega, ?_⟩
        conv => whnf
        refine ⟨by omega, ?_⟩
        conv => whnf
        refine ⟨by rw [Us_length, addUp_length, hh]; omega, ?_⟩
        conv => whnf
        refine next_round hi' (Weak.of ⟨rfl, ⟨.ints rfl fun o _ => ?_, trivial⟩, rfl, okGs.ws (by exact ⟨trivial, trivial⟩), rfl, okGs.ws (by exact ⟨trivial, trivial⟩), trivial⟩ (by simp) ?_)
        · have x3 : ∀ l : List UInt32, (Us l).getD (Int.toNat (i : Int)) 0 = ((l.getD i 0).toNat : Int) := fun l => by rw [Int.toNat_natCast, Us_getD]; rfl
          rw [x3, x3, u32_add, Int.toNat_natCast, Us_set', addUp]
        · exact ⟨okF.wv rfl, okF.wv rfl, okF.wv rfl, WV.lf (WL.int (by rw [wrap_i64 (by omega) (by omega)]; omega)), trivial⟩
      · refine CaseB.of_false (by simp; omega) ?_
        conv => whnf
        obtain rfl : i = 8 := by omega
        refine RetK.empty (wv_ints ?_)
        rw [blockF, addUp_comm _ _ (rs_length h bs hh 64) hh]

end Go.Sym.Md

set_option linter.unusedVariables false
set_option linter.unusedSimpArgs false
namespace Go.Sym.Sh
open Go Go.Sym

/-! ### Sums, part by part -/
/-- What a hash holds. -/
structure St where
  h : List UInt32
  p : List UInt8
  n : Nat

def step1 (s : St) (x : UInt8) : St :=
  ⟨if (s.n + 1) % 64 = 0 then blockF s.h (s.p.set (s.n % 64) x) else s.h, s.p.set (s.n % 64) x, s.n + 1⟩

def writeF (s : St) (b : List UInt8) : St := b.foldl step1 s

def st0 : St := ⟨H0w, List.replicate 64 0, 0⟩

structure St.ok (s : St) : Prop where
  h : s.h.length = 8
  p : s.p.length = 64

theorem step1_ok {s : St} (hs : s.ok) (x : UInt8) : (step1 s x).ok := by
  refine ⟨?_, by simp [step1, hs.p]⟩
  simp only [step1]
  split
  · exact blockF_length _ _ hs.h
  · exact hs.h

theorem writeF_ok {s : St} (hs : s.ok) (b : List UInt8) : (writeF s b).ok := by
  induction b generalizing s with
  | nil => exact hs
  | cons x b ih => exact ih (step1_ok hs x)

theorem writeF_n (s : St) (b : List UInt8) : (writeF s b).n = s.n + b.length := by
  induction b generalizing s with
  | nil => rfl
  | cons x b ih =>
    show (writeF (step1 s x) b).n = _
    rw [ih]; simp [step1]; omega

theorem writeF_append (s : St) (a b : List UInt8) : writeF s (a ++ b) = writeF (writeF s a) b := by simp [writeF, List.foldl_append]

/-- A piece that stays within a block. -/
theorem writeF_piece (b : List UInt8) : ∀ (s : St), s.p.length = 64 → 0 < b.length → s.n % 64 + b.length ≤ 64 →
    writeF s b = ⟨if (s.n + b.length) % 64 = 0 then blockF s.h (spl s.p (s.n % 64) b) else s.h, spl s.p (s.n % 64) b, s.n + b.length⟩ := by
  induction b with
  | nil => intro s _ h; simp at h
  | cons x b ih =>
    intro s hp _ hle
    simp only [List.length_cons] at hle
    cases hb : b with
    | nil =>
      have : spl s.p (s.n % 64) [x] = s.p.set (s.n % 64) x := by
        simp only [spl, List.length_cons, List.length_nil]
        rw [List.set_eq_take_append_cons_drop, if_pos (by omega)]
        simp
      simp [writeF, step1, this]
    | cons y b' =>
      rw [← hb]
      have hbl : 0 < b.length := by rw [hb]; simp
      have hm : (s.n + 1) % 64 = s.n % 64 + 1 := by omega
      have h1 : step1 s x = ⟨s.h, s.p.set (s.n % 64) x, s.n + 1⟩ := by
        simp only [step1]; rw [if_neg (by omega)]
      show writeF (step1 s x) b = _
      rw [ih (step1 s x) (by rw [h1]; simp [hp]) hbl (by rw [h1]; simp only; omega), h1]
      simp only
      have hsp : spl (s.p.set (s.n % 64) x) ((s.n + 1) % 64) b = spl s.p (s.n % 64) (x :: b) := by
        rw [hm]
        generalize s.n % 64 = k at *
        simp only [spl, List.length_cons]
        have l1 : (s.p.take k).length = k := by rw [List.length_take]; omega
        have e : s.p.set k x = s.p.take k ++ x :: s.p.drop (k + 1) := by rw [List.set_eq_take_append_cons_drop, if_pos (by omega)]
        have e1 : (s.p.set k x).take (k + 1) = s.p.take k ++ [x] := by
          rw [e, List.take_append, l1, List.take_of_length_le (by omega), show k + 1 - k = 1 by omega]; rfl
        have e2 : (s.p.set k x).drop (k + 1 + b.length) = s.p.drop (k + (b.length + 1)) := by
          rw [List.drop_set_of_lt (by omega)]; congr 1; omega
        rw [e1, e2]; simp
      rw [hsp, List.length_cons, show s.n + 1 + b.length = s.n + (b.length + 1) by omega]

/-- Byte m of some words. -/
def byteOf (h : List UInt32) (m : Nat) : UInt8 := ((h.getD (m / 4) 0) >>> (UInt32.ofNat (24 - 8 * (m % 4)))).toUInt8
/-- The first m bytes of eight words, zeros behind them. -/
def tF (h : List UInt32) (m : Nat) : List UInt8 := (List.range m).map (byteOf h) ++ List.replicate (32 - m) 0
/-- Eight words as bytes. -/
def toldF (h : List UInt32) : List UInt8 := (List.range 32).map (byteOf h)

theorem tF_length (h : List UInt32) (m : Nat) (hm : m ≤ 32) : (tF h m).length = 32 := by simp [tF]; omega
theorem tF_full (h : List UInt32) : tF h 32 = toldF h := by simp [tF, toldF]
theorem tF_set (h : List UInt32) (m : Nat) (hm : m < 32) : (tF h m).set m (byteOf h m) = tF h (m + 1) := by
  simp only [tF]
  rw [List.set_append_right _ _ (by simp), show m - ((List.range m).map (byteOf h)).length = 0 by simp, show 32 - m = (32 - (m + 1)) + 1 by omega, List.replicate_succ, List.set_cons_zero, List.range_succ, List.map_append]
  simp

/-- Byte i, from behind, of the bits of a text of n bytes. -/
def lenByte (n i : Nat) : UInt8 := UInt8.ofNat (8 * n / 256 ^ i)
def zeros (n : Nat) : Nat := (119 - n % 64) % 64
/-- What stands behind a text of n bytes, i bytes of the length told. -/
def pF (n i : Nat) : List UInt8 := 128 :: List.replicate (zeros n + (8 - i)) 0 ++ ((List.range i).map (lenByte n)).reverse
def padF (n : Nat) : List UInt8 := pF n 8

end Go.Sym.Sh

set_option linter.unusedVariables false
set_option linter.unusedSimpArgs false
namespace Go.Sym.Md
open Go Go.Sym Go.Sym.Sh
attribute [local irreducible] ws acc rs addUp Kw highA highB Sh.choose most lowA lowB ror blockF

/-- A hash, as it lies. -/
abbrev obSt (s : St) : OB := ⟨201, [.ints .u32 8 (Us s.h), .bytes 64 s.p, .one (.int .i64 (s.n : Int)), .one .tt]⟩

/-- sha.New -/
theorem c185 : SCalls Proofs.Try.prog 185 [] [] (.s (.lf (.ptr 0 0))) [some (obSt st0)] := by
  refine SCalls.intro tok Proofs.Try.func185 ?_
  conv => whnf
  refine CallK.mk' _ _ (c213.free _ trivial ⟨trivial, trivial⟩) ?_
  conv => whnf
  exact RetK.of ⟨rfl, okGs.ws (by exact ⟨trivial, trivial, trivial, trivial, trivial⟩), trivial⟩ (by simp) (okF.wv rfl)

theorem zeros_lt (n : Nat) : zeros n < 64 := Nat.mod_lt _ (by omega)

theorem pF_length (n i : Nat) (hi : i ≤ 8) : (pF n i).length = zeros n + 9 := by simp [pF]; omega

theorem pF_set (n i : Nat) (hi : i < 8) : (pF n i).set (zeros n + 8 - i) (lenByte n i) = pF n (i + 1) := by
  simp only [pF]
  rw [show zeros n + (8 - i) = (zeros n + (8 - (i + 1))) + 1 by omega, List.replicate_succ', List.range_succ, List.map_append, List.reverse_append]
  rw [show zeros n + 8 - i = (128 :: List.replicate (zeros n + (8 - (i + 1))) (0 : UInt8)).length by simp; omega]
  rw [show (128 :: (List.replicate (zeros n + (8 - (i + 1))) (0 : UInt8) ++ [0])) ++ ((List.range i).map (lenByte n)).reverse = (128 :: List.replicate (zeros n + (8 - (i + 1))) (0 : UInt8)) ++ (0 :: ((List.range i).map (lenByte n)).reverse) by simp]
  rw [List.set_append_right _ _ (Nat.le_refl _), Nat.sub_self, List.set_cons_zero]
  simp

/-- sha.Pad -/
theorem c187i (z : Int) (n : Nat) (eN : min (max z 0) 576460752303423488 = (n : Int)) (hn : n ≤ 576460752303423488) : SCalls Proofs.Try.prog 187 [vI z] [] (.s (.lf (.rob true false (padF n)))) [] := by
  refine SCalls.intro tok Proofs.Try.func187 ?_
  conv => whnf
  have e2 : IntKind.i64.wrap (119 - Int.tmod (n : Int) 64) = ((119 - n % 64 : Nat) : Int) := by
    rw [show Int.tmod (n : Int) 64 = ((n % 64 : Nat) : Int) from rfl, wrap_i64 (by omega) (by omega)]; omega
  have e3 : Int.tmod ((119 - n % 64 : Nat) : Int) 64 = (zeros n : Int) := rfl
  have hz := zeros_lt n
  have eL : IntKind.i64.wrap (IntKind.i64.wrap (1 + (IntKind.i64.wrap (119 - (min (max z 0) 576460752303423488).tmod 64)).tmod 64) + 8) = ((zeros n + 9 : Nat) : Int) := by
    rw [eN, e2, e3, wrap_i64 (n := 1 + (zeros n : Int)) (by omega) (by omega), wrap_i64 (by omega) (by omega)]; omega
  refine ⟨by omega, ?_⟩
  conv => whnf
  refine ⟨by omega, ?_⟩
  conv => whnf
  rw [eL]
  refine ⟨⟨by omega, by omega, by show ((zeros n + 9 : Nat) : Int) * 1 ≤ _; omega⟩, ?_⟩
  conv => whnf
  refine ⟨by omega, ?_⟩
  conv => whnf
  refine ⟨by omega, ?_⟩
  conv => whnf
  refine ⟨by rw [List.length_replicate]; omega, ?_⟩
  conv => whnf
  refine ⟨by omega, ?_⟩
  conv => whnf
  refine LoopK.upTo 8 (fun i => [(4, .s (.lf (.own 0 0 1 0 (zeros n + 9)))), (5, .s (.lf (.int .u64 ((8 * n : Nat) : Int)))), (23, vI i)]) (fun i => [some ⟨5, [.bytes (zeros n + 9) (pF n i)]⟩]) ?_ ?_
  · refine Weak.of ⟨rfl, ⟨.bytes (Int.toNat_natCast _) fun o _ => ?_, trivial⟩, trivial⟩ (by simp) ⟨WV.lf (WL.own rfl rfl rfl (Int.toNat_natCast _)), WV.lf (WL.int ?_), okF.wv trivial, trivial⟩
    · rw [Int.toNat_natCast]
      congr 1
      rw [show 0 + Int.toNat 0 = 0 from rfl, List.replicate_succ, List.set_cons_zero]
      simp only [pF, List.range_zero, List.map_nil, List.reverse_nil, List.append_nil, Nat.sub_zero]
      rfl
    · rw [eN, wrap_u64]
      simp only [shlI, wrap_u64, IntKind.bits]
      rw [show (2 : Int) ^ min (Int.toNat 3) 64 = 8 from by decide]; omega
  intro i hi
  conv => whnf
  by_cases hi' : i < 8
  · refine CaseB.of_true (decide_eq_true (by omega)) ?_
    conv => whnf
    have f1 : IntKind.i64.wrap (8 * (i : Int)) = ((8 * i : Nat) : Int) := by rw [wrap_i64 (by omega) (by omega)]; omega
    refine ⟨by rw [f1]; omega, ?_⟩
    conv => whnf
    have f2 : IntKind.i64.wrap (IntKind.i64.wrap (((zeros n + 9 : Nat) : Int) - 1) - (i : Int)) = ((zeros n + 8 - i : Nat) : Int) := by
      rw [wrap_i64 (n := ((zeros n + 9 : Nat) : Int) - 1) (by omega) (by omega), wrap_i64 (by omega) (by omega)]; omega
    refine ⟨by rw [f2]; omega, ?_⟩
    conv => whnf
    refine ⟨by rw [f2]; omega, ?_⟩
    conv => whnf
    refine ⟨by rw [f2, pF_length n i hi]; omega, ?_⟩
    conv => whnf
    refine next_round hi' (Weak.of ⟨rfl, ⟨.bytes rfl fun o _ => ?_, trivial⟩, trivial⟩ (by simp) ⟨okF.wv rfl, okF.wv trivial, WV.lf (WL.int (by rw [wrap_i64 (by omega) (by omega)]; omega)), trivial⟩)
    rw [f1, f2, ← pF_set n i hi', Int.toNat_natCast, Nat.zero_add]
    congr 2
    rw [wrap_u8, lenByte]
    simp only [shrI, IntKind.bits, Int.toNat_natCast]
    rw [Nat.min_eq_left (by omega), show ((2 : Int) ^ (8 * i)) = ((256 ^ i : Nat) : Int) by rw [Int.pow_mul]; simp, Int.fdiv_eq_ediv_of_nonneg _ (Int.natCast_nonneg _)]
    apply UInt8.toNat_inj.1
    simp only [UInt8.toNat_ofNat']
    rw [← Int.natCast_ediv]
    omega
  · refine CaseB.of_false (decide_eq_false (by omega)) ?_
    conv => whnf
    obtain rfl : i = 8 := by omega
    refine RetK.empty (WV.lf (WL.freezeB (p := []) (q := []) rfl rfl rfl (by omega) ?_ ?_ ?_))
    · rw [pF_length n 8 (by omega)]; omega
    · rw [List.drop_zero, List.take_of_length_le (by rw [pF_length n 8 (by omega)]; omega)]; rfl
    · exact ⟨fun h => h, fun i ob h => by simp at h⟩

theorem c187 (n : Nat) (hn : n ≤ 576460752303423488) : SCalls Proofs.Try.prog 187 [vI n] [] (.s (.lf (.rob true false (padF n)))) [] := c187i n n (by omega) hn

theorem u32_byte (x : UInt32) : UInt8.ofNat (IntKind.u8.wrap (x.toNat : Int)).toNat = x.toUInt8 := by
  apply UInt8.toNat_inj.1
  rw [wrap_u8]
  simp only [UInt32.toNat_toUInt8, UInt8.toNat_ofNat']
  omega

/-- sha.told -/
theorem c188 (h : List UInt32) (hh : h.length = 8) : SCalls Proofs.Try.prog 188 [vH h] [] (.s (.lf (.str (toldF h)))) [] := by
  refine SCalls.intro tok Proofs.Try.func188 ?_
  conv => whnf
  refine LoopK.upTo 8 (fun i => [(3, .s (.lf (.ptr 1 0))), (7, vH h), (8, vI i)]) (fun i => [none, some ⟨144, [.bytes 32 (tF h (4 * i))]⟩]) ?_ ?_
  · exact Weak.of ⟨rfl, okGs.ws (by exact ⟨trivial, trivial⟩), trivial⟩ (by simp) ⟨okF.wv rfl, okF.wv ⟨trivial, trivial⟩, okF.wv trivial, trivial⟩
  intro i hi
  conv => whnf
  by_cases hi' : i < 8
  · refine CaseB.of_true (decide_eq_true (by omega)) ?_
    conv => whnf
    refine ⟨by omega, ?_⟩
    conv => whnf
    refine ⟨by omega, ?_⟩
    conv => whnf
    refine LoopK.upTo 4 (fun j => [(3, .s (.lf (.ptr 1 0))), (7, vH h), (8, vI i), (4, vI i), (5, vU (h.getD i 0)), (12, vI j)]) (fun j => [none, some ⟨144, [.bytes 32 (tF h (4 * i + j))]⟩]) ?_ ?_
    · refine Weak.of ⟨rfl, okGs.ws (by exact ⟨trivial, trivial⟩), trivial⟩ (by simp) ⟨okF.wv rfl, okF.wv ⟨trivial, trivial⟩, okF.wv trivial, okF.wv trivial, WV.lf (WL.int ?_), okF.wv trivial, trivial⟩
      rw [Int.toNat_natCast, Us_getD]; rfl
    intro j hj
    conv => whnf
    by_cases hj' : j < 4
    · refine CaseB.of_true (decide_eq_true (by omega)) ?_
      conv => whnf
      have e1 : IntKind.i64.wrap (8 * (j : Int)) = ((8 * j : Nat) : Int) := by rw [wrap_i64 (by omega) (by omega)]; omega
      have e2 : IntKind.i64.wrap (24 - ((8 * j : Nat) : Int)) = ((24 - 8 * j : Nat) : Int) := by rw [wrap_i64 (by omega) (by omega)]; omega
      have e3 : IntKind.i64.wrap (4 * (i : Int)) = ((4 * i : Nat) : Int) := by rw [wrap_i64 (by omega) (by omega)]; omega
      have e4 : IntKind.i64.wrap (((4 * i : Nat) : Int) + (j : Int)) = ((4 * i + j : Nat) : Int) := by rw [wrap_i64 (by omega) (by omega)]; omega
      refine ⟨by rw [e1, e2]; omega, ?_⟩
      conv => whnf
      refine ⟨by rw [e3, e4]; omega, ?_⟩
      conv => whnf
      refine ⟨by rw [e3, e4]; omega, ?_⟩
      conv => whnf
      refine ⟨by rw [tF_length h _ (by omega), e3, e4]; omega, ?_⟩
      conv => whnf
      refine next_round hj' (Weak.of ⟨rfl, ⟨.bytes rfl fun o _ => ?_, trivial⟩, trivial⟩ (by simp) ?_)
      · rw [e1, e2, e3, e4, u32_shr _ _ (by omega), Int.toNat_natCast, ← Nat.add_assoc, ← tF_set h (4 * i + j) (by omega)]
        congr 2
        rw [u32_byte, Sh.byteOf, show (4 * i + j) / 4 = i by omega, show (4 * i + j) % 4 = j by omega]
      · exact ⟨okF.wv rfl, okF.wv ⟨trivial, trivial⟩, okF.wv trivial, okF.wv trivial, okF.wv trivial, WV.lf (WL.int (by rw [wrap_i64 (by omega) (by omega)]; omega)), trivial⟩
    · refine CaseB.of_false (decide_eq_false (by omega)) ?_
      conv => whnf
      obtain rfl : j = 4 := by omega
      refine next_round hi' (Weak.of ⟨rfl, okGs.ws (by exact ⟨trivial, trivial⟩), trivial⟩ (by simp) ?_)
      exact ⟨okF.wv rfl, okF.wv ⟨trivial, trivial⟩, WV.lf (WL.int (by rw [wrap_i64 (by omega) (by omega)]; omega)), trivial⟩
  · refine CaseB.of_false (decide_eq_false (by omega)) ?_
    conv => whnf
    obtain rfl : i = 8 := by omega
    refine ⟨⟨by omega, by simp [maxLen]⟩, ?_⟩
    conv => whnf
    refine ⟨⟨by decide, by rw [tF_length h _ (by omega)]; decide⟩, ?_⟩
    conv => whnf
    refine RetK.empty (WV.lf (WL.str ?_))
    rw [show 4 * 8 = 32 from rfl, tF_full, show Int.toNat 0 = 0 from rfl, List.drop_zero]
    exact List.take_of_length_le (by simp [toldF])

theorem c186 (s : St) (hs : s.ok) (b : List UInt8) (hb : s.n + b.length < 4611686018427387904) : SCalls Proofs.Try.prog 186 [.s (.lf (.ptr 0 0)), .s (.lf (.rob false false b))] [some (obSt s)] (.tup []) [some (obSt (writeF s b))] := by
  refine SCalls.intro tok Proofs.Try.func186 ?_
  conv => whnf
  refine LoopK.mk2 (fun (r : List UInt8) (t : St) => [(0, .s (.lf (.ptr 0 0))), (1, .s (.lf (.rob false false r)))]) (fun r t => [some (obSt t)])
    (fun r t => writeF t r = writeF s b ∧ t.ok ∧ t.n + r.length = s.n + b.length) (fun r t => r.length) b s ⟨rfl, hs, rfl⟩ ?_ ?_
  · exact Weak.of ⟨rfl, okGs.ws (by exact ⟨trivial, trivial, trivial, trivial, trivial⟩), trivial⟩ (by simp) ⟨okF.wv rfl, okF.wv trivial, trivial⟩
  · rintro r t ⟨h1, h2, h3⟩
    conv => whnf
    by_cases hr : 0 < r.length
    · refine CaseB.of_true (decide_eq_true (by omega)) ?_
      conv => whnf
      refine ⟨by omega, ?_⟩
      conv => whnf
      have e1 : Int.tmod (t.n : Int) 64 = ((t.n % 64 : Nat) : Int) := rfl
      rw [e1]
      refine ⟨⟨by omega, by simp [maxLen]⟩, ?_⟩
      conv => whnf
      refine ⟨⟨by omega, by rw [h2.p]; omega⟩, ?_⟩
      conv => whnf
      have hm : ∃ m : Nat, m = min r.length (64 - t.n % 64) ∧ min r.length (((64 : Nat) : Int).toNat - (((t.n % 64 : Nat)) : Int).toNat) = m := ⟨_, rfl, by congr 1⟩
      obtain ⟨m, hm1, hm2⟩ := hm
      rw [hm2]
      refine ⟨by omega, ?_⟩
      conv => whnf
      refine ⟨by omega, ?_⟩
      conv => whnf
      have e2 : IntKind.i64.wrap ((t.n : Int) + (m : Int)) = ((t.n + m : Nat) : Int) := by rw [wrap_i64 (by omega) (by omega)]; omega
      rw [e2]
      have hsp : spl t.p (((t.n % 64 : Nat)) : Int).toNat (List.take (((64 : Nat) : Int).toNat - (((t.n % 64 : Nat)) : Int).toNat) r) = spl t.p (t.n % 64) (r.take m) := by
        rw [Int.toNat_natCast, Int.toNat_natCast]
        congr 1
        rw [hm1]
        rcases Nat.le_total r.length (64 - t.n % 64) with h | h
        · rw [Nat.min_eq_left h, List.take_of_length_le h, List.take_of_length_le (Nat.le_refl _)]
        · rw [Nat.min_eq_right h]
      rw [hsp]
      have hpl : (spl t.p (t.n % 64) (r.take m)).length = 64 := by
        have := h2.p
        simp only [spl, List.length_append, List.length_take, List.length_drop]; omega
      have hpc := writeF_piece (r.take m) t h2.p (by rw [List.length_take]; omega) (by rw [List.length_take]; omega)
      rw [List.length_take, Nat.min_eq_left (by omega)] at hpc
      have hgo : writeF (writeF t (r.take m)) (r.drop m) = writeF s b := by rw [← writeF_append, List.take_append_drop]; exact h1
      have hok := writeF_ok h2 (r.take m)
      by_cases hz : (t.n + m) % 64 = 0
      · refine CaseB.of_true (decide_eq_true (by rw [show Int.tmod ((t.n + m : Nat) : Int) 64 = (((t.n + m) % 64 : Nat) : Int) from rfl, hz]; rfl)) ?_
        conv => whnf
        refine DrawK.mk1 tok mixed [0, 0, 2, 6, 14, 0, 32, 96, 224, 510, 1023, 2047, 4095] [(0, 0, []), (1, 0, []), (5, 0, []), (2, 1, [0]), (3, 1, [0]), (4, 1, [0]), (6, 1, [0]), (7, 1, [0]), (8, 1, [0]), (9, 1, [0]), (10, 1, [0]), (11, 1, [0]), (12, 2, [])] (by kernel_rfl) ?_
        conv => whnf
        refine CallR.mk' _ ((c214 t.h h2.h _ hpl).free _ ⟨⟨trivial, trivial⟩, ⟨trivial, trivial⟩, trivial⟩ ⟨trivial, trivial⟩) ?_
        conv => whnf
        rw [if_pos hz] at hpc
        refine ⟨(r.drop m, writeF t (r.take m)), ⟨hgo, hok, by rw [hpc, List.length_drop]; show t.n + m + (r.length - m) = _; omega⟩, by show (r.drop m).length < r.length; rw [List.length_drop]; omega, ?_⟩
        rw [hpc]
        exact Weak.of ⟨rfl, okGs.ws (by exact ⟨trivial, trivial, trivial, trivial, trivial⟩), trivial⟩ (by simp) ⟨okF.wv rfl, WV.lf (WL.rob (by simp) (by simp) (by simp)), trivial⟩
      · refine CaseB.of_false (decide_eq_false (by rw [show Int.tmod ((t.n + m : Nat) : Int) 64 = (((t.n + m) % 64 : Nat) : Int) from rfl]; omega)) ?_
        conv => whnf
        rw [if_neg hz] at hpc
        refine ⟨(r.drop m, writeF t (r.take m)), ⟨hgo, hok, by rw [hpc, List.length_drop]; show t.n + m + (r.length - m) = _; omega⟩, by show (r.drop m).length < r.length; rw [List.length_drop]; omega, ?_⟩
        rw [hpc]
        exact Weak.of ⟨rfl, okGs.ws (by exact ⟨trivial, trivial, trivial, trivial, trivial⟩), trivial⟩ (by simp) ⟨okF.wv rfl, WV.lf (WL.rob (by simp) (by simp) (by simp)), trivial⟩
    · refine CaseB.of_false (decide_eq_false (by omega)) ?_
      conv => whnf
      obtain rfl : r = [] := List.length_eq_zero_iff.1 (by omega)
      have h1 : t = writeF s b := h1
      refine RetK.of (H := [some (obSt t)]) ⟨rfl, ?_, trivial⟩ (by simp) (okF.wv trivial)
      subst h1
      exact okGs.ws (by exact ⟨trivial, trivial, trivial, trivial, trivial⟩)
end Go.Sym.Md

set_option maxRecDepth 10000
set_option linter.unusedVariables false
set_option linter.unusedSimpArgs false
namespace Go.Sym.Md
open Go Go.Sym Go.Sym.Sh
attribute [local irreducible] ws acc rs addUp Kw highA highB Sh.choose most lowA lowB ror blockF writeF padF toldF

/-- The sum of what was written. -/
def sumF (s : St) : List UInt8 := toldF (writeF s (padF s.n)).h
/-- A text's sum. -/
def shaF (b : List UInt8) : List UInt8 := sumF (writeF st0 b)

theorem padF_length (n : Nat) : (padF n).length = zeros n + 9 := by rw [padF]; exact pF_length n 8 (by omega)

set_option maxRecDepth 10000 in
/-- (*sha.Hash).Sum -/
theorem c132 (s : St) (hs : s.ok) (hn : s.n ≤ 576460752303423488) : SCalls Proofs.Try.prog 132 [.s (.lf (.ptr 0 0))] [some (obSt s)] (.s (.lf (.str (sumF s)))) [some (obSt s)] := by
  refine SCalls.intro tok Proofs.Try.func132 ?_
  conv => whnf
  refine CallK.mk' _ _ ((c187 s.n hn).free _ ⟨trivial, trivial⟩ trivial) ?_
  conv => whnf
  have hz := zeros_lt s.n
  refine CallK.mk' _ [some (obSt s), some (obSt (writeF s (padF s.n)))] ((c186 s hs (padF s.n) (by rw [padF_length]; omega)).frame1 (nm := 1) rfl rfl (freeGs.ws ⟨trivial, trivial, trivial, trivial, trivial⟩) ⟨WV.lf (WL.ptr rfl rfl), WV.lf (WL.rob rfl (by simp) (by simp)), trivial⟩ rfl (freeGs.ws ⟨trivial, trivial, trivial, trivial, trivial⟩) (freeF.wv trivial)) ?_
  conv => whnf
  refine CallK.mk' _ _ ((c188 _ (writeF_ok hs _).h).free _ ⟨⟨trivial, trivial⟩, trivial⟩ trivial) ?_
  conv => whnf
  exact RetK.of ⟨rfl, okGs.ws (by exact ⟨trivial, trivial, trivial, trivial, trivial⟩), trivial⟩ (by simp) (okF.wv trivial)

set_option maxRecDepth 10000 in
/-- sha.Sum -/
theorem c235 (b : List UInt8) (hb : b.length ≤ 576460752303423488) : SCalls Proofs.Try.prog 235 [.s (.lf (.rob false false b))] [] (.s (.lf (.str (shaF b)))) [] := by
  refine SCalls.intro tok Proofs.Try.func235 ?_
  conv => whnf
  refine CallK.mk' _ _ c185 ?_
  conv => whnf
  have h0 : st0.ok := ⟨rfl, by simp [st0]⟩
  have hl : (writeF st0 b).n = b.length := by rw [writeF_n]; simp [st0]
  refine CallK.mk' _ [some (obSt (writeF st0 b))] (c186 st0 h0 b (by show 0 + b.length < _; omega)) ?_
  conv => whnf
  refine CallK.mk' _ [some (obSt (writeF st0 b))] (c132 _ (writeF_ok h0 b) (by rw [hl]; exact hb)) ?_
  conv => whnf
  exact RetK.empty (okF.wv trivial)

end Go.Sym.Md

set_option maxRecDepth 10000
set_option linter.unusedVariables false
set_option linter.unusedSimpArgs false
namespace Go.Sym.Md
open Go Go.Sym Go.Sym.Sh

def eqB : List UInt8 → List UInt8 → Bool
  | [], [] => true
  | a :: l, b :: m => Nat.beq a.toNat b.toNat && eqB l m
  | _, _ => false

theorem eqB_sound : ∀ {l m : List UInt8}, eqB l m = true → l = m
  | [], [], _ => rfl
  | a :: l, b :: m, h => by
    simp only [eqB, Bool.and_eq_true] at h
    rw [UInt8.toNat_inj.1 (Nat.eq_of_beq_eq_true h.1), eqB_sound h.2]
  | [], _ :: _, h => by simp [eqB] at h
  | _ :: _, [], h => by simp [eqB] at h

theorem sha_empty : shaF [] = [227, 176, 196, 66, 152, 252, 28, 20, 154, 251, 244, 200, 153, 111, 185, 36, 39, 174, 65, 228, 100, 155, 147, 76, 164, 149, 153, 27, 120, 82, 184, 85] := eqB_sound (by kernel_rfl)

attribute [local irreducible] shaF

end Go.Sym.Md

set_option linter.unusedVariables false
set_option linter.unusedSimpArgs false
set_option maxRecDepth 10000
namespace Go.Sym.Md
open Go Go.Sym Go.Sym.Sh
attribute [local irreducible] ws acc rs addUp Kw highA highB Sh.choose most lowA lowB ror blockF writeF padF toldF shaF

/-- The first i pieces, joined. -/
def joined (xs : Nat → List UInt8) : Nat → List UInt8
  | 0 => []
  | i + 1 => joined xs i ++ xs i

theorem obSt_ws {D : Rel} (s : St) : WSs D (obSt s).segs (obSt s).segs := plainGs.ws ⟨trivial, trivial, trivial, trivial, trivial⟩

theorem writeF_nil (s : St) : writeF s [] = s := by unfold writeF; rfl
theorem st0_ok : st0.ok := ⟨rfl, by simp [st0]⟩

/-- The state of the pieces' loop: with no piece yet, or with some. -/
def parFr (len : Nat) (f : Nat → Nat → LV) (i : Nat) (all : LV) : Fr :=
  [(3, .s (.lf (.ptr 0 0))), (4, .s (.lf all)), (12, .s (.lf (.ro false false 1 len f))), (13, vI len), (14, vI i)]

end Go.Sym.Md

set_option linter.unusedVariables false
set_option linter.unusedSimpArgs false
set_option maxRecDepth 10000
namespace Go.Sym.Md
open Go Go.Sym Go.Sym.Sh

/-- The padding, as baileyref03 lays it: j bytes of the length told. -/
def qF (n j : Nat) : List UInt8 := 128 :: List.replicate (zeros n) 0 ++ (List.range j).map fun t => lenByte n (7 - t)
/-- k zeros laid. -/
def q0 (k : Nat) : List UInt8 := 128 :: List.replicate k 0

theorem qF_zero (n : Nat) : qF n 0 = q0 (zeros n) := by simp [qF, q0]
theorem qF_succ (n j : Nat) : qF n (j + 1) = qF n j ++ [lenByte n (7 - j)] := by simp [qF, List.range_succ]
theorem qF_done (n : Nat) : qF n 8 = padF n := rfl
theorem q0_succ (k : Nat) : q0 (k + 1) = q0 k ++ [0] := by simp [q0, List.replicate_succ']
theorem q0_length (k : Nat) : (q0 k).length = k + 1 := by simp [q0]
theorem qF_length (n j : Nat) : (qF n j).length = zeros n + 1 + j := by simp [qF]; omega

attribute [local irreducible] qF q0 padF

/-- baileyref03.Pad -/
theorem c190 (z : Int) (n : Nat) (eN : min (max z 0) 576460752303423488 = (n : Int)) (hn : n ≤ 576460752303423488) : SCalls Proofs.Try.prog 190 [vI z] [] (.s (.lf (.rob true false (padF n)))) [] := by
  have hz := zeros_lt n
  refine SCalls.intro tok Proofs.Try.func190 ?_
  conv => whnf
  refine Or.inl ?_
  conv => whnf
  refine LoopK.upTo (zeros n) (fun k => [(0, vI n), (3, .s (.lf (.own 0 0 1 0 (q0 k).length)))]) (fun k => [some ⟨5, [.bytes (q0 k).length (q0 k)]⟩]) ?_ ?_
  · exact Weak.of ⟨rfl, ⟨.bytes (by rw [q0_length]) fun o _ => by rw [q0]; rfl, trivial⟩, trivial⟩ (by simp) ⟨WV.lf (WL.int eN), WV.lf (WL.own rfl rfl rfl (by rw [q0_length])), trivial⟩
  intro k hk
  have hl := q0_length k
  conv => whnf
  refine ⟨by omega, ?_⟩
  conv => whnf
  have e1 : (IntKind.i64.wrap ((n : Int) + ((q0 k).length : Int))).tmod 64 = (((n + (k + 1)) % 64 : Nat) : Int) := by
    rw [hl, wrap_i64 (by omega) (by omega), show (n : Int) + ((k + 1 : Nat) : Int) = ((n + (k + 1) : Nat) : Int) by omega]; rfl
  by_cases hk' : k < zeros n
  · refine CaseB.of_true (decide_eq_true (by rw [e1]; unfold zeros at *; omega)) ?_
    conv => whnf
    refine Or.inr ?_
    conv => whnf
    have el : (q0 k ++ List.map (fun a => UInt8.ofNat a.toNat) [(0 : Int)]) = q0 (k + 1) := by rw [q0_succ]; rfl
    refine ⟨⟨rfl, rfl, by rw [List.length_append, hl]; simp; omega⟩, ?_⟩
    conv => whnf
    refine next_round hk' (Weak.perm [1] ⟨⟨rfl, .bytes (congrArg List.length el) fun o _ => by rw [← el], trivial⟩, trivial⟩ ⟨freeF.wv trivial, WV.lf (WL.own rfl rfl rfl (congrArg List.length el)), trivial⟩ rfl (by simp) rfl (by simp))
  · refine CaseB.of_false (decide_eq_false (by rw [e1]; unfold zeros at *; omega)) ?_
    conv => whnf
    obtain rfl : k = zeros n := by omega
    refine LoopK.upTo 8 (fun j => [(0, vI n), (3, .s (.lf (.own 0 0 1 0 (qF n j).length))), (4, vI (56 - 8 * (j : Int)))]) (fun j => [some ⟨5, [.bytes (qF n j).length (qF n j)]⟩]) ?_ ?_
    · exact Weak.of ⟨rfl, ⟨.bytes (by rw [qF_zero]) fun o _ => by rw [qF_zero], trivial⟩, trivial⟩ (by simp) ⟨okF.wv trivial, WV.lf (WL.own rfl rfl rfl (by rw [qF_zero])), okF.wv trivial, trivial⟩
    intro j hj
    have hql := qF_length n j
    conv => whnf
    by_cases hj' : j < 8
    · refine CaseB.of_true (decide_eq_true (by omega)) ?_
      conv => whnf
      refine ⟨by omega, ?_⟩
      conv => whnf
      refine Or.inr ?_
      conv => whnf
      have ex : UInt8.ofNat (IntKind.u8.wrap (shrI IntKind.u64 (IntKind.u64.wrap (IntKind.i64.wrap (8 * (n : Int)))) (56 - 8 * (j : Int)))).toNat = lenByte n (7 - j) := by
        rw [show (56 - 8 * (j : Int)) = ((8 * (7 - j) : Nat) : Int) by omega, wrap_i64 (by omega) (by omega), wrap_u64, wrap_u8, lenByte]
        simp only [shrI, IntKind.bits, Int.toNat_natCast]
        rw [Nat.min_eq_left (by omega), show ((2 : Int) ^ (8 * (7 - j))) = ((256 ^ (7 - j) : Nat) : Int) by rw [Int.pow_mul]; simp, Int.fdiv_eq_ediv_of_nonneg _ (Int.natCast_nonneg _), show (8 * (n : Int)) % 18446744073709551616 = ((8 * n : Nat) : Int) by omega]
        apply UInt8.toNat_inj.1
        simp only [UInt8.toNat_ofNat']
        rw [← Int.natCast_ediv]
        omega
      have el : (qF n j ++ List.map (fun a => UInt8.ofNat a.toNat) [IntKind.u8.wrap (shrI IntKind.u64 (IntKind.u64.wrap (IntKind.i64.wrap (8 * (n : Int)))) (56 - 8 * (j : Int)))]) = qF n (j + 1) := by
        rw [qF_succ, List.map_cons, List.map_nil, ex]
      refine ⟨⟨rfl, rfl, by rw [el, qF_length]; omega⟩, ?_⟩
      conv => whnf
      refine next_round hj' (Weak.perm [1] ⟨⟨rfl, .bytes (congrArg List.length el) fun o _ => by rw [← el], trivial⟩, trivial⟩ ⟨freeF.wv trivial, WV.lf (WL.own rfl rfl rfl (congrArg List.length el)), WV.lf (WL.int (by rw [wrap_i64 (by omega) (by omega)]; omega)), trivial⟩ rfl (by simp) rfl (by simp))
    · refine CaseB.of_false (decide_eq_false (by omega)) ?_
      conv => whnf
      obtain rfl : j = 8 := by omega
      refine RetK.empty (WV.lf (WL.freezeB (p := []) (q := []) rfl rfl rfl (by omega) (by omega) ?_ ?_))
      · rw [List.drop_zero, List.take_length, qF_done]
      · exact ⟨fun h => h, fun i ob h => by simp at h⟩
end Go.Sym.Md

