/- Contracts of the program's functions, proved by the framework (text TxD), without conditions but those that each theorem states. -/
import Derived.Test.YtlmcdgbjbamdnaaTxC
import Derived.KernelRfl
set_option linter.unusedVariables false
set_option linter.unusedSimpArgs false
set_option maxRecDepth 10000
namespace Go.Sym.Md
open Go Go.Sym Go.Sym.Sh

/-- The words behind k blocks of a text. -/
def cF (all : List UInt8) : Nat → List UInt32
  | 0 => H0w
  | k + 1 => blockF (cF all k) ((all.drop (64 * k)).take 64)

theorem cF_zero (all : List UInt8) : cF all 0 = H0w := rfl
theorem cF_succ (all : List UInt8) (k : Nat) : cF all (k + 1) = blockF (cF all k) ((all.drop (64 * k)).take 64) := rfl

theorem cF_length (all : List UInt8) (k : Nat) : (cF all k).length = 8 := by
  induction k with
  | zero => rfl
  | succ k ih => exact blockF_length _ _ ih

theorem cF_write (all : List UInt8) : ∀ (k : Nat), 64 * k ≤ all.length → (writeF st0 (all.take (64 * k))).h = cF all k
  | 0, _ => by simp [writeF, cF, st0]
  | k + 1, h => by
    have ih := cF_write all k (by omega)
    have hs := writeF_ok st0_ok (all.take (64 * k))
    have hn : (writeF st0 (all.take (64 * k))).n = 64 * k := by rw [writeF_n, List.length_take, Nat.min_eq_left (by omega)]; exact Nat.zero_add _
    have hb : ((all.drop (64 * k)).take 64).length = 64 := by rw [List.length_take, List.length_drop]; omega
    have e : all.take (64 * (k + 1)) = all.take (64 * k) ++ (all.drop (64 * k)).take 64 := by
      rw [show 64 * (k + 1) = 64 * k + 64 by omega, List.take_add]
    rw [e, writeF_append, writeF_piece _ _ hs.p (by omega) (by rw [hn, hb]; omega), cF, ← ih]
    simp only []
    rw [if_pos (by rw [hn, hb]; omega)]
    congr 1
    rw [hn, show 64 * k % 64 = 0 by omega, spl, hb, List.take_zero, List.nil_append, List.drop_of_length_le (i := 0 + 64) (by rw [hs.p]; omega), List.append_nil]

/-- A text with what stands behind it. -/
def wholeF (b : List UInt8) : List UInt8 := b ++ padF b.length

theorem wholeF_length (b : List UInt8) : (wholeF b).length = 64 * ((b.length + 72) / 64) := by
  rw [wholeF, List.length_append, padF_length]
  unfold zeros
  omega

theorem shaF_whole (b : List UInt8) : shaF b = toldF (cF (wholeF b) ((b.length + 72) / 64)) := by
  rw [shaF, sumF, writeF_n, show st0.n + b.length = b.length from Nat.zero_add _, ← writeF_append, ← cF_write _ _ (by rw [wholeF_length]; omega), List.take_of_length_le (by rw [wholeF_length]; omega), wholeF]

/-- The first m bytes of a sum. -/
def oF (h : List UInt32) (m : Nat) : List UInt8 := (List.range (4 * m)).map (Sh.byteOf h)
theorem oF_zero (h : List UInt32) : oF h 0 = [] := rfl
theorem oF_done (h : List UInt32) : oF h 8 = toldF h := rfl
theorem oF_length (h : List UInt32) (m : Nat) : (oF h m).length = 4 * m := by simp [oF]
theorem oF_succ (h : List UInt32) (m : Nat) : oF h (m + 1) = oF h m ++ [Sh.byteOf h (4 * m), Sh.byteOf h (4 * m + 1), Sh.byteOf h (4 * m + 2), Sh.byteOf h (4 * m + 3)] := by
  simp only [oF, show 4 * (m + 1) = 4 * m + 1 + 1 + 1 + 1 by omega, List.range_succ, List.map_append, List.append_assoc]
  rfl

theorem byteOf_at (h : List UInt32) (i j : Nat) (hj : j < 4) : Sh.byteOf h (4 * i + j) = ((h.getD i 0) >>> (UInt32.ofNat (24 - 8 * j))).toUInt8 := by
  rw [Sh.byteOf, show (4 * i + j) / 4 = i by omega, show (4 * i + j) % 4 = j by omega]

theorem four_bytes (h : List UInt32) (i : Nat) : List.map (fun a : Int => UInt8.ofNat a.toNat) [IntKind.u8.wrap (shrI IntKind.u32 ((Us h).getD (Int.toNat (i : Int)) 0) 24), IntKind.u8.wrap (shrI IntKind.u32 ((Us h).getD (Int.toNat (i : Int)) 0) 16), IntKind.u8.wrap (shrI IntKind.u32 ((Us h).getD (Int.toNat (i : Int)) 0) 8), IntKind.u8.wrap ((Us h).getD (Int.toNat (i : Int)) 0)]
    = [Sh.byteOf h (4 * i), Sh.byteOf h (4 * i + 1), Sh.byteOf h (4 * i + 2), Sh.byteOf h (4 * i + 3)] := by
  rw [Int.toNat_natCast, Us_getD]
  simp only [U, List.map_cons, List.map_nil]
  rw [u32_shr' _ 24 (m := 24) (by omega) rfl, u32_shr' _ 16 (m := 16) (by omega) rfl, u32_shr' _ 8 (m := 8) (by omega) rfl, u32_byte, u32_byte, u32_byte, u32_byte]
  rw [show 4 * i = 4 * i + 0 from rfl, byteOf_at h i 0 (by omega), show 4 * i + 0 = 4 * i from rfl, byteOf_at h i 1 (by omega), byteOf_at h i 2 (by omega), byteOf_at h i 3 (by omega)]
  simp

/-- The first j bytes of block k, zeros behind them. -/
def xF (w : List UInt8) (k j : Nat) : List UInt8 := (w.drop (64 * k)).take j ++ List.replicate (64 - j) 0

theorem xF_zero (w : List UInt8) (k : Nat) : xF w k 0 = List.replicate 64 0 := by simp [xF]
theorem xF_full (w : List UInt8) (k : Nat) : xF w k 64 = (w.drop (64 * k)).take 64 := by simp [xF]
theorem xF_length {w : List UInt8} {k j : Nat} (hj : j ≤ 64) (h : 64 * (k + 1) ≤ w.length) : (xF w k j).length = 64 := by simp [xF]; omega
theorem xF_set {w : List UInt8} {k j : Nat} (hj : j < 64) (h : 64 * (k + 1) ≤ w.length) : (xF w k j).set j (w.getD (64 * k + j) 0) = xF w k (j + 1) := by
  have hl : ((w.drop (64 * k)).take j).length = j := by simp; omega
  simp only [xF]
  rw [List.set_append_right _ _ (by omega), hl, Nat.sub_self, show 64 - j = (64 - (j + 1)) + 1 by omega, List.replicate_succ, List.set_cons_zero, List.take_add_one, List.getElem?_drop, List.getElem?_eq_getElem (by omega), List.getD_eq_getElem?_getD, List.getElem?_eq_getElem (by omega)]
  simp

attribute [local irreducible] xF ws acc rs addUp Kw highA highB Sh.choose most lowA lowB ror blockF writeF padF toldF shaF oF cF wholeF

/-- baileyref03.Sum -/
theorem c134 (b : List UInt8) (hb : b.length ≤ 1000000) : SCalls Proofs.Try.prog 134 [.s (.lf (.rob false false b))] [] (.s (.lf (.str (shaF b)))) [] := by
  have hz := zeros_lt b.length
  have hp := padF_length b.length
  have h27 := c190 b.length b.length (by omega) (by omega)
  have hw := wholeF_length b
  obtain ⟨y, r, hyr⟩ : ∃ y r, padF b.length = y :: r := by
    cases h : padF b.length with
    | nil => rw [h] at hp; simp at hp
    | cons y r => exact ⟨y, r, rfl⟩
  rw [hyr] at h27
  obtain ⟨R, hR⟩ : ∃ R, R = shaF b := ⟨_, rfl⟩
  obtain ⟨w, hw0⟩ : ∃ w, w = wholeF b := ⟨_, rfl⟩
  obtain ⟨N, hN⟩ : ∃ N, N = (b.length + 72) / 64 := ⟨_, rfl⟩
  have hs : R = toldF (cF w N) := by rw [hR, hw0, hN]; exact shaF_whole b
  have hwl : w.length = 64 * N := by rw [hw0, hN]; exact wholeF_length b
  have hN' : N ≤ 20000 := by omega
  rw [← hR]
  clear hR
  refine SCalls.intro tok Proofs.Try.func134 ?_
  conv => whnf
  rcases b with _ | ⟨x, b'⟩
  · conv => whnf
    refine CallK.mk' _ _ h27 ?_
    conv => whnf
    have ew : y :: r = w := by rw [hw0, wholeF]; exact hyr.symm
    refine ⟨by rw [ew, hwl]; omega, ?_⟩
    conv => whnf
    refine CallK.mk' _ _ (c191.free _ trivial ⟨trivial, trivial⟩) ?_
    conv => whnf
    refine LoopK.upTo N (fun k => [(3, .s (.lf (.own 0 0 1 0 w.length))), (4, .s (.lf (.ptr 1 0))), (5, vI (64 * (k : Int)))]) (fun k => [some ⟨5, [.bytes w.length w]⟩, some ⟨198, [.ints .u32 8 (Us (cF w k))]⟩]) ?_ ?_
    · exact Weak.of ⟨rfl, ⟨.bytes (congrArg List.length ew) fun o _ => by rw [ew], trivial⟩, rfl, ⟨.ints rfl fun _ _ => by rw [cF_zero], trivial⟩, trivial⟩ (by simp) ⟨WV.lf (WL.own rfl rfl rfl (congrArg List.length ew)), okF.wv rfl, okF.wv trivial, trivial⟩
    intro k hk
    conv => whnf
    by_cases hk' : k < N
    · refine CaseB.of_true (decide_eq_true (by omega)) ?_
      conv => whnf
      refine LoopK.upTo 64 (fun j => [(3, .s (.lf (.own 0 0 1 0 w.length))), (4, .s (.lf (.ptr 1 0))), (5, vI (64 * (k : Int))), (6, .s (.lf (.ptr 2 0))), (7, vI j)]) (fun j => [some ⟨5, [.bytes w.length w]⟩, some ⟨198, [.ints .u32 8 (Us (cF w k))]⟩, some ⟨199, [.bytes 64 (xF w k j)]⟩]) ?_ ?_
      · exact Weak.of ⟨rfl, ⟨.bytes rfl fun _ _ => rfl, trivial⟩, rfl, ⟨.ints rfl fun _ _ => rfl, trivial⟩, rfl, ⟨.bytes rfl fun _ _ => by rw [xF_zero], trivial⟩, trivial⟩ (by simp) ⟨okF.wv rfl, okF.wv rfl, okF.wv trivial, okF.wv rfl, okF.wv trivial, trivial⟩
      intro j hj
      conv => whnf
      by_cases hj' : j < 64
      · refine CaseB.of_true (decide_eq_true (by omega)) ?_
        conv => whnf
        have e1 : IntKind.i64.wrap (64 * (k : Int) + (j : Int)) = ((64 * k + j : Nat) : Int) := by rw [wrap_i64 (by omega) (by omega)]; omega
        refine ⟨by rw [e1]; omega, ?_⟩
        conv => whnf
        refine ⟨by omega, ?_⟩
        conv => whnf
        refine ⟨by omega, ?_⟩
        conv => whnf
        have hx : Int.toNat (j : Int) < (xF w k j).length := by rw [xF_length (by omega) (by omega)]; omega
        refine ⟨by omega, ?_⟩
        conv => whnf
        refine ⟨hx, ?_⟩
        conv => whnf
        refine next_round hj' (Weak.of ⟨rfl, ⟨.bytes rfl fun _ _ => rfl, trivial⟩, rfl, ⟨.ints rfl fun _ _ => rfl, trivial⟩, rfl, ⟨.bytes rfl fun o _ => ?_, trivial⟩, trivial⟩ (by simp) ⟨okF.wv rfl, okF.wv rfl, okF.wv trivial, okF.wv rfl, WV.lf (WL.int (by rw [wrap_i64 (by omega) (by omega)]; omega)), trivial⟩)
        rw [e1, ← xF_set hj' (by omega), Int.toNat_natCast, Int.toNat_natCast]
        congr 2
        rw [Int.toNat_natCast, Nat.zero_add]
        exact UInt8.ofNat_toNat
      · refine CaseB.of_false (decide_eq_false (by omega)) ?_
        conv => whnf
        obtain rfl : j = 64 := by omega
        have hx : (xF w k 64).length = 64 := xF_length (by omega) (by omega)
        refine CallK.mk' _ _ ((c192 (cF w k) (cF_length w k) (xF w k 64) hx).free _ ⟨⟨trivial, trivial⟩, ⟨trivial, trivial⟩, trivial⟩ ⟨trivial, trivial⟩) ?_
        conv => whnf
        refine next_round hk' (Weak.of ⟨rfl, ⟨.bytes rfl fun _ _ => rfl, trivial⟩, rfl, ⟨.ints rfl fun _ _ => by rw [cF_succ, xF_full], trivial⟩, trivial⟩ (by simp) ⟨okF.wv rfl, okF.wv rfl, WV.lf (WL.int (by rw [wrap_i64 (by omega) (by omega)]; omega)), trivial⟩)
    · refine CaseB.of_false (decide_eq_false (by omega)) ?_
      conv => whnf
      obtain rfl : k = N := by omega
      refine LoopK.mk2 (fun (i : Nat) (e : Bool) => match e with
          | true => [(4, .s (.lf (.ptr 0 0))), (8, .s (.lf .sl0)), (9, vI i)]
          | false => [(4, .s (.lf (.ptr 0 0))), (8, .s (.lf (.own 1 0 1 0 (oF (cF w k) i).length))), (9, vI i)])
        (fun i e => match e with
          | true => [some ⟨198, [.ints .u32 8 (Us (cF w k))]⟩]
          | false => [some ⟨198, [.ints .u32 8 (Us (cF w k))]⟩, some ⟨5, [.bytes (oF (cF w k) i).length (oF (cF w k) i)]⟩]) (fun i e => i ≤ 8 ∧ (e = true → i = 0)) (fun i e => 8 - i) 0 true ⟨by omega, fun _ => rfl⟩ ?_ ?_
      · exact Weak.perm [1] ⟨⟨rfl, .ints rfl fun _ _ => rfl, trivial⟩, trivial⟩ ⟨WV.lf (WL.ptr rfl rfl), freeF.wv trivial, freeF.wv trivial, trivial⟩ rfl (by simp) rfl (by simp)
      intro i e hi
      obtain ⟨hi, he⟩ := hi
      cases e with
      | true =>
        obtain rfl := he rfl
        conv => whnf
        refine CaseB.of_true (decide_eq_true (by omega)) ?_
        conv => whnf
        refine DrawK.mk1 tok mixed [0, 0, 2, 6, 14, 30, 0, 64, 192, 448, 960, 0, 2048, 6144, 14336, 30720, 0, 65536, 196608, 458752, 1048574, 2097151, 4194303] [(0, 0, []), (1, 0, []), (6, 0, []), (11, 0, []), (16, 0, []), (2, 1, [0]), (3, 1, [0]), (4, 0, []), (5, 0, []), (7, 1, [0]), (8, 1, [0]), (9, 0, []), (10, 0, []), (12, 1, [0]), (13, 1, [0]), (14, 0, []), (15, 0, []), (17, 1, [0]), (18, 1, [0]), (19, 0, []), (20, 2, []), (21, 2, []), (22, 0, [])] (by kernel_rfl) ?_
        conv => whnf
        refine ⟨by omega, ?_⟩
        conv => whnf
        repeat (refine ⟨by omega, ?_⟩; conv => whnf)
        refine Or.inr ?_
        conv => whnf
        have e4 : List.map (fun a : Int => UInt8.ofNat a.toNat) [IntKind.u8.wrap (shrI IntKind.u32 ((Us (cF w k)).getD (Int.toNat ((0 : Nat) : Int)) 0) 24), IntKind.u8.wrap (shrI IntKind.u32 ((Us (cF w k)).getD (Int.toNat ((0 : Nat) : Int)) 0) 16), IntKind.u8.wrap (shrI IntKind.u32 ((Us (cF w k)).getD (Int.toNat ((0 : Nat) : Int)) 0) 8), IntKind.u8.wrap ((Us (cF w k)).getD (Int.toNat ((0 : Nat) : Int)) 0)] = oF (cF w k) (0 + 1) := by rw [four_bytes, oF_succ, oF_zero]; rfl
        refine ⟨by simp, ?_⟩
        conv => whnf
        refine ⟨(0 + 1, false), ⟨by omega, fun h => by simp at h⟩, by show 8 - (0 + 1) < 8 - 0; omega, ?_⟩
        exact Weak.of ⟨rfl, ⟨.ints rfl fun _ _ => rfl, trivial⟩, rfl, ⟨.bytes (congrArg List.length e4) fun o _ => congrArg (fun l => List.getD l o 0) e4, trivial⟩, trivial⟩ (by simp) ⟨okF.wv rfl, WV.lf (WL.own rfl rfl rfl (congrArg List.length e4)), WV.lf (WL.int rfl), trivial⟩
      | false =>
        conv => whnf
        by_cases hi' : i < 8
        · refine CaseB.of_true (decide_eq_true (by omega)) ?_
          conv => whnf
          refine DrawK.mk1 tok mixed [0, 0, 2, 6, 14, 30, 0, 64, 192, 448, 960, 0, 2048, 6144, 14336, 30720, 0, 65536, 196608, 458752, 1048574, 2097151, 4194303] [(0, 0, []), (1, 0, []), (6, 0, []), (11, 0, []), (16, 0, []), (2, 1, [0]), (3, 1, [0]), (4, 0, []), (5, 0, []), (7, 1, [0]), (8, 1, [0]), (9, 0, []), (10, 0, []), (12, 1, [0]), (13, 1, [0]), (14, 0, []), (15, 0, []), (17, 1, [0]), (18, 1, [0]), (19, 0, []), (20, 2, []), (21, 2, []), (22, 0, [])] (by kernel_rfl) ?_
          conv => whnf
          repeat (refine ⟨by omega, ?_⟩; conv => whnf)
          refine Or.inr ?_
          conv => whnf
          have e4 : oF (cF w k) i ++ List.map (fun a : Int => UInt8.ofNat a.toNat) [IntKind.u8.wrap (shrI IntKind.u32 ((Us (cF w k)).getD (Int.toNat ((i : Nat) : Int)) 0) 24), IntKind.u8.wrap (shrI IntKind.u32 ((Us (cF w k)).getD (Int.toNat ((i : Nat) : Int)) 0) 16), IntKind.u8.wrap (shrI IntKind.u32 ((Us (cF w k)).getD (Int.toNat ((i : Nat) : Int)) 0) 8), IntKind.u8.wrap ((Us (cF w k)).getD (Int.toNat ((i : Nat) : Int)) 0)] = oF (cF w k) (i + 1) := by rw [four_bytes, oF_succ]
          refine ⟨⟨rfl, rfl, by rw [e4, oF_length]; omega⟩, ?_⟩
          conv => whnf
          refine ⟨(i + 1, false), ⟨by omega, fun h => by simp at h⟩, by show 8 - (i + 1) < 8 - i; omega, ?_⟩
          exact Weak.perm [0, 2] ⟨⟨rfl, .ints rfl fun _ _ => rfl, trivial⟩, ⟨rfl, .bytes (congrArg List.length e4) fun o _ => congrArg (fun l => List.getD l o 0) e4, trivial⟩, trivial⟩ ⟨WV.lf (WL.ptr rfl rfl), WV.lf (WL.own rfl rfl rfl (congrArg List.length e4)), WV.lf (WL.int (by rw [wrap_i64 (by omega) (by omega)]; omega)), trivial⟩ rfl (by simp) rfl (by simp)
        · refine CaseB.of_false (decide_eq_false (by omega)) ?_
          conv => whnf
          refine ⟨⟨by omega, by omega⟩, ?_⟩
          conv => whnf
          obtain rfl : i = 8 := by omega
          refine RetK.empty (WV.lf (WL.str ?_))
          rw [List.drop_zero, List.take_length, oF_done, hs]
  · conv => whnf
    have ew : (x :: b') ++ (y :: r) = w := by rw [hw0, wholeF, hyr]
    refine ⟨by omega, ?_⟩
    conv => whnf
    refine CallK.mk' _ _ (h27.free _ ⟨trivial, trivial⟩ trivial) ?_
    conv => whnf
    refine ⟨⟨rfl, rfl, by rw [ew, hwl]; omega⟩, ?_⟩
    conv => whnf
    refine CallK.mk' _ _ (c191.free _ trivial ⟨trivial, trivial⟩) ?_
    conv => whnf
    refine LoopK.upTo N (fun k => [(3, .s (.lf (.own 0 0 1 0 w.length))), (4, .s (.lf (.ptr 1 0))), (5, vI (64 * (k : Int)))]) (fun k => [some ⟨5, [.bytes w.length w]⟩, some ⟨198, [.ints .u32 8 (Us (cF w k))]⟩]) ?_ ?_
    · exact Weak.perm [1, 2] ⟨⟨rfl, .bytes (congrArg List.length ew) fun o _ => by rw [ew], trivial⟩, ⟨rfl, .ints rfl fun _ _ => by rw [cF_zero], trivial⟩, trivial⟩ ⟨WV.lf (WL.own rfl rfl rfl (congrArg List.length ew)), WV.lf (WL.ptr rfl rfl), freeF.wv trivial, trivial⟩ rfl (by simp) rfl (by simp)
    intro k hk
    conv => whnf
    by_cases hk' : k < N
    · refine CaseB.of_true (decide_eq_true (by omega)) ?_
      conv => whnf
      refine LoopK.upTo 64 (fun j => [(3, .s (.lf (.own 0 0 1 0 w.length))), (4, .s (.lf (.ptr 1 0))), (5, vI (64 * (k : Int))), (6, .s (.lf (.ptr 2 0))), (7, vI j)]) (fun j => [some ⟨5, [.bytes w.length w]⟩, some ⟨198, [.ints .u32 8 (Us (cF w k))]⟩, some ⟨199, [.bytes 64 (xF w k j)]⟩]) ?_ ?_
      · exact Weak.of ⟨rfl, ⟨.bytes rfl fun _ _ => rfl, trivial⟩, rfl, ⟨.ints rfl fun _ _ => rfl, trivial⟩, rfl, ⟨.bytes rfl fun _ _ => by rw [xF_zero], trivial⟩, trivial⟩ (by simp) ⟨okF.wv rfl, okF.wv rfl, okF.wv trivial, okF.wv rfl, okF.wv trivial, trivial⟩
      intro j hj
      conv => whnf
      by_cases hj' : j < 64
      · refine CaseB.of_true (decide_eq_true (by omega)) ?_
        conv => whnf
        have e1 : IntKind.i64.wrap (64 * (k : Int) + (j : Int)) = ((64 * k + j : Nat) : Int) := by rw [wrap_i64 (by omega) (by omega)]; omega
        refine ⟨by rw [e1]; omega, ?_⟩
        conv => whnf
        refine ⟨by omega, ?_⟩
        conv => whnf
        refine ⟨by omega, ?_⟩
        conv => whnf
        have hx : Int.toNat (j : Int) < (xF w k j).length := by rw [xF_length (by omega) (by omega)]; omega
        refine ⟨by omega, ?_⟩
        conv => whnf
        refine ⟨hx, ?_⟩
        conv => whnf
        refine next_round hj' (Weak.of ⟨rfl, ⟨.bytes rfl fun _ _ => rfl, trivial⟩, rfl, ⟨.ints rfl fun _ _ => rfl, trivial⟩, rfl, ⟨.bytes rfl fun o _ => ?_, trivial⟩, trivial⟩ (by simp) ⟨okF.wv rfl, okF.wv rfl, okF.wv trivial, okF.wv rfl, WV.lf (WL.int (by rw [wrap_i64 (by omega) (by omega)]; omega)), trivial⟩)
        rw [e1, ← xF_set hj' (by omega), Int.toNat_natCast, Int.toNat_natCast]
        congr 2
        rw [Int.toNat_natCast, Nat.zero_add]
        exact UInt8.ofNat_toNat
      · refine CaseB.of_false (decide_eq_false (by omega)) ?_
        conv => whnf
        obtain rfl : j = 64 := by omega
        have hx : (xF w k 64).length = 64 := xF_length (by omega) (by omega)
        refine CallK.mk' _ _ ((c192 (cF w k) (cF_length w k) (xF w k 64) hx).free _ ⟨⟨trivial, trivial⟩, ⟨trivial, trivial⟩, trivial⟩ ⟨trivial, trivial⟩) ?_
        conv => whnf
        refine next_round hk' (Weak.of ⟨rfl, ⟨.bytes rfl fun _ _ => rfl, trivial⟩, rfl, ⟨.ints rfl fun _ _ => by rw [cF_succ, xF_full], trivial⟩, trivial⟩ (by simp) ⟨okF.wv rfl, okF.wv rfl, WV.lf (WL.int (by rw [wrap_i64 (by omega) (by omega)]; omega)), trivial⟩)
    · refine CaseB.of_false (decide_eq_false (by omega)) ?_
      conv => whnf
      obtain rfl : k = N := by omega
      refine LoopK.mk2 (fun (i : Nat) (e : Bool) => match e with
          | true => [(4, .s (.lf (.ptr 0 0))), (8, .s (.lf .sl0)), (9, vI i)]
          | false => [(4, .s (.lf (.ptr 0 0))), (8, .s (.lf (.own 1 0 1 0 (oF (cF w k) i).length))), (9, vI i)])
        (fun i e => match e with
          | true => [some ⟨198, [.ints .u32 8 (Us (cF w k))]⟩]
          | false => [some ⟨198, [.ints .u32 8 (Us (cF w k))]⟩, some ⟨5, [.bytes (oF (cF w k) i).length (oF (cF w k) i)]⟩]) (fun i e => i ≤ 8 ∧ (e = true → i = 0)) (fun i e => 8 - i) 0 true ⟨by omega, fun _ => rfl⟩ ?_ ?_
      · exact Weak.perm [1] ⟨⟨rfl, .ints rfl fun _ _ => rfl, trivial⟩, trivial⟩ ⟨WV.lf (WL.ptr rfl rfl), freeF.wv trivial, freeF.wv trivial, trivial⟩ rfl (by simp) rfl (by simp)
      intro i e hi
      obtain ⟨hi, he⟩ := hi
      cases e with
      | true =>
        obtain rfl := he rfl
        conv => whnf
        refine CaseB.of_true (decide_eq_true (by omega)) ?_
        conv => whnf
        refine DrawK.mk1 tok mixed [0, 0, 2, 6, 14, 30, 0, 64, 192, 448, 960, 0, 2048, 6144, 14336, 30720, 0, 65536, 196608, 458752, 1048574, 2097151, 4194303] [(0, 0, []), (1, 0, []), (6, 0, []), (11, 0, []), (16, 0, []), (2, 1, [0]), (3, 1, [0]), (4, 0, []), (5, 0, []), (7, 1, [0]), (8, 1, [0]), (9, 0, []), (10, 0, []), (12, 1, [0]), (13, 1, [0]), (14, 0, []), (15, 0, []), (17, 1, [0]), (18, 1, [0]), (19, 0, []), (20, 2, []), (21, 2, []), (22, 0, [])] (by kernel_rfl) ?_
        conv => whnf
        refine ⟨by omega, ?_⟩
        conv => whnf
        repeat (refine ⟨by omega, ?_⟩; conv => whnf)
        refine Or.inr ?_
        conv => whnf
        have e4 : List.map (fun a : Int => UInt8.ofNat a.toNat) [IntKind.u8.wrap (shrI IntKind.u32 ((Us (cF w k)).getD (Int.toNat ((0 : Nat) : Int)) 0) 24), IntKind.u8.wrap (shrI IntKind.u32 ((Us (cF w k)).getD (Int.toNat ((0 : Nat) : Int)) 0) 16), IntKind.u8.wrap (shrI IntKind.u32 ((Us (cF w k)).getD (Int.toNat ((0 : Nat) : Int)) 0) 8), IntKind.u8.wrap ((Us (cF w k)).getD (Int.toNat ((0 : Nat) : Int)) 0)] = oF (cF w k) (0 + 1) := by rw [four_bytes, oF_succ, oF_zero]; rfl
        refine ⟨by simp, ?_⟩
        conv => whnf
        refine ⟨(0 + 1, false), ⟨by omega, fun h => by simp at h⟩, by show 8 - (0 + 1) < 8 - 0; omega, ?_⟩
        exact Weak.of ⟨rfl, ⟨.ints rfl fun _ _ => rfl, trivial⟩, rfl, ⟨.bytes (congrArg List.length e4) fun o _ => congrArg (fun l => List.getD l o 0) e4, trivial⟩, trivial⟩ (by simp) ⟨okF.wv rfl, WV.lf (WL.own rfl rfl rfl (congrArg List.length e4)), WV.lf (WL.int rfl), trivial⟩
      | false =>
        conv => whnf
        by_cases hi' : i < 8
        · refine CaseB.of_true (decide_eq_true (by omega)) ?_
          conv => whnf
          refine DrawK.mk1 tok mixed [0, 0, 2, 6, 14, 30, 0, 64, 192, 448, 960, 0, 2048, 6144, 14336, 30720, 0, 65536, 196608, 458752, 1048574, 2097151, 4194303] [(0, 0, []), (1, 0, []), (6, 0, []), (11, 0, []), (16, 0, []), (2, 1, [0]), (3, 1, [0]), (4, 0, []), (5, 0, []), (7, 1, [0]), (8, 1, [0]), (9, 0, []), (10, 0, []), (12, 1, [0]), (13, 1, [0]), (14, 0, []), (15, 0, []), (17, 1, [0]), (18, 1, [0]), (19, 0, []), (20, 2, []), (21, 2, []), (22, 0, [])] (by kernel_rfl) ?_
          conv => whnf
          repeat (refine ⟨by omega, ?_⟩; conv => whnf)
          refine Or.inr ?_
          conv => whnf
          have e4 : oF (cF w k) i ++ List.map (fun a : Int => UInt8.ofNat a.toNat) [IntKind.u8.wrap (shrI IntKind.u32 ((Us (cF w k)).getD (Int.toNat ((i : Nat) : Int)) 0) 24), IntKind.u8.wrap (shrI IntKind.u32 ((Us (cF w k)).getD (Int.toNat ((i : Nat) : Int)) 0) 16), IntKind.u8.wrap (shrI IntKind.u32 ((Us (cF w k)).getD (Int.toNat ((i : Nat) : Int)) 0) 8), IntKind.u8.wrap ((Us (cF w k)).getD (Int.toNat ((i : Nat) : Int)) 0)] = oF (cF w k) (i + 1) := by rw [four_bytes, oF_succ]
          refine ⟨⟨rfl, rfl, by rw [e4, oF_length]; omega⟩, ?_⟩
          conv => whnf
          refine ⟨(i + 1, false), ⟨by omega, fun h => by simp at h⟩, by show 8 - (i + 1) < 8 - i; omega, ?_⟩
          exact Weak.perm [0, 2] ⟨⟨rfl, .ints rfl fun _ _ => rfl, trivial⟩, ⟨rfl, .bytes (congrArg List.length e4) fun o _ => congrArg (fun l => List.getD l o 0) e4, trivial⟩, trivial⟩ ⟨WV.lf (WL.ptr rfl rfl), WV.lf (WL.own rfl rfl rfl (congrArg List.length e4)), WV.lf (WL.int (by rw [wrap_i64 (by omega) (by omega)]; omega)), trivial⟩ rfl (by simp) rfl (by simp)
        · refine CaseB.of_false (decide_eq_false (by omega)) ?_
          conv => whnf
          refine ⟨⟨by omega, by omega⟩, ?_⟩
          conv => whnf
          obtain rfl : i = 8 := by omega
          refine RetK.empty (WV.lf (WL.str ?_))
          rw [List.drop_zero, List.take_length, oF_done, hs]
end Go.Sym.Md

set_option linter.unusedVariables false
set_option linter.unusedSimpArgs false
set_option maxRecDepth 10000
namespace Go.Sym.Md
open Go Go.Sym Go.Sym.Sh

/-- A key as long as a block at most. -/
def keyF (key : List UInt8) : List UInt8 := if 64 < key.length then shaF key else key
/-- A key's block, a byte added to each. -/
def blkF (key : List UInt8) (x : UInt8) : List UInt8 := (List.range 64).map fun i => (keyF key).getD i 0 ^^^ x
/-- A text's tag under a key. -/
def tagF (key text : List UInt8) : List UInt8 := shaF (blkF key 92 ++ shaF (blkF key 54 ++ text))

theorem blkF_length (key : List UInt8) (x : UInt8) : (blkF key x).length = 64 := by simp [blkF]
theorem toldF_length (h : List UInt32) : (toldF h).length = 32 := by simp [toldF]
theorem shaF_length (b : List UInt8) : (shaF b).length = 32 := by rw [shaF, sumF, toldF_length]
theorem keyF_length (key : List UInt8) : (keyF key).length ≤ 64 := by
  unfold keyF
  split
  · rw [shaF_length]; omega
  · omega

theorem u8_bv (x : UInt8) : BitVec.ofInt 8 (x.toNat : Int) = x.toBitVec := by
  rw [BitVec.ofInt_natCast]; apply BitVec.eq_of_toNat_eq; simp

theorem u8_xor (x y : UInt8) : bitsI .xor .u8 (x.toNat : Int) (y.toNat : Int) = ((x ^^^ y).toNat : Int) := by
  simp only [bitsI, IntKind.bits, u8_bv]
  rw [wrap_id (by simp [IntKind.min, IntKind.signed]) (by have := (x.toBitVec ^^^ y.toBitVec).isLt; simp only [IntKind.max, IntKind.signed, IntKind.bits, Bool.false_eq_true, if_false]; omega)]
  rfl

theorem spl_pad (k : List UInt8) (h : k.length ≤ 64) : spl (List.replicate 64 0) (Int.toNat 0) (List.take ((Int.toNat ((64 : Nat) : Int)) - Int.toNat 0) k) = k ++ List.replicate (64 - k.length) 0 := by
  rw [show (Int.toNat ((64 : Nat) : Int)) - Int.toNat 0 = 64 from rfl, List.take_of_length_le h, spl, show Int.toNat 0 = 0 from rfl, List.take_zero, List.nil_append, List.drop_replicate, Nat.zero_add]

/-- i bytes of a block are made. -/
def bF (k : List UInt8) (x : UInt8) (i : Nat) : List UInt8 := (List.range 64).map fun j => if j < i then k.getD j 0 ^^^ x else k.getD j 0
theorem bF_length (k : List UInt8) (x : UInt8) (i : Nat) : (bF k x i).length = 64 := by simp [bF]
theorem bF_get (k : List UInt8) (x : UInt8) (i j : Nat) (hj : j < 64) : (bF k x i).getD j 0 = if j < i then k.getD j 0 ^^^ x else k.getD j 0 := by
  simp [bF, List.getD, hj]
theorem bF_zero (k : List UInt8) (x : UInt8) (h : k.length ≤ 64) : bF k x 0 = k ++ List.replicate (64 - k.length) 0 := by
  apply List.ext_getElem?
  intro j
  simp only [bF, Nat.not_lt_zero, if_false, List.getElem?_map]
  by_cases hj : j < 64
  · rw [List.getElem?_range hj]
    by_cases hk : j < k.length
    · rw [List.getElem?_append_left hk, Option.map_some, List.getD_eq_getElem?_getD, List.getElem?_eq_getElem hk]; rfl
    · rw [List.getElem?_append_right (by omega), List.getElem?_replicate, if_pos (by omega), Option.map_some, List.getD_eq_getElem?_getD, List.getElem?_eq_none (by omega)]; rfl
  · rw [List.getElem?_eq_none (by simp; omega), List.getElem?_eq_none (by simp; omega)]; rfl
theorem bF_set (k : List UInt8) (x : UInt8) (i : Nat) (hi : i < 64) : (bF k x i).set i ((bF k x i).getD i 0 ^^^ x) = bF k x (i + 1) := by
  apply List.ext_getElem?
  intro j
  rw [List.getElem?_set, bF_get _ _ _ _ hi]
  simp only [bF, List.length_map, List.length_range, List.getElem?_map]
  by_cases hj : j < 64
  · rw [List.getElem?_range hj]
    by_cases e : i = j
    · subst e; rw [if_pos rfl, if_pos hi]; simp
    · rw [if_neg e]
      simp only [Option.map_some]
      by_cases h1 : j < i
      · rw [if_pos h1, if_pos (by omega)]
      · rw [if_neg h1, if_neg (by omega)]
  · rw [if_neg (by omega), List.getElem?_eq_none (by simp; omega)]; rfl
theorem bF_full (key : List UInt8) (x : UInt8) : bF (keyF key) x 64 = blkF key x := by
  simp only [bF, blkF]
  refine List.map_congr_left fun i hi => ?_
  rw [if_pos (List.mem_range.1 hi)]

attribute [local irreducible] padF shaF blkF bF keyF

/-- hmac.pad -/
theorem c224 (key : List UInt8) (hk : key.length ≤ 576460752303423488) (x : UInt8) : SCalls Proofs.Try.prog 224 [.s (.lf (.str key)), .s (.lf (.int .u8 (x.toNat : Int)))] [] (vBlk (blkF key x)) [] := by
  have hkl := keyF_length key
  have hb0 := bF_zero (keyF key) x hkl
  refine SCalls.intro tok Proofs.Try.func224 ?_
  conv => whnf
  by_cases hl : 64 < (key.length : Int)
  · refine CaseB.of_true (decide_eq_true hl) ?_
    conv => whnf
    refine Or.inr ?_
    conv => whnf
    refine CallK.mk' _ _ ((c235 key hk).lend (cs := [.s (.lf (.rob true false key))]) (fun _ => True) _ ⟨WV.lf (WL.rob rfl (by simp) (by simp)), trivial⟩ (plainF.wv trivial)) ?_
    conv => whnf
    have hK : keyF key = shaF key := by unfold keyF; rw [if_pos (by omega)]
    have hfull := bF_full key x
    rw [hK] at hkl hb0 hfull
    refine ⟨by simp [maxLen], ?_⟩
    conv => whnf
    refine ⟨by simp, ?_⟩
    conv => whnf
    refine LoopK.upTo 64 (fun i => [(1, .s (.lf (.int .u8 (x.toNat : Int)))), (4, .s (.lf (.ptr 0 0))), (5, .s (.lf (.ptr 1 0))), (16, vI i)]) (fun i => [some ⟨199, [.bytes 64 (List.replicate 64 0)]⟩, some ⟨199, [.bytes 64 (bF (shaF key) x i)]⟩]) ?_ ?_
    · exact Weak.of ⟨rfl, ⟨.bytes rfl fun _ _ => rfl, trivial⟩, rfl, ⟨.bytes rfl fun _ _ => by rw [spl_pad _ hkl, hb0], trivial⟩, trivial⟩ (by simp) ⟨okF.wv trivial, okF.wv rfl, okF.wv rfl, okF.wv trivial, trivial⟩
    intro i hi
    conv => whnf
    by_cases hi' : i < 64
    · refine CaseB.of_true (decide_eq_true (by omega)) ?_
      conv => whnf
      have hbl : Int.toNat (i : Int) < (bF (shaF key) x i).length := by rw [bF_length]; omega
      repeat (refine And.intro (by omega) ?_; conv => whnf)
      refine next_round hi' (Weak.of ⟨rfl, ⟨.bytes rfl fun _ _ => rfl, trivial⟩, rfl, ⟨.bytes rfl fun o _ => ?_, trivial⟩, trivial⟩ (by simp) ⟨okF.wv trivial, okF.wv rfl, okF.wv rfl, WV.lf (WL.int (by rw [wrap_i64 (by omega) (by omega)]; omega)), trivial⟩)
      rw [Int.toNat_natCast, u8_xor, Int.toNat_natCast, UInt8.ofNat_toNat, bF_set _ _ _ hi']
    refine CaseB.of_false (decide_eq_false (by omega)) ?_
    conv => whnf
    obtain rfl : i = 64 := by omega
    exact RetK.empty (WV.agg ⟨.bytes rfl fun _ _ => by rw [hfull], trivial⟩)
  refine CaseB.of_false (decide_eq_false hl) ?_
  conv => whnf
  have hK : keyF key = key := by unfold keyF; rw [if_neg (by omega)]
  have hfull := bF_full key x
  rw [hK] at hkl hb0 hfull
  refine ⟨by simp [maxLen], ?_⟩
  conv => whnf
  refine ⟨by simp, ?_⟩
  conv => whnf
  refine LoopK.upTo 64 (fun i => [(1, .s (.lf (.int .u8 (x.toNat : Int)))), (4, .s (.lf (.ptr 0 0))), (5, .s (.lf (.ptr 1 0))), (16, vI i)]) (fun i => [some ⟨199, [.bytes 64 (List.replicate 64 0)]⟩, some ⟨199, [.bytes 64 (bF (key) x i)]⟩]) ?_ ?_
  · exact Weak.of ⟨rfl, ⟨.bytes rfl fun _ _ => rfl, trivial⟩, rfl, ⟨.bytes rfl fun _ _ => by rw [spl_pad _ hkl, hb0], trivial⟩, trivial⟩ (by simp) ⟨okF.wv trivial, okF.wv rfl, okF.wv rfl, okF.wv trivial, trivial⟩
  intro i hi
  conv => whnf
  by_cases hi' : i < 64
  · refine CaseB.of_true (decide_eq_true (by omega)) ?_
    conv => whnf
    have hbl : Int.toNat (i : Int) < (bF (key) x i).length := by rw [bF_length]; omega
    repeat (refine And.intro (by omega) ?_; conv => whnf)
    refine next_round hi' (Weak.of ⟨rfl, ⟨.bytes rfl fun _ _ => rfl, trivial⟩, rfl, ⟨.bytes rfl fun o _ => ?_, trivial⟩, trivial⟩ (by simp) ⟨okF.wv trivial, okF.wv rfl, okF.wv rfl, WV.lf (WL.int (by rw [wrap_i64 (by omega) (by omega)]; omega)), trivial⟩)
    rw [Int.toNat_natCast, u8_xor, Int.toNat_natCast, UInt8.ofNat_toNat, bF_set _ _ _ hi']
  refine CaseB.of_false (decide_eq_false (by omega)) ?_
  conv => whnf
  obtain rfl : i = 64 := by omega
  exact RetK.empty (WV.agg ⟨.bytes rfl fun _ _ => by rw [hfull], trivial⟩)
/-- hmac.over -/
theorem c223 (b : List UInt8) (hb : b.length = 64) (text : List UInt8) (ht : text.length ≤ 288230376151711744) : SCalls Proofs.Try.prog 223 [vBlk b, .s (.lf (.rob false false text))] [] (.s (.lf (.str (shaF (b ++ text))))) [] := by
  refine SCalls.intro tok Proofs.Try.func223 ?_
  conv => whnf
  have hn1 : (writeF st0 b).n = 64 := by rw [writeF_n, hb]; rfl
  have hok1 := writeF_ok st0_ok b
  have hn2 : (writeF (writeF st0 b) text).n = 64 + text.length := by rw [writeF_n, hn1]
  have hok2 := writeF_ok hok1 text
  have hs : shaF (b ++ text) = sumF (writeF (writeF st0 b) text) := by rw [shaF, writeF_append]
  refine CallK.mk' (.s (.lf (.ptr 1 0))) _ (c185.made [some ⟨199, [.bytes 64 b]⟩] (Hn := [some (obSt st0)]) trivial (WV.lf (WL.uptr rfl)) ⟨rfl, obSt_ws _, trivial⟩) ?_
  conv => whnf
  refine ⟨by simp [maxLen], ?_⟩
  conv => whnf
  refine CallK.mk' _ [some ⟨199, [.bytes 64 b]⟩, some (obSt (writeF st0 b))] ((c186 st0 st0_ok b (by rw [hb]; show 0 + 64 < _; omega)).frame1l (H := [some ⟨199, [.bytes 64 b]⟩, some (obSt st0)]) (fun _ => False) (nm := 1) (rc := .tup []) rfl rfl (fun h => h) (obSt_ws _)
    ⟨WV.lf (WL.ptr rfl rfl), WV.lf (fun w L L' x h hx => rep_rob_weak (WL.freezeB (ob := ⟨199, [.bytes 64 b]⟩) (p := []) (q := []) rfl rfl rfl (by omega) (by omega) (by rw [show Int.toNat 0 = 0 from rfl, List.drop_zero, List.take_of_length_le (by rw [hb]; omega)]) ⟨fun h => h, fun i ob h => by simp⟩ w L L' x h hx)), trivial⟩ rfl (obSt_ws _) (plainF.wv trivial)) ?_
  conv => whnf
  refine CallK.mk' _ [some ⟨199, [.bytes 64 b]⟩, some (obSt (writeF (writeF st0 b) text))] ((c186 _ hok1 text (by rw [hn1]; omega)).frame1 (H := [some ⟨199, [.bytes 64 b]⟩, some (obSt (writeF st0 b))]) (nm := 1) (rc := .tup []) rfl rfl (obSt_ws _) ⟨WV.lf (WL.ptr rfl rfl), freeF.wv trivial, trivial⟩ rfl (obSt_ws _) (freeF.wv trivial)) ?_
  conv => whnf
  refine CallK.mk' _ [some ⟨199, [.bytes 64 b]⟩, some (obSt (writeF (writeF st0 b) text))] ((c132 _ hok2 (by rw [hn2]; omega)).frame1 (H := [some ⟨199, [.bytes 64 b]⟩, some (obSt (writeF (writeF st0 b) text))]) (nm := 1) rfl rfl (obSt_ws _) ⟨WV.lf (WL.ptr rfl rfl), trivial⟩ rfl (obSt_ws _) (freeF.wv trivial)) ?_
  conv => whnf
  exact RetK.empty (WV.lf (WL.str hs.symm))
/-- hmac.Tag -/
theorem c204 (key text : List UInt8) (hk : key.length ≤ 576460752303423488) (ht : text.length ≤ 288230376151711744) : SCalls Proofs.Try.prog 204 [.s (.lf (.str key)), .s (.lf (.rob false false text))] [] (.s (.lf (.str (tagF key text)))) [] := by
  have h45 := c223 (blkF key 54) (blkF_length _ _) text ht
  have h45' := (c223 (blkF key 92) (blkF_length _ _) (shaF (blkF key 54 ++ text)) (by rw [shaF_length]; omega)).lend (cs := [vBlk (blkF key 92), .s (.lf (.rob true false (shaF (blkF key 54 ++ text))))]) (fun _ => True) [] ⟨freeF.wv ⟨trivial, trivial⟩, WV.lf (WL.rob rfl (by simp) (by simp)), trivial⟩ (plainF.wv trivial)
  refine SCalls.intro tok Proofs.Try.func204 ?_
  conv => whnf
  refine CallK.mk' _ _ (c224 key hk 54) ?_
  conv => whnf
  refine CallK.mk' _ _ h45 ?_
  conv => whnf
  refine CallK.mk' _ _ (c224 key hk 92) ?_
  conv => whnf
  refine Or.inr ?_
  conv => whnf
  refine CallK.mk' _ _ h45' ?_
  conv => whnf
  exact RetK.empty (okF.wv trivial)
end Go.Sym.Md

set_option linter.unusedVariables false
set_option linter.unusedSimpArgs false
set_option maxRecDepth 10000
namespace Go.Sym.Md
open Go Go.Sym Go.Sym.Sh

theorem tag_known : tagF [107, 101, 121] [84, 104, 101, 32, 113, 117, 105, 99, 107, 32, 98, 114, 111, 119, 110, 32, 102, 111, 120, 32, 106, 117, 109, 112, 115, 32, 111, 118, 101, 114, 32, 116, 104, 101, 32, 108, 97, 122, 121, 32, 100, 111, 103] = [247, 188, 131, 244, 48, 83, 132, 36, 177, 50, 152, 230, 170, 111, 177, 67, 239, 77, 89, 161, 73, 70, 23, 89, 151, 71, 157, 188, 45, 26, 60, 216] := eqB_sound (by kernel_rfl)

attribute [local irreducible] tagF

abbrev foxL : List UInt8 := [84, 104, 101, 32, 113, 117, 105, 99, 107, 32, 98, 114, 111, 119, 110, 32, 102, 111, 120, 32, 106, 117, 109, 112, 115, 32, 111, 118, 101, 114, 32, 116, 104, 101, 32, 108, 97, 122, 121, 32, 100, 111, 103]

end Go.Sym.Md

set_option linter.unusedVariables false
set_option linter.unusedSimpArgs false
set_option maxRecDepth 10000
namespace Go.Sym.Md
open Go Go.Sym Go.Sym.Sh
/-- The first i bytes of a key's block. -/
def cB (k : List UInt8) (x : UInt8) (i : Nat) : List UInt8 := (List.range i).map fun j => k.getD j 0 ^^^ x
theorem cB_zero (k : List UInt8) (x : UInt8) : cB k x 0 = [] := rfl
theorem cB_length (k : List UInt8) (x : UInt8) (i : Nat) : (cB k x i).length = i := by simp [cB]
theorem cB_succ (k : List UInt8) (x : UInt8) (i : Nat) : cB k x (i + 1) = cB k x i ++ [k.getD i 0 ^^^ x] := by simp [cB, List.range_succ]
theorem cB_full (key : List UInt8) (x : UInt8) : cB (keyF key) x 64 = blkF key x := rfl

attribute [local irreducible] cB padF shaF blkF bF keyF tagF

/-- baileyref04.padded -/
theorem c205 (key : List UInt8) (hk : key.length ≤ 1000000) (x : UInt8) : SCalls Proofs.Try.prog 205 [.s (.lf (.str key)), .s (.lf (.int .u8 (x.toNat : Int)))] [] (.s (.lf (.own 0 0 1 0 64))) [some ⟨5, [.bytes 64 (blkF key x)]⟩] := by
  have hkl := keyF_length key
  refine SCalls.intro tok Proofs.Try.func205 ?_
  conv => whnf
  refine Or.inr ?_
  conv => whnf
  by_cases hl : 64 < (key.length : Int)
  · refine CaseB.of_true (decide_eq_true hl) ?_
    conv => whnf
    refine CallK.mk' _ _ ((c134 key (by omega)).lend (cs := [.s (.lf (.rob true false key))]) (fun _ => True) _ ⟨WV.lf (WL.rob rfl (by simp) (by simp)), trivial⟩ (plainF.wv trivial)) ?_
    conv => whnf
    refine Or.inr ?_
    conv => whnf
    have hK : keyF key = shaF key := by unfold keyF; rw [if_pos (by omega)]
    have hfull := cB_full key x
    rw [hK] at hkl hfull
    refine LoopK.mk2 (fun (i : Nat) (e : Bool) => match e with
        | true => [(1, .s (.lf (.int .u8 (x.toNat : Int)))), (5, .s (.lf (.rob true false (shaF key)))), (6, .s (.lf .sl0)), (7, vI i)]
        | false => [(1, .s (.lf (.int .u8 (x.toNat : Int)))), (5, .s (.lf (.rob true false (shaF key)))), (6, .s (.lf (.own 0 0 1 0 i))), (7, vI i)])
      (fun i e => match e with
        | true => []
        | false => [some ⟨5, [.bytes i (cB (shaF key) x i)]⟩]) (fun i e => i ≤ 64 ∧ (e = true → i = 0)) (fun i e => 64 - i) 0 true ⟨by omega, fun _ => rfl⟩ ?_ ?_
    · exact Weak.of ⟨⟩ (by simp) ⟨okF.wv trivial, okF.wv trivial, okF.wv trivial, okF.wv trivial, trivial⟩
    intro i e hi
    obtain ⟨hi, he⟩ := hi
    cases e with
    | true =>
      obtain rfl := he rfl
      conv => whnf
      refine CaseB.of_true (decide_eq_true (by omega)) ?_
      conv => whnf
      by_cases hx : ((0 : Nat) : Int) < ((shaF key).length : Int)
      · refine CaseB.of_true (decide_eq_true hx) ?_
        conv => whnf
        refine And.intro (by omega) ?_
        conv => whnf
        have ev : ((List.getD (shaF key) (Int.toNat ((0 : Nat) : Int)) 0).toNat : Int) = ((List.getD (shaF key) 0 0).toNat : Int) := by rw [Int.toNat_natCast]
        refine Or.inr ?_
        conv => whnf
        have e8 : List.map (fun a : Int => UInt8.ofNat a.toNat) [bitsI .xor .u8 ((List.getD (shaF key) (Int.toNat ((0 : Nat) : Int)) 0).toNat : Int) (x.toNat : Int)] = cB (shaF key) x (0 + 1) := by rw [List.map_cons, List.map_nil, ev, u8_xor, Int.toNat_natCast, UInt8.ofNat_toNat, cB_succ, cB_zero]; rfl
        refine ⟨by simp, ?_⟩
        conv => whnf
        refine ⟨(0 + 1, false), ⟨by omega, fun h => by simp at h⟩, by show 64 - (0 + 1) < 64 - 0; omega, ?_⟩
        exact Weak.of ⟨rfl, ⟨.bytes rfl fun o _ => congrArg (fun l => List.getD l o 0) e8, trivial⟩, trivial⟩ (by simp) ⟨okF.wv trivial, okF.wv trivial, WV.lf (WL.own rfl rfl rfl rfl), okF.wv trivial, trivial⟩
      · refine CaseB.of_false (decide_eq_false hx) ?_
        conv => whnf
        have ev : (0 : Int) = ((List.getD (shaF key) 0 0).toNat : Int) := by rw [List.getD_eq_getElem?_getD, List.getElem?_eq_none (by omega)]; rfl
        refine Or.inr ?_
        conv => whnf
        have e8 : List.map (fun a : Int => UInt8.ofNat a.toNat) [bitsI .xor .u8 0 (x.toNat : Int)] = cB (shaF key) x (0 + 1) := by rw [List.map_cons, List.map_nil, ev, u8_xor, Int.toNat_natCast, UInt8.ofNat_toNat, cB_succ, cB_zero]; rfl
        refine ⟨by simp, ?_⟩
        conv => whnf
        refine ⟨(0 + 1, false), ⟨by omega, fun h => by simp at h⟩, by show 64 - (0 + 1) < 64 - 0; omega, ?_⟩
        exact Weak.of ⟨rfl, ⟨.bytes rfl fun o _ => congrArg (fun l => List.getD l o 0) e8, trivial⟩, trivial⟩ (by simp) ⟨okF.wv trivial, okF.wv trivial, WV.lf (WL.own rfl rfl rfl rfl), okF.wv trivial, trivial⟩
    | false =>
      conv => whnf
      by_cases hi' : i < 64
      · refine CaseB.of_true (decide_eq_true (by omega)) ?_
        conv => whnf
        by_cases hx : ((i : Nat) : Int) < ((shaF key).length : Int)
        · refine CaseB.of_true (decide_eq_true hx) ?_
          conv => whnf
          refine And.intro (by omega) ?_
          conv => whnf
          have ev : ((List.getD (shaF key) (Int.toNat ((i : Nat) : Int)) 0).toNat : Int) = ((List.getD (shaF key) i 0).toNat : Int) := by rw [Int.toNat_natCast]
          refine Or.inr ?_
          conv => whnf
          have e8 : cB (shaF key) x i ++ List.map (fun a : Int => UInt8.ofNat a.toNat) [bitsI .xor .u8 ((List.getD (shaF key) (Int.toNat ((i : Nat) : Int)) 0).toNat : Int) (x.toNat : Int)] = cB (shaF key) x (i + 1) := by rw [List.map_cons, List.map_nil, ev, u8_xor, Int.toNat_natCast, UInt8.ofNat_toNat, cB_succ]
          have e9 := cB_length (shaF key) x (i + 1)
          have e10 := cB_length (shaF key) x i
          refine ⟨⟨by omega, by omega, by rw [e8]; omega⟩, ?_⟩
          conv => whnf
          refine ⟨(i + 1, false), ⟨by omega, fun h => by simp at h⟩, by show 64 - (i + 1) < 64 - i; omega, ?_⟩
          exact Weak.perm [1] ⟨⟨rfl, .bytes (by rw [e8, e9]) fun o _ => congrArg (fun l => List.getD l o 0) e8, trivial⟩, trivial⟩ ⟨freeF.wv trivial, freeF.wv trivial, WV.lf (WL.own rfl rfl rfl (by rw [e8, e9])), WV.lf (WL.int (by rw [wrap_i64 (by omega) (by omega)]; omega)), trivial⟩ rfl (by simp) rfl (by simp)
        · refine CaseB.of_false (decide_eq_false hx) ?_
          conv => whnf
          have ev : (0 : Int) = ((List.getD (shaF key) i 0).toNat : Int) := by rw [List.getD_eq_getElem?_getD, List.getElem?_eq_none (by omega)]; rfl
          refine Or.inr ?_
          conv => whnf
          have e8 : cB (shaF key) x i ++ List.map (fun a : Int => UInt8.ofNat a.toNat) [bitsI .xor .u8 0 (x.toNat : Int)] = cB (shaF key) x (i + 1) := by rw [List.map_cons, List.map_nil, ev, u8_xor, Int.toNat_natCast, UInt8.ofNat_toNat, cB_succ]
          have e9 := cB_length (shaF key) x (i + 1)
          have e10 := cB_length (shaF key) x i
          refine ⟨⟨by omega, by omega, by rw [e8]; omega⟩, ?_⟩
          conv => whnf
          refine ⟨(i + 1, false), ⟨by omega, fun h => by simp at h⟩, by show 64 - (i + 1) < 64 - i; omega, ?_⟩
          exact Weak.perm [1] ⟨⟨rfl, .bytes (by rw [e8, e9]) fun o _ => congrArg (fun l => List.getD l o 0) e8, trivial⟩, trivial⟩ ⟨freeF.wv trivial, freeF.wv trivial, WV.lf (WL.own rfl rfl rfl (by rw [e8, e9])), WV.lf (WL.int (by rw [wrap_i64 (by omega) (by omega)]; omega)), trivial⟩ rfl (by simp) rfl (by simp)
      · refine CaseB.of_false (decide_eq_false (by omega)) ?_
        conv => whnf
        obtain rfl : i = 64 := by omega
        exact RetK.of ⟨rfl, ⟨.bytes rfl fun o _ => by rw [hfull], trivial⟩, trivial⟩ (by simp) (WV.lf (WL.own rfl rfl rfl rfl))
  refine CaseB.of_false (decide_eq_false hl) ?_
  conv => whnf
  have hK : keyF key = key := by unfold keyF; rw [if_neg (by omega)]
  have hfull := cB_full key x
  rw [hK] at hkl hfull
  refine LoopK.mk2 (fun (i : Nat) (e : Bool) => match e with
      | true => [(1, .s (.lf (.int .u8 (x.toNat : Int)))), (5, .s (.lf (.rob true false (key)))), (6, .s (.lf .sl0)), (7, vI i)]
      | false => [(1, .s (.lf (.int .u8 (x.toNat : Int)))), (5, .s (.lf (.rob true false (key)))), (6, .s (.lf (.own 0 0 1 0 i))), (7, vI i)])
    (fun i e => match e with
      | true => []
      | false => [some ⟨5, [.bytes i (cB (key) x i)]⟩]) (fun i e => i ≤ 64 ∧ (e = true → i = 0)) (fun i e => 64 - i) 0 true ⟨by omega, fun _ => rfl⟩ ?_ ?_
  · exact Weak.of ⟨⟩ (by simp) ⟨okF.wv trivial, okF.wv trivial, okF.wv trivial, okF.wv trivial, trivial⟩
  intro i e hi
  obtain ⟨hi, he⟩ := hi
  cases e with
  | true =>
    obtain rfl := he rfl
    conv => whnf
    refine CaseB.of_true (decide_eq_true (by omega)) ?_
    conv => whnf
    by_cases hx : ((0 : Nat) : Int) < ((key).length : Int)
    · refine CaseB.of_true (decide_eq_true hx) ?_
      conv => whnf
      refine And.intro (by omega) ?_
      conv => whnf
      have ev : ((List.getD (key) (Int.toNat ((0 : Nat) : Int)) 0).toNat : Int) = ((List.getD (key) 0 0).toNat : Int) := by rw [Int.toNat_natCast]
      refine Or.inr ?_
      conv => whnf
      have e8 : List.map (fun a : Int => UInt8.ofNat a.toNat) [bitsI .xor .u8 ((List.getD (key) (Int.toNat ((0 : Nat) : Int)) 0).toNat : Int) (x.toNat : Int)] = cB (key) x (0 + 1) := by rw [List.map_cons, List.map_nil, ev, u8_xor, Int.toNat_natCast, UInt8.ofNat_toNat, cB_succ, cB_zero]; rfl
      refine ⟨by simp, ?_⟩
      conv => whnf
      refine ⟨(0 + 1, false), ⟨by omega, fun h => by simp at h⟩, by show 64 - (0 + 1) < 64 - 0; omega, ?_⟩
      exact Weak.of ⟨rfl, ⟨.bytes rfl fun o _ => congrArg (fun l => List.getD l o 0) e8, trivial⟩, trivial⟩ (by simp) ⟨okF.wv trivial, okF.wv trivial, WV.lf (WL.own rfl rfl rfl rfl), okF.wv trivial, trivial⟩
    · refine CaseB.of_false (decide_eq_false hx) ?_
      conv => whnf
      have ev : (0 : Int) = ((List.getD (key) 0 0).toNat : Int) := by rw [List.getD_eq_getElem?_getD, List.getElem?_eq_none (by omega)]; rfl
      refine Or.inr ?_
      conv => whnf
      have e8 : List.map (fun a : Int => UInt8.ofNat a.toNat) [bitsI .xor .u8 0 (x.toNat : Int)] = cB (key) x (0 + 1) := by rw [List.map_cons, List.map_nil, ev, u8_xor, Int.toNat_natCast, UInt8.ofNat_toNat, cB_succ, cB_zero]; rfl
      refine ⟨by simp, ?_⟩
      conv => whnf
      refine ⟨(0 + 1, false), ⟨by omega, fun h => by simp at h⟩, by show 64 - (0 + 1) < 64 - 0; omega, ?_⟩
      exact Weak.of ⟨rfl, ⟨.bytes rfl fun o _ => congrArg (fun l => List.getD l o 0) e8, trivial⟩, trivial⟩ (by simp) ⟨okF.wv trivial, okF.wv trivial, WV.lf (WL.own rfl rfl rfl rfl), okF.wv trivial, trivial⟩
  | false =>
    conv => whnf
    by_cases hi' : i < 64
    · refine CaseB.of_true (decide_eq_true (by omega)) ?_
      conv => whnf
      by_cases hx : ((i : Nat) : Int) < ((key).length : Int)
      · refine CaseB.of_true (decide_eq_true hx) ?_
        conv => whnf
        refine And.intro (by omega) ?_
        conv => whnf
        have ev : ((List.getD (key) (Int.toNat ((i : Nat) : Int)) 0).toNat : Int) = ((List.getD (key) i 0).toNat : Int) := by rw [Int.toNat_natCast]
        refine Or.inr ?_
        conv => whnf
        have e8 : cB (key) x i ++ List.map (fun a : Int => UInt8.ofNat a.toNat) [bitsI .xor .u8 ((List.getD (key) (Int.toNat ((i : Nat) : Int)) 0).toNat : Int) (x.toNat : Int)] = cB (key) x (i + 1) := by rw [List.map_cons, List.map_nil, ev, u8_xor, Int.toNat_natCast, UInt8.ofNat_toNat, cB_succ]
        have e9 := cB_length (key) x (i + 1)
        have e10 := cB_length (key) x i
        refine ⟨⟨by omega, by omega, by rw [e8]; omega⟩, ?_⟩
        conv => whnf
        refine ⟨(i + 1, false), ⟨by omega, fun h => by simp at h⟩, by show 64 - (i + 1) < 64 - i; omega, ?_⟩
        exact Weak.perm [1] ⟨⟨rfl, .bytes (by rw [e8, e9]) fun o _ => congrArg (fun l => List.getD l o 0) e8, trivial⟩, trivial⟩ ⟨freeF.wv trivial, freeF.wv trivial, WV.lf (WL.own rfl rfl rfl (by rw [e8, e9])), WV.lf (WL.int (by rw [wrap_i64 (by omega) (by omega)]; omega)), trivial⟩ rfl (by simp) rfl (by simp)
      · refine CaseB.of_false (decide_eq_false hx) ?_
        conv => whnf
        have ev : (0 : Int) = ((List.getD (key) i 0).toNat : Int) := by rw [List.getD_eq_getElem?_getD, List.getElem?_eq_none (by omega)]; rfl
        refine Or.inr ?_
        conv => whnf
        have e8 : cB (key) x i ++ List.map (fun a : Int => UInt8.ofNat a.toNat) [bitsI .xor .u8 0 (x.toNat : Int)] = cB (key) x (i + 1) := by rw [List.map_cons, List.map_nil, ev, u8_xor, Int.toNat_natCast, UInt8.ofNat_toNat, cB_succ]
        have e9 := cB_length (key) x (i + 1)
        have e10 := cB_length (key) x i
        refine ⟨⟨by omega, by omega, by rw [e8]; omega⟩, ?_⟩
        conv => whnf
        refine ⟨(i + 1, false), ⟨by omega, fun h => by simp at h⟩, by show 64 - (i + 1) < 64 - i; omega, ?_⟩
        exact Weak.perm [1] ⟨⟨rfl, .bytes (by rw [e8, e9]) fun o _ => congrArg (fun l => List.getD l o 0) e8, trivial⟩, trivial⟩ ⟨freeF.wv trivial, freeF.wv trivial, WV.lf (WL.own rfl rfl rfl (by rw [e8, e9])), WV.lf (WL.int (by rw [wrap_i64 (by omega) (by omega)]; omega)), trivial⟩ rfl (by simp) rfl (by simp)
    · refine CaseB.of_false (decide_eq_false (by omega)) ?_
      conv => whnf
      obtain rfl : i = 64 := by omega
      exact RetK.of ⟨rfl, ⟨.bytes rfl fun o _ => by rw [hfull], trivial⟩, trivial⟩ (by simp) (WV.lf (WL.own rfl rfl rfl rfl))
end Go.Sym.Md

set_option linter.unusedVariables false
set_option linter.unusedSimpArgs false
set_option maxRecDepth 10000
namespace Go.Sym.Md
open Go Go.Sym Go.Sym.Sh
attribute [local irreducible] padF shaF blkF keyF tagF

/-- baileyref04.Tag -/
theorem c166 (key text : List UInt8) (hk : key.length ≤ 1000000) (ht : text.length ≤ 900000) : SCalls Proofs.Try.prog 166 [.s (.lf (.str key)), .s (.lf (.rob false false text))] [] (.s (.lf (.str (tagF key text)))) [] := by
  have h1 := blkF_length key 54
  have h2 := blkF_length key 92
  have h3 := shaF_length (blkF key 54 ++ text)
  refine SCalls.intro tok Proofs.Try.func166 ?_
  conv => whnf
  refine CallK.mk' _ _ (c205 key hk 54) ?_
  conv => whnf
  refine ⟨⟨by omega, by omega, by rw [List.length_append]; omega⟩, ?_⟩
  conv => whnf
  refine CallK.mk' _ _ ((c134 (blkF key 54 ++ text) (by rw [List.length_append]; omega)).lend (cs := [.s (.lf (.own 1 0 1 0 (blkF key 54 ++ text).length))]) (fun _ => False) [none, some ⟨5, [.bytes (blkF key 54 ++ text).length (blkF key 54 ++ text)]⟩] ⟨WV.lf (WL.lent rfl rfl ⟨fun h => h, fun i ob h => by simp at h⟩), trivial⟩ (plainF.wv trivial)) ?_
  conv => whnf
  refine CallK.mk' (.s (.lf (.own 2 0 1 0 64))) _ ((c205 key hk 92).made [none, some ⟨5, [.bytes (blkF key 54 ++ text).length (blkF key 54 ++ text)]⟩] (Hn := [some ⟨5, [.bytes 64 (blkF key 92)]⟩]) ⟨freeF.wv trivial, freeF.wv trivial, trivial⟩ (WV.lf (WL.uown rfl rfl rfl)) ⟨rfl, ⟨.bytes rfl fun _ _ => rfl, trivial⟩, trivial⟩) ?_
  conv => whnf
  refine ⟨⟨by omega, by omega, by rw [List.length_append]; omega⟩, ?_⟩
  conv => whnf
  refine CallK.mk' _ _ ((c134 (blkF key 92 ++ shaF (blkF key 54 ++ text)) (by rw [List.length_append]; omega)).lend (cs := [.s (.lf (.own 3 0 1 0 (blkF key 92 ++ shaF (blkF key 54 ++ text)).length))]) (fun _ => False) [none, some ⟨5, [.bytes (blkF key 54 ++ text).length (blkF key 54 ++ text)]⟩, none, some ⟨5, [.bytes (blkF key 92 ++ shaF (blkF key 54 ++ text)).length (blkF key 92 ++ shaF (blkF key 54 ++ text))]⟩] ⟨WV.lf (WL.lent rfl rfl ⟨fun h => h, fun i ob h => by simp at h⟩), trivial⟩ (plainF.wv trivial)) ?_
  conv => whnf
  exact RetK.empty (WV.lf (WL.str (by unfold tagF; rfl)))

/-- A key with bytes 0 behind it is as good as the key. -/
theorem keyF_padded (key : List UInt8) (n : Nat) (h : key.length + n ≤ 64) (i : Nat) : (keyF (key ++ List.replicate n 0)).getD i 0 = (keyF key).getD i 0 := by
  unfold keyF
  rw [if_neg (by simp; omega), if_neg (by omega), List.getD_eq_getElem?_getD, List.getD_eq_getElem?_getD]
  by_cases hi : i < key.length
  · rw [List.getElem?_append_left hi]
  · rw [List.getElem?_append_right (by omega), List.getElem?_replicate, List.getElem?_eq_none (l := key) (by omega)]
    split <;> rfl

theorem tagF_padded (key text : List UInt8) (n : Nat) (h : key.length + n ≤ 64) : tagF (key ++ List.replicate n 0) text = tagF key text := by
  have hb : ∀ x, blkF (key ++ List.replicate n 0) x = blkF key x := fun x => by
    unfold blkF
    exact List.map_congr_left fun i _ => by rw [keyF_padded key n h]
  unfold tagF
  rw [hb, hb]

end Go.Sym.Md

set_option linter.unusedVariables false
set_option linter.unusedSimpArgs false
set_option maxRecDepth 10000
namespace Go.Sym.Md
open Go Go.Sym Go.Sym.Sh

theorem nat_xor_zero (m n : Nat) : m ^^^ n = 0 ↔ m = n := by
  refine ⟨fun h => ?_, fun h => by rw [h, Nat.xor_self]⟩
  have : (m ^^^ n) ^^^ n = m := by rw [Nat.xor_assoc, Nat.xor_self, Nat.xor_zero]
  rw [h, Nat.zero_xor] at this
  exact this.symm

theorem nat_or_zero (m n : Nat) : m ||| n = 0 ↔ m = 0 ∧ n = 0 := by
  refine ⟨fun h => ?_, fun h => by rw [h.1, h.2]; rfl⟩
  have h1 := Nat.left_le_or (n := m) (m := n)
  have h2 := Nat.right_le_or (n := m) (m := n)
  omega

theorem i64_bv (m : Nat) (h : m < 9223372036854775808) : (BitVec.ofInt 64 (m : Int)).toNat = m := by
  rw [BitVec.ofInt_natCast, BitVec.toNat_ofNat]; omega

theorem i64_xor (m n : Nat) (h : m < 9223372036854775808) (h' : n < 9223372036854775808) : bitsI .xor .i64 (m : Int) (n : Int) = ((m ^^^ n : Nat) : Int) ∧ m ^^^ n < 9223372036854775808 := by
  have hlt : m ^^^ n < 2 ^ 63 := Nat.xor_lt_two_pow h h'
  refine ⟨?_, hlt⟩
  have e : (BitVec.ofInt 64 (m : Int) ^^^ BitVec.ofInt 64 (n : Int)).toNat = m ^^^ n := by rw [BitVec.toNat_xor, i64_bv m h, i64_bv n h']
  show IntKind.i64.wrap (((BitVec.ofInt 64 (m : Int) ^^^ BitVec.ofInt 64 (n : Int)).toNat : Nat) : Int) = _
  rw [e, wrap_i64 (by omega) (by omega)]

theorem i64_or (m n : Nat) (h : m < 9223372036854775808) (h' : n < 9223372036854775808) : bitsI .or .i64 (m : Int) (n : Int) = ((m ||| n : Nat) : Int) ∧ m ||| n < 9223372036854775808 := by
  have hlt : m ||| n < 2 ^ 63 := Nat.or_lt_two_pow h h'
  refine ⟨?_, hlt⟩
  have e : (BitVec.ofInt 64 (m : Int) ||| BitVec.ofInt 64 (n : Int)).toNat = m ||| n := by rw [BitVec.toNat_or, i64_bv m h, i64_bv n h']
  show IntKind.i64.wrap (((BitVec.ofInt 64 (m : Int) ||| BitVec.ofInt 64 (n : Int)).toNat : Nat) : Int) = _
  rw [e, wrap_i64 (by omega) (by omega)]

theorem u8_xor_zero (x y : UInt8) : (x ^^^ y).toNat = 0 ↔ x = y := by
  rw [UInt8.toNat_xor, nat_xor_zero, UInt8.toNat_inj]

/-- hmac.Equal -/
theorem c164 (a b : List UInt8) (ha : a.length ≤ maxLen) (hb : b.length ≤ maxLen) : SCalls Proofs.Try.prog 164 [.s (.lf (.str a)), .s (.lf (.str b))] [] (.s (.lf (.bool (decide (a = b))))) [] := by
  have hm : maxLen = 9223372036854775807 := rfl
  obtain ⟨hx, hxl⟩ := i64_xor a.length b.length (by omega) (by omega)
  refine SCalls.intro tok Proofs.Try.func164 ?_
  conv => whnf
  refine LoopK.mk2 (fun (i d : Nat) => [(0, .s (.lf (.str a))), (1, .s (.lf (.str b))), (5, vI d), (16, vI ((min a.length b.length : Nat) : Int)), (17, vI i)]) (fun i d => [])
    (fun i d => i ≤ min a.length b.length ∧ d < 9223372036854775808 ∧ (d = 0 ↔ a.length = b.length ∧ a.take i = b.take i)) (fun i d => min a.length b.length - i) 0 (a.length ^^^ b.length) ⟨by omega, hxl, by rw [nat_xor_zero]; simp⟩ ?_ ?_
  · exact Weak.of ⟨⟩ (by simp) ⟨okF.wv trivial, okF.wv trivial, WV.lf (WL.int hx), WV.lf (WL.int (by omega)), okF.wv trivial, trivial⟩
  intro i d hi
  obtain ⟨hi, hd, hd0⟩ := hi
  conv => whnf
  by_cases hi' : i < min a.length b.length
  · refine CaseB.of_true (decide_eq_true (by omega)) ?_
    conv => whnf
    refine DrawK.mk1 tok mixed [0, 0, 0, 6, 0, 0, 48, 126, 254, 511, 1023] [(0, 0, []), (1, 0, []), (2, 0, []), (3, 0, []), (4, 0, []), (5, 0, []), (6, 0, []), (7, 0, []), (8, 0, []), (9, 0, []), (10, 0, [])] (by kernel_rfl) ?_
    conv => whnf
    repeat (refine And.intro (by omega) ?_; conv => whnf)
    have hai : a[i]? = some (a.getD i 0) := by rw [List.getD_eq_getElem?_getD, List.getElem?_eq_getElem (by omega)]; rfl
    have hbi : b[i]? = some (b.getD i 0) := by rw [List.getD_eq_getElem?_getD, List.getElem?_eq_getElem (by omega)]; rfl
    have hx8 := (a.getD i 0 ^^^ b.getD i 0).toNat_lt
    obtain ⟨ho, hol⟩ := i64_or d (a.getD i 0 ^^^ b.getD i 0).toNat hd (by omega)
    have e1 : bitsI .or .i64 (d : Int) (IntKind.i64.wrap (bitsI .xor .u8 ((a.getD (Int.toNat (i : Int)) 0).toNat : Int) ((b.getD (Int.toNat (i : Int)) 0).toNat : Int))) = ((d ||| (a.getD i 0 ^^^ b.getD i 0).toNat : Nat) : Int) := by
      rw [Int.toNat_natCast, u8_xor, wrap_i64 (by omega) (by omega), ho]
    refine ⟨(i + 1, d ||| (a.getD i 0 ^^^ b.getD i 0).toNat), ⟨?_, hol, ?_⟩, ?_, ?_⟩
    · show i + 1 ≤ _
      omega
    · show _ = 0 ↔ _
      rw [nat_or_zero, u8_xor_zero, hd0, List.take_add_one, List.take_add_one, hai, hbi]
      constructor
      · rintro ⟨⟨h1, h2⟩, h3⟩
        exact ⟨h1, by rw [h2, h3]⟩
      · rintro ⟨h1, h2⟩
        have h3 := List.append_inj h2 (by simp; omega)
        exact ⟨⟨h1, h3.1⟩, by simpa using h3.2⟩
    · show _ - (i + 1) < _ - i
      omega
    · exact Weak.of ⟨⟩ (by simp) ⟨okF.wv trivial, okF.wv trivial, WV.lf (WL.int e1), okF.wv trivial, WV.lf (WL.int (by rw [wrap_i64 (by omega) (by omega)]; omega)), trivial⟩
  · refine CaseB.of_false (decide_eq_false (by omega)) ?_
    conv => whnf
    have hi0 : i = min a.length b.length := by omega
    refine RetK.empty (WV.lf (WL.bool ?_))
    rw [decide_eq_decide]
    constructor
    · intro h
      obtain ⟨h1, h2⟩ := hd0.1 (by omega)
      rw [List.take_of_length_le (by omega), List.take_of_length_le (by omega)] at h2
      exact h2
    · intro h
      have := hd0.2 ⟨by rw [h], by rw [h]⟩
      omega

end Go.Sym.Md

set_option linter.unusedVariables false
set_option linter.unusedSimpArgs false
set_option maxRecDepth 10000
namespace Go.Sym.Md
open Go Go.Sym Go.Sym.Sh

/-- Byte j of a number of 64 bits. -/
def d8 (u j : Nat) : UInt8 := UInt8.ofNat (u / 256 ^ (7 - j))
/-- A purpose with a byte 0 and i bytes of a number behind it. -/
def dF (p : List UInt8) (u i : Nat) : List UInt8 := p ++ [0] ++ (List.range i).map (d8 u)
theorem dF_zero (p : List UInt8) (u : Nat) : dF p u 0 = p ++ [0] := by simp [dF]
theorem dF_succ (p : List UInt8) (u i : Nat) : dF p u (i + 1) = dF p u i ++ [d8 u i] := by simp [dF, List.range_succ]
theorem dF_length (p : List UInt8) (u i : Nat) : (dF p u i).length = p.length + 1 + i := by simp [dF]; omega

theorem d8_of (u j : Nat) (hj : j < 8) (hu : u < 18446744073709551616) : UInt8.ofNat (IntKind.u8.wrap (shrI IntKind.u64 (u : Int) (56 - 8 * (j : Int)))).toNat = d8 u j := by
  rw [show (56 - 8 * (j : Int)) = ((8 * (7 - j) : Nat) : Int) by omega, wrap_u8, d8]
  simp only [shrI, IntKind.bits, Int.toNat_natCast]
  rw [Nat.min_eq_left (by omega), show ((2 : Int) ^ (8 * (7 - j))) = ((256 ^ (7 - j) : Nat) : Int) by rw [Int.pow_mul]; simp, Int.fdiv_eq_ediv_of_nonneg _ (Int.natCast_nonneg _)]
  apply UInt8.toNat_inj.1
  simp only [UInt8.toNat_ofNat']
  rw [← Int.natCast_ediv]
  omega

theorem spl_copy (p : List UInt8) (n : Nat) (h : n = p.length + 1) : spl (List.replicate n 0) 0 p = p ++ [0] := by
  subst h
  rw [spl, List.take_zero, List.nil_append, List.drop_replicate, show p.length + 1 - (0 + p.length) = 1 by omega]
  rfl

attribute [local irreducible] tagF dF d8

/-- hmac.Derive -/
theorem c221 (key p : List UInt8) (z : Int) (hk : key.length ≤ 1000000) (hp : p.length ≤ 1000000) (u : Nat) (hu : IntKind.u64.wrap z = (u : Int)) : SCalls Proofs.Try.prog 221 [.s (.lf (.str key)), .s (.lf (.str p)), vI z] [] (.s (.lf (.str (tagF key (dF p u 8))))) [] := by
  have hul : u < 18446744073709551616 := by rw [wrap_u64] at hu; omega
  have e1 : IntKind.i64.wrap ((p.length : Int) + 1) = ((p.length + 1 : Nat) : Int) := by rw [wrap_i64 (by omega) (by omega)]; omega
  have e2 : IntKind.i64.wrap ((p.length : Int) + 9) = ((p.length + 9 : Nat) : Int) := by rw [wrap_i64 (by omega) (by omega)]; omega
  refine SCalls.intro tok Proofs.Try.func221 ?_
  conv => whnf
  rw [e1, e2]
  refine And.intro ⟨by omega, by omega, by show ((p.length + 9 : Nat) : Int) * 1 ≤ _; omega⟩ ?_
  conv => whnf
  refine And.intro ⟨by omega, by rw [List.length_replicate]; omega⟩ ?_
  conv => whnf
  have es : spl (List.replicate (Int.toNat ((p.length + 1 : Nat) : Int)) 0) 0 (List.take (Int.toNat ((p.length + 1 : Nat) : Int)) p) = dF p u 0 := by
    rw [Int.toNat_natCast, List.take_of_length_le (by omega), spl_copy p _ rfl, dF_zero]
  refine LoopK.upTo 8 (fun i => [(0, .s (.lf (.str key))), (2, vI z), (7, .s (.lf (.own 0 0 1 0 (dF p u i).length))), (19, vI i)]) (fun i => [some ⟨5, [.bytes (dF p u i).length (dF p u i)]⟩]) ?_ ?_
  · exact Weak.of ⟨rfl, ⟨.bytes (by rw [dF_length]; rfl) fun o _ => by rw [es], trivial⟩, trivial⟩ (by simp) ⟨okF.wv trivial, okF.wv trivial, WV.lf (WL.own rfl rfl rfl (by rw [dF_length]; rfl)), okF.wv trivial, trivial⟩
  intro i hi
  have hl := dF_length p u i
  have hl' := dF_length p u (i + 1)
  conv => whnf
  by_cases hi' : i < 8
  · refine CaseB.of_true (decide_eq_true (by omega)) ?_
    conv => whnf
    have f1 : IntKind.i64.wrap (56 - IntKind.i64.wrap (8 * (i : Int))) = 56 - 8 * (i : Int) := by rw [wrap_i64 (n := 8 * (i : Int)) (by omega) (by omega), wrap_i64 (by omega) (by omega)]
    refine And.intro (by rw [f1]; omega) ?_
    conv => whnf
    refine Or.inr ?_
    conv => whnf
    have el : dF p u i ++ List.map (fun a : Int => UInt8.ofNat a.toNat) [IntKind.u8.wrap (shrI .u64 (IntKind.u64.wrap z) (IntKind.i64.wrap (56 - IntKind.i64.wrap (8 * (i : Int)))))] = dF p u (i + 1) := by
      rw [List.map_cons, List.map_nil, f1, hu, d8_of u i hi' hul, dF_succ]
    refine And.intro ⟨rfl, rfl, by rw [el]; omega⟩ ?_
    conv => whnf
    refine next_round hi' (Weak.perm [1] ⟨⟨rfl, .bytes (congrArg List.length el) fun o _ => congrArg (fun l => List.getD l o 0) el, trivial⟩, trivial⟩ ⟨freeF.wv trivial, freeF.wv trivial, WV.lf (WL.own rfl rfl rfl (congrArg List.length el)), WV.lf (WL.int (by rw [wrap_i64 (by omega) (by omega)]; omega)), trivial⟩ rfl (by simp) rfl (by simp))
  · refine CaseB.of_false (decide_eq_false (by omega)) ?_
    conv => whnf
    obtain rfl : i = 8 := by omega
    refine CallK.mk' _ _ ((c204 key (dF p u 8) (by omega) (by omega)).lend (cs := [.s (.lf (.str key)), .s (.lf (.own 0 0 1 0 (dF p u 8).length))]) (fun _ => False) [some ⟨5, [.bytes (dF p u 8).length (dF p u 8)]⟩] ⟨freeF.wv trivial, WV.lf (WL.lent rfl rfl ⟨fun h => h, fun i ob h => by simp at h⟩), trivial⟩ (plainF.wv trivial)) ?_
    conv => whnf
    exact RetK.empty (okF.wv trivial)

/-- baileyref04.Derive -/
theorem c155 (key p : List UInt8) (z : Int) (hk : key.length ≤ 1000000) (hp : p.length ≤ 500000) (u : Nat) (hu : IntKind.u64.wrap z = (u : Int)) : SCalls Proofs.Try.prog 155 [.s (.lf (.str key)), .s (.lf (.str p)), vI z] [] (.s (.lf (.str (tagF key (dF p u 8))))) [] := by
  have hul : u < 18446744073709551616 := by rw [wrap_u64] at hu; omega
  refine SCalls.intro tok Proofs.Try.func155 ?_
  conv => whnf
  refine Or.inl ?_
  conv => whnf
  refine Or.inr ?_
  conv => whnf
  have e0 : p ++ List.map (fun a : Int => UInt8.ofNat a.toNat) [(0 : Int)] = dF p u 0 := by rw [dF_zero]; rfl
  refine And.intro ⟨rfl, rfl, by rw [List.length_append]; simp; omega⟩ ?_
  conv => whnf
  refine LoopK.upTo 8 (fun i => [(0, .s (.lf (.str key))), (2, vI z), (7, .s (.lf (.own 0 0 1 0 (dF p u i).length))), (8, vI (56 - 8 * (i : Int)))]) (fun i => [some ⟨5, [.bytes (dF p u i).length (dF p u i)]⟩]) ?_ ?_
  · exact Weak.perm [1] ⟨⟨rfl, .bytes (congrArg List.length e0) fun o _ => congrArg (fun l => List.getD l o 0) e0, trivial⟩, trivial⟩ ⟨freeF.wv trivial, freeF.wv trivial, WV.lf (WL.own rfl rfl rfl (congrArg List.length e0)), freeF.wv trivial, trivial⟩ rfl (by simp) rfl (by simp)
  intro i hi
  have hl := dF_length p u i
  have hl' := dF_length p u (i + 1)
  conv => whnf
  by_cases hi' : i < 8
  · refine CaseB.of_true (decide_eq_true (by omega)) ?_
    conv => whnf
    refine And.intro (by omega) ?_
    conv => whnf
    refine Or.inr ?_
    conv => whnf
    have el : dF p u i ++ List.map (fun a : Int => UInt8.ofNat a.toNat) [IntKind.u8.wrap (shrI .u64 (IntKind.u64.wrap z) (56 - 8 * (i : Int)))] = dF p u (i + 1) := by
      rw [List.map_cons, List.map_nil, hu, d8_of u i hi' hul, dF_succ]
    refine And.intro ⟨rfl, rfl, by rw [el]; omega⟩ ?_
    conv => whnf
    refine next_round hi' (Weak.perm [1] ⟨⟨rfl, .bytes (congrArg List.length el) fun o _ => congrArg (fun l => List.getD l o 0) el, trivial⟩, trivial⟩ ⟨freeF.wv trivial, freeF.wv trivial, WV.lf (WL.own rfl rfl rfl (congrArg List.length el)), WV.lf (WL.int (by rw [wrap_i64 (by omega) (by omega)]; omega)), trivial⟩ rfl (by simp) rfl (by simp))
  · refine CaseB.of_false (decide_eq_false (by omega)) ?_
    conv => whnf
    obtain rfl : i = 8 := by omega
    refine CallK.mk' _ _ ((c166 key (dF p u 8) (by omega) (by omega)).lend (cs := [.s (.lf (.str key)), .s (.lf (.own 0 0 1 0 (dF p u 8).length))]) (fun _ => False) [some ⟨5, [.bytes (dF p u 8).length (dF p u 8)]⟩] ⟨freeF.wv trivial, WV.lf (WL.lent rfl rfl ⟨fun h => h, fun i ob h => by simp at h⟩), trivial⟩ (plainF.wv trivial)) ?_
    conv => whnf
    exact RetK.empty (okF.wv trivial)

end Go.Sym.Md

set_option linter.unusedVariables false
set_option linter.unusedSimpArgs false
set_option maxRecDepth 10000
namespace Go.Sym.Md
open Go Go.Sym

/-! ### What a reader reads -/
structure Rd where
  l : List UInt8
  e : Int

/-- Nothing is left behind an error. -/
structure Rd.ok (r : Rd) : Prop where
  nil : r.e ≠ 0 → r.l = []
  lo : IntKind.i64.min ≤ r.e
  hi : r.e ≤ IntKind.i64.max
  len : r.l.length ≤ 140737488355328

def failR (r : Rd) (e : Int) : Rd := if r.e = 0 ∧ e ≠ 0 then ⟨[], e⟩ else r

/-- How many bytes a number has that stands ahead, and the error if none does. -/
def wF : List UInt8 → Nat → Nat × Int
  | [], _ => (0, 4)
  | x :: l, i => if (i = 0 ∧ x.toNat = 128) ∨ (i = 8 ∧ 128 ≤ x.toNat) then (0, 3) else if x.toNat < 128 then (i + 1, 0) else wF l (i + 1)

/-- The number that bytes are. -/
def valF (l : List UInt8) (n : Nat) : Nat := (l.take n).foldl (fun n x => n * 128 + x.toNat % 128) 0

def numR (r : Rd) (most : Int) : Int × Rd :=
  if r.e ≠ 0 then (0, r) else
  if (wF r.l 0).2 ≠ 0 then (0, ⟨[], (wF r.l 0).2⟩) else
  if most < (valF r.l (wF r.l 0).1 : Int) then (0, ⟨[], 5⟩) else ((valF r.l (wF r.l 0).1 : Int), ⟨r.l.drop (wF r.l 0).1, 0⟩)

def textR (r : Rd) (most : Int) : List UInt8 × Rd :=
  if (numR r most).2.e ≠ 0 then ([], (numR r most).2) else
  if (numR r most).2.l.length < (numR r most).1.toNat then ([], ⟨[], 4⟩) else
  ((numR r most).2.l.take (numR r most).1.toNat, ⟨(numR r most).2.l.drop (numR r most).1.toNat, 0⟩)

theorem wF_le : ∀ (l : List UInt8) (i : Nat), i ≤ 8 → (wF l i).1 ≤ 9 ∧ (wF l i).1 ≤ l.length + i ∧ ((wF l i).2 = 0 → i < (wF l i).1) ∧ ((wF l i).2 = 0 ∨ (wF l i).2 = 3 ∨ (wF l i).2 = 4)
  | [], i, h => by simp [wF]
  | x :: l, i, h => by
    unfold wF
    split
    · simp
    · split
      · simp; omega
      · rename_i h1 h2
        have := wF_le l (i + 1) (by omega)
        simp only [List.length_cons]
        omega

theorem valF_zero (l : List UInt8) : valF l 0 = 0 := rfl
theorem valF_succ (l : List UInt8) (n : Nat) (h : n < l.length) : valF l (n + 1) = valF l n * 128 + (l.getD n 0).toNat % 128 := by
  unfold valF
  rw [List.take_add_one, List.foldl_append]
  simp [List.getElem?_eq_getElem h, List.getD_eq_getElem?_getD]

theorem valF_lt (l : List UInt8) (n : Nat) (h : n ≤ l.length) : valF l n < 128 ^ n := by
  induction n with
  | zero => simp [valF]
  | succ n ih =>
    rw [valF_succ l n (by omega), Nat.pow_succ]
    have := ih (by omega)
    omega

theorem valF_small (l : List UInt8) (n : Nat) (h : n ≤ l.length) (h9 : n ≤ 9) : valF l n < 9223372036854775808 :=
  Nat.lt_of_lt_of_le (valF_lt l n h) (by have := Nat.pow_le_pow_right (show 0 < 128 by omega) h9; omega)

/-- The width, from a byte on. -/
theorem wF_step (l : List UInt8) (i : Nat) (h : i < l.length) : wF (l.drop i) i = if (i = 0 ∧ (l.getD i 0).toNat = 128) ∨ (i = 8 ∧ 128 ≤ (l.getD i 0).toNat) then (0, 3) else if (l.getD i 0).toNat < 128 then (i + 1, 0) else wF (l.drop (i + 1)) (i + 1) := by
  rw [List.drop_eq_getElem_cons h, wF]
  simp only [List.getD_eq_getElem?_getD, List.getElem?_eq_getElem h, Option.getD_some]

theorem failR_ok {r : Rd} (h : r.ok) {e : Int} (h1 : IntKind.i64.min ≤ e) (h2 : e ≤ IntKind.i64.max) : (failR r e).ok := by
  unfold failR
  split
  · exact ⟨fun _ => rfl, h1, h2, by simp⟩
  · exact h

theorem numR_ok {r : Rd} (h : r.ok) (most : Int) : (numR r most).2.ok := by
  unfold numR
  split
  · exact h
  · have := wF_le r.l 0 (by omega)
    split
    · exact ⟨fun _ => rfl, by have : IntKind.i64.min = -9223372036854775808 := rfl; rw [this]; show _ ≤ (wF r.l 0).2; omega, by have : IntKind.i64.max = 9223372036854775807 := rfl; rw [this]; show (wF r.l 0).2 ≤ _; omega, by simp⟩
    · split
      · exact ⟨fun _ => rfl, by decide, by decide, by simp⟩
      · exact ⟨fun h => absurd rfl h, by show IntKind.i64.min ≤ 0; decide, by show (0:Int) ≤ IntKind.i64.max; decide, by have := h.len; simp; omega⟩

theorem numR_range {r : Rd} (h : r.ok) (most : Int) : 0 ≤ (numR r most).1 ∧ (numR r most).1 < 9223372036854775808 ∧ (0 ≤ most → (numR r most).1 ≤ most) := by
  unfold numR
  split
  · simp
  · split
    · simp
    · split
      · simp
      · have := wF_le r.l 0 (by omega)
        have := valF_small r.l (wF r.l 0).1 (by omega) (by omega)
        simp only []
        omega

theorem textR_ok {r : Rd} (h : r.ok) (most : Int) : (textR r most).2.ok := by
  have h1 := numR_ok h most
  unfold textR
  split
  · exact h1
  · split
    · exact ⟨fun _ => rfl, by decide, by decide, by simp⟩
    · exact ⟨fun h => absurd rfl h, by show IntKind.i64.min ≤ 0; decide, by show (0:Int) ≤ IntKind.i64.max; decide, by have := h1.len; simp; omega⟩

theorem textR_len {r : Rd} (h : r.ok) (most : Int) (h0 : 0 ≤ most) : ((textR r most).1.length : Int) ≤ most := by
  have h1 := numR_range h most
  unfold textR
  split
  · simpa using h0
  · split
    · simpa using h0
    · simp only [List.length_take]; omega
end Go.Sym.Md

