/- Contracts of the program's functions, proved by the framework (text PoR), without conditions but those that each theorem states. -/
import Derived.Test.YtlmcdgbjbamdnaaPoQ
set_option linter.unusedVariables false
set_option linter.unusedSimpArgs false
set_option maxRecDepth 10000
namespace Go.Sym.Md
open Go Go.Sym Go.Sym.Sh

/-- The words behind k blocks of a text. -/
def cF (all : List UInt8) : Nat → List UInt32
  | 0 => H0w
  | k + 1 => blockF (cF all k) ((all.drop (64 * k)).take 64)

theorem cF_zero (all : List UInt8) : cF all 0 = H0w := rfl
theorem cF_succ (all : List UInt8) (k : Nat) : cF all (k + 1) = blockF (cF all k) ((all.drop (64 * k)).take 64) := rfl

theorem cF_length (all : List UInt8) (k : Nat) : (cF all k).length = 8 := by
  induction k with
  | zero => rfl
  | succ k ih => exact blockF_length _ _ ih

theorem cF_write (all : List UInt8) : ∀ (k : Nat), 64 * k ≤ all.length → (writeF st0 (all.take (64 * k))).h = cF all k
  | 0, _ => by simp [writeF, cF, st0]
  | k + 1, h => by
    have ih := cF_write all k (by omega)
    have hs := writeF_ok st0_ok (all.take (64 * k))
    have hn : (writeF st0 (all.take (64 * k))).n = 64 * k := by rw [writeF_n, List.length_take, Nat.min_eq_left (by omega)]; exact Nat.zero_add _
    have hb : ((all.drop (64 * k)).take 64).length = 64 := by rw [List.length_take, List.length_drop]; omega
    have e : all.take (64 * (k + 1)) = all.take (64 * k) ++ (all.drop (64 * k)).take 64 := by
      rw [show 64 * (k + 1) = 64 * k + 64 by omega, List.take_add]
    rw [e, writeF_append, writeF_piece _ _ hs.p (by omega) (by rw [hn, hb]; omega), cF, ← ih]
    simp only []
    rw [if_pos (by rw [hn, hb]; omega)]
    congr 1
    rw [hn, show 64 * k % 64 = 0 by omega, spl, hb, List.take_zero, List.nil_append, List.drop_of_length_le (i := 0 + 64) (by rw [hs.p]; omega), List.append_nil]

/-- A text with what stands behind it. -/
def wholeF (b : List UInt8) : List UInt8 := b ++ padF b.length

theorem wholeF_length (b : List UInt8) : (wholeF b).length = 64 * ((b.length + 72) / 64) := by
  rw [wholeF, List.length_append, padF_length]
  unfold zeros
  omega

theorem shaF_whole (b : List UInt8) : shaF b = toldF (cF (wholeF b) ((b.length + 72) / 64)) := by
  rw [shaF, sumF, writeF_n, show st0.n + b.length = b.length from Nat.zero_add _, ← writeF_append, ← cF_write _ _ (by rw [wholeF_length]; omega), List.take_of_length_le (by rw [wholeF_length]; omega), wholeF]

/-- The first m bytes of a sum. -/
def oF (h : List UInt32) (m : Nat) : List UInt8 := (List.range (4 * m)).map (Sh.byteOf h)
theorem oF_zero (h : List UInt32) : oF h 0 = [] := rfl
theorem oF_done (h : List UInt32) : oF h 8 = toldF h := rfl
theorem oF_length (h : List UInt32) (m : Nat) : (oF h m).length = 4 * m := by simp [oF]
theorem oF_succ (h : List UInt32) (m : Nat) : oF h (m + 1) = oF h m ++ [Sh.byteOf h (4 * m), Sh.byteOf h (4 * m + 1), Sh.byteOf h (4 * m + 2), Sh.byteOf h (4 * m + 3)] := by
  simp only [oF, show 4 * (m + 1) = 4 * m + 1 + 1 + 1 + 1 by omega, List.range_succ, List.map_append, List.append_assoc]
  rfl

theorem byteOf_at (h : List UInt32) (i j : Nat) (hj : j < 4) : Sh.byteOf h (4 * i + j) = ((h.getD i 0) >>> (UInt32.ofNat (24 - 8 * j))).toUInt8 := by
  rw [Sh.byteOf, show (4 * i + j) / 4 = i by omega, show (4 * i + j) % 4 = j by omega]

theorem four_bytes (h : List UInt32) (i : Nat) : List.map (fun a : Int => UInt8.ofNat a.toNat) [IntKind.u8.wrap (shrI IntKind.u32 ((Us h).getD (Int.toNat (i : Int)) 0) 24), IntKind.u8.wrap (shrI IntKind.u32 ((Us h).getD (Int.toNat (i : Int)) 0) 16), IntKind.u8.wrap (shrI IntKind.u32 ((Us h).getD (Int.toNat (i : Int)) 0) 8), IntKind.u8.wrap ((Us h).getD (Int.toNat (i : Int)) 0)]
    = [Sh.byteOf h (4 * i), Sh.byteOf h (4 * i + 1), Sh.byteOf h (4 * i + 2), Sh.byteOf h (4 * i + 3)] := by
  rw [Int.toNat_natCast, Us_getD]
  simp only [U, List.map_cons, List.map_nil]
  rw [u32_shr' _ 24 (m := 24) (by omega) rfl, u32_shr' _ 16 (m := 16) (by omega) rfl, u32_shr' _ 8 (m := 8) (by omega) rfl, u32_byte, u32_byte, u32_byte, u32_byte]
  rw [show 4 * i = 4 * i + 0 from rfl, byteOf_at h i 0 (by omega), show 4 * i + 0 = 4 * i from rfl, byteOf_at h i 1 (by omega), byteOf_at h i 2 (by omega), byteOf_at h i 3 (by omega)]
  simp

/-- The first j bytes of block k, zeros behind them. -/
def xF (w : List UInt8) (k j : Nat) : List UInt8 := (w.drop (64 * k)).take j ++ List.replicate (64 - j) 0

theorem xF_zero (w : List UInt8) (k : Nat) : xF w k 0 = List.replicate 64 0 := by simp [xF]
theorem xF_full (w : List UInt8) (k : Nat) : xF w k 64 = (w.drop (64 * k)).take 64 := by simp [xF]
theorem xF_length {w : List UInt8} {k j : Nat} (hj : j ≤ 64) (h : 64 * (k + 1) ≤ w.length) : (xF w k j).length = 64 := by simp [xF]; omega
theorem xF_set {w : List UInt8} {k j : Nat} (hj : j < 64) (h : 64 * (k + 1) ≤ w.length) : (xF w k j).set j (w.getD (64 * k + j) 0) = xF w k (j + 1) := by
  have hl : ((w.drop (64 * k)).take j).length = j := by simp; omega
  simp only [xF]
  rw [List.set_append_right _ _ (by omega), hl, Nat.sub_self, show 64 - j = (64 - (j + 1)) + 1 by omega, List.replicate_succ, List.set_cons_zero, List.take_add_one, List.getElem?_drop, List.getElem?_eq_getElem (by omega), List.getD_eq_getElem?_getD, List.getElem?_eq_getElem (by omega)]
  simp

attribute [local irreducible] xF ws acc rs addUp Kw highA highB Sh.choose most lowA lowB ror blockF writeF padF toldF shaF oF cF wholeF

/-- baileyref03.Sum -/
theorem c134 (b : List UInt8) (hb : b.length ≤ 1000000) : SCalls Proofs.Try.prog 134 [.s (.lf (.rob false false b))] [] (.s (.lf (.str (shaF b)))) [] := by
  have hz := zeros_lt b.length
  have hp := padF_length b.length
  have h27 := c190 b.length b.length (by omega) (by omega)
  have hw := wholeF_length b
  obtain ⟨y, r, hyr⟩ : ∃ y r, padF b.length = y :: r := by
    cases h : padF b.length with
    | nil => rw [h] at hp; simp at hp
    | cons y r => exact ⟨y, r, rfl⟩
  rw [hyr] at h27
  obtain ⟨R, hR⟩ : ∃ R, R = shaF b := ⟨_, rfl⟩
  obtain ⟨w, hw0⟩ : ∃ w, w = wholeF b := ⟨_, rfl⟩
  obtain ⟨N, hN⟩ : ∃ N, N = (b.length + 72) / 64 := ⟨_, rfl⟩
  have hs : R = toldF (cF w N) := by rw [hR, hw0, hN]; exact shaF_whole b
  have hwl : w.length = 64 * N := by rw [hw0, hN]; exact wholeF_length b
  have hN' : N ≤ 20000 := by omega
  rw [← hR]
  clear hR
  refine SCalls.intro tok Proofs.Try.func134 ?_
  conv => whnf
  rcases b with _ | ⟨x, b'⟩
  · conv => whnf
    refine CallK.mk' _ _ h27 ?_
    conv => whnf
    have ew : y :: r = w := by rw [hw0, wholeF]; exact hyr.symm
    refine ⟨by rw [ew, hwl]; omega, ?_⟩
    conv => whnf
    refine CallK.mk' _ _ (c191.free _ trivial ⟨trivial, trivial⟩) ?_
    conv => whnf
    refine LoopK.upTo N (fun k => [(3, .s (.lf (.own 0 0 1 0 w.length))), (4, .s (.lf (.ptr 1 0))), (5, vI (64 * (k : Int)))]) (fun k => [some ⟨5, [.bytes w.length w]⟩, some ⟨198, [.ints .u32 8 (Us (cF w k))]⟩]) ?_ ?_
    · exact Weak.of ⟨rfl, ⟨.bytes (congrArg List.length ew) fun o _ => by rw [ew], trivial⟩, rfl, ⟨.ints rfl fun _ _ => by rw [cF_zero], trivial⟩, trivial⟩ (by simp) ⟨WV.lf (WL.own rfl rfl rfl (congrArg List.length ew)), okF.wv rfl, okF.wv trivial, trivial⟩
    intro k hk
    conv => whnf
    by_cases hk' : k < N
    · refine CaseB.of_true (decide_eq_true (by omega)) ?_
      conv => whnf
      refine LoopK.upTo 64 (fun j => [(3, .s (.lf (.own 0 0 1 0 w.length))), (4, .s (.lf (.ptr 1 0))), (5, vI (64 * (k : Int))), (6, .s (.lf (.ptr 2 0))), (7, vI j)]) (fun j => [some ⟨5, [.bytes w.length w]⟩, some ⟨198, [.ints .u32 8 (Us (cF w k))]⟩, some ⟨199, [.bytes 64 (xF w k j)]⟩]) ?_ ?_
      · exact Weak.of ⟨rfl, ⟨.bytes rfl fun _ _ => rfl, trivial⟩, rfl, ⟨.ints rfl fun _ _ => rfl, trivial⟩, rfl, ⟨.bytes rfl fun _ _ => by rw [xF_zero], trivial⟩, trivial⟩ (by simp) ⟨okF.wv rfl, okF.wv rfl, okF.wv trivial, okF.wv rfl, okF.wv trivial, trivial⟩
      intro j hj
      conv => whnf
      by_cases hj' : j < 64
      · refine CaseB.of_true (decide_eq_true (by omega)) ?_
        conv => whnf
        have e1 : IntKind.i64.wrap (64 * (k : Int) + (j : Int)) = ((64 * k + j : Nat) : Int) := by rw [wrap_i64 (by omega) (by omega)]; omega
        refine ⟨by rw [e1]; omega, ?_⟩
        conv => whnf
        refine ⟨by omega, ?_⟩
        conv => whnf
        refine ⟨by omega, ?_⟩
        conv => whnf
        have hx : Int.toNat (j : Int) < (xF w k j).length := by rw [xF_length (by omega) (by omega)]; omega
        refine ⟨by omega, ?_⟩
        conv => whnf
        refine ⟨hx, ?_⟩
        conv => whnf
        refine next_round hj' (Weak.of ⟨rfl, ⟨.bytes rfl fun _ _ => rfl, trivial⟩, rfl, ⟨.ints rfl fun _ _ => rfl, trivial⟩, rfl, ⟨.bytes rfl fun o _ => ?_, trivial⟩, trivial⟩ (by simp) ⟨okF.wv rfl, okF.wv rfl, okF.wv trivial, okF.wv rfl, WV.lf (WL.int (by rw [wrap_i64 (by omega) (by omega)]; omega)), trivial⟩)
        rw [e1, ← xF_set hj' (by omega), Int.toNat_natCast, Int.toNat_natCast]
        congr 2
        rw [Int.toNat_natCast, Nat.zero_add]
        exact UInt8.ofNat_toNat
      · refine CaseB.of_false (decide_eq_false (by omega)) ?_
        conv => whnf
        obtain rfl : j = 64 := by omega
        have hx : (xF w k 64).length = 64 := xF_length (by omega) (by omega)
        refine CallK.mk' _ _ ((c192 (cF w k) (cF_length w k) (xF w k 64) hx).free _ ⟨⟨trivial, trivial⟩, ⟨trivial, trivial⟩, trivial⟩ ⟨trivial, trivial⟩) ?_
        conv => whnf
        refine next_round hk' (Weak.of ⟨rfl, ⟨.bytes rfl fun _ _ => rfl, trivial⟩, rfl, ⟨.ints rfl fun _ _ => by rw [cF_succ, xF_full], trivial⟩, trivial⟩ (by simp) ⟨okF.wv rfl, okF.wv rfl, WV.lf (WL.int (by rw [wrap_i64 (by omega) (by omega)]; omega)), trivial⟩)
    · refine CaseB.of_false (decide_eq_false (by omega)) ?_
      conv => whnf
      obtain rfl : k = N := by omega
      refine LoopK.mk2 (fun (i : Nat) (e : Bool) => match e with
          | true => [(4, .s (.lf (.ptr 0 0))), (8, .s (.lf .sl0)), (9, vI i)]
          | false => [(4, .s (.lf (.ptr 0 0))), (8, .s (.lf (.own 1 0 1 0 (oF (cF w k) i).length))), (9, vI i)])
        (fun i e => match e with
          | true => [some ⟨198, [.ints .u32 8 (Us (cF w k))]⟩]
          | false => [some ⟨198, [.ints .u32 8 (Us (cF w k))]⟩, some ⟨5, [.bytes (oF (cF w k) i).length (oF (cF w k) i)]⟩]) (fun i e => i ≤ 8 ∧ (e = true → i = 0)) (fun i e => 8 - i) 0 true ⟨by omega, fun _ => rfl⟩ ?_ ?_
      · exact Weak.perm [1] ⟨⟨rfl, .ints rfl fun _ _ => rfl, trivial⟩, trivial⟩ ⟨WV.lf (WL.ptr rfl rfl), freeF.wv trivial, freeF.wv trivial, trivial⟩ rfl (by simp) rfl (by simp)
      intro i e hi
      obtain ⟨hi, he⟩ := hi
      cases e with
      | true =>
        obtain rfl := he rfl
        conv => whnf
        refine CaseB.of_true (decide_eq_true (by omega)) ?_
        conv => whnf
        refine DrawK.mk1 tok mixed [0, 0, 2, 6, 14, 30, 0, 64, 192, 448, 960, 0, 2048, 6144, 14336, 30720, 0, 65536, 196608, 458752, 1048574, 2097151, 4194303] [(0, 0, []), (1, 0, []), (6, 0, []), (11, 0, []), (16, 0, []), (2, 1, [0]), (3, 1, [0]), (4, 0, []), (5, 0, []), (7, 1, [0]), (8, 1, [0]), (9, 0, []), (10, 0, []), (12, 1, [0]), (13, 1, [0]), (14, 0, []), (15, 0, []), (17, 1, [0]), (18, 1, [0]), (19, 0, []), (20, 2, []), (21, 2, []), (22, 0, [])] (by kernel_rfl) ?_
        conv => whnf
        refine ⟨by omega, ?_⟩
        conv => whnf
        repeat (refine ⟨by omega, ?_⟩; conv => whnf)
        refine Or.inr ?_
        conv => whnf
        have e4 : List.map (fun a : Int => UInt8.ofNat a.toNat) [IntKind.u8.wrap (shrI IntKind.u32 ((Us (cF w k)).getD (Int.toNat ((0 : Nat) : Int)) 0) 24), IntKind.u8.wrap (shrI IntKind.u32 ((Us (cF w k)).getD (Int.toNat ((0 : Nat) : Int)) 0) 16), IntKind.u8.wrap (shrI IntKind.u32 ((Us (cF w k)).getD (Int.toNat ((0 : Nat) : Int)) 0) 8), IntKind.u8.wrap ((Us (cF w k)).getD (Int.toNat ((0 : Nat) : Int)) 0)] = oF (cF w k) (0 + 1) := by rw [four_bytes, oF_succ, oF_zero]; rfl
        refine ⟨by simp, ?_⟩
        conv => whnf
        refine ⟨(0 + 1, false), ⟨by omega, fun h => by simp at h⟩, by show 8 - (0 + 1) < 8 - 0; omega, ?_⟩
        exact Weak.of ⟨rfl, ⟨.ints rfl fun _ _ => rfl, trivial⟩, rfl, ⟨.bytes (congrArg List.length e4) fun o _ => congrArg (fun l => List.getD l o 0) e4, trivial⟩, trivial⟩ (by simp) ⟨okF.wv rfl, WV.lf (WL.own rfl rfl rfl (congrArg List.length e4)), WV.lf (WL.int rfl), trivial⟩
      | false =>
        conv => whnf
        by_cases hi' : i < 8
        · refine CaseB.of_true (decide_eq_true (by omega)) ?_
          conv => whnf
          refine DrawK.mk1 tok mixed [0, 0, 2, 6, 14, 30, 0, 64, 192, 448, 960, 0, 2048, 6144, 14336, 30720, 0, 65536, 196608, 458752, 1048574, 2097151, 4194303] [(0, 0, []), (1, 0, []), (6, 0, []), (11, 0, []), (16, 0, []), (2, 1, [0]), (3, 1, [0]), (4, 0, []), (5, 0, []), (7, 1, [0]), (8, 1, [0]), (9, 0, []), (10, 0, []), (12, 1, [0]), (13, 1, [0]), (14, 0, []), (15, 0, []), (17, 1, [0]), (18, 1, [0]), (19, 0, []), (20, 2, []), (21, 2, []), (22, 0, [])] (by kernel_rfl) ?_
          conv => whnf
          repeat (refine ⟨by omega, ?_⟩; conv => whnf)
          refine Or.inr ?_
          conv => whnf
          have e4 : oF (cF w k) i ++ List.map (fun a : Int => UInt8.ofNat a.toNat) [IntKind.u8.wrap (shrI IntKind.u32 ((Us (cF w k)).getD (Int.toNat ((i : Nat) : Int)) 0) 24), IntKind.u8.wrap (shrI IntKind.u32 ((Us (cF w k)).getD (Int.toNat ((i : Nat) : Int)) 0) 16), IntKind.u8.wrap (shrI IntKind.u32 ((Us (cF w k)).getD (Int.toNat ((i : Nat) : Int)) 0) 8), IntKind.u8.wrap ((Us (cF w k)).getD (Int.toNat ((i : Nat) : Int)) 0)] = oF (cF w k) (i + 1) := by rw [four_bytes, oF_succ]
          refine ⟨⟨rfl, rfl, by rw [e4, oF_length]; omega⟩, ?_⟩
          conv => whnf
          refine ⟨(i + 1, false), ⟨by omega, fun h => by simp at h⟩, by show 8 - (i + 1) < 8 - i; omega, ?_⟩
          exact Weak.perm [0, 2] ⟨⟨rfl, .ints rfl fun _ _ => rfl, trivial⟩, ⟨rfl, .bytes (congrArg List.length e4) fun o _ => congrArg (fun l => List.getD l o 0) e4, trivial⟩, trivial⟩ ⟨WV.lf (WL.ptr rfl rfl), WV.lf (WL.own rfl rfl rfl (congrArg List.length e4)), WV.lf (WL.int (by rw [wrap_i64 (by omega) (by omega)]; omega)), trivial⟩ rfl (by simp) rfl (by simp)
        · refine CaseB.of_false (decide_eq_false (by omega)) ?_
          conv => whnf
          refine ⟨⟨by omega, by omega⟩, ?_⟩
          conv => whnf
          obtain rfl : i = 8 := by omega
          refine RetK.empty (WV.lf (WL.str ?_))
          rw [List.drop_zero, List.take_length, oF_done, hs]
  · conv => whnf
    have ew : (x :: b') ++ (y :: r) = w := by rw [hw0, wholeF, hyr]
    refine ⟨by omega, ?_⟩
    conv => whnf
    refine CallK.mk' _ _ (h27.free _ ⟨trivial, trivial⟩ trivial) ?_
    conv => whnf
    refine ⟨⟨rfl, rfl, by rw [ew, hwl]; omega⟩, ?_⟩
    conv => whnf
    refine CallK.mk' _ _ (c191.free _ trivial ⟨trivial, trivial⟩) ?_
    conv => whnf
    refine LoopK.upTo N (fun k => [(3, .s (.lf (.own 0 0 1 0 w.length))), (4, .s (.lf (.ptr 1 0))), (5, vI (64 * (k : Int)))]) (fun k => [some ⟨5, [.bytes w.length w]⟩, some ⟨198, [.ints .u32 8 (Us (cF w k))]⟩]) ?_ ?_
    · exact Weak.perm [1, 2] ⟨⟨rfl, .bytes (congrArg List.length ew) fun o _ => by rw [ew], trivial⟩, ⟨rfl, .ints rfl fun _ _ => by rw [cF_zero], trivial⟩, trivial⟩ ⟨WV.lf (WL.own rfl rfl rfl (congrArg List.length ew)), WV.lf (WL.ptr rfl rfl), freeF.wv trivial, trivial⟩ rfl (by simp) rfl (by simp)
    intro k hk
    conv => whnf
    by_cases hk' : k < N
    · refine CaseB.of_true (decide_eq_true (by omega)) ?_
      conv => whnf
      refine LoopK.upTo 64 (fun j => [(3, .s (.lf (.own 0 0 1 0 w.length))), (4, .s (.lf (.ptr 1 0))), (5, vI (64 * (k : Int))), (6, .s (.lf (.ptr 2 0))), (7, vI j)]) (fun j => [some ⟨5, [.bytes w.length w]⟩, some ⟨198, [.ints .u32 8 (Us (cF w k))]⟩, some ⟨199, [.bytes 64 (xF w k j)]⟩]) ?_ ?_
      · exact Weak.of ⟨rfl, ⟨.bytes rfl fun _ _ => rfl, trivial⟩, rfl, ⟨.ints rfl fun _ _ => rfl, trivial⟩, rfl, ⟨.bytes rfl fun _ _ => by rw [xF_zero], trivial⟩, trivial⟩ (by simp) ⟨okF.wv rfl, okF.wv rfl, okF.wv trivial, okF.wv rfl, okF.wv trivial, trivial⟩
      intro j hj
      conv => whnf
      by_cases hj' : j < 64
      · refine CaseB.of_true (decide_eq_true (by omega)) ?_
        conv => whnf
        have e1 : IntKind.i64.wrap (64 * (k : Int) + (j : Int)) = ((64 * k + j : Nat) : Int) := by rw [wrap_i64 (by omega) (by omega)]; omega
        refine ⟨by rw [e1]; omega, ?_⟩
        conv => whnf
        refine ⟨by omega, ?_⟩
        conv => whnf
        refine ⟨by omega, ?_⟩
        conv => whnf
        have hx : Int.toNat (j : Int) < (xF w k j).length := by rw [xF_length (by omega) (by omega)]; omega
        refine ⟨by omega, ?_⟩
        conv => whnf
        refine ⟨hx, ?_⟩
        conv => whnf
        refine next_round hj' (Weak.of ⟨rfl, ⟨.bytes rfl fun _ _ => rfl, trivial⟩, rfl, ⟨.ints rfl fun _ _ => rfl, trivial⟩, rfl, ⟨.bytes rfl fun o _ => ?_, trivial⟩, trivial⟩ (by simp) ⟨okF.wv rfl, okF.wv rfl, okF.wv trivial, okF.wv rfl, WV.lf (WL.int (by rw [wrap_i64 (by omega) (by omega)]; omega)), trivial⟩)
        rw [e1, ← xF_set hj' (by omega), Int.toNat_natCast, Int.toNat_natCast]
        congr 2
        rw [Int.toNat_natCast, Nat.zero_add]
        exact UInt8.ofNat_toNat
      · refine CaseB.of_false (decide_eq_false (by omega)) ?_
        conv => whnf
        obtain rfl : j = 64 := by omega
        have hx : (xF w k 64).length = 64 := xF_length (by omega) (by omega)
        refine CallK.mk' _ _ ((c192 (cF w k) (cF_length w k) (xF w k 64) hx).free _ ⟨⟨trivial, trivial⟩, ⟨trivial, trivial⟩, trivial⟩ ⟨trivial, trivial⟩) ?_
        conv => whnf
        refine next_round hk' (Weak.of ⟨rfl, ⟨.bytes rfl fun _ _ => rfl, trivial⟩, rfl, ⟨.ints rfl fun _ _ => by rw [cF_succ, xF_full], trivial⟩, trivial⟩ (by simp) ⟨okF.wv rfl, okF.wv rfl, WV.lf (WL.int (by rw [wrap_i64 (by omega) (by omega)]; omega)), trivial⟩)
    · refine CaseB.of_false (decide_eq_false (by omega)) ?_
      conv => whnf
      obtain rfl : k = N := by omega
      refine LoopK.mk2 (fun (i : Nat) (e : Bool) => match e with
          | true => [(4, .s (.lf (.ptr 0 0))), (8, .s (.lf .sl0)), (9, vI i)]
          | false => [(4, .s (.lf (.ptr 0 0))), (8, .s (.lf (.own 1 0 1 0 (oF (cF w k) i).length))), (9, vI i)])
        (fun i e => match e with
          | true => [some ⟨198, [.ints .u32 8 (Us (cF w k))]⟩]
          | false => [some ⟨198, [.ints .u32 8 (Us (cF w k))]⟩, some ⟨5, [.bytes (oF (cF w k) i).length (oF (cF w k) i)]⟩]) (fun i e => i ≤ 8 ∧ (e = true → i = 0)) (fun i e => 8 - i) 0 true ⟨by omega, fun _ => rfl⟩ ?_ ?_
      · exact Weak.perm [1] ⟨⟨rfl, .ints rfl fun _ _ => rfl, trivial⟩, trivial⟩ ⟨WV.lf (WL.ptr rfl rfl), freeF.wv trivial, freeF.wv trivial, trivial⟩ rfl (by simp) rfl (by simp)
      intro i e hi
      obtain ⟨hi, he⟩ := hi
      cases e with
      | true =>
        obtain rfl := he rfl
        conv => whnf
        refine CaseB.of_true (decide_eq_true (by omega)) ?_
        conv => whnf
        refine DrawK.mk1 tok mixed [0, 0, 2, 6, 14, 30, 0, 64, 192, 448, 960, 0, 2048, 6144, 14336, 30720, 0, 65536, 196608, 458752, 1048574, 2097151, 4194303] [(0, 0, []), (1, 0, []), (6, 0, []), (11, 0, []), (16, 0, []), (2, 1, [0]), (3, 1, [0]), (4, 0, []), (5, 0, []), (7, 1, [0]), (8, 1, [0]), (9, 0, []), (10, 0, []), (12, 1, [0]), (13, 1, [0]), (14, 0, []), (15, 0, []), (17, 1, [0]), (18, 1, [0]), (19, 0, []), (20, 2, []), (21, 2, []), (22, 0, [])] (by kernel_rfl) ?_
        conv => whnf
        refine ⟨by omega, ?_⟩
        conv => whnf
        repeat (refine ⟨by omega, ?_⟩; conv => whnf)
        refine Or.inr ?_
        conv => whnf
        have e4 : List.map (fun a : Int => UInt8.ofNat a.toNat) [IntKind.u8.wrap (shrI IntKind.u32 ((Us (cF w k)).getD (Int.toNat ((0 : Nat) : Int)) 0) 24), IntKind.u8.wrap (shrI IntKind.u32 ((Us (cF w k)).getD (Int.toNat ((0 : Nat) : Int)) 0) 16), IntKind.u8.wrap (shrI IntKind.u32 ((Us (cF w k)).getD (Int.toNat ((0 : Nat) : Int)) 0) 8), IntKind.u8.wrap ((Us (cF w k)).getD (Int.toNat ((0 : Nat) : Int)) 0)] = oF (cF w k) (0 + 1) := by rw [four_bytes, oF_succ, oF_zero]; rfl
        refine ⟨by simp, ?_⟩
        conv => whnf
        refine ⟨(0 + 1, false), ⟨by omega, fun h => by simp at h⟩, by show 8 - (0 + 1) < 8 - 0; omega, ?_⟩
        exact Weak.of ⟨rfl, ⟨.ints rfl fun _ _ => rfl, trivial⟩, rfl, ⟨.bytes (congrArg List.length e4) fun o _ => congrArg (fun l => List.getD l o 0) e4, trivial⟩, trivial⟩ (by simp) ⟨okF.wv rfl, WV.lf (WL.own rfl rfl rfl (congrArg List.length e4)), WV.lf (WL.int rfl), trivial⟩
      | false =>
        conv => whnf
        by_cases hi' : i < 8
        · refine CaseB.of_true (decide_eq_true (by omega)) ?_
          conv => whnf
          refine DrawK.mk1 tok mixed [0, 0, 2, 6, 14, 30, 0, 64, 192, 448, 960, 0, 2048, 6144, 14336, 30720, 0, 65536, 196608, 458752, 1048574, 2097151, 4194303] [(0, 0, []), (1, 0, []), (6, 0, []), (11, 0, []), (16, 0, []), (2, 1, [0]), (3, 1, [0]), (4, 0, []), (5, 0, []), (7, 1, [0]), (8, 1, [0]), (9, 0, []), (10, 0, []), (12, 1, [0]), (13, 1, [0]), (14, 0, []), (15, 0, []), (17, 1, [0]), (18, 1, [0]), (19, 0, []), (20, 2, []), (21, 2, []), (22, 0, [])] (by kernel_rfl) ?_
          conv => whnf
          repeat (refine ⟨by omega, ?_⟩; conv => whnf)
          refine Or.inr ?_
          conv => whnf
          have e4 : oF (cF w k) i ++ List.map (fun a : Int => UInt8.ofNat a.toNat) [IntKind.u8.wrap (shrI IntKind.u32 ((Us (cF w k)).getD (Int.toNat ((i : Nat) : Int)) 0) 24), IntKind.u8.wrap (shrI IntKind.u32 ((Us (cF w k)).getD (Int.toNat ((i : Nat) : Int)) 0) 16), IntKind.u8.wrap (shrI IntKind.u32 ((Us (cF w k)).getD (Int.toNat ((i : Nat) : Int)) 0) 8), IntKind.u8.wrap ((Us (cF w k)).getD (Int.toNat ((i : Nat) : Int)) 0)] = oF (cF w k) (i + 1) := by rw [four_bytes, oF_succ]
          refine ⟨⟨rfl, rfl, by rw [e4, oF_length]; omega⟩, ?_⟩
          conv => whnf
          refine ⟨(i + 1, false), ⟨by omega, fun h => by simp at h⟩, by show 8 - (i + 1) < 8 - i; omega, ?_⟩
          exact Weak.perm [0, 2] ⟨⟨rfl, .ints rfl fun _ _ => rfl, trivial⟩, ⟨rfl, .bytes (congrArg List.length e4) fun o _ => congrArg (fun l => List.getD l o 0) e4, trivial⟩, trivial⟩ ⟨WV.lf (WL.ptr rfl rfl), WV.lf (WL.own rfl rfl rfl (congrArg List.length e4)), WV.lf (WL.int (by rw [wrap_i64 (by omega) (by omega)]; omega)), trivial⟩ rfl (by simp) rfl (by simp)
        · refine CaseB.of_false (decide_eq_false (by omega)) ?_
          conv => whnf
          refine ⟨⟨by omega, by omega⟩, ?_⟩
          conv => whnf
          obtain rfl : i = 8 := by omega
          refine RetK.empty (WV.lf (WL.str ?_))
          rw [List.drop_zero, List.take_length, oF_done, hs]
end Go.Sym.Md
