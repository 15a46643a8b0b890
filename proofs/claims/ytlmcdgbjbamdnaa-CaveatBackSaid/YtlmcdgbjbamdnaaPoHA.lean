/- Contracts of the program's functions, proved by the framework (text PoHA), without conditions but those that each theorem states. -/
import Derived.Test.YtlmcdgbjbamdnaaPoR
set_option linter.unusedVariables false
set_option linter.unusedSimpArgs false
set_option maxRecDepth 10000
namespace Go.Sym.Md
open Go Go.Sym Go.Sym.Sh

/-- A key as long as a block at most. -/
def keyF (key : List UInt8) : List UInt8 := if 64 < key.length then shaF key else key
/-- A key's block, a byte added to each. -/
def blkF (key : List UInt8) (x : UInt8) : List UInt8 := (List.range 64).map fun i => (keyF key).getD i 0 ^^^ x
/-- A text's tag under a key. -/
def tagF (key text : List UInt8) : List UInt8 := shaF (blkF key 92 ++ shaF (blkF key 54 ++ text))

theorem blkF_length (key : List UInt8) (x : UInt8) : (blkF key x).length = 64 := by simp [blkF]
theorem toldF_length (h : List UInt32) : (toldF h).length = 32 := by simp [toldF]
theorem shaF_length (b : List UInt8) : (shaF b).length = 32 := by rw [shaF, sumF, toldF_length]
theorem keyF_length (key : List UInt8) : (keyF key).length ≤ 64 := by
  unfold keyF
  split
  · rw [shaF_length]; omega
  · omega

theorem u8_bv (x : UInt8) : BitVec.ofInt 8 (x.toNat : Int) = x.toBitVec := by
  rw [BitVec.ofInt_natCast]; apply BitVec.eq_of_toNat_eq; simp

theorem u8_xor (x y : UInt8) : bitsI .xor .u8 (x.toNat : Int) (y.toNat : Int) = ((x ^^^ y).toNat : Int) := by
  simp only [bitsI, IntKind.bits, u8_bv]
  rw [wrap_id (by simp [IntKind.min, IntKind.signed]) (by have := (x.toBitVec ^^^ y.toBitVec).isLt; simp only [IntKind.max, IntKind.signed, IntKind.bits, Bool.false_eq_true, if_false]; omega)]
  rfl

theorem spl_pad (k : List UInt8) (h : k.length ≤ 64) : spl (List.replicate 64 0) (Int.toNat 0) (List.take ((Int.toNat ((64 : Nat) : Int)) - Int.toNat 0) k) = k ++ List.replicate (64 - k.length) 0 := by
  rw [show (Int.toNat ((64 : Nat) : Int)) - Int.toNat 0 = 64 from rfl, List.take_of_length_le h, spl, show Int.toNat 0 = 0 from rfl, List.take_zero, List.nil_append, List.drop_replicate, Nat.zero_add]

/-- i bytes of a block are made. -/
def bF (k : List UInt8) (x : UInt8) (i : Nat) : List UInt8 := (List.range 64).map fun j => if j < i then k.getD j 0 ^^^ x else k.getD j 0
theorem bF_length (k : List UInt8) (x : UInt8) (i : Nat) : (bF k x i).length = 64 := by simp [bF]
theorem bF_get (k : List UInt8) (x : UInt8) (i j : Nat) (hj : j < 64) : (bF k x i).getD j 0 = if j < i then k.getD j 0 ^^^ x else k.getD j 0 := by
  simp [bF, List.getD, hj]
theorem bF_zero (k : List UInt8) (x : UInt8) (h : k.length ≤ 64) : bF k x 0 = k ++ List.replicate (64 - k.length) 0 := by
  apply List.ext_getElem?
  intro j
  simp only [bF, Nat.not_lt_zero, if_false, List.getElem?_map]
  by_cases hj : j < 64
  · rw [List.getElem?_range hj]
    by_cases hk : j < k.length
    · rw [List.getElem?_append_left hk, Option.map_some, List.getD_eq_getElem?_getD, List.getElem?_eq_getElem hk]; rfl
    · rw [List.getElem?_append_right (by omega), List.getElem?_replicate, if_pos (by omega), Option.map_some, List.getD_eq_getElem?_getD, List.getElem?_eq_none (by omega)]; rfl
  · rw [List.getElem?_eq_none (by simp; omega), List.getElem?_eq_none (by simp; omega)]; rfl
theorem bF_set (k : List UInt8) (x : UInt8) (i : Nat) (hi : i < 64) : (bF k x i).set i ((bF k x i).getD i 0 ^^^ x) = bF k x (i + 1) := by
  apply List.ext_getElem?
  intro j
  rw [List.getElem?_set, bF_get _ _ _ _ hi]
  simp only [bF, List.length_map, List.length_range, List.getElem?_map]
  by_cases hj : j < 64
  · rw [List.getElem?_range hj]
    by_cases e : i = j
    · subst e; rw [if_pos rfl, if_pos hi]; simp
    · rw [if_neg e]
      simp only [Option.map_some]
      by_cases h1 : j < i
      · rw [if_pos h1, if_pos (by omega)]
      · rw [if_neg h1, if_neg (by omega)]
  · rw [if_neg (by omega), List.getElem?_eq_none (by simp; omega)]; rfl
theorem bF_full (key : List UInt8) (x : UInt8) : bF (keyF key) x 64 = blkF key x := by
  simp only [bF, blkF]
  refine List.map_congr_left fun i hi => ?_
  rw [if_pos (List.mem_range.1 hi)]

attribute [local irreducible] padF shaF blkF bF keyF

/-- hmac.pad -/
theorem c224 (key : List UInt8) (hk : key.length ≤ 576460752303423488) (x : UInt8) : SCalls Proofs.Try.prog 224 [.s (.lf (.str key)), .s (.lf (.int .u8 (x.toNat : Int)))] [] (vBlk (blkF key x)) [] := by
  have hkl := keyF_length key
  have hb0 := bF_zero (keyF key) x hkl
  refine SCalls.intro tok Proofs.Try.func224 ?_
  conv => whnf
  by_cases hl : 64 < (key.length : Int)
  · refine CaseB.of_true (decide_eq_true hl) ?_
    conv => whnf
    refine Or.inr ?_
    conv => whnf
    refine CallK.mk' _ _ ((c235 key hk).lend (cs := [.s (.lf (.rob true false key))]) (fun _ => True) _ ⟨WV.lf (WL.rob rfl (by simp) (by simp)), trivial⟩ (plainF.wv trivial)) ?_
    conv => whnf
    have hK : keyF key = shaF key := by unfold keyF; rw [if_pos (by omega)]
    have hfull := bF_full key x
    rw [hK] at hkl hb0 hfull
    refine ⟨by simp [maxLen], ?_⟩
    conv => whnf
    refine ⟨by simp, ?_⟩
    conv => whnf
    refine LoopK.upTo 64 (fun i => [(1, .s (.lf (.int .u8 (x.toNat : Int)))), (4, .s (.lf (.ptr 0 0))), (5, .s (.lf (.ptr 1 0))), (16, vI i)]) (fun i => [some ⟨199, [.bytes 64 (List.replicate 64 0)]⟩, some ⟨199, [.bytes 64 (bF (shaF key) x i)]⟩]) ?_ ?_
    · exact Weak.of ⟨rfl, ⟨.bytes rfl fun _ _ => rfl, trivial⟩, rfl, ⟨.bytes rfl fun _ _ => by rw [spl_pad _ hkl, hb0], trivial⟩, trivial⟩ (by simp) ⟨okF.wv trivial, okF.wv rfl, okF.wv rfl, okF.wv trivial, trivial⟩
    intro i hi
    conv => whnf
    by_cases hi' : i < 64
    · refine CaseB.of_true (decide_eq_true (by omega)) ?_
      conv => whnf
      have hbl : Int.toNat (i : Int) < (bF (shaF key) x i).length := by rw [bF_length]; omega
      repeat (refine And.intro (by omega) ?_; conv => whnf)
      refine next_round hi' (Weak.of ⟨rfl, ⟨.bytes rfl fun _ _ => rfl, trivial⟩, rfl, ⟨.bytes rfl fun o _ => ?_, trivial⟩, trivial⟩ (by simp) ⟨okF.wv trivial, okF.wv rfl, okF.wv rfl, WV.lf (WL.int (by rw [wrap_i64 (by omega) (by omega)]; omega)), trivial⟩)
      rw [Int.toNat_natCast, u8_xor, Int.toNat_natCast, UInt8.ofNat_toNat, bF_set _ _ _ hi']
    refine CaseB.of_false (decide_eq_false (by omega)) ?_
    conv => whnf
    obtain rfl : i = 64 := by omega
    exact RetK.empty (WV.agg ⟨.bytes rfl fun _ _ => by rw [hfull], trivial⟩)
  refine CaseB.of_false (decide_eq_false hl) ?_
  conv => whnf
  have hK : keyF key = key := by unfold keyF; rw [if_neg (by omega)]
  have hfull := bF_full key x
  rw [hK] at hkl hb0 hfull
  refine ⟨by simp [maxLen], ?_⟩
  conv => whnf
  refine ⟨by simp, ?_⟩
  conv => whnf
  refine LoopK.upTo 64 (fun i => [(1, .s (.lf (.int .u8 (x.toNat : Int)))), (4, .s (.lf (.ptr 0 0))), (5, .s (.lf (.ptr 1 0))), (16, vI i)]) (fun i => [some ⟨199, [.bytes 64 (List.replicate 64 0)]⟩, some ⟨199, [.bytes 64 (bF (key) x i)]⟩]) ?_ ?_
  · exact Weak.of ⟨rfl, ⟨.bytes rfl fun _ _ => rfl, trivial⟩, rfl, ⟨.bytes rfl fun _ _ => by rw [spl_pad _ hkl, hb0], trivial⟩, trivial⟩ (by simp) ⟨okF.wv trivial, okF.wv rfl, okF.wv rfl, okF.wv trivial, trivial⟩
  intro i hi
  conv => whnf
  by_cases hi' : i < 64
  · refine CaseB.of_true (decide_eq_true (by omega)) ?_
    conv => whnf
    have hbl : Int.toNat (i : Int) < (bF (key) x i).length := by rw [bF_length]; omega
    repeat (refine And.intro (by omega) ?_; conv => whnf)
    refine next_round hi' (Weak.of ⟨rfl, ⟨.bytes rfl fun _ _ => rfl, trivial⟩, rfl, ⟨.bytes rfl fun o _ => ?_, trivial⟩, trivial⟩ (by simp) ⟨okF.wv trivial, okF.wv rfl, okF.wv rfl, WV.lf (WL.int (by rw [wrap_i64 (by omega) (by omega)]; omega)), trivial⟩)
    rw [Int.toNat_natCast, u8_xor, Int.toNat_natCast, UInt8.ofNat_toNat, bF_set _ _ _ hi']
  refine CaseB.of_false (decide_eq_false (by omega)) ?_
  conv => whnf
  obtain rfl : i = 64 := by omega
  exact RetK.empty (WV.agg ⟨.bytes rfl fun _ _ => by rw [hfull], trivial⟩)
/-- hmac.over -/
theorem c223 (b : List UInt8) (hb : b.length = 64) (text : List UInt8) (ht : text.length ≤ 288230376151711744) : SCalls Proofs.Try.prog 223 [vBlk b, .s (.lf (.rob false false text))] [] (.s (.lf (.str (shaF (b ++ text))))) [] := by
  refine SCalls.intro tok Proofs.Try.func223 ?_
  conv => whnf
  have hn1 : (writeF st0 b).n = 64 := by rw [writeF_n, hb]; rfl
  have hok1 := writeF_ok st0_ok b
  have hn2 : (writeF (writeF st0 b) text).n = 64 + text.length := by rw [writeF_n, hn1]
  have hok2 := writeF_ok hok1 text
  have hs : shaF (b ++ text) = sumF (writeF (writeF st0 b) text) := by rw [shaF, writeF_append]
  refine CallK.mk' (.s (.lf (.ptr 1 0))) _ (c185.made [some ⟨199, [.bytes 64 b]⟩] (Hn := [some (obSt st0)]) trivial (WV.lf (WL.uptr rfl)) ⟨rfl, obSt_ws _, trivial⟩) ?_
  conv => whnf
  refine ⟨by simp [maxLen], ?_⟩
  conv => whnf
  refine CallK.mk' _ [some ⟨199, [.bytes 64 b]⟩, some (obSt (writeF st0 b))] ((c186 st0 st0_ok b (by rw [hb]; show 0 + 64 < _; omega)).frame1l (H := [some ⟨199, [.bytes 64 b]⟩, some (obSt st0)]) (fun _ => False) (nm := 1) (rc := .tup []) rfl rfl (fun h => h) (obSt_ws _)
    ⟨WV.lf (WL.ptr rfl rfl), WV.lf (fun w L L' x h hx => rep_rob_weak (WL.freezeB (ob := ⟨199, [.bytes 64 b]⟩) (p := []) (q := []) rfl rfl rfl (by omega) (by omega) (by rw [show Int.toNat 0 = 0 from rfl, List.drop_zero, List.take_of_length_le (by rw [hb]; omega)]) ⟨fun h => h, fun i ob h => by simp⟩ w L L' x h hx)), trivial⟩ rfl (obSt_ws _) (plainF.wv trivial)) ?_
  conv => whnf
  refine CallK.mk' _ [some ⟨199, [.bytes 64 b]⟩, some (obSt (writeF (writeF st0 b) text))] ((c186 _ hok1 text (by rw [hn1]; omega)).frame1 (H := [some ⟨199, [.bytes 64 b]⟩, some (obSt (writeF st0 b))]) (nm := 1) (rc := .tup []) rfl rfl (obSt_ws _) ⟨WV.lf (WL.ptr rfl rfl), freeF.wv trivial, trivial⟩ rfl (obSt_ws _) (freeF.wv trivial)) ?_
  conv => whnf
  refine CallK.mk' _ [some ⟨199, [.bytes 64 b]⟩, some (obSt (writeF (writeF st0 b) text))] ((c132 _ hok2 (by rw [hn2]; omega)).frame1 (H := [some ⟨199, [.bytes 64 b]⟩, some (obSt (writeF (writeF st0 b) text))]) (nm := 1) rfl rfl (obSt_ws _) ⟨WV.lf (WL.ptr rfl rfl), trivial⟩ rfl (obSt_ws _) (freeF.wv trivial)) ?_
  conv => whnf
  exact RetK.empty (WV.lf (WL.str hs.symm))
/-- hmac.Tag -/
theorem c204 (key text : List UInt8) (hk : key.length ≤ 576460752303423488) (ht : text.length ≤ 288230376151711744) : SCalls Proofs.Try.prog 204 [.s (.lf (.str key)), .s (.lf (.rob false false text))] [] (.s (.lf (.str (tagF key text)))) [] := by
  have h45 := c223 (blkF key 54) (blkF_length _ _) text ht
  have h45' := (c223 (blkF key 92) (blkF_length _ _) (shaF (blkF key 54 ++ text)) (by rw [shaF_length]; omega)).lend (cs := [vBlk (blkF key 92), .s (.lf (.rob true false (shaF (blkF key 54 ++ text))))]) (fun _ => True) [] ⟨freeF.wv ⟨trivial, trivial⟩, WV.lf (WL.rob rfl (by simp) (by simp)), trivial⟩ (plainF.wv trivial)
  refine SCalls.intro tok Proofs.Try.func204 ?_
  conv => whnf
  refine CallK.mk' _ _ (c224 key hk 54) ?_
  conv => whnf
  refine CallK.mk' _ _ h45 ?_
  conv => whnf
  refine CallK.mk' _ _ (c224 key hk 92) ?_
  conv => whnf
  refine Or.inr ?_
  conv => whnf
  refine CallK.mk' _ _ h45' ?_
  conv => whnf
  exact RetK.empty (okF.wv trivial)
end Go.Sym.Md
