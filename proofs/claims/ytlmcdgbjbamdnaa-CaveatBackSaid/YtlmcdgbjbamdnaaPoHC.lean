/- Contracts of the program's functions, proved by the framework (text PoHC), without conditions but those that each theorem states. -/
import Derived.Test.YtlmcdgbjbamdnaaPoHB
set_option linter.unusedVariables false
set_option linter.unusedSimpArgs false
set_option maxRecDepth 10000
namespace Go.Sym.Md
open Go Go.Sym Go.Sym.Sh
/-- The first i bytes of a key's block. -/
def cB (k : List UInt8) (x : UInt8) (i : Nat) : List UInt8 := (List.range i).map fun j => k.getD j 0 ^^^ x
theorem cB_zero (k : List UInt8) (x : UInt8) : cB k x 0 = [] := rfl
theorem cB_length (k : List UInt8) (x : UInt8) (i : Nat) : (cB k x i).length = i := by simp [cB]
theorem cB_succ (k : List UInt8) (x : UInt8) (i : Nat) : cB k x (i + 1) = cB k x i ++ [k.getD i 0 ^^^ x] := by simp [cB, List.range_succ]
theorem cB_full (key : List UInt8) (x : UInt8) : cB (keyF key) x 64 = blkF key x := rfl

attribute [local irreducible] cB padF shaF blkF bF keyF tagF

/-- baileyref04.padded -/
theorem c205 (key : List UInt8) (hk : key.length ≤ 1000000) (x : UInt8) : SCalls Proofs.Try.prog 205 [.s (.lf (.str key)), .s (.lf (.int .u8 (x.toNat : Int)))] [] (.s (.lf (.own 0 0 1 0 64))) [some ⟨5, [.bytes 64 (blkF key x)]⟩] := by
  have hkl := keyF_length key
  refine SCalls.intro tok Proofs.Try.func205 ?_
  conv => whnf
  refine Or.inr ?_
  conv => whnf
  by_cases hl : 64 < (key.length : Int)
  · refine CaseB.of_true (decide_eq_true hl) ?_
    conv => whnf
    refine CallK.mk' _ _ ((c134 key (by omega)).lend (cs := [.s (.lf (.rob true false key))]) (fun _ => True) _ ⟨WV.lf (WL.rob rfl (by simp) (by simp)), trivial⟩ (plainF.wv trivial)) ?_
    conv => whnf
    refine Or.inr ?_
    conv => whnf
    have hK : keyF key = shaF key := by unfold keyF; rw [if_pos (by omega)]
    have hfull := cB_full key x
    rw [hK] at hkl hfull
    refine LoopK.mk2 (fun (i : Nat) (e : Bool) => match e with
        | true => [(1, .s (.lf (.int .u8 (x.toNat : Int)))), (5, .s (.lf (.rob true false (shaF key)))), (6, .s (.lf .sl0)), (7, vI i)]
        | false => [(1, .s (.lf (.int .u8 (x.toNat : Int)))), (5, .s (.lf (.rob true false (shaF key)))), (6, .s (.lf (.own 0 0 1 0 i))), (7, vI i)])
      (fun i e => match e with
        | true => []
        | false => [some ⟨5, [.bytes i (cB (shaF key) x i)]⟩]) (fun i e => i ≤ 64 ∧ (e = true → i = 0)) (fun i e => 64 - i) 0 true ⟨by omega, fun _ => rfl⟩ ?_ ?_
    · exact Weak.of ⟨⟩ (by simp) ⟨okF.wv trivial, okF.wv trivial, okF.wv trivial, okF.wv trivial, trivial⟩
    intro i e hi
    obtain ⟨hi, he⟩ := hi
    cases e with
    | true =>
      obtain rfl := he rfl
      conv => whnf
      refine CaseB.of_true (decide_eq_true (by omega)) ?_
      conv => whnf
      by_cases hx : ((0 : Nat) : Int) < ((shaF key).length : Int)
      · refine CaseB.of_true (decide_eq_true hx) ?_
        conv => whnf
        refine And.intro (by omega) ?_
        conv => whnf
        have ev : ((List.getD (shaF key) (Int.toNat ((0 : Nat) : Int)) 0).toNat : Int) = ((List.getD (shaF key) 0 0).toNat : Int) := by rw [Int.toNat_natCast]
        refine Or.inr ?_
        conv => whnf
        have e8 : List.map (fun a : Int => UInt8.ofNat a.toNat) [bitsI .xor .u8 ((List.getD (shaF key) (Int.toNat ((0 : Nat) : Int)) 0).toNat : Int) (x.toNat : Int)] = cB (shaF key) x (0 + 1) := by rw [List.map_cons, List.map_nil, ev, u8_xor, Int.toNat_natCast, UInt8.ofNat_toNat, cB_succ, cB_zero]; rfl
        refine ⟨by simp, ?_⟩
        conv => whnf
        refine ⟨(0 + 1, false), ⟨by omega, fun h => by simp at h⟩, by show 64 - (0 + 1) < 64 - 0; omega, ?_⟩
        exact Weak.of ⟨rfl, ⟨.bytes rfl fun o _ => congrArg (fun l => List.getD l o 0) e8, trivial⟩, trivial⟩ (by simp) ⟨okF.wv trivial, okF.wv trivial, WV.lf (WL.own rfl rfl rfl rfl), okF.wv trivial, trivial⟩
      · refine CaseB.of_false (decide_eq_false hx) ?_
        conv => whnf
        have ev : (0 : Int) = ((List.getD (shaF key) 0 0).toNat : Int) := by rw [List.getD_eq_getElem?_getD, List.getElem?_eq_none (by omega)]; rfl
        refine Or.inr ?_
        conv => whnf
        have e8 : List.map (fun a : Int => UInt8.ofNat a.toNat) [bitsI .xor .u8 0 (x.toNat : Int)] = cB (shaF key) x (0 + 1) := by rw [List.map_cons, List.map_nil, ev, u8_xor, Int.toNat_natCast, UInt8.ofNat_toNat, cB_succ, cB_zero]; rfl
        refine ⟨by simp, ?_⟩
        conv => whnf
        refine ⟨(0 + 1, false), ⟨by omega, fun h => by simp at h⟩, by show 64 - (0 + 1) < 64 - 0; omega, ?_⟩
        exact Weak.of ⟨rfl, ⟨.bytes rfl fun o _ => congrArg (fun l => List.getD l o 0) e8, trivial⟩, trivial⟩ (by simp) ⟨okF.wv trivial, okF.wv trivial, WV.lf (WL.own rfl rfl rfl rfl), okF.wv trivial, trivial⟩
    | false =>
      conv => whnf
      by_cases hi' : i < 64
      · refine CaseB.of_true (decide_eq_true (by omega)) ?_
        conv => whnf
        by_cases hx : ((i : Nat) : Int) < ((shaF key).length : Int)
        · refine CaseB.of_true (decide_eq_true hx) ?_
          conv => whnf
          refine And.intro (by omega) ?_
          conv => whnf
          have ev : ((List.getD (shaF key) (Int.toNat ((i : Nat) : Int)) 0).toNat : Int) = ((List.getD (shaF key) i 0).toNat : Int) := by rw [Int.toNat_natCast]
          refine Or.inr ?_
          conv => whnf
          have e8 : cB (shaF key) x i ++ List.map (fun a : Int => UInt8.ofNat a.toNat) [bitsI .xor .u8 ((List.getD (shaF key) (Int.toNat ((i : Nat) : Int)) 0).toNat : Int) (x.toNat : Int)] = cB (shaF key) x (i + 1) := by rw [List.map_cons, List.map_nil, ev, u8_xor, Int.toNat_natCast, UInt8.ofNat_toNat, cB_succ]
          have e9 := cB_length (shaF key) x (i + 1)
          have e10 := cB_length (shaF key) x i
          refine ⟨⟨by omega, by omega, by rw [e8]; omega⟩, ?_⟩
          conv => whnf
          refine ⟨(i + 1, false), ⟨by omega, fun h => by simp at h⟩, by show 64 - (i + 1) < 64 - i; omega, ?_⟩
          exact Weak.perm [1] ⟨⟨rfl, .bytes (by rw [e8, e9]) fun o _ => congrArg (fun l => List.getD l o 0) e8, trivial⟩, trivial⟩ ⟨freeF.wv trivial, freeF.wv trivial, WV.lf (WL.own rfl rfl rfl (by rw [e8, e9])), WV.lf (WL.int (by rw [wrap_i64 (by omega) (by omega)]; omega)), trivial⟩ rfl (by simp) rfl (by simp)
        · refine CaseB.of_false (decide_eq_false hx) ?_
          conv => whnf
          have ev : (0 : Int) = ((List.getD (shaF key) i 0).toNat : Int) := by rw [List.getD_eq_getElem?_getD, List.getElem?_eq_none (by omega)]; rfl
          refine Or.inr ?_
          conv => whnf
          have e8 : cB (shaF key) x i ++ List.map (fun a : Int => UInt8.ofNat a.toNat) [bitsI .xor .u8 0 (x.toNat : Int)] = cB (shaF key) x (i + 1) := by rw [List.map_cons, List.map_nil, ev, u8_xor, Int.toNat_natCast, UInt8.ofNat_toNat, cB_succ]
          have e9 := cB_length (shaF key) x (i + 1)
          have e10 := cB_length (shaF key) x i
          refine ⟨⟨by omega, by omega, by rw [e8]; omega⟩, ?_⟩
          conv => whnf
          refine ⟨(i + 1, false), ⟨by omega, fun h => by simp at h⟩, by show 64 - (i + 1) < 64 - i; omega, ?_⟩
          exact Weak.perm [1] ⟨⟨rfl, .bytes (by rw [e8, e9]) fun o _ => congrArg (fun l => List.getD l o 0) e8, trivial⟩, trivial⟩ ⟨freeF.wv trivial, freeF.wv trivial, WV.lf (WL.own rfl rfl rfl (by rw [e8, e9])), WV.lf (WL.int (by rw [wrap_i64 (by omega) (by omega)]; omega)), trivial⟩ rfl (by simp) rfl (by simp)
      · refine CaseB.of_false (decide_eq_false (by omega)) ?_
        conv => whnf
        obtain rfl : i = 64 := by omega
        exact RetK.of ⟨rfl, ⟨.bytes rfl fun o _ => by rw [hfull], trivial⟩, trivial⟩ (by simp) (WV.lf (WL.own rfl rfl rfl rfl))
  refine CaseB.of_false (decide_eq_false hl) ?_
  conv => whnf
  have hK : keyF key = key := by unfold keyF; rw [if_neg (by omega)]
  have hfull := cB_full key x
  rw [hK] at hkl hfull
  refine LoopK.mk2 (fun (i : Nat) (e : Bool) => match e with
      | true => [(1, .s (.lf (.int .u8 (x.toNat : Int)))), (5, .s (.lf (.rob true false (key)))), (6, .s (.lf .sl0)), (7, vI i)]
      | false => [(1, .s (.lf (.int .u8 (x.toNat : Int)))), (5, .s (.lf (.rob true false (key)))), (6, .s (.lf (.own 0 0 1 0 i))), (7, vI i)])
    (fun i e => match e with
      | true => []
      | false => [some ⟨5, [.bytes i (cB (key) x i)]⟩]) (fun i e => i ≤ 64 ∧ (e = true → i = 0)) (fun i e => 64 - i) 0 true ⟨by omega, fun _ => rfl⟩ ?_ ?_
  · exact Weak.of ⟨⟩ (by simp) ⟨okF.wv trivial, okF.wv trivial, okF.wv trivial, okF.wv trivial, trivial⟩
  intro i e hi
  obtain ⟨hi, he⟩ := hi
  cases e with
  | true =>
    obtain rfl := he rfl
    conv => whnf
    refine CaseB.of_true (decide_eq_true (by omega)) ?_
    conv => whnf
    by_cases hx : ((0 : Nat) : Int) < ((key).length : Int)
    · refine CaseB.of_true (decide_eq_true hx) ?_
      conv => whnf
      refine And.intro (by omega) ?_
      conv => whnf
      have ev : ((List.getD (key) (Int.toNat ((0 : Nat) : Int)) 0).toNat : Int) = ((List.getD (key) 0 0).toNat : Int) := by rw [Int.toNat_natCast]
      refine Or.inr ?_
      conv => whnf
      have e8 : List.map (fun a : Int => UInt8.ofNat a.toNat) [bitsI .xor .u8 ((List.getD (key) (Int.toNat ((0 : Nat) : Int)) 0).toNat : Int) (x.toNat : Int)] = cB (key) x (0 + 1) := by rw [List.map_cons, List.map_nil, ev, u8_xor, Int.toNat_natCast, UInt8.ofNat_toNat, cB_succ, cB_zero]; rfl
      refine ⟨by simp, ?_⟩
      conv => whnf
      refine ⟨(0 + 1, false), ⟨by omega, fun h => by simp at h⟩, by show 64 - (0 + 1) < 64 - 0; omega, ?_⟩
      exact Weak.of ⟨rfl, ⟨.bytes rfl fun o _ => congrArg (fun l => List.getD l o 0) e8, trivial⟩, trivial⟩ (by simp) ⟨okF.wv trivial, okF.wv trivial, WV.lf (WL.own rfl rfl rfl rfl), okF.wv trivial, trivial⟩
    · refine CaseB.of_false (decide_eq_false hx) ?_
      conv => whnf
      have ev : (0 : Int) = ((List.getD (key) 0 0).toNat : Int) := by rw [List.getD_eq_getElem?_getD, List.getElem?_eq_none (by omega)]; rfl
      refine Or.inr ?_
      conv => whnf
      have e8 : List.map (fun a : Int => UInt8.ofNat a.toNat) [bitsI .xor .u8 0 (x.toNat : Int)] = cB (key) x (0 + 1) := by rw [List.map_cons, List.map_nil, ev, u8_xor, Int.toNat_natCast, UInt8.ofNat_toNat, cB_succ, cB_zero]; rfl
      refine ⟨by simp, ?_⟩
      conv => whnf
      refine ⟨(0 + 1, false), ⟨by omega, fun h => by simp at h⟩, by show 64 - (0 + 1) < 64 - 0; omega, ?_⟩
      exact Weak.of ⟨rfl, ⟨.bytes rfl fun o _ => congrArg (fun l => List.getD l o 0) e8, trivial⟩, trivial⟩ (by simp) ⟨okF.wv trivial, okF.wv trivial, WV.lf (WL.own rfl rfl rfl rfl), okF.wv trivial, trivial⟩
  | false =>
    conv => whnf
    by_cases hi' : i < 64
    · refine CaseB.of_true (decide_eq_true (by omega)) ?_
      conv => whnf
      by_cases hx : ((i : Nat) : Int) < ((key).length : Int)
      · refine CaseB.of_true (decide_eq_true hx) ?_
        conv => whnf
        refine And.intro (by omega) ?_
        conv => whnf
        have ev : ((List.getD (key) (Int.toNat ((i : Nat) : Int)) 0).toNat : Int) = ((List.getD (key) i 0).toNat : Int) := by rw [Int.toNat_natCast]
        refine Or.inr ?_
        conv => whnf
        have e8 : cB (key) x i ++ List.map (fun a : Int => UInt8.ofNat a.toNat) [bitsI .xor .u8 ((List.getD (key) (Int.toNat ((i : Nat) : Int)) 0).toNat : Int) (x.toNat : Int)] = cB (key) x (i + 1) := by rw [List.map_cons, List.map_nil, ev, u8_xor, Int.toNat_natCast, UInt8.ofNat_toNat, cB_succ]
        have e9 := cB_length (key) x (i + 1)
        have e10 := cB_length (key) x i
        refine ⟨⟨by omega, by omega, by rw [e8]; omega⟩, ?_⟩
        conv => whnf
        refine ⟨(i + 1, false), ⟨by omega, fun h => by simp at h⟩, by show 64 - (i + 1) < 64 - i; omega, ?_⟩
        exact Weak.perm [1] ⟨⟨rfl, .bytes (by rw [e8, e9]) fun o _ => congrArg (fun l => List.getD l o 0) e8, trivial⟩, trivial⟩ ⟨freeF.wv trivial, freeF.wv trivial, WV.lf (WL.own rfl rfl rfl (by rw [e8, e9])), WV.lf (WL.int (by rw [wrap_i64 (by omega) (by omega)]; omega)), trivial⟩ rfl (by simp) rfl (by simp)
      · refine CaseB.of_false (decide_eq_false hx) ?_
        conv => whnf
        have ev : (0 : Int) = ((List.getD (key) i 0).toNat : Int) := by rw [List.getD_eq_getElem?_getD, List.getElem?_eq_none (by omega)]; rfl
        refine Or.inr ?_
        conv => whnf
        have e8 : cB (key) x i ++ List.map (fun a : Int => UInt8.ofNat a.toNat) [bitsI .xor .u8 0 (x.toNat : Int)] = cB (key) x (i + 1) := by rw [List.map_cons, List.map_nil, ev, u8_xor, Int.toNat_natCast, UInt8.ofNat_toNat, cB_succ]
        have e9 := cB_length (key) x (i + 1)
        have e10 := cB_length (key) x i
        refine ⟨⟨by omega, by omega, by rw [e8]; omega⟩, ?_⟩
        conv => whnf
        refine ⟨(i + 1, false), ⟨by omega, fun h => by simp at h⟩, by show 64 - (i + 1) < 64 - i; omega, ?_⟩
        exact Weak.perm [1] ⟨⟨rfl, .bytes (by rw [e8, e9]) fun o _ => congrArg (fun l => List.getD l o 0) e8, trivial⟩, trivial⟩ ⟨freeF.wv trivial, freeF.wv trivial, WV.lf (WL.own rfl rfl rfl (by rw [e8, e9])), WV.lf (WL.int (by rw [wrap_i64 (by omega) (by omega)]; omega)), trivial⟩ rfl (by simp) rfl (by simp)
    · refine CaseB.of_false (decide_eq_false (by omega)) ?_
      conv => whnf
      obtain rfl : i = 64 := by omega
      exact RetK.of ⟨rfl, ⟨.bytes rfl fun o _ => by rw [hfull], trivial⟩, trivial⟩ (by simp) (WV.lf (WL.own rfl rfl rfl rfl))
end Go.Sym.Md
