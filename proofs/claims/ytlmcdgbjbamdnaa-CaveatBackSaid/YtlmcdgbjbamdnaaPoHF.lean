/- Contracts of the program's functions, proved by the framework (text PoHF), without conditions but those that each theorem states. -/
import Derived.Test.YtlmcdgbjbamdnaaPoHE
set_option linter.unusedVariables false
set_option linter.unusedSimpArgs false
set_option maxRecDepth 10000
namespace Go.Sym.Md
open Go Go.Sym Go.Sym.Sh

/-- Byte j of a number of 64 bits. -/
def d8 (u j : Nat) : UInt8 := UInt8.ofNat (u / 256 ^ (7 - j))
/-- A purpose with a byte 0 and i bytes of a number behind it. -/
def dF (p : List UInt8) (u i : Nat) : List UInt8 := p ++ [0] ++ (List.range i).map (d8 u)
theorem dF_zero (p : List UInt8) (u : Nat) : dF p u 0 = p ++ [0] := by simp [dF]
theorem dF_succ (p : List UInt8) (u i : Nat) : dF p u (i + 1) = dF p u i ++ [d8 u i] := by simp [dF, List.range_succ]
theorem dF_length (p : List UInt8) (u i : Nat) : (dF p u i).length = p.length + 1 + i := by simp [dF]; omega

theorem d8_of (u j : Nat) (hj : j < 8) (hu : u < 18446744073709551616) : UInt8.ofNat (IntKind.u8.wrap (shrI IntKind.u64 (u : Int) (56 - 8 * (j : Int)))).toNat = d8 u j := by
  rw [show (56 - 8 * (j : Int)) = ((8 * (7 - j) : Nat) : Int) by omega, wrap_u8, d8]
  simp only [shrI, IntKind.bits, Int.toNat_natCast]
  rw [Nat.min_eq_left (by omega), show ((2 : Int) ^ (8 * (7 - j))) = ((256 ^ (7 - j) : Nat) : Int) by rw [Int.pow_mul]; simp, Int.fdiv_eq_ediv_of_nonneg _ (Int.natCast_nonneg _)]
  apply UInt8.toNat_inj.1
  simp only [UInt8.toNat_ofNat']
  rw [← Int.natCast_ediv]
  omega

theorem spl_copy (p : List UInt8) (n : Nat) (h : n = p.length + 1) : spl (List.replicate n 0) 0 p = p ++ [0] := by
  subst h
  rw [spl, List.take_zero, List.nil_append, List.drop_replicate, show p.length + 1 - (0 + p.length) = 1 by omega]
  rfl

attribute [local irreducible] tagF dF d8

/-- hmac.Derive -/
theorem c221 (key p : List UInt8) (z : Int) (hk : key.length ≤ 1000000) (hp : p.length ≤ 1000000) (u : Nat) (hu : IntKind.u64.wrap z = (u : Int)) : SCalls Proofs.Try.prog 221 [.s (.lf (.str key)), .s (.lf (.str p)), vI z] [] (.s (.lf (.str (tagF key (dF p u 8))))) [] := by
  have hul : u < 18446744073709551616 := by rw [wrap_u64] at hu; omega
  have e1 : IntKind.i64.wrap ((p.length : Int) + 1) = ((p.length + 1 : Nat) : Int) := by rw [wrap_i64 (by omega) (by omega)]; omega
  have e2 : IntKind.i64.wrap ((p.length : Int) + 9) = ((p.length + 9 : Nat) : Int) := by rw [wrap_i64 (by omega) (by omega)]; omega
  refine SCalls.intro tok Proofs.Try.func221 ?_
  conv => whnf
  rw [e1, e2]
  refine And.intro ⟨by omega, by omega, by show ((p.length + 9 : Nat) : Int) * 1 ≤ _; omega⟩ ?_
  conv => whnf
  refine And.intro ⟨by omega, by rw [List.length_replicate]; omega⟩ ?_
  conv => whnf
  have es : spl (List.replicate (Int.toNat ((p.length + 1 : Nat) : Int)) 0) 0 (List.take (Int.toNat ((p.length + 1 : Nat) : Int)) p) = dF p u 0 := by
    rw [Int.toNat_natCast, List.take_of_length_le (by omega), spl_copy p _ rfl, dF_zero]
  refine LoopK.upTo 8 (fun i => [(0, .s (.lf (.str key))), (2, vI z), (7, .s (.lf (.own 0 0 1 0 (dF p u i).length))), (19, vI i)]) (fun i => [some ⟨5, [.bytes (dF p u i).length (dF p u i)]⟩]) ?_ ?_
  · exact Weak.of ⟨rfl, ⟨.bytes (by rw [dF_length]; rfl) fun o _ => by rw [es], trivial⟩, trivial⟩ (by simp) ⟨okF.wv trivial, okF.wv trivial, WV.lf (WL.own rfl rfl rfl (by rw [dF_length]; rfl)), okF.wv trivial, trivial⟩
  intro i hi
  have hl := dF_length p u i
  have hl' := dF_length p u (i + 1)
  conv => whnf
  by_cases hi' : i < 8
  · refine CaseB.of_true (decide_eq_true (by omega)) ?_
    conv => whnf
    have f1 : IntKind.i64.wrap (56 - IntKind.i64.wrap (8 * (i : Int))) = 56 - 8 * (i : Int) := by rw [wrap_i64 (n := 8 * (i : Int)) (by omega) (by omega), wrap_i64 (by omega) (by omega)]
    refine And.intro (by rw [f1]; omega) ?_
    conv => whnf
    refine Or.inr ?_
    conv => whnf
    have el : dF p u i ++ List.map (fun a : Int => UInt8.ofNat a.toNat) [IntKind.u8.wrap (shrI .u64 (IntKind.u64.wrap z) (IntKind.i64.wrap (56 - IntKind.i64.wrap (8 * (i : Int)))))] = dF p u (i + 1) := by
      rw [List.map_cons, List.map_nil, f1, hu, d8_of u i hi' hul, dF_succ]
    refine And.intro ⟨rfl, rfl, by rw [el]; omega⟩ ?_
    conv => whnf
    refine next_round hi' (Weak.perm [1] ⟨⟨rfl, .bytes (congrArg List.length el) fun o _ => congrArg (fun l => List.getD l o 0) el, trivial⟩, trivial⟩ ⟨freeF.wv trivial, freeF.wv trivial, WV.lf (WL.own rfl rfl rfl (congrArg List.length el)), WV.lf (WL.int (by rw [wrap_i64 (by omega) (by omega)]; omega)), trivial⟩ rfl (by simp) rfl (by simp))
  · refine CaseB.of_false (decide_eq_false (by omega)) ?_
    conv => whnf
    obtain rfl : i = 8 := by omega
    refine CallK.mk' _ _ ((c204 key (dF p u 8) (by omega) (by omega)).lend (cs := [.s (.lf (.str key)), .s (.lf (.own 0 0 1 0 (dF p u 8).length))]) (fun _ => False) [some ⟨5, [.bytes (dF p u 8).length (dF p u 8)]⟩] ⟨freeF.wv trivial, WV.lf (WL.lent rfl rfl ⟨fun h => h, fun i ob h => by simp at h⟩), trivial⟩ (plainF.wv trivial)) ?_
    conv => whnf
    exact RetK.empty (okF.wv trivial)

/-- baileyref04.Derive -/
theorem c155 (key p : List UInt8) (z : Int) (hk : key.length ≤ 1000000) (hp : p.length ≤ 500000) (u : Nat) (hu : IntKind.u64.wrap z = (u : Int)) : SCalls Proofs.Try.prog 155 [.s (.lf (.str key)), .s (.lf (.str p)), vI z] [] (.s (.lf (.str (tagF key (dF p u 8))))) [] := by
  have hul : u < 18446744073709551616 := by rw [wrap_u64] at hu; omega
  refine SCalls.intro tok Proofs.Try.func155 ?_
  conv => whnf
  refine Or.inl ?_
  conv => whnf
  refine Or.inr ?_
  conv => whnf
  have e0 : p ++ List.map (fun a : Int => UInt8.ofNat a.toNat) [(0 : Int)] = dF p u 0 := by rw [dF_zero]; rfl
  refine And.intro ⟨rfl, rfl, by rw [List.length_append]; simp; omega⟩ ?_
  conv => whnf
  refine LoopK.upTo 8 (fun i => [(0, .s (.lf (.str key))), (2, vI z), (7, .s (.lf (.own 0 0 1 0 (dF p u i).length))), (8, vI (56 - 8 * (i : Int)))]) (fun i => [some ⟨5, [.bytes (dF p u i).length (dF p u i)]⟩]) ?_ ?_
  · exact Weak.perm [1] ⟨⟨rfl, .bytes (congrArg List.length e0) fun o _ => congrArg (fun l => List.getD l o 0) e0, trivial⟩, trivial⟩ ⟨freeF.wv trivial, freeF.wv trivial, WV.lf (WL.own rfl rfl rfl (congrArg List.length e0)), freeF.wv trivial, trivial⟩ rfl (by simp) rfl (by simp)
  intro i hi
  have hl := dF_length p u i
  have hl' := dF_length p u (i + 1)
  conv => whnf
  by_cases hi' : i < 8
  · refine CaseB.of_true (decide_eq_true (by omega)) ?_
    conv => whnf
    refine And.intro (by omega) ?_
    conv => whnf
    refine Or.inr ?_
    conv => whnf
    have el : dF p u i ++ List.map (fun a : Int => UInt8.ofNat a.toNat) [IntKind.u8.wrap (shrI .u64 (IntKind.u64.wrap z) (56 - 8 * (i : Int)))] = dF p u (i + 1) := by
      rw [List.map_cons, List.map_nil, hu, d8_of u i hi' hul, dF_succ]
    refine And.intro ⟨rfl, rfl, by rw [el]; omega⟩ ?_
    conv => whnf
    refine next_round hi' (Weak.perm [1] ⟨⟨rfl, .bytes (congrArg List.length el) fun o _ => congrArg (fun l => List.getD l o 0) el, trivial⟩, trivial⟩ ⟨freeF.wv trivial, freeF.wv trivial, WV.lf (WL.own rfl rfl rfl (congrArg List.length el)), WV.lf (WL.int (by rw [wrap_i64 (by omega) (by omega)]; omega)), trivial⟩ rfl (by simp) rfl (by simp))
  · refine CaseB.of_false (decide_eq_false (by omega)) ?_
    conv => whnf
    obtain rfl : i = 8 := by omega
    refine CallK.mk' _ _ ((c166 key (dF p u 8) (by omega) (by omega)).lend (cs := [.s (.lf (.str key)), .s (.lf (.own 0 0 1 0 (dF p u 8).length))]) (fun _ => False) [some ⟨5, [.bytes (dF p u 8).length (dF p u 8)]⟩] ⟨freeF.wv trivial, WV.lf (WL.lent rfl rfl ⟨fun h => h, fun i ob h => by simp at h⟩), trivial⟩ (plainF.wv trivial)) ?_
    conv => whnf
    exact RetK.empty (okF.wv trivial)

end Go.Sym.Md
