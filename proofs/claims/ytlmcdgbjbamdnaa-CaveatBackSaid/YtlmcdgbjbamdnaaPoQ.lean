/- Contracts of the program's functions, proved by the framework (text PoQ), without conditions but those that each theorem states. -/
import Derived.Test.YtlmcdgbjbamdnaaPoP
set_option linter.unusedVariables false
set_option linter.unusedSimpArgs false
set_option maxRecDepth 10000
namespace Go.Sym.Md
open Go Go.Sym Go.Sym.Sh

/-- The padding, as baileyref03 lays it: j bytes of the length told. -/
def qF (n j : Nat) : List UInt8 := 128 :: List.replicate (zeros n) 0 ++ (List.range j).map fun t => lenByte n (7 - t)
/-- k zeros laid. -/
def q0 (k : Nat) : List UInt8 := 128 :: List.replicate k 0

theorem qF_zero (n : Nat) : qF n 0 = q0 (zeros n) := by simp [qF, q0]
theorem qF_succ (n j : Nat) : qF n (j + 1) = qF n j ++ [lenByte n (7 - j)] := by simp [qF, List.range_succ]
theorem qF_done (n : Nat) : qF n 8 = padF n := rfl
theorem q0_succ (k : Nat) : q0 (k + 1) = q0 k ++ [0] := by simp [q0, List.replicate_succ']
theorem q0_length (k : Nat) : (q0 k).length = k + 1 := by simp [q0]
theorem qF_length (n j : Nat) : (qF n j).length = zeros n + 1 + j := by simp [qF]; omega

attribute [local irreducible] qF q0 padF

/-- baileyref03.Pad -/
theorem c190 (z : Int) (n : Nat) (eN : min (max z 0) 576460752303423488 = (n : Int)) (hn : n ≤ 576460752303423488) : SCalls Proofs.Try.prog 190 [vI z] [] (.s (.lf (.rob true false (padF n)))) [] := by
  have hz := zeros_lt n
  refine SCalls.intro tok Proofs.Try.func190 ?_
  conv => whnf
  refine Or.inl ?_
  conv => whnf
  refine LoopK.upTo (zeros n) (fun k => [(0, vI n), (3, .s (.lf (.own 0 0 1 0 (q0 k).length)))]) (fun k => [some ⟨5, [.bytes (q0 k).length (q0 k)]⟩]) ?_ ?_
  · exact Weak.of ⟨rfl, ⟨.bytes (by rw [q0_length]) fun o _ => by rw [q0]; rfl, trivial⟩, trivial⟩ (by simp) ⟨WV.lf (WL.int eN), WV.lf (WL.own rfl rfl rfl (by rw [q0_length])), trivial⟩
  intro k hk
  have hl := q0_length k
  conv => whnf
  refine ⟨by omega, ?_⟩
  conv => whnf
  have e1 : (IntKind.i64.wrap ((n : Int) + ((q0 k).length : Int))).tmod 64 = (((n + (k + 1)) % 64 : Nat) : Int) := by
    rw [hl, wrap_i64 (by omega) (by omega), show (n : Int) + ((k + 1 : Nat) : Int) = ((n + (k + 1) : Nat) : Int) by omega]; rfl
  by_cases hk' : k < zeros n
  · refine CaseB.of_true (decide_eq_true (by rw [e1]; unfold zeros at *; omega)) ?_
    conv => whnf
    refine Or.inr ?_
    conv => whnf
    have el : (q0 k ++ List.map (fun a => UInt8.ofNat a.toNat) [(0 : Int)]) = q0 (k + 1) := by rw [q0_succ]; rfl
    refine ⟨⟨rfl, rfl, by rw [List.length_append, hl]; simp; omega⟩, ?_⟩
    conv => whnf
    refine next_round hk' (Weak.perm [1] ⟨⟨rfl, .bytes (congrArg List.length el) fun o _ => by rw [← el], trivial⟩, trivial⟩ ⟨freeF.wv trivial, WV.lf (WL.own rfl rfl rfl (congrArg List.length el)), trivial⟩ rfl (by simp) rfl (by simp))
  · refine CaseB.of_false (decide_eq_false (by rw [e1]; unfold zeros at *; omega)) ?_
    conv => whnf
    obtain rfl : k = zeros n := by omega
    refine LoopK.upTo 8 (fun j => [(0, vI n), (3, .s (.lf (.own 0 0 1 0 (qF n j).length))), (4, vI (56 - 8 * (j : Int)))]) (fun j => [some ⟨5, [.bytes (qF n j).length (qF n j)]⟩]) ?_ ?_
    · exact Weak.of ⟨rfl, ⟨.bytes (by rw [qF_zero]) fun o _ => by rw [qF_zero], trivial⟩, trivial⟩ (by simp) ⟨okF.wv trivial, WV.lf (WL.own rfl rfl rfl (by rw [qF_zero])), okF.wv trivial, trivial⟩
    intro j hj
    have hql := qF_length n j
    conv => whnf
    by_cases hj' : j < 8
    · refine CaseB.of_true (decide_eq_true (by omega)) ?_
      conv => whnf
      refine ⟨by omega, ?_⟩
      conv => whnf
      refine Or.inr ?_
      conv => whnf
      have ex : UInt8.ofNat (IntKind.u8.wrap (shrI IntKind.u64 (IntKind.u64.wrap (IntKind.i64.wrap (8 * (n : Int)))) (56 - 8 * (j : Int)))).toNat = lenByte n (7 - j) := by
        rw [show (56 - 8 * (j : Int)) = ((8 * (7 - j) : Nat) : Int) by omega, wrap_i64 (by omega) (by omega), wrap_u64, wrap_u8, lenByte]
        simp only [shrI, IntKind.bits, Int.toNat_natCast]
        rw [Nat.min_eq_left (by omega), show ((2 : Int) ^ (8 * (7 - j))) = ((256 ^ (7 - j) : Nat) : Int) by rw [Int.pow_mul]; simp, Int.fdiv_eq_ediv_of_nonneg _ (Int.natCast_nonneg _), show (8 * (n : Int)) % 18446744073709551616 = ((8 * n : Nat) : Int) by omega]
        apply UInt8.toNat_inj.1
        simp only [UInt8.toNat_ofNat']
        rw [← Int.natCast_ediv]
        omega
      have el : (qF n j ++ List.map (fun a => UInt8.ofNat a.toNat) [IntKind.u8.wrap (shrI IntKind.u64 (IntKind.u64.wrap (IntKind.i64.wrap (8 * (n : Int)))) (56 - 8 * (j : Int)))]) = qF n (j + 1) := by
        rw [qF_succ, List.map_cons, List.map_nil, ex]
      refine ⟨⟨rfl, rfl, by rw [el, qF_length]; omega⟩, ?_⟩
      conv => whnf
      refine next_round hj' (Weak.perm [1] ⟨⟨rfl, .bytes (congrArg List.length el) fun o _ => by rw [← el], trivial⟩, trivial⟩ ⟨freeF.wv trivial, WV.lf (WL.own rfl rfl rfl (congrArg List.length el)), WV.lf (WL.int (by rw [wrap_i64 (by omega) (by omega)]; omega)), trivial⟩ rfl (by simp) rfl (by simp))
    · refine CaseB.of_false (decide_eq_false (by omega)) ?_
      conv => whnf
      obtain rfl : j = 8 := by omega
      refine RetK.empty (WV.lf (WL.freezeB (p := []) (q := []) rfl rfl rfl (by omega) (by omega) ?_ ?_))
      · rw [List.drop_zero, List.take_length, qF_done]
      · exact ⟨fun h => h, fun i ob h => by simp at h⟩
end Go.Sym.Md
