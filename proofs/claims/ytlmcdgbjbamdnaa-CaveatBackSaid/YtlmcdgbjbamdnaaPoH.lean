/- Contracts of the program's functions, proved by the framework (text PoH), without conditions but those that each theorem states. -/
import Derived.Test.YtlmcdgbjbamdnaaPoG
import Derived.Test.YtlmcdgbjbamdnaaShT
import Derived.Test.YtlmcdgbjbamdnaaFw7
set_option linter.unusedVariables false
set_option linter.unusedSimpArgs false
namespace Go.Sym.Md
open Go Go.Sym Go.Sym.Sh
attribute [local irreducible] ws acc rs addUp Kw highA highB Sh.choose most lowA lowB ror blockF

/-- A hash, as it lies. -/
abbrev obSt (s : St) : OB := ⟨201, [.ints .u32 8 (Us s.h), .bytes 64 s.p, .one (.int .i64 (s.n : Int)), .one .tt]⟩

/-- sha.New -/
theorem c185 : SCalls Proofs.Try.prog 185 [] [] (.s (.lf (.ptr 0 0))) [some (obSt st0)] := by
  refine SCalls.intro tok Proofs.Try.func185 ?_
  conv => whnf
  refine CallK.mk' _ _ (c213.free _ trivial ⟨trivial, trivial⟩) ?_
  conv => whnf
  exact RetK.of ⟨rfl, okGs.ws (by exact ⟨trivial, trivial, trivial, trivial, trivial⟩), trivial⟩ (by simp) (okF.wv rfl)

theorem zeros_lt (n : Nat) : zeros n < 64 := Nat.mod_lt _ (by omega)

theorem pF_length (n i : Nat) (hi : i ≤ 8) : (pF n i).length = zeros n + 9 := by simp [pF]; omega

theorem pF_set (n i : Nat) (hi : i < 8) : (pF n i).set (zeros n + 8 - i) (lenByte n i) = pF n (i + 1) := by
  simp only [pF]
  rw [show zeros n + (8 - i) = (zeros n + (8 - (i + 1))) + 1 by omega, List.replicate_succ', List.range_succ, List.map_append, List.reverse_append]
  rw [show zeros n + 8 - i = (128 :: List.replicate (zeros n + (8 - (i + 1))) (0 : UInt8)).length by simp; omega]
  rw [show (128 :: (List.replicate (zeros n + (8 - (i + 1))) (0 : UInt8) ++ [0])) ++ ((List.range i).map (lenByte n)).reverse = (128 :: List.replicate (zeros n + (8 - (i + 1))) (0 : UInt8)) ++ (0 :: ((List.range i).map (lenByte n)).reverse) by simp]
  rw [List.set_append_right _ _ (Nat.le_refl _), Nat.sub_self, List.set_cons_zero]
  simp

/-- sha.Pad -/
theorem c187i (z : Int) (n : Nat) (eN : min (max z 0) 576460752303423488 = (n : Int)) (hn : n ≤ 576460752303423488) : SCalls Proofs.Try.prog 187 [vI z] [] (.s (.lf (.rob true false (padF n)))) [] := by
  refine SCalls.intro tok Proofs.Try.func187 ?_
  conv => whnf
  have e2 : IntKind.i64.wrap (119 - Int.tmod (n : Int) 64) = ((119 - n % 64 : Nat) : Int) := by
    rw [show Int.tmod (n : Int) 64 = ((n % 64 : Nat) : Int) from rfl, wrap_i64 (by omega) (by omega)]; omega
  have e3 : Int.tmod ((119 - n % 64 : Nat) : Int) 64 = (zeros n : Int) := rfl
  have hz := zeros_lt n
  have eL : IntKind.i64.wrap (IntKind.i64.wrap (1 + (IntKind.i64.wrap (119 - (min (max z 0) 576460752303423488).tmod 64)).tmod 64) + 8) = ((zeros n + 9 : Nat) : Int) := by
    rw [eN, e2, e3, wrap_i64 (n := 1 + (zeros n : Int)) (by omega) (by omega), wrap_i64 (by omega) (by omega)]; omega
  refine ⟨by omega, ?_⟩
  conv => whnf
  refine ⟨by omega, ?_⟩
  conv => whnf
  rw [eL]
  refine ⟨⟨by omega, by omega, by show ((zeros n + 9 : Nat) : Int) * 1 ≤ _; omega⟩, ?_⟩
  conv => whnf
  refine ⟨by omega, ?_⟩
  conv => whnf
  refine ⟨by omega, ?_⟩
  conv => whnf
  refine ⟨by rw [List.length_replicate]; omega, ?_⟩
  conv => whnf
  refine ⟨by omega, ?_⟩
  conv => whnf
  refine LoopK.upTo 8 (fun i => [(4, .s (.lf (.own 0 0 1 0 (zeros n + 9)))), (5, .s (.lf (.int .u64 ((8 * n : Nat) : Int)))), (23, vI i)]) (fun i => [some ⟨5, [.bytes (zeros n + 9) (pF n i)]⟩]) ?_ ?_
  · refine Weak.of ⟨rfl, ⟨.bytes (Int.toNat_natCast _) fun o _ => ?_, trivial⟩, trivial⟩ (by simp) ⟨WV.lf (WL.own rfl rfl rfl (Int.toNat_natCast _)), WV.lf (WL.int ?_), okF.wv trivial, trivial⟩
    · rw [Int.toNat_natCast]
      congr 1
      rw [show 0 + Int.toNat 0 = 0 from rfl, List.replicate_succ, List.set_cons_zero]
      simp only [pF, List.range_zero, List.map_nil, List.reverse_nil, List.append_nil, Nat.sub_zero]
      rfl
    · rw [eN, wrap_u64]
      simp only [shlI, wrap_u64, IntKind.bits]
      rw [show (2 : Int) ^ min (Int.toNat 3) 64 = 8 from by decide]; omega
  intro i hi
  conv => whnf
  by_cases hi' : i < 8
  · refine CaseB.of_true (decide_eq_true (by omega)) ?_
    conv => whnf
    have f1 : IntKind.i64.wrap (8 * (i : Int)) = ((8 * i : Nat) : Int) := by rw [wrap_i64 (by omega) (by omega)]; omega
    refine ⟨by rw [f1]; omega, ?_⟩
    conv => whnf
    have f2 : IntKind.i64.wrap (IntKind.i64.wrap (((zeros n + 9 : Nat) : Int) - 1) - (i : Int)) = ((zeros n + 8 - i : Nat) : Int) := by
      rw [wrap_i64 (n := ((zeros n + 9 : Nat) : Int) - 1) (by omega) (by omega), wrap_i64 (by omega) (by omega)]; omega
    refine ⟨by rw [f2]; omega, ?_⟩
    conv => whnf
    refine ⟨by rw [f2]; omega, ?_⟩
    conv => whnf
    refine ⟨by rw [f2, pF_length n i hi]; omega, ?_⟩
    conv => whnf
    refine next_round hi' (Weak.of ⟨rfl, ⟨.bytes rfl fun o _ => ?_, trivial⟩, trivial⟩ (by simp) ⟨okF.wv rfl, okF.wv trivial, WV.lf (WL.int (by rw [wrap_i64 (by omega) (by omega)]; omega)), trivial⟩)
    rw [f1, f2, ← pF_set n i hi', Int.toNat_natCast, Nat.zero_add]
    congr 2
    rw [wrap_u8, lenByte]
    simp only [shrI, IntKind.bits, Int.toNat_natCast]
    rw [Nat.min_eq_left (by omega), show ((2 : Int) ^ (8 * i)) = ((256 ^ i : Nat) : Int) by rw [Int.pow_mul]; simp, Int.fdiv_eq_ediv_of_nonneg _ (Int.natCast_nonneg _)]
    apply UInt8.toNat_inj.1
    simp only [UInt8.toNat_ofNat']
    rw [← Int.natCast_ediv]
    omega
  · refine CaseB.of_false (decide_eq_false (by omega)) ?_
    conv => whnf
    obtain rfl : i = 8 := by omega
    refine RetK.empty (WV.lf (WL.freezeB (p := []) (q := []) rfl rfl rfl (by omega) ?_ ?_ ?_))
    · rw [pF_length n 8 (by omega)]; omega
    · rw [List.drop_zero, List.take_of_length_le (by rw [pF_length n 8 (by omega)]; omega)]; rfl
    · exact ⟨fun h => h, fun i ob h => by simp at h⟩

theorem c187 (n : Nat) (hn : n ≤ 576460752303423488) : SCalls Proofs.Try.prog 187 [vI n] [] (.s (.lf (.rob true false (padF n)))) [] := c187i n n (by omega) hn

theorem u32_byte (x : UInt32) : UInt8.ofNat (IntKind.u8.wrap (x.toNat : Int)).toNat = x.toUInt8 := by
  apply UInt8.toNat_inj.1
  rw [wrap_u8]
  simp only [UInt32.toNat_toUInt8, UInt8.toNat_ofNat']
  omega

/-- sha.told -/
theorem c188 (h : List UInt32) (hh : h.length = 8) : SCalls Proofs.Try.prog 188 [vH h] [] (.s (.lf (.str (toldF h)))) [] := by
  refine SCalls.intro tok Proofs.Try.func188 ?_
  conv => whnf
  refine LoopK.upTo 8 (fun i => [(3, .s (.lf (.ptr 1 0))), (7, vH h), (8, vI i)]) (fun i => [none, some ⟨144, [.bytes 32 (tF h (4 * i))]⟩]) ?_ ?_
  · exact Weak.of ⟨rfl, okGs.ws (by exact ⟨trivial, trivial⟩), trivial⟩ (by simp) ⟨okF.wv rfl, okF.wv ⟨trivial, trivial⟩, okF.wv trivial, trivial⟩
  intro i hi
  conv => whnf
  by_cases hi' : i < 8
  · refine CaseB.of_true (decide_eq_true (by omega)) ?_
    conv => whnf
    refine ⟨by omega, ?_⟩
    conv => whnf
    refine ⟨by omega, ?_⟩
    conv => whnf
    refine LoopK.upTo 4 (fun j => [(3, .s (.lf (.ptr 1 0))), (7, vH h), (8, vI i), (4, vI i), (5, vU (h.getD i 0)), (12, vI j)]) (fun j => [none, some ⟨144, [.bytes 32 (tF h (4 * i + j))]⟩]) ?_ ?_
    · refine Weak.of ⟨rfl, okGs.ws (by exact ⟨trivial, trivial⟩), trivial⟩ (by simp) ⟨okF.wv rfl, okF.wv ⟨trivial, trivial⟩, okF.wv trivial, okF.wv trivial, WV.lf (WL.int ?_), okF.wv trivial, trivial⟩
      rw [Int.toNat_natCast, Us_getD]; rfl
    intro j hj
    conv => whnf
    by_cases hj' : j < 4
    · refine CaseB.of_true (decide_eq_true (by omega)) ?_
      conv => whnf
      have e1 : IntKind.i64.wrap (8 * (j : Int)) = ((8 * j : Nat) : Int) := by rw [wrap_i64 (by omega) (by omega)]; omega
      have e2 : IntKind.i64.wrap (24 - ((8 * j : Nat) : Int)) = ((24 - 8 * j : Nat) : Int) := by rw [wrap_i64 (by omega) (by omega)]; omega
      have e3 : IntKind.i64.wrap (4 * (i : Int)) = ((4 * i : Nat) : Int) := by rw [wrap_i64 (by omega) (by omega)]; omega
      have e4 : IntKind.i64.wrap (((4 * i : Nat) : Int) + (j : Int)) = ((4 * i + j : Nat) : Int) := by rw [wrap_i64 (by omega) (by omega)]; omega
      refine ⟨by rw [e1, e2]; omega, ?_⟩
      conv => whnf
      refine ⟨by rw [e3, e4]; omega, ?_⟩
      conv => whnf
      refine ⟨by rw [e3, e4]; omega, ?_⟩
      conv => whnf
      refine ⟨by rw [tF_length h _ (by omega), e3, e4]; omega, ?_⟩
      conv => whnf
      refine next_round hj' (Weak.of ⟨rfl, ⟨.bytes rfl fun o _ => ?_, trivial⟩, trivial⟩ (by simp) ?_)
      · rw [e1, e2, e3, e4, u32_shr _ _ (by omega), Int.toNat_natCast, ← Nat.add_assoc, ← tF_set h (4 * i + j) (by omega)]
        congr 2
        rw [u32_byte, Sh.byteOf, show (4 * i + j) / 4 = i by omega, show (4 * i + j) % 4 = j by omega]
      · exact ⟨okF.wv rfl, okF.wv ⟨trivial, trivial⟩, okF.wv trivial, okF.wv trivial, okF.wv trivial, WV.lf (WL.int (by rw [wrap_i64 (by omega) (by omega)]; omega)), trivial⟩
    · refine CaseB.of_false (decide_eq_false (by omega)) ?_
      conv => whnf
      obtain rfl : j = 4 := by omega
      refine next_round hi' (Weak.of ⟨rfl, okGs.ws (by exact ⟨trivial, trivial⟩), trivial⟩ (by simp) ?_)
      exact ⟨okF.wv rfl, okF.wv ⟨trivial, trivial⟩, WV.lf (WL.int (by rw [wrap_i64 (by omega) (by omega)]; omega)), trivial⟩
  · refine CaseB.of_false (decide_eq_false (by omega)) ?_
    conv => whnf
    obtain rfl : i = 8 := by omega
    refine ⟨⟨by omega, by simp [maxLen]⟩, ?_⟩
    conv => whnf
    refine ⟨⟨by decide, by rw [tF_length h _ (by omega)]; decide⟩, ?_⟩
    conv => whnf
    refine RetK.empty (WV.lf (WL.str ?_))
    rw [show 4 * 8 = 32 from rfl, tF_full, show Int.toNat 0 = 0 from rfl, List.drop_zero]
    exact List.take_of_length_le (by simp [toldF])

theorem c186 (s : St) (hs : s.ok) (b : List UInt8) (hb : s.n + b.length < 4611686018427387904) : SCalls Proofs.Try.prog 186 [.s (.lf (.ptr 0 0)), .s (.lf (.rob false false b))] [some (obSt s)] (.tup []) [some (obSt (writeF s b))] := by
  refine SCalls.intro tok Proofs.Try.func186 ?_
  conv => whnf
  refine LoopK.mk2 (fun (r : List UInt8) (t : St) => [(0, .s (.lf (.ptr 0 0))), (1, .s (.lf (.rob false false r)))]) (fun r t => [some (obSt t)])
    (fun r t => writeF t r = writeF s b ∧ t.ok ∧ t.n + r.length = s.n + b.length) (fun r t => r.length) b s ⟨rfl, hs, rfl⟩ ?_ ?_
  · exact Weak.of ⟨rfl, okGs.ws (by exact ⟨trivial, trivial, trivial, trivial, trivial⟩), trivial⟩ (by simp) ⟨okF.wv rfl, okF.wv trivial, trivial⟩
  · rintro r t ⟨h1, h2, h3⟩
    conv => whnf
    by_cases hr : 0 < r.length
    · refine CaseB.of_true (decide_eq_true (by omega)) ?_
      conv => whnf
      refine ⟨by omega, ?_⟩
      conv => whnf
      have e1 : Int.tmod (t.n : Int) 64 = ((t.n % 64 : Nat) : Int) := rfl
      rw [e1]
      refine ⟨⟨by omega, by simp [maxLen]⟩, ?_⟩
      conv => whnf
      refine ⟨⟨by omega, by rw [h2.p]; omega⟩, ?_⟩
      conv => whnf
      have hm : ∃ m : Nat, m = min r.length (64 - t.n % 64) ∧ min r.length (((64 : Nat) : Int).toNat - (((t.n % 64 : Nat)) : Int).toNat) = m := ⟨_, rfl, by congr 1⟩
      obtain ⟨m, hm1, hm2⟩ := hm
      rw [hm2]
      refine ⟨by omega, ?_⟩
      conv => whnf
      refine ⟨by omega, ?_⟩
      conv => whnf
      have e2 : IntKind.i64.wrap ((t.n : Int) + (m : Int)) = ((t.n + m : Nat) : Int) := by rw [wrap_i64 (by omega) (by omega)]; omega
      rw [e2]
      have hsp : spl t.p (((t.n % 64 : Nat)) : Int).toNat (List.take (((64 : Nat) : Int).toNat - (((t.n % 64 : Nat)) : Int).toNat) r) = spl t.p (t.n % 64) (r.take m) := by
        rw [Int.toNat_natCast, Int.toNat_natCast]
        congr 1
        rw [hm1]
        rcases Nat.le_total r.length (64 - t.n % 64) with h | h
        · rw [Nat.min_eq_left h, List.take_of_length_le h, List.take_of_length_le (Nat.le_refl _)]
        · rw [Nat.min_eq_right h]
      rw [hsp]
      have hpl : (spl t.p (t.n % 64) (r.take m)).length = 64 := by
        have := h2.p
        simp only [spl, List.length_append, List.length_take, List.length_drop]; omega
      have hpc := writeF_piece (r.take m) t h2.p (by rw [List.length_take]; omega) (by rw [List.length_take]; omega)
      rw [List.length_take, Nat.min_eq_left (by omega)] at hpc
      have hgo : writeF (writeF t (r.take m)) (r.drop m) = writeF s b := by rw [← writeF_append, List.take_append_drop]; exact h1
      have hok := writeF_ok h2 (r.take m)
      by_cases hz : (t.n + m) % 64 = 0
      · refine CaseB.of_true (decide_eq_true (by rw [show Int.tmod ((t.n + m : Nat) : Int) 64 = (((t.n + m) % 64 : Nat) : Int) from rfl, hz]; rfl)) ?_
        conv => whnf
        refine DrawK.mk1 tok mixed [0, 0, 2, 6, 14, 0, 32, 96, 224, 510, 1023, 2047, 4095] [(0, 0, []), (1, 0, []), (5, 0, []), (2, 1, [0]), (3, 1, [0]), (4, 1, [0]), (6, 1, [0]), (7, 1, [0]), (8, 1, [0]), (9, 1, [0]), (10, 1, [0]), (11, 1, [0]), (12, 2, [])] (by kernel_rfl) ?_
        conv => whnf
        refine CallR.mk' _ ((c214 t.h h2.h _ hpl).free _ ⟨⟨trivial, trivial⟩, ⟨trivial, trivial⟩, trivial⟩ ⟨trivial, trivial⟩) ?_
        conv => whnf
        rw [if_pos hz] at hpc
        refine ⟨(r.drop m, writeF t (r.take m)), ⟨hgo, hok, by rw [hpc, List.length_drop]; show t.n + m + (r.length - m) = _; omega⟩, by show (r.drop m).length < r.length; rw [List.length_drop]; omega, ?_⟩
        rw [hpc]
        exact Weak.of ⟨rfl, okGs.ws (by exact ⟨trivial, trivial, trivial, trivial, trivial⟩), trivial⟩ (by simp) ⟨okF.wv rfl, WV.lf (WL.rob (by simp) (by simp) (by simp)), trivial⟩
      · refine CaseB.of_false (decide_eq_false (by rw [show Int.tmod ((t.n + m : Nat) : Int) 64 = (((t.n + m) % 64 : Nat) : Int) from rfl]; omega)) ?_
        conv => whnf
        rw [if_neg hz] at hpc
        refine ⟨(r.drop m, writeF t (r.take m)), ⟨hgo, hok, by rw [hpc, List.length_drop]; show t.n + m + (r.length - m) = _; omega⟩, by show (r.drop m).length < r.length; rw [List.length_drop]; omega, ?_⟩
        rw [hpc]
        exact Weak.of ⟨rfl, okGs.ws (by exact ⟨trivial, trivial, trivial, trivial, trivial⟩), trivial⟩ (by simp) ⟨okF.wv rfl, WV.lf (WL.rob (by simp) (by simp) (by simp)), trivial⟩
    · refine CaseB.of_false (decide_eq_false (by omega)) ?_
      conv => whnf
      obtain rfl : r = [] := List.length_eq_zero_iff.1 (by omega)
      have h1 : t = writeF s b := h1
      refine RetK.of (H := [some (obSt t)]) ⟨rfl, ?_, trivial⟩ (by simp) (okF.wv trivial)
      subst h1
      exact okGs.ws (by exact ⟨trivial, trivial, trivial, trivial, trivial⟩)
end Go.Sym.Md
