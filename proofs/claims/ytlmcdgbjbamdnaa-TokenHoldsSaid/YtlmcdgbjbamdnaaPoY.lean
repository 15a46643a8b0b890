/- Contracts of the program's functions, proved by the framework (text PoY), without conditions but those that each theorem states. -/
import Derived.Test.YtlmcdgbjbamdnaaPoX
import Derived.Test.YtlmcdgbjbamdnaaShST
import Derived.Test.YtlmcdgbjbamdnaaFw7
import Derived.KernelRfl
set_option linter.unusedVariables false
set_option linter.unusedSimpArgs false
namespace Go.Sym.Md
open Go Go.Sym Go.Sym.Sh
attribute [local irreducible] ws acc rs addUp Kw highA highB Sh.choose most lowA lowB ror blockF

/-- A hash, as it lies. -/
abbrev obSt (s : St) : OB := ⟨201, [.ints .u32 8 (Us s.h), .bytes 64 s.p, .one (.int .i64 (s.n : Int)), .one .tt]⟩

/-- sha.New -/
theorem c185 : SCalls Proofs.Try.prog 185 [] [] (.s (.lf (.ptr 0 0))) [some (obSt st0)] := by
  refine SCalls.intro tok Proofs.Try.func185 ?_
  conv => whnf
  refine CallK.mk' _ _ (c213.free _ trivial ⟨trivial, trivial⟩) ?_
  conv => whnf
  exact RetK.of ⟨rfl, okGs.ws (by exact ⟨trivial, trivial, trivial, trivial, trivial⟩), trivial⟩ (by simp) (okF.wv rfl)

theorem zeros_lt (n : Nat) : zeros n < 64 := Nat.mod_lt _ (by omega)

theorem pF_length (n i : Nat) (hi : i ≤ 8) : (pF n i).length = zeros n + 9 := by simp [pF]; omega

theorem pF_set (n i : Nat) (hi : i < 8) : (pF n i).set (zeros n + 8 - i) (lenByte n i) = pF n (i + 1) := by
  simp only [pF]
  rw [show zeros n + (8 - i) = (zeros n + (8 - (i + 1))) + 1 by omega, List.replicate_succ', List.range_succ, List.map_append, List.reverse_append]
  rw [show zeros n + 8 - i = (128 :: List.replicate (zeros n + (8 - (i + 1))) (0 : UInt8)).length by simp; omega]
  rw [show (128 :: (List.replicate (zeros n + (8 - (i + 1))) (0 : UInt8) ++ [0])) ++ ((List.range i).map (lenByte n)).reverse = (128 :: List.replicate (zeros n + (8 - (i + 1))) (0 : UInt8)) ++ (0 :: ((List.range i).map (lenByte n)).reverse) by simp]
  rw [List.set_append_right _ _ (Nat.le_refl _), Nat.sub_self, List.set_cons_zero]
  simp

/-- sha.Pad -/
theorem c187i (z : Int) (n : Nat) (eN : min (max z 0) 576460752303423488 = (n : Int)) (hn : n ≤ 576460752303423488) : SCalls Proofs.Try.prog 187 [vI z] [] (.s (.lf (.rob true false (padF n)))) [] := by
  refine SCalls.intro tok Proofs.Try.func187 ?_
  conv => whnf
  have e2 : IntKind.i64.wrap (119 - Int.tmod (n : Int) 64) = ((119 - n % 64 : Nat) : Int) := by
    rw [show Int.tmod (n : Int) 64 = ((n % 64 : Nat) : Int) from rfl, wrap_i64 (by omega) (by omega)]; omega
  have e3 : Int.tmod ((119 - n % 64 : Nat) : Int) 64 = (zeros n : Int) := rfl
  have hz := zeros_lt n
  have eL : IntKind.i64.wrap (IntKind.i64.wrap (1 + (IntKind.i64.wrap (119 - (min (max z 0) 576460752303423488).tmod 64)).tmod 64) + 8) = ((zeros n + 9 : Nat) : Int) := by
    rw [eN, e2, e3, wrap_i64 (n := 1 + (zeros n : Int)) (by omega) (by omega), wrap_i64 (by omega) (by omega)]; omega
  refine ⟨by omega, ?_⟩
  conv => whnf
  refine ⟨by omega, ?_⟩
  conv => whnf
  rw [eL]
  refine ⟨⟨by omega, by omega, by show ((zeros n + 9 : Nat) : Int) * 1 ≤ _; omega⟩, ?_⟩
  conv => whnf
  refine ⟨by omega, ?_⟩
  conv => whnf
  refine ⟨by omega, ?_⟩
  conv => whnf
  refine ⟨by rw [List.length_replicate]; omega, ?_⟩
  conv => whnf
  refine ⟨by omega, ?_⟩
  conv => whnf
  refine LoopK.upTo 8 (fun i => [(4, .s (.lf (.own 0 0 1 0 (zeros n + 9)))), (5, .s (.lf (.int .u64 ((8 * n : Nat) : Int)))), (23, vI i)]) (fun i => [some ⟨5, [.bytes (zeros n + 9) (pF n i)]⟩]) ?_ ?_
  · refine Weak.of ⟨rfl, ⟨.bytes (Int.toNat_natCast _) fun o _ => ?_, trivial⟩, trivial⟩ (by simp) ⟨WV.lf (WL.own rfl rfl rfl (Int.toNat_natCast _)), WV.lf (WL.int ?_), okF.wv trivial, trivial⟩
    · rw [Int.toNat_natCast]
      congr 1
      rw [show 0 + Int.toNat 0 = 0 from rfl, List.replicate_succ, List.set_cons_zero]
      simp only [pF, List.range_zero, List.map_nil, List.reverse_nil, List.append_nil, Nat.sub_zero]
      rfl
    · rw [eN, wrap_u64]
      simp only [shlI, wrap_u64, IntKind.bits]
      rw [show (2 : Int) ^ min (Int.toNat 3) 64 = 8 from by decide]; omega
  intro i hi
  conv => whnf
  by_cases hi' : i < 8
  · refine CaseB.of_true (decide_eq_true (by omega)) ?_
    conv => whnf
    have f1 : IntKind.i64.wrap (8 * (i : Int)) = ((8 * i : Nat) : Int) := by rw [wrap_i64 (by omega) (by omega)]; omega
    refine ⟨by rw [f1]; omega, ?_⟩
    conv => whnf
    have f2 : IntKind.i64.wrap (IntKind.i64.wrap (((zeros n + 9 : Nat) : Int) - 1) - (i : Int)) = ((zeros n + 8 - i : Nat) : Int) := by
      rw [wrap_i64 (n := ((zeros n + 9 : Nat) : Int) - 1) (by omega) (by omega), wrap_i64 (by omega) (by omega)]; omega
    refine ⟨by rw [f2]; omega, ?_⟩
    conv => whnf
    refine ⟨by rw [f2]; omega, ?_⟩
    conv => whnf
    refine ⟨by rw [f2, pF_length n i hi]; omega, ?_⟩
    conv => whnf
    refine next_round hi' (Weak.of ⟨rfl, ⟨.bytes rfl fun o _ => ?_, trivial⟩, trivial⟩ (by simp) ⟨okF.wv rfl, okF.wv trivial, WV.lf (WL.int (by rw [wrap_i64 (by omega) (by omega)]; omega)), trivial⟩)
    rw [f1, f2, ← pF_set n i hi', Int.toNat_natCast, Nat.zero_add]
    congr 2
    rw [wrap_u8, lenByte]
    simp only [shrI, IntKind.bits, Int.toNat_natCast]
    rw [Nat.min_eq_left (by omega), show ((2 : Int) ^ (8 * i)) = ((256 ^ i : Nat) : Int) by rw [Int.pow_mul]; simp, Int.fdiv_eq_ediv_of_nonneg _ (Int.natCast_nonneg _)]
    apply UInt8.toNat_inj.1
    simp only [UInt8.toNat_ofNat']
    rw [← Int.natCast_ediv]
    omega
  · refine CaseB.of_false (decide_eq_false (by omega)) ?_
    conv => whnf
    obtain rfl : i = 8 := by omega
    refine RetK.empty (WV.lf (WL.freezeB (p := []) (q := []) rfl rfl rfl (by omega) ?_ ?_ ?_))
    · rw [pF_length n 8 (by omega)]; omega
    · rw [List.drop_zero, List.take_of_length_le (by rw [pF_length n 8 (by omega)]; omega)]; rfl
    · exact ⟨fun h => h, fun i ob h => by simp at h⟩

theorem c187 (n : Nat) (hn : n ≤ 576460752303423488) : SCalls Proofs.Try.prog 187 [vI n] [] (.s (.lf (.rob true false (padF n)))) [] := c187i n n (by omega) hn

theorem u32_byte (x : UInt32) : UInt8.ofNat (IntKind.u8.wrap (x.toNat : Int)).toNat = x.toUInt8 := by
  apply UInt8.toNat_inj.1
  rw [wrap_u8]
  simp only [UInt32.toNat_toUInt8, UInt8.toNat_ofNat']
  omega

/-- sha.told -/
theorem c188 (h : List UInt32) (hh : h.length = 8) : SCalls Proofs.Try.prog 188 [vH h] [] (.s (.lf (.str (toldF h)))) [] := by
  refine SCalls.intro tok Proofs.Try.func188 ?_
  conv => whnf
  refine LoopK.upTo 8 (fun i => [(3, .s (.lf (.ptr 1 0))), (7, vH h), (8, vI i)]) (fun i => [none, some ⟨144, [.bytes 32 (tF h (4 * i))]⟩]) ?_ ?_
  · exact Weak.of ⟨rfl, okGs.ws (by exact ⟨trivial, trivial⟩), trivial⟩ (by simp) ⟨okF.wv rfl, okF.wv ⟨trivial, trivial⟩, okF.wv trivial, trivial⟩
  intro i hi
  conv => whnf
  by_cases hi' : i < 8
  · refine CaseB.of_true (decide_eq_true (by omega)) ?_
    conv => whnf
    refine ⟨by omega, ?_⟩
    conv => whnf
    refine ⟨by omega, ?_⟩
    conv => whnf
    refine LoopK.upTo 4 (fun j => [(3, .s (.lf (.ptr 1 0))), (7, vH h), (8, vI i), (4, vI i), (5, vU (h.getD i 0)), (12, vI j)]) (fun j => [none, some ⟨144, [.bytes 32 (tF h (4 * i + j))]⟩]) ?_ ?_
    · refine Weak.of ⟨rfl, okGs.ws (by exact ⟨trivial, trivial⟩), trivial⟩ (by simp) ⟨okF.wv rfl, okF.wv ⟨trivial, trivial⟩, okF.wv trivial, okF.wv trivial, WV.lf (WL.int ?_), okF.wv trivial, trivial⟩
      rw [Int.toNat_natCast, Us_getD]; rfl
    intro j hj
    conv => whnf
    by_cases hj' : j < 4
    · refine CaseB.of_true (decide_eq_true (by omega)) ?_
      conv => whnf
      have e1 : IntKind.i64.wrap (8 * (j : Int)) = ((8 * j : Nat) : Int) := by rw [wrap_i64 (by omega) (by omega)]; omega
      have e2 : IntKind.i64.wrap (24 - ((8 * j : Nat) : Int)) = ((24 - 8 * j : Nat) : Int) := by rw [wrap_i64 (by omega) (by omega)]; omega
      have e3 : IntKind.i64.wrap (4 * (i : Int)) = ((4 * i : Nat) : Int) := by rw [wrap_i64 (by omega) (by omega)]; omega
      have e4 : IntKind.i64.wrap (((4 * i : Nat) : Int) + (j : Int)) = ((4 * i + j : Nat) : Int) := by rw [wrap_i64 (by omega) (by omega)]; omega
      refine ⟨by rw [e1, e2]; omega, ?_⟩
      conv => whnf
      refine ⟨by rw [e3, e4]; omega, ?_⟩
      conv => whnf
      refine ⟨by rw [e3, e4]; omega, ?_⟩
      conv => whnf
      refine ⟨by rw [tF_length h _ (by omega), e3, e4]; omega, ?_⟩
      conv => whnf
      refine next_round hj' (Weak.of ⟨rfl, ⟨.bytes rfl fun o _ => ?_, trivial⟩, trivial⟩ (by simp) ?_)
      · rw [e1, e2, e3, e4, u32_shr _ _ (by omega), Int.toNat_natCast, ← Nat.add_assoc, ← tF_set h (4 * i + j) (by omega)]
        congr 2
        rw [u32_byte, Sh.byteOf, show (4 * i + j) / 4 = i by omega, show (4 * i + j) % 4 = j by omega]
      · exact ⟨okF.wv rfl, okF.wv ⟨trivial, trivial⟩, okF.wv trivial, okF.wv trivial, okF.wv trivial, WV.lf (WL.int (by rw [wrap_i64 (by omega) (by omega)]; omega)), trivial⟩
    · refine CaseB.of_false (decide_eq_false (by omega)) ?_
      conv => whnf
      obtain rfl : j = 4 := by omega
      refine next_round hi' (Weak.of ⟨rfl, okGs.ws (by exact ⟨trivial, trivial⟩), trivial⟩ (by simp) ?_)
      exact ⟨okF.wv rfl, okF.wv ⟨trivial, trivial⟩, WV.lf (WL.int (by rw [wrap_i64 (by omega) (by omega)]; omega)), trivial⟩
  · refine CaseB.of_false (decide_eq_false (by omega)) ?_
    conv => whnf
    obtain rfl : i = 8 := by omega
    refine ⟨⟨by omega, by simp [maxLen]⟩, ?_⟩
    conv => whnf
    refine ⟨⟨by decide, by rw [tF_length h _ (by omega)]; decide⟩, ?_⟩
    conv => whnf
    refine RetK.empty (WV.lf (WL.str ?_))
    rw [show 4 * 8 = 32 from rfl, tF_full, show Int.toNat 0 = 0 from rfl, List.drop_zero]
    exact List.take_of_length_le (by simp [toldF])

theorem c186 (s : St) (hs : s.ok) (b : List UInt8) (hb : s.n + b.length < 4611686018427387904) : SCalls Proofs.Try.prog 186 [.s (.lf (.ptr 0 0)), .s (.lf (.rob false false b))] [some (obSt s)] (.tup []) [some (obSt (writeF s b))] := by
  refine SCalls.intro tok Proofs.Try.func186 ?_
  conv => whnf
  refine LoopK.mk2 (fun (r : List UInt8) (t : St) => [(0, .s (.lf (.ptr 0 0))), (1, .s (.lf (.rob false false r)))]) (fun r t => [some (obSt t)])
    (fun r t => writeF t r = writeF s b ∧ t.ok ∧ t.n + r.length = s.n + b.length) (fun r t => r.length) b s ⟨rfl, hs, rfl⟩ ?_ ?_
  · exact Weak.of ⟨rfl, okGs.ws (by exact ⟨trivial, trivial, trivial, trivial, trivial⟩), trivial⟩ (by simp) ⟨okF.wv rfl, okF.wv trivial, trivial⟩
  · rintro r t ⟨h1, h2, h3⟩
    conv => whnf
    by_cases hr : 0 < r.length
    · refine CaseB.of_true (decide_eq_true (by omega)) ?_
      conv => whnf
      refine ⟨by omega, ?_⟩
      conv => whnf
      have e1 : Int.tmod (t.n : Int) 64 = ((t.n % 64 : Nat) : Int) := rfl
      rw [e1]
      refine ⟨⟨by omega, by simp [maxLen]⟩, ?_⟩
      conv => whnf
      refine ⟨⟨by omega, by rw [h2.p]; omega⟩, ?_⟩
      conv => whnf
      have hm : ∃ m : Nat, m = min r.length (64 - t.n % 64) ∧ min r.length (((64 : Nat) : Int).toNat - (((t.n % 64 : Nat)) : Int).toNat) = m := ⟨_, rfl, by congr 1⟩
      obtain ⟨m, hm1, hm2⟩ := hm
      rw [hm2]
      refine ⟨by omega, ?_⟩
      conv => whnf
      refine ⟨by omega, ?_⟩
      conv => whnf
      have e2 : IntKind.i64.wrap ((t.n : Int) + (m : Int)) = ((t.n + m : Nat) : Int) := by rw [wrap_i64 (by omega) (by omega)]; omega
      rw [e2]
      have hsp : spl t.p (((t.n % 64 : Nat)) : Int).toNat (List.take (((64 : Nat) : Int).toNat - (((t.n % 64 : Nat)) : Int).toNat) r) = spl t.p (t.n % 64) (r.take m) := by
        rw [Int.toNat_natCast, Int.toNat_natCast]
        congr 1
        rw [hm1]
        rcases Nat.le_total r.length (64 - t.n % 64) with h | h
        · rw [Nat.min_eq_left h, List.take_of_length_le h, List.take_of_length_le (Nat.le_refl _)]
        · rw [Nat.min_eq_right h]
      rw [hsp]
      have hpl : (spl t.p (t.n % 64) (r.take m)).length = 64 := by
        have := h2.p
        simp only [spl, List.length_append, List.length_take, List.length_drop]; omega
      have hpc := writeF_piece (r.take m) t h2.p (by rw [List.length_take]; omega) (by rw [List.length_take]; omega)
      rw [List.length_take, Nat.min_eq_left (by omega)] at hpc
      have hgo : writeF (writeF t (r.take m)) (r.drop m) = writeF s b := by rw [← writeF_append, List.take_append_drop]; exact h1
      have hok := writeF_ok h2 (r.take m)
      by_cases hz : (t.n + m) % 64 = 0
      · refine CaseB.of_true (decide_eq_true (by rw [show Int.tmod ((t.n + m : Nat) : Int) 64 = (((t.n + m) % 64 : Nat) : Int) from rfl, hz]; rfl)) ?_
        conv => whnf
        refine DrawK.mk1 tok mixed [0, 0, 2, 6, 14, 0, 32, 96, 224, 510, 1023, 2047, 4095] [(0, 0, []), (1, 0, []), (5, 0, []), (2, 1, [0]), (3, 1, [0]), (4, 1, [0]), (6, 1, [0]), (7, 1, [0]), (8, 1, [0]), (9, 1, [0]), (10, 1, [0]), (11, 1, [0]), (12, 2, [])] (by kernel_rfl) ?_
        conv => whnf
        refine CallR.mk' _ ((c214 t.h h2.h _ hpl).free _ ⟨⟨trivial, trivial⟩, ⟨trivial, trivial⟩, trivial⟩ ⟨trivial, trivial⟩) ?_
        conv => whnf
        rw [if_pos hz] at hpc
        refine ⟨(r.drop m, writeF t (r.take m)), ⟨hgo, hok, by rw [hpc, List.length_drop]; show t.n + m + (r.length - m) = _; omega⟩, by show (r.drop m).length < r.length; rw [List.length_drop]; omega, ?_⟩
        rw [hpc]
        exact Weak.of ⟨rfl, okGs.ws (by exact ⟨trivial, trivial, trivial, trivial, trivial⟩), trivial⟩ (by simp) ⟨okF.wv rfl, WV.lf (WL.rob (by simp) (by simp) (by simp)), trivial⟩
      · refine CaseB.of_false (decide_eq_false (by rw [show Int.tmod ((t.n + m : Nat) : Int) 64 = (((t.n + m) % 64 : Nat) : Int) from rfl]; omega)) ?_
        conv => whnf
        rw [if_neg hz] at hpc
        refine ⟨(r.drop m, writeF t (r.take m)), ⟨hgo, hok, by rw [hpc, List.length_drop]; show t.n + m + (r.length - m) = _; omega⟩, by show (r.drop m).length < r.length; rw [List.length_drop]; omega, ?_⟩
        rw [hpc]
        exact Weak.of ⟨rfl, okGs.ws (by exact ⟨trivial, trivial, trivial, trivial, trivial⟩), trivial⟩ (by simp) ⟨okF.wv rfl, WV.lf (WL.rob (by simp) (by simp) (by simp)), trivial⟩
    · refine CaseB.of_false (decide_eq_false (by omega)) ?_
      conv => whnf
      obtain rfl : r = [] := List.length_eq_zero_iff.1 (by omega)
      have h1 : t = writeF s b := h1
      refine RetK.of (H := [some (obSt t)]) ⟨rfl, ?_, trivial⟩ (by simp) (okF.wv trivial)
      subst h1
      exact okGs.ws (by exact ⟨trivial, trivial, trivial, trivial, trivial⟩)
end Go.Sym.Md

set_option maxRecDepth 10000
set_option linter.unusedVariables false
set_option linter.unusedSimpArgs false
namespace Go.Sym.Md
open Go Go.Sym Go.Sym.Sh
attribute [local irreducible] ws acc rs addUp Kw highA highB Sh.choose most lowA lowB ror blockF writeF padF toldF

/-- The sum of what was written. -/
def sumF (s : St) : List UInt8 := toldF (writeF s (padF s.n)).h
/-- A text's sum. -/
def shaF (b : List UInt8) : List UInt8 := sumF (writeF st0 b)

theorem padF_length (n : Nat) : (padF n).length = zeros n + 9 := by rw [padF]; exact pF_length n 8 (by omega)

set_option maxRecDepth 10000 in
/-- (*sha.Hash).Sum -/
theorem c132 (s : St) (hs : s.ok) (hn : s.n ≤ 576460752303423488) : SCalls Proofs.Try.prog 132 [.s (.lf (.ptr 0 0))] [some (obSt s)] (.s (.lf (.str (sumF s)))) [some (obSt s)] := by
  refine SCalls.intro tok Proofs.Try.func132 ?_
  conv => whnf
  refine CallK.mk' _ _ ((c187 s.n hn).free _ ⟨trivial, trivial⟩ trivial) ?_
  conv => whnf
  have hz := zeros_lt s.n
  refine CallK.mk' _ [some (obSt s), some (obSt (writeF s (padF s.n)))] ((c186 s hs (padF s.n) (by rw [padF_length]; omega)).frame1 (nm := 1) rfl rfl (freeGs.ws ⟨trivial, trivial, trivial, trivial, trivial⟩) ⟨WV.lf (WL.ptr rfl rfl), WV.lf (WL.rob rfl (by simp) (by simp)), trivial⟩ rfl (freeGs.ws ⟨trivial, trivial, trivial, trivial, trivial⟩) (freeF.wv trivial)) ?_
  conv => whnf
  refine CallK.mk' _ _ ((c188 _ (writeF_ok hs _).h).free _ ⟨⟨trivial, trivial⟩, trivial⟩ trivial) ?_
  conv => whnf
  exact RetK.of ⟨rfl, okGs.ws (by exact ⟨trivial, trivial, trivial, trivial, trivial⟩), trivial⟩ (by simp) (okF.wv trivial)

set_option maxRecDepth 10000 in
/-- sha.Sum -/
theorem c235 (b : List UInt8) (hb : b.length ≤ 576460752303423488) : SCalls Proofs.Try.prog 235 [.s (.lf (.rob false false b))] [] (.s (.lf (.str (shaF b)))) [] := by
  refine SCalls.intro tok Proofs.Try.func235 ?_
  conv => whnf
  refine CallK.mk' _ _ c185 ?_
  conv => whnf
  have h0 : st0.ok := ⟨rfl, by simp [st0]⟩
  have hl : (writeF st0 b).n = b.length := by rw [writeF_n]; simp [st0]
  refine CallK.mk' _ [some (obSt (writeF st0 b))] (c186 st0 h0 b (by show 0 + b.length < _; omega)) ?_
  conv => whnf
  refine CallK.mk' _ [some (obSt (writeF st0 b))] (c132 _ (writeF_ok h0 b) (by rw [hl]; exact hb)) ?_
  conv => whnf
  exact RetK.empty (okF.wv trivial)

end Go.Sym.Md

set_option maxRecDepth 10000
set_option linter.unusedVariables false
set_option linter.unusedSimpArgs false
namespace Go.Sym.Md
open Go Go.Sym Go.Sym.Sh

def eqB : List UInt8 → List UInt8 → Bool
  | [], [] => true
  | a :: l, b :: m => Nat.beq a.toNat b.toNat && eqB l m
  | _, _ => false

theorem eqB_sound : ∀ {l m : List UInt8}, eqB l m = true → l = m
  | [], [], _ => rfl
  | a :: l, b :: m, h => by
    simp only [eqB, Bool.and_eq_true] at h
    rw [UInt8.toNat_inj.1 (Nat.eq_of_beq_eq_true h.1), eqB_sound h.2]
  | [], _ :: _, h => by simp [eqB] at h
  | _ :: _, [], h => by simp [eqB] at h

theorem sha_empty : shaF [] = [227, 176, 196, 66, 152, 252, 28, 20, 154, 251, 244, 200, 153, 111, 185, 36, 39, 174, 65, 228, 100, 155, 147, 76, 164, 149, 153, 27, 120, 82, 184, 85] := eqB_sound (by kernel_rfl)

attribute [local irreducible] shaF

end Go.Sym.Md

set_option linter.unusedVariables false
set_option linter.unusedSimpArgs false
set_option maxRecDepth 10000
namespace Go.Sym.Md
open Go Go.Sym Go.Sym.Sh
attribute [local irreducible] ws acc rs addUp Kw highA highB Sh.choose most lowA lowB ror blockF writeF padF toldF shaF

/-- The first i pieces, joined. -/
def joined (xs : Nat → List UInt8) : Nat → List UInt8
  | 0 => []
  | i + 1 => joined xs i ++ xs i

theorem obSt_ws {D : Rel} (s : St) : WSs D (obSt s).segs (obSt s).segs := plainGs.ws ⟨trivial, trivial, trivial, trivial, trivial⟩

theorem writeF_nil (s : St) : writeF s [] = s := by unfold writeF; rfl
theorem st0_ok : st0.ok := ⟨rfl, by simp [st0]⟩

/-- The state of the pieces' loop: with no piece yet, or with some. -/
def parFr (len : Nat) (f : Nat → Nat → LV) (i : Nat) (all : LV) : Fr :=
  [(3, .s (.lf (.ptr 0 0))), (4, .s (.lf all)), (12, .s (.lf (.ro false false 1 len f))), (13, vI len), (14, vI i)]

end Go.Sym.Md

set_option linter.unusedVariables false
set_option linter.unusedSimpArgs false
set_option maxRecDepth 10000
namespace Go.Sym.Md
open Go Go.Sym Go.Sym.Sh

/-- The padding, as baileyref03 lays it: j bytes of the length told. -/
def qF (n j : Nat) : List UInt8 := 128 :: List.replicate (zeros n) 0 ++ (List.range j).map fun t => lenByte n (7 - t)
/-- k zeros laid. -/
def q0 (k : Nat) : List UInt8 := 128 :: List.replicate k 0

theorem qF_zero (n : Nat) : qF n 0 = q0 (zeros n) := by simp [qF, q0]
theorem qF_succ (n j : Nat) : qF n (j + 1) = qF n j ++ [lenByte n (7 - j)] := by simp [qF, List.range_succ]
theorem qF_done (n : Nat) : qF n 8 = padF n := rfl
theorem q0_succ (k : Nat) : q0 (k + 1) = q0 k ++ [0] := by simp [q0, List.replicate_succ']
theorem q0_length (k : Nat) : (q0 k).length = k + 1 := by simp [q0]
theorem qF_length (n j : Nat) : (qF n j).length = zeros n + 1 + j := by simp [qF]; omega

attribute [local irreducible] qF q0 padF

/-- baileyref03.Pad -/
theorem c190 (z : Int) (n : Nat) (eN : min (max z 0) 576460752303423488 = (n : Int)) (hn : n ≤ 576460752303423488) : SCalls Proofs.Try.prog 190 [vI z] [] (.s (.lf (.rob true false (padF n)))) [] := by
  have hz := zeros_lt n
  refine SCalls.intro tok Proofs.Try.func190 ?_
  conv => whnf
  refine Or.inl ?_
  conv => whnf
  refine LoopK.upTo (zeros n) (fun k => [(0, vI n), (3, .s (.lf (.own 0 0 1 0 (q0 k).length)))]) (fun k => [some ⟨5, [.bytes (q0 k).length (q0 k)]⟩]) ?_ ?_
  · exact Weak.of ⟨rfl, ⟨.bytes (by rw [q0_length]) fun o _ => by rw [q0]; rfl, trivial⟩, trivial⟩ (by simp) ⟨WV.lf (WL.int eN), WV.lf (WL.own rfl rfl rfl (by rw [q0_length])), trivial⟩
  intro k hk
  have hl := q0_length k
  conv => whnf
  refine ⟨by omega, ?_⟩
  conv => whnf
  have e1 : (IntKind.i64.wrap ((n : Int) + ((q0 k).length : Int))).tmod 64 = (((n + (k + 1)) % 64 : Nat) : Int) := by
    rw [hl, wrap_i64 (by omega) (by omega), show (n : Int) + ((k + 1 : Nat) : Int) = ((n + (k + 1) : Nat) : Int) by omega]; rfl
  by_cases hk' : k < zeros n
  · refine CaseB.of_true (decide_eq_true (by rw [e1]; unfold zeros at *; omega)) ?_
    conv => whnf
    refine Or.inr ?_
    conv => whnf
    have el : (q0 k ++ List.map (fun a => UInt8.ofNat a.toNat) [(0 : Int)]) = q0 (k + 1) := by rw [q0_succ]; rfl
    refine ⟨⟨rfl, rfl, by rw [List.length_append, hl]; simp; omega⟩, ?_⟩
    conv => whnf
    refine next_round hk' (Weak.perm [1] ⟨⟨rfl, .bytes (congrArg List.length el) fun o _ => by rw [← el], trivial⟩, trivial⟩ ⟨freeF.wv trivial, WV.lf (WL.own rfl rfl rfl (congrArg List.length el)), trivial⟩ rfl (by simp) rfl (by simp))
  · refine CaseB.of_false (decide_eq_false (by rw [e1]; unfold zeros at *; omega)) ?_
    conv => whnf
    obtain rfl : k = zeros n := by omega
    refine LoopK.upTo 8 (fun j => [(0, vI n), (3, .s (.lf (.own 0 0 1 0 (qF n j).length))), (4, vI (56 - 8 * (j : Int)))]) (fun j => [some ⟨5, [.bytes (qF n j).length (qF n j)]⟩]) ?_ ?_
    · exact Weak.of ⟨rfl, ⟨.bytes (by rw [qF_zero]) fun o _ => by rw [qF_zero], trivial⟩, trivial⟩ (by simp) ⟨okF.wv trivial, WV.lf (WL.own rfl rfl rfl (by rw [qF_zero])), okF.wv trivial, trivial⟩
    intro j hj
    have hql := qF_length n j
    conv => whnf
    by_cases hj' : j < 8
    · refine CaseB.of_true (decide_eq_true (by omega)) ?_
      conv => whnf
      refine ⟨by omega, ?_⟩
      conv => whnf
      refine Or.inr ?_
      conv => whnf
      have ex : UInt8.ofNat (IntKind.u8.wrap (shrI IntKind.u64 (IntKind.u64.wrap (IntKind.i64.wrap (8 * (n : Int)))) (56 - 8 * (j : Int)))).toNat = lenByte n (7 - j) := by
        rw [show (56 - 8 * (j : Int)) = ((8 * (7 - j) : Nat) : Int) by omega, wrap_i64 (by omega) (by omega), wrap_u64, wrap_u8, lenByte]
        simp only [shrI, IntKind.bits, Int.toNat_natCast]
        rw [Nat.min_eq_left (by omega), show ((2 : Int) ^ (8 * (7 - j))) = ((256 ^ (7 - j) : Nat) : Int) by rw [Int.pow_mul]; simp, Int.fdiv_eq_ediv_of_nonneg _ (Int.natCast_nonneg _), show (8 * (n : Int)) % 18446744073709551616 = ((8 * n : Nat) : Int) by omega]
        apply UInt8.toNat_inj.1
        simp only [UInt8.toNat_ofNat']
        rw [← Int.natCast_ediv]
        omega
      have el : (qF n j ++ List.map (fun a => UInt8.ofNat a.toNat) [IntKind.u8.wrap (shrI IntKind.u64 (IntKind.u64.wrap (IntKind.i64.wrap (8 * (n : Int)))) (56 - 8 * (j : Int)))]) = qF n (j + 1) := by
        rw [qF_succ, List.map_cons, List.map_nil, ex]
      refine ⟨⟨rfl, rfl, by rw [el, qF_length]; omega⟩, ?_⟩
      conv => whnf
      refine next_round hj' (Weak.perm [1] ⟨⟨rfl, .bytes (congrArg List.length el) fun o _ => by rw [← el], trivial⟩, trivial⟩ ⟨freeF.wv trivial, WV.lf (WL.own rfl rfl rfl (congrArg List.length el)), WV.lf (WL.int (by rw [wrap_i64 (by omega) (by omega)]; omega)), trivial⟩ rfl (by simp) rfl (by simp))
    · refine CaseB.of_false (decide_eq_false (by omega)) ?_
      conv => whnf
      obtain rfl : j = 8 := by omega
      refine RetK.empty (WV.lf (WL.freezeB (p := []) (q := []) rfl rfl rfl (by omega) (by omega) ?_ ?_))
      · rw [List.drop_zero, List.take_length, qF_done]
      · exact ⟨fun h => h, fun i ob h => by simp at h⟩
end Go.Sym.Md

set_option linter.unusedVariables false
set_option linter.unusedSimpArgs false
set_option maxRecDepth 10000
namespace Go.Sym.Md
open Go Go.Sym Go.Sym.Sh

/-- The words behind k blocks of a text. -/
def cF (all : List UInt8) : Nat → List UInt32
  | 0 => H0w
  | k + 1 => blockF (cF all k) ((all.drop (64 * k)).take 64)

theorem cF_zero (all : List UInt8) : cF all 0 = H0w := rfl
theorem cF_succ (all : List UInt8) (k : Nat) : cF all (k + 1) = blockF (cF all k) ((all.drop (64 * k)).take 64) := rfl

theorem cF_length (all : List UInt8) (k : Nat) : (cF all k).length = 8 := by
  induction k with
  | zero => rfl
  | succ k ih => exact blockF_length _ _ ih

theorem cF_write (all : List UInt8) : ∀ (k : Nat), 64 * k ≤ all.length → (writeF st0 (all.take (64 * k))).h = cF all k
  | 0, _ => by simp [writeF, cF, st0]
  | k + 1, h => by
    have ih := cF_write all k (by omega)
    have hs := writeF_ok st0_ok (all.take (64 * k))
    have hn : (writeF st0 (all.take (64 * k))).n = 64 * k := by rw [writeF_n, List.length_take, Nat.min_eq_left (by omega)]; exact Nat.zero_add _
    have hb : ((all.drop (64 * k)).take 64).length = 64 := by rw [List.length_take, List.length_drop]; omega
    have e : all.take (64 * (k + 1)) = all.take (64 * k) ++ (all.drop (64 * k)).take 64 := by
      rw [show 64 * (k + 1) = 64 * k + 64 by omega, List.take_add]
    rw [e, writeF_append, writeF_piece _ _ hs.p (by omega) (by rw [hn, hb]; omega), cF, ← ih]
    simp only []
    rw [if_pos (by rw [hn, hb]; omega)]
    congr 1
    rw [hn, show 64 * k % 64 = 0 by omega, spl, hb, List.take_zero, List.nil_append, List.drop_of_length_le (i := 0 + 64) (by rw [hs.p]; omega), List.append_nil]

/-- A text with what stands behind it. -/
def wholeF (b : List UInt8) : List UInt8 := b ++ padF b.length

theorem wholeF_length (b : List UInt8) : (wholeF b).length = 64 * ((b.length + 72) / 64) := by
  rw [wholeF, List.length_append, padF_length]
  unfold zeros
  omega

theorem shaF_whole (b : List UInt8) : shaF b = toldF (cF (wholeF b) ((b.length + 72) / 64)) := by
  rw [shaF, sumF, writeF_n, show st0.n + b.length = b.length from Nat.zero_add _, ← writeF_append, ← cF_write _ _ (by rw [wholeF_length]; omega), List.take_of_length_le (by rw [wholeF_length]; omega), wholeF]

/-- The first m bytes of a sum. -/
def oF (h : List UInt32) (m : Nat) : List UInt8 := (List.range (4 * m)).map (Sh.byteOf h)
theorem oF_zero (h : List UInt32) : oF h 0 = [] := rfl
theorem oF_done (h : List UInt32) : oF h 8 = toldF h := rfl
theorem oF_length (h : List UInt32) (m : Nat) : (oF h m).length = 4 * m := by simp [oF]
theorem oF_succ (h : List UInt32) (m : Nat) : oF h (m + 1) = oF h m ++ [Sh.byteOf h (4 * m), Sh.byteOf h (4 * m + 1), Sh.byteOf h (4 * m + 2), Sh.byteOf h (4 * m + 3)] := by
  simp only [oF, show 4 * (m + 1) = 4 * m + 1 + 1 + 1 + 1 by omega, List.range_succ, List.map_append, List.append_assoc]
  rfl

theorem byteOf_at (h : List UInt32) (i j : Nat) (hj : j < 4) : Sh.byteOf h (4 * i + j) = ((h.getD i 0) >>> (UInt32.ofNat (24 - 8 * j))).toUInt8 := by
  rw [Sh.byteOf, show (4 * i + j) / 4 = i by omega, show (4 * i + j) % 4 = j by omega]

theorem four_bytes (h : List UInt32) (i : Nat) : List.map (fun a : Int => UInt8.ofNat a.toNat) [IntKind.u8.wrap (shrI IntKind.u32 ((Us h).getD (Int.toNat (i : Int)) 0) 24), IntKind.u8.wrap (shrI IntKind.u32 ((Us h).getD (Int.toNat (i : Int)) 0) 16), IntKind.u8.wrap (shrI IntKind.u32 ((Us h).getD (Int.toNat (i : Int)) 0) 8), IntKind.u8.wrap ((Us h).getD (Int.toNat (i : Int)) 0)]
    = [Sh.byteOf h (4 * i), Sh.byteOf h (4 * i + 1), Sh.byteOf h (4 * i + 2), Sh.byteOf h (4 * i + 3)] := by
  rw [Int.toNat_natCast, Us_getD]
  simp only [U, List.map_cons, List.map_nil]
  rw [u32_shr' _ 24 (m := 24) (by omega) rfl, u32_shr' _ 16 (m := 16) (by omega) rfl, u32_shr' _ 8 (m := 8) (by omega) rfl, u32_byte, u32_byte, u32_byte, u32_byte]
  rw [show 4 * i = 4 * i + 0 from rfl, byteOf_at h i 0 (by omega), show 4 * i + 0 = 4 * i from rfl, byteOf_at h i 1 (by omega), byteOf_at h i 2 (by omega), byteOf_at h i 3 (by omega)]
  simp

/-- The first j bytes of block k, zeros behind them. -/
def xF (w : List UInt8) (k j : Nat) : List UInt8 := (w.drop (64 * k)).take j ++ List.replicate (64 - j) 0

theorem xF_zero (w : List UInt8) (k : Nat) : xF w k 0 = List.replicate 64 0 := by simp [xF]
theorem xF_full (w : List UInt8) (k : Nat) : xF w k 64 = (w.drop (64 * k)).take 64 := by simp [xF]
theorem xF_length {w : List UInt8} {k j : Nat} (hj : j ≤ 64) (h : 64 * (k + 1) ≤ w.length) : (xF w k j).length = 64 := by simp [xF]; omega
theorem xF_set {w : List UInt8} {k j : Nat} (hj : j < 64) (h : 64 * (k + 1) ≤ w.length) : (xF w k j).set j (w.getD (64 * k + j) 0) = xF w k (j + 1) := by
  have hl : ((w.drop (64 * k)).take j).length = j := by simp; omega
  simp only [xF]
  rw [List.set_append_right _ _ (by omega), hl, Nat.sub_self, show 64 - j = (64 - (j + 1)) + 1 by omega, List.replicate_succ, List.set_cons_zero, List.take_add_one, List.getElem?_drop, List.getElem?_eq_getElem (by omega), List.getD_eq_getElem?_getD, List.getElem?_eq_getElem (by omega)]
  simp

attribute [local irreducible] xF ws acc rs addUp Kw highA highB Sh.choose most lowA lowB ror blockF writeF padF toldF shaF oF cF wholeF

/-- baileyref03.Sum -/
theorem c134 (b : List UInt8) (hb : b.length ≤ 1000000) : SCalls Proofs.Try.prog 134 [.s (.lf (.rob false false b))] [] (.s (.lf (.str (shaF b)))) [] := by
  have hz := zeros_lt b.length
  have hp := padF_length b.length
  have h27 := c190 b.length b.length (by omega) (by omega)
  have hw := wholeF_length b
  obtain ⟨y, r, hyr⟩ : ∃ y r, padF b.length = y :: r := by
    cases h : padF b.length with
    | nil => rw [h] at hp; simp at hp
    | cons y r => exact ⟨y, r, rfl⟩
  rw [hyr] at h27
  obtain ⟨R, hR⟩ : ∃ R, R = shaF b := ⟨_, rfl⟩
  obtain ⟨w, hw0⟩ : ∃ w, w = wholeF b := ⟨_, rfl⟩
  obtain ⟨N, hN⟩ : ∃ N, N = (b.length + 72) / 64 := ⟨_, rfl⟩
  have hs : R = toldF (cF w N) := by rw [hR, hw0, hN]; exact shaF_whole b
  have hwl : w.length = 64 * N := by rw [hw0, hN]; exact wholeF_length b
  have hN' : N ≤ 20000 := by omega
  rw [← hR]
  clear hR
  refine SCalls.intro tok Proofs.Try.func134 ?_
  conv => whnf
  rcases b with _ | ⟨x, b'⟩
  · conv => whnf
    refine CallK.mk' _ _ h27 ?_
    conv => whnf
    have ew : y :: r = w := by rw [hw0, wholeF]; exact hyr.symm
    refine ⟨by rw [ew, hwl]; omega, ?_⟩
    conv => whnf
    refine CallK.mk' _ _ (c191.free _ trivial ⟨trivial, trivial⟩) ?_
    conv => whnf
    refine LoopK.upTo N (fun k => [(3, .s (.lf (.own 0 0 1 0 w.length))), (4, .s (.lf (.ptr 1 0))), (5, vI (64 * (k : Int)))]) (fun k => [some ⟨5, [.bytes w.length w]⟩, some ⟨198, [.ints .u32 8 (Us (cF w k))]⟩]) ?_ ?_
    · exact Weak.of ⟨rfl, ⟨.bytes (congrArg List.length ew) fun o _ => by rw [ew], trivial⟩, rfl, ⟨.ints rfl fun _ _ => by rw [cF_zero], trivial⟩, trivial⟩ (by simp) ⟨WV.lf (WL.own rfl rfl rfl (congrArg List.length ew)), okF.wv rfl, okF.wv trivial, trivial⟩
    intro k hk
    conv => whnf
    by_cases hk' : k < N
    · refine CaseB.of_true (decide_eq_true (by omega)) ?_
      conv => whnf
      refine LoopK.upTo 64 (fun j => [(3, .s (.lf (.own 0 0 1 0 w.length))), (4, .s (.lf (.ptr 1 0))), (5, vI (64 * (k : Int))), (6, .s (.lf (.ptr 2 0))), (7, vI j)]) (fun j => [some ⟨5, [.bytes w.length w]⟩, some ⟨198, [.ints .u32 8 (Us (cF w k))]⟩, some ⟨199, [.bytes 64 (xF w k j)]⟩]) ?_ ?_
      · exact Weak.of ⟨rfl, ⟨.bytes rfl fun _ _ => rfl, trivial⟩, rfl, ⟨.ints rfl fun _ _ => rfl, trivial⟩, rfl, ⟨.bytes rfl fun _ _ => by rw [xF_zero], trivial⟩, trivial⟩ (by simp) ⟨okF.wv rfl, okF.wv rfl, okF.wv trivial, okF.wv rfl, okF.wv trivial, trivial⟩
      intro j hj
      conv => whnf
      by_cases hj' : j < 64
      · refine CaseB.of_true (decide_eq_true (by omega)) ?_
        conv => whnf
        have e1 : IntKind.i64.wrap (64 * (k : Int) + (j : Int)) = ((64 * k + j : Nat) : Int) := by rw [wrap_i64 (by omega) (by omega)]; omega
        refine ⟨by rw [e1]; omega, ?_⟩
        conv => whnf
        refine ⟨by omega, ?_⟩
        conv => whnf
        refine ⟨by omega, ?_⟩
        conv => whnf
        have hx : Int.toNat (j : Int) < (xF w k j).length := by rw [xF_length (by omega) (by omega)]; omega
        refine ⟨by omega, ?_⟩
        conv => whnf
        refine ⟨hx, ?_⟩
        conv => whnf
        refine next_round hj' (Weak.of ⟨rfl, ⟨.bytes rfl fun _ _ => rfl, trivial⟩, rfl, ⟨.ints rfl fun _ _ => rfl, trivial⟩, rfl, ⟨.bytes rfl fun o _ => ?_, trivial⟩, trivial⟩ (by simp) ⟨okF.wv rfl, okF.wv rfl, okF.wv trivial, okF.wv rfl, WV.lf (WL.int (by rw [wrap_i64 (by omega) (by omega)]; omega)), trivial⟩)
        rw [e1, ← xF_set hj' (by omega), Int.toNat_natCast, Int.toNat_natCast]
        congr 2
        rw [Int.toNat_natCast, Nat.zero_add]
        exact UInt8.ofNat_toNat
      · refine CaseB.of_false (decide_eq_false (by omega)) ?_
        conv => whnf
        obtain rfl : j = 64 := by omega
        have hx : (xF w k 64).length = 64 := xF_length (by omega) (by omega)
        refine CallK.mk' _ _ ((c192 (cF w k) (cF_length w k) (xF w k 64) hx).free _ ⟨⟨trivial, trivial⟩, ⟨trivial, trivial⟩, trivial⟩ ⟨trivial, trivial⟩) ?_
        conv => whnf
        refine next_round hk' (Weak.of ⟨rfl, ⟨.bytes rfl fun _ _ => rfl, trivial⟩, rfl, ⟨.ints rfl fun _ _ => by rw [cF_succ, xF_full], trivial⟩, trivial⟩ (by simp) ⟨okF.wv rfl, okF.wv rfl, WV.lf (WL.int (by rw [wrap_i64 (by omega) (by omega)]; omega)), trivial⟩)
    · refine CaseB.of_false (decide_eq_false (by omega)) ?_
      conv => whnf
      obtain rfl : k = N := by omega
      refine LoopK.mk2 (fun (i : Nat) (e : Bool) => match e with
          | true => [(4, .s (.lf (.ptr 0 0))), (8, .s (.lf .sl0)), (9, vI i)]
          | false => [(4, .s (.lf (.ptr 0 0))), (8, .s (.lf (.own 1 0 1 0 (oF (cF w k) i).length))), (9, vI i)])
        (fun i e => match e with
          | true => [some ⟨198, [.ints .u32 8 (Us (cF w k))]⟩]
          | false => [some ⟨198, [.ints .u32 8 (Us (cF w k))]⟩, some ⟨5, [.bytes (oF (cF w k) i).length (oF (cF w k) i)]⟩]) (fun i e => i ≤ 8 ∧ (e = true → i = 0)) (fun i e => 8 - i) 0 true ⟨by omega, fun _ => rfl⟩ ?_ ?_
      · exact Weak.perm [1] ⟨⟨rfl, .ints rfl fun _ _ => rfl, trivial⟩, trivial⟩ ⟨WV.lf (WL.ptr rfl rfl), freeF.wv trivial, freeF.wv trivial, trivial⟩ rfl (by simp) rfl (by simp)
      intro i e hi
      obtain ⟨hi, he⟩ := hi
      cases e with
      | true =>
        obtain rfl := he rfl
        conv => whnf
        refine CaseB.of_true (decide_eq_true (by omega)) ?_
        conv => whnf
        refine DrawK.mk1 tok mixed [0, 0, 2, 6, 14, 30, 0, 64, 192, 448, 960, 0, 2048, 6144, 14336, 30720, 0, 65536, 196608, 458752, 1048574, 2097151, 4194303] [(0, 0, []), (1, 0, []), (6, 0, []), (11, 0, []), (16, 0, []), (2, 1, [0]), (3, 1, [0]), (4, 0, []), (5, 0, []), (7, 1, [0]), (8, 1, [0]), (9, 0, []), (10, 0, []), (12, 1, [0]), (13, 1, [0]), (14, 0, []), (15, 0, []), (17, 1, [0]), (18, 1, [0]), (19, 0, []), (20, 2, []), (21, 2, []), (22, 0, [])] (by kernel_rfl) ?_
        conv => whnf
        refine ⟨by omega, ?_⟩
        conv => whnf
        repeat (refine ⟨by omega, ?_⟩; conv => whnf)
        refine Or.inr ?_
        conv => whnf
        have e4 : List.map (fun a : Int => UInt8.ofNat a.toNat) [IntKind.u8.wrap (shrI IntKind.u32 ((Us (cF w k)).getD (Int.toNat ((0 : Nat) : Int)) 0) 24), IntKind.u8.wrap (shrI IntKind.u32 ((Us (cF w k)).getD (Int.toNat ((0 : Nat) : Int)) 0) 16), IntKind.u8.wrap (shrI IntKind.u32 ((Us (cF w k)).getD (Int.toNat ((0 : Nat) : Int)) 0) 8), IntKind.u8.wrap ((Us (cF w k)).getD (Int.toNat ((0 : Nat) : Int)) 0)] = oF (cF w k) (0 + 1) := by rw [four_bytes, oF_succ, oF_zero]; rfl
        refine ⟨by simp, ?_⟩
        conv => whnf
        refine ⟨(0 + 1, false), ⟨by omega, fun h => by simp at h⟩, by show 8 - (0 + 1) < 8 - 0; omega, ?_⟩
        exact Weak.of ⟨rfl, ⟨.ints rfl fun _ _ => rfl, trivial⟩, rfl, ⟨.bytes (congrArg List.length e4) fun o _ => congrArg (fun l => List.getD l o 0) e4, trivial⟩, trivial⟩ (by simp) ⟨okF.wv rfl, WV.lf (WL.own rfl rfl rfl (congrArg List.length e4)), WV.lf (WL.int rfl), trivial⟩
      | false =>
        conv => whnf
        by_cases hi' : i < 8
        · refine CaseB.of_true (decide_eq_true (by omega)) ?_
          conv => whnf
          refine DrawK.mk1 tok mixed [0, 0, 2, 6, 14, 30, 0, 64, 192, 448, 960, 0, 2048, 6144, 14336, 30720, 0, 65536, 196608, 458752, 1048574, 2097151, 4194303] [(0, 0, []), (1, 0, []), (6, 0, []), (11, 0, []), (16, 0, []), (2, 1, [0]), (3, 1, [0]), (4, 0, []), (5, 0, []), (7, 1, [0]), (8, 1, [0]), (9, 0, []), (10, 0, []), (12, 1, [0]), (13, 1, [0]), (14, 0, []), (15, 0, []), (17, 1, [0]), (18, 1, [0]), (19, 0, []), (20, 2, []), (21, 2, []), (22, 0, [])] (by kernel_rfl) ?_
          conv => whnf
          repeat (refine ⟨by omega, ?_⟩; conv => whnf)
          refine Or.inr ?_
          conv => whnf
          have e4 : oF (cF w k) i ++ List.map (fun a : Int => UInt8.ofNat a.toNat) [IntKind.u8.wrap (shrI IntKind.u32 ((Us (cF w k)).getD (Int.toNat ((i : Nat) : Int)) 0) 24), IntKind.u8.wrap (shrI IntKind.u32 ((Us (cF w k)).getD (Int.toNat ((i : Nat) : Int)) 0) 16), IntKind.u8.wrap (shrI IntKind.u32 ((Us (cF w k)).getD (Int.toNat ((i : Nat) : Int)) 0) 8), IntKind.u8.wrap ((Us (cF w k)).getD (Int.toNat ((i : Nat) : Int)) 0)] = oF (cF w k) (i + 1) := by rw [four_bytes, oF_succ]
          refine ⟨⟨rfl, rfl, by rw [e4, oF_length]; omega⟩, ?_⟩
          conv => whnf
          refine ⟨(i + 1, false), ⟨by omega, fun h => by simp at h⟩, by show 8 - (i + 1) < 8 - i; omega, ?_⟩
          exact Weak.perm [0, 2] ⟨⟨rfl, .ints rfl fun _ _ => rfl, trivial⟩, ⟨rfl, .bytes (congrArg List.length e4) fun o _ => congrArg (fun l => List.getD l o 0) e4, trivial⟩, trivial⟩ ⟨WV.lf (WL.ptr rfl rfl), WV.lf (WL.own rfl rfl rfl (congrArg List.length e4)), WV.lf (WL.int (by rw [wrap_i64 (by omega) (by omega)]; omega)), trivial⟩ rfl (by simp) rfl (by simp)
        · refine CaseB.of_false (decide_eq_false (by omega)) ?_
          conv => whnf
          refine ⟨⟨by omega, by omega⟩, ?_⟩
          conv => whnf
          obtain rfl : i = 8 := by omega
          refine RetK.empty (WV.lf (WL.str ?_))
          rw [List.drop_zero, List.take_length, oF_done, hs]
  · conv => whnf
    have ew : (x :: b') ++ (y :: r) = w := by rw [hw0, wholeF, hyr]
    refine ⟨by omega, ?_⟩
    conv => whnf
    refine CallK.mk' _ _ (h27.free _ ⟨trivial, trivial⟩ trivial) ?_
    conv => whnf
    refine ⟨⟨rfl, rfl, by rw [ew, hwl]; omega⟩, ?_⟩
    conv => whnf
    refine CallK.mk' _ _ (c191.free _ trivial ⟨trivial, trivial⟩) ?_
    conv => whnf
    refine LoopK.upTo N (fun k => [(3, .s (.lf (.own 0 0 1 0 w.length))), (4, .s (.lf (.ptr 1 0))), (5, vI (64 * (k : Int)))]) (fun k => [some ⟨5, [.bytes w.length w]⟩, some ⟨198, [.ints .u32 8 (Us (cF w k))]⟩]) ?_ ?_
    · exact Weak.perm [1, 2] ⟨⟨rfl, .bytes (congrArg List.length ew) fun o _ => by rw [ew], trivial⟩, ⟨rfl, .ints rfl fun _ _ => by rw [cF_zero], trivial⟩, trivial⟩ ⟨WV.lf (WL.own rfl rfl rfl (congrArg List.length ew)), WV.lf (WL.ptr rfl rfl), freeF.wv trivial, trivial⟩ rfl (by simp) rfl (by simp)
    intro k hk
    conv => whnf
    by_cases hk' : k < N
    · refine CaseB.of_true (decide_eq_true (by omega)) ?_
      conv => whnf
      refine LoopK.upTo 64 (fun j => [(3, .s (.lf (.own 0 0 1 0 w.length))), (4, .s (.lf (.ptr 1 0))), (5, vI (64 * (k : Int))), (6, .s (.lf (.ptr 2 0))), (7, vI j)]) (fun j => [some ⟨5, [.bytes w.length w]⟩, some ⟨198, [.ints .u32 8 (Us (cF w k))]⟩, some ⟨199, [.bytes 64 (xF w k j)]⟩]) ?_ ?_
      · exact Weak.of ⟨rfl, ⟨.bytes rfl fun _ _ => rfl, trivial⟩, rfl, ⟨.ints rfl fun _ _ => rfl, trivial⟩, rfl, ⟨.bytes rfl fun _ _ => by rw [xF_zero], trivial⟩, trivial⟩ (by simp) ⟨okF.wv rfl, okF.wv rfl, okF.wv trivial, okF.wv rfl, okF.wv trivial, trivial⟩
      intro j hj
      conv => whnf
      by_cases hj' : j < 64
      · refine CaseB.of_true (decide_eq_true (by omega)) ?_
        conv => whnf
        have e1 : IntKind.i64.wrap (64 * (k : Int) + (j : Int)) = ((64 * k + j : Nat) : Int) := by rw [wrap_i64 (by omega) (by omega)]; omega
        refine ⟨by rw [e1]; omega, ?_⟩
        conv => whnf
        refine ⟨by omega, ?_⟩
        conv => whnf
        refine ⟨by omega, ?_⟩
        conv => whnf
        have hx : Int.toNat (j : Int) < (xF w k j).length := by rw [xF_length (by omega) (by omega)]; omega
        refine ⟨by omega, ?_⟩
        conv => whnf
        refine ⟨hx, ?_⟩
        conv => whnf
        refine next_round hj' (Weak.of ⟨rfl, ⟨.bytes rfl fun _ _ => rfl, trivial⟩, rfl, ⟨.ints rfl fun _ _ => rfl, trivial⟩, rfl, ⟨.bytes rfl fun o _ => ?_, trivial⟩, trivial⟩ (by simp) ⟨okF.wv rfl, okF.wv rfl, okF.wv trivial, okF.wv rfl, WV.lf (WL.int (by rw [wrap_i64 (by omega) (by omega)]; omega)), trivial⟩)
        rw [e1, ← xF_set hj' (by omega), Int.toNat_natCast, Int.toNat_natCast]
        congr 2
        rw [Int.toNat_natCast, Nat.zero_add]
        exact UInt8.ofNat_toNat
      · refine CaseB.of_false (decide_eq_false (by omega)) ?_
        conv => whnf
        obtain rfl : j = 64 := by omega
        have hx : (xF w k 64).length = 64 := xF_length (by omega) (by omega)
        refine CallK.mk' _ _ ((c192 (cF w k) (cF_length w k) (xF w k 64) hx).free _ ⟨⟨trivial, trivial⟩, ⟨trivial, trivial⟩, trivial⟩ ⟨trivial, trivial⟩) ?_
        conv => whnf
        refine next_round hk' (Weak.of ⟨rfl, ⟨.bytes rfl fun _ _ => rfl, trivial⟩, rfl, ⟨.ints rfl fun _ _ => by rw [cF_succ, xF_full], trivial⟩, trivial⟩ (by simp) ⟨okF.wv rfl, okF.wv rfl, WV.lf (WL.int (by rw [wrap_i64 (by omega) (by omega)]; omega)), trivial⟩)
    · refine CaseB.of_false (decide_eq_false (by omega)) ?_
      conv => whnf
      obtain rfl : k = N := by omega
      refine LoopK.mk2 (fun (i : Nat) (e : Bool) => match e with
          | true => [(4, .s (.lf (.ptr 0 0))), (8, .s (.lf .sl0)), (9, vI i)]
          | false => [(4, .s (.lf (.ptr 0 0))), (8, .s (.lf (.own 1 0 1 0 (oF (cF w k) i).length))), (9, vI i)])
        (fun i e => match e with
          | true => [some ⟨198, [.ints .u32 8 (Us (cF w k))]⟩]
          | false => [some ⟨198, [.ints .u32 8 (Us (cF w k))]⟩, some ⟨5, [.bytes (oF (cF w k) i).length (oF (cF w k) i)]⟩]) (fun i e => i ≤ 8 ∧ (e = true → i = 0)) (fun i e => 8 - i) 0 true ⟨by omega, fun _ => rfl⟩ ?_ ?_
      · exact Weak.perm [1] ⟨⟨rfl, .ints rfl fun _ _ => rfl, trivial⟩, trivial⟩ ⟨WV.lf (WL.ptr rfl rfl), freeF.wv trivial, freeF.wv trivial, trivial⟩ rfl (by simp) rfl (by simp)
      intro i e hi
      obtain ⟨hi, he⟩ := hi
      cases e with
      | true =>
        obtain rfl := he rfl
        conv => whnf
        refine CaseB.of_true (decide_eq_true (by omega)) ?_
        conv => whnf
        refine DrawK.mk1 tok mixed [0, 0, 2, 6, 14, 30, 0, 64, 192, 448, 960, 0, 2048, 6144, 14336, 30720, 0, 65536, 196608, 458752, 1048574, 2097151, 4194303] [(0, 0, []), (1, 0, []), (6, 0, []), (11, 0, []), (16, 0, []), (2, 1, [0]), (3, 1, [0]), (4, 0, []), (5, 0, []), (7, 1, [0]), (8, 1, [0]), (9, 0, []), (10, 0, []), (12, 1, [0]), (13, 1, [0]), (14, 0, []), (15, 0, []), (17, 1, [0]), (18, 1, [0]), (19, 0, []), (20, 2, []), (21, 2, []), (22, 0, [])] (by kernel_rfl) ?_
        conv => whnf
        refine ⟨by omega, ?_⟩
        conv => whnf
        repeat (refine ⟨by omega, ?_⟩; conv => whnf)
        refine Or.inr ?_
        conv => whnf
        have e4 : List.map (fun a : Int => UInt8.ofNat a.toNat) [IntKind.u8.wrap (shrI IntKind.u32 ((Us (cF w k)).getD (Int.toNat ((0 : Nat) : Int)) 0) 24), IntKind.u8.wrap (shrI IntKind.u32 ((Us (cF w k)).getD (Int.toNat ((0 : Nat) : Int)) 0) 16), IntKind.u8.wrap (shrI IntKind.u32 ((Us (cF w k)).getD (Int.toNat ((0 : Nat) : Int)) 0) 8), IntKind.u8.wrap ((Us (cF w k)).getD (Int.toNat ((0 : Nat) : Int)) 0)] = oF (cF w k) (0 + 1) := by rw [four_bytes, oF_succ, oF_zero]; rfl
        refine ⟨by simp, ?_⟩
        conv => whnf
        refine ⟨(0 + 1, false), ⟨by omega, fun h => by simp at h⟩, by show 8 - (0 + 1) < 8 - 0; omega, ?_⟩
        exact Weak.of ⟨rfl, ⟨.ints rfl fun _ _ => rfl, trivial⟩, rfl, ⟨.bytes (congrArg List.length e4) fun o _ => congrArg (fun l => List.getD l o 0) e4, trivial⟩, trivial⟩ (by simp) ⟨okF.wv rfl, WV.lf (WL.own rfl rfl rfl (congrArg List.length e4)), WV.lf (WL.int rfl), trivial⟩
      | false =>
        conv => whnf
        by_cases hi' : i < 8
        · refine CaseB.of_true (decide_eq_true (by omega)) ?_
          conv => whnf
          refine DrawK.mk1 tok mixed [0, 0, 2, 6, 14, 30, 0, 64, 192, 448, 960, 0, 2048, 6144, 14336, 30720, 0, 65536, 196608, 458752, 1048574, 2097151, 4194303] [(0, 0, []), (1, 0, []), (6, 0, []), (11, 0, []), (16, 0, []), (2, 1, [0]), (3, 1, [0]), (4, 0, []), (5, 0, []), (7, 1, [0]), (8, 1, [0]), (9, 0, []), (10, 0, []), (12, 1, [0]), (13, 1, [0]), (14, 0, []), (15, 0, []), (17, 1, [0]), (18, 1, [0]), (19, 0, []), (20, 2, []), (21, 2, []), (22, 0, [])] (by kernel_rfl) ?_
          conv => whnf
          repeat (refine ⟨by omega, ?_⟩; conv => whnf)
          refine Or.inr ?_
          conv => whnf
          have e4 : oF (cF w k) i ++ List.map (fun a : Int => UInt8.ofNat a.toNat) [IntKind.u8.wrap (shrI IntKind.u32 ((Us (cF w k)).getD (Int.toNat ((i : Nat) : Int)) 0) 24), IntKind.u8.wrap (shrI IntKind.u32 ((Us (cF w k)).getD (Int.toNat ((i : Nat) : Int)) 0) 16), IntKind.u8.wrap (shrI IntKind.u32 ((Us (cF w k)).getD (Int.toNat ((i : Nat) : Int)) 0) 8), IntKind.u8.wrap ((Us (cF w k)).getD (Int.toNat ((i : Nat) : Int)) 0)] = oF (cF w k) (i + 1) := by rw [four_bytes, oF_succ]
          refine ⟨⟨rfl, rfl, by rw [e4, oF_length]; omega⟩, ?_⟩
          conv => whnf
          refine ⟨(i + 1, false), ⟨by omega, fun h => by simp at h⟩, by show 8 - (i + 1) < 8 - i; omega, ?_⟩
          exact Weak.perm [0, 2] ⟨⟨rfl, .ints rfl fun _ _ => rfl, trivial⟩, ⟨rfl, .bytes (congrArg List.length e4) fun o _ => congrArg (fun l => List.getD l o 0) e4, trivial⟩, trivial⟩ ⟨WV.lf (WL.ptr rfl rfl), WV.lf (WL.own rfl rfl rfl (congrArg List.length e4)), WV.lf (WL.int (by rw [wrap_i64 (by omega) (by omega)]; omega)), trivial⟩ rfl (by simp) rfl (by simp)
        · refine CaseB.of_false (decide_eq_false (by omega)) ?_
          conv => whnf
          refine ⟨⟨by omega, by omega⟩, ?_⟩
          conv => whnf
          obtain rfl : i = 8 := by omega
          refine RetK.empty (WV.lf (WL.str ?_))
          rw [List.drop_zero, List.take_length, oF_done, hs]
end Go.Sym.Md

