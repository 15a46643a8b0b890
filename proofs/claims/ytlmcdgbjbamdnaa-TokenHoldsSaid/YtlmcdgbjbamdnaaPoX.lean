/- Contracts of the program's functions, proved by the framework (text PoX), without conditions but those that each theorem states. -/
import Derived.Test.YtlmcdgbjbamdnaaMdPQ
import Derived.Test.YtlmcdgbjbamdnaaFw6
import Derived.Test.YtlmcdgbjbamdnaaShST
import Derived.Test.YtlmcdgbjbamdnaaFw7
set_option maxRecDepth 10000
set_option linter.unusedVariables false
set_option linter.unusedSimpArgs false
namespace Go.Sym.Md
open Go Go.Sym

theorem turn_amount : ∀ n : Nat, n < 32 → 0 < n → bitsI .and .u64 (IntKind.u64.wrap (-(n : Int))) 31 = ((32 - n : Nat) : Int) ∧ IntKind.u64.wrap (32 - ((32 - n : Nat) : Int)) = (n : Int) := by decide

/-- math/bits.RotateLeft32, as it is called here. -/
theorem c243 (x : UInt32) (n : Nat) (h0 : 0 < n) (h : n < 32) : SCalls Proofs.Try.prog 243 [vU x, vI (-(n : Int))] [] (vU (ror x n)) [] := by
  refine SCalls.intro tok Proofs.Try.func243 ?_
  conv => whnf
  obtain ⟨k1, k2⟩ := turn_amount n h h0
  rw [k1]
  refine ⟨by omega, ?_⟩
  conv => whnf
  rw [k2]
  refine ⟨by omega, ?_⟩
  conv => whnf
  refine RetK.empty (WV.lf (WL.int ?_))
  rw [u32_shl _ _ (by omega), u32_shr _ _ h, u32_or, UInt32.or_comm]; rfl

/-- baileyref03.r -/
theorem c217 (x : UInt32) (n : Nat) (h0 : 0 < n) (h : n < 32) : SCalls Proofs.Try.prog 217 [vU x, vI n] [] (vU (ror x n)) [] := by
  refine SCalls.intro tok Proofs.Try.func217 ?_
  conv => whnf
  refine DrawK.mk1 tok mixed [0, 0, 3, 0, 0, 16, 56, 127, 255] [(0, 0, []), (1, 0, []), (2, 0, []), (3, 0, []), (4, 0, []), (5, 0, []), (6, 0, []), (7, 0, []), (8, 0, [])] (by kernel_rfl) ?_
  conv => whnf
  refine ⟨by omega, ?_⟩
  conv => whnf
  have k : IntKind.i64.wrap (32 - (n : Int)) = ((32 - n : Nat) : Int) := by rw [wrap_i64 (by omega) (by omega)]; omega
  rw [k]
  refine ⟨by omega, ?_⟩
  conv => whnf
  refine RetK.empty (WV.lf (WL.int ?_))
  rw [u32_shl _ _ (by omega), u32_shr _ _ h, u32_or]; rfl

/-- sha.right -/
theorem c238 (x : UInt32) (n : Nat) (h0 : 0 < n) (h : n < 32) : SCalls Proofs.Try.prog 238 [vU x, vI n] [] (vU (ror x n)) [] := by
  refine SCalls.intro tok Proofs.Try.func238 ?_
  conv => whnf
  rw [show IntKind.i64.wrap (0 - (n : Int)) = -(n : Int) by rw [wrap_i64 (by omega) (by omega)]; omega]
  refine CallK.mk' _ [] (c243 x n h0 h) ?_
  conv => whnf
  exact RetK.empty (freeF.wv trivial)

end Go.Sym.Md

set_option maxRecDepth 10000
set_option linter.unusedVariables false
set_option linter.unusedSimpArgs false
namespace Go.Sym.Md
open Go Go.Sym Go.Sym.Sh

theorem u32_shr' (x : UInt32) (n : Nat) (h : n < 32) {m : Int} (e : m = (n : Int)) : shrI .u32 (x.toNat : Int) m = ((x >>> (UInt32.ofNat n)).toNat : Int) := by subst e; exact u32_shr x n h

/-- sha.lowA -/
theorem c237 (x : UInt32) : SCalls Proofs.Try.prog 237 [vU x] [] (vU (lowA x)) [] := by
  refine SCalls.intro tok Proofs.Try.func237 ?_
  conv => whnf
  refine CallK.mk' _ [] (c238 x 7 (by omega) (by omega)) ?_
  conv => whnf
  refine CallK.mk' _ [] (c238 x 18 (by omega) (by omega)) ?_
  conv => whnf
  refine ⟨by omega, ?_⟩
  conv => whnf
  refine RetK.empty (WV.lf (WL.int ?_))
  rw [u32_xor, u32_shr' x 3 (m := 3) (by omega) rfl, u32_xor]; rfl

/-- sha.lowB -/
theorem c236 (x : UInt32) : SCalls Proofs.Try.prog 236 [vU x] [] (vU (lowB x)) [] := by
  refine SCalls.intro tok Proofs.Try.func236 ?_
  conv => whnf
  refine CallK.mk' _ [] (c238 x 17 (by omega) (by omega)) ?_
  conv => whnf
  refine CallK.mk' _ [] (c238 x 19 (by omega) (by omega)) ?_
  conv => whnf
  refine ⟨by omega, ?_⟩
  conv => whnf
  refine RetK.empty (WV.lf (WL.int ?_))
  rw [u32_xor, u32_shr' x 10 (m := 10) (by omega) rfl, u32_xor]; rfl

/-- sha.highA -/
theorem c229 (x : UInt32) : SCalls Proofs.Try.prog 229 [vU x] [] (vU (highA x)) [] := by
  refine SCalls.intro tok Proofs.Try.func229 ?_
  conv => whnf
  refine CallK.mk' _ [] (c238 x 2 (by omega) (by omega)) ?_
  conv => whnf
  refine CallK.mk' _ [] (c238 x 13 (by omega) (by omega)) ?_
  conv => whnf
  refine CallK.mk' _ [] (c238 x 22 (by omega) (by omega)) ?_
  conv => whnf
  refine RetK.empty (WV.lf (WL.int ?_))
  rw [u32_xor, u32_xor]; rfl

/-- sha.highB -/
theorem c227 (x : UInt32) : SCalls Proofs.Try.prog 227 [vU x] [] (vU (highB x)) [] := by
  refine SCalls.intro tok Proofs.Try.func227 ?_
  conv => whnf
  refine CallK.mk' _ [] (c238 x 6 (by omega) (by omega)) ?_
  conv => whnf
  refine CallK.mk' _ [] (c238 x 11 (by omega) (by omega)) ?_
  conv => whnf
  refine CallK.mk' _ [] (c238 x 25 (by omega) (by omega)) ?_
  conv => whnf
  refine RetK.empty (WV.lf (WL.int ?_))
  rw [u32_xor, u32_xor]; rfl

/-- sha.choose -/
theorem c228 (x y z : UInt32) : SCalls Proofs.Try.prog 228 [vU x, vU y, vU z] [] (vU (Sh.choose x y z)) [] := by
  refine SCalls.intro tok Proofs.Try.func228 ?_
  conv => whnf
  refine RetK.empty (WV.lf (WL.int ?_))
  rw [u32_xor, u32_and, u32_xor]; rfl

/-- sha.most -/
theorem c230 (x y z : UInt32) : SCalls Proofs.Try.prog 230 [vU x, vU y, vU z] [] (vU (most x y z)) [] := by
  refine SCalls.intro tok Proofs.Try.func230 ?_
  conv => whnf
  refine RetK.empty (WV.lf (WL.int ?_))
  rw [u32_or, u32_and, u32_and, u32_or]; rfl

/-- The constants of the rounds. -/
abbrev vKw : FV := .s (.agg [.ints .u32 64 (Us Kw)])
/-- Eight words. -/
abbrev vH (h : List UInt32) : FV := .s (.agg [.ints .u32 8 (Us h)])
abbrev vBlk (b : List UInt8) : FV := .s (.agg [.bytes 64 b])

theorem wv_ints {D : Rel} {k : IntKind} {n : Nat} {xs ys : List Int} (h : xs = ys) : WV D (.s (.agg [.ints k n xs])) (.s (.agg [.ints k n ys])) := by
  subst h; exact WV.agg ⟨.ints rfl fun _ _ => rfl, trivial⟩

theorem c226 : SCalls Proofs.Try.prog 226 [] [] vKw [] := by
  refine SCalls.intro tok Proofs.Try.func226 ?_
  conv => whnf
  exact RetK.empty (wv_ints (by decide))

theorem c216 : SCalls Proofs.Try.prog 216 [] [] vKw [] := by
  refine SCalls.intro tok Proofs.Try.func216 ?_
  conv => whnf
  exact RetK.empty (wv_ints (by decide))

theorem c213 : SCalls Proofs.Try.prog 213 [] [] (vH H0w) [] := by
  refine SCalls.intro tok Proofs.Try.func213 ?_
  conv => whnf
  exact RetK.empty (wv_ints (by decide))

theorem c191 : SCalls Proofs.Try.prog 191 [] [] (vH H0w) [] := by
  refine SCalls.intro tok Proofs.Try.func191 ?_
  conv => whnf
  exact RetK.empty (wv_ints (by decide))

end Go.Sym.Md

set_option maxRecDepth 10000
set_option linter.unusedVariables false
namespace Go.Sym.Md
open Go Go.Sym Go.Sym.Sh
theorem u32_shl' (x : UInt32) (n : Nat) (h : n < 32) {m : Int} (e : m = (n : Int)) : shlI .u32 (x.toNat : Int) m = ((x <<< (UInt32.ofNat n)).toNat : Int) := by subst e; exact u32_shl x n h
theorem byte_u32 (x : UInt8) : IntKind.u32.wrap (x.toNat : Int) = (x.toUInt32.toNat : Int) := by
  have := x.toNat_lt
  rw [wrap_u32, UInt8.toNat_toUInt32]; omega

/-- sha.schedule -/
theorem c225 (bs : List UInt8) (hb : bs.length = 64) : SCalls Proofs.Try.prog 225 [.s (.lf (.ptr 0 0))] [some ⟨199, [.bytes 64 bs]⟩] (.s (.agg [.ints .u32 64 (Us (ws bs 64))])) [some ⟨199, [.bytes 64 bs]⟩] := by
  refine SCalls.intro tok Proofs.Try.func225 ?_
  conv => whnf
  refine LoopK.upTo 64 (fun k => [(0, .s (.lf (.ptr 0 0))), (2, .s (.lf (.ptr 1 0))), (3, .s (.lf (.ptr 2 0))), (7, vI k)])
    (fun k => [some ⟨199, [.bytes 64 bs]⟩, some ⟨223, [.ints .u32 64 (Us (ws bs 0))]⟩, some ⟨223, [.ints .u32 64 (Us (ws bs k))]⟩]) ?_ ?_
  · refine Weak.of ⟨rfl, okGs.ws (by exact ⟨trivial, trivial⟩), rfl, ?_, rfl, ?_, trivial⟩ (by simp) ?_
    · exact ⟨.ints rfl fun _ _ => rfl, trivial⟩
    · exact ⟨.ints rfl fun _ _ => rfl, trivial⟩
    · exact ⟨okF.wv rfl, okF.wv rfl, okF.wv rfl, okF.wv trivial, trivial⟩
  · intro k hk
    conv => whnf
    by_cases hk' : k < 64
    · refine CaseB.of_true (by simp; omega) ?_
      conv => whnf
      by_cases h16 : k < 16
      · refine CaseB.of_true (by simp; omega) ?_
        conv => whnf
        have e1 : IntKind.i64.wrap (4 * (k : Int)) = ((4 * k : Nat) : Int) := by rw [wrap_i64 (by omega) (by omega)]; omega
        rw [e1]
        have e2 : IntKind.i64.wrap (((4 * k : Nat) : Int) + 4) = ((4 * k + 4 : Nat) : Int) := by rw [wrap_i64 (by omega) (by omega)]; omega
        rw [e2]
        refine ⟨⟨by omega, by simp [maxLen]⟩, ?_⟩
        conv => whnf
        refine LoopK.upTo 4 (fun j => [(0, .s (.lf (.ptr 0 0))), (2, .s (.lf (.ptr 1 0))), (3, .s (.lf (.ptr 2 0))), (7, vI k), (4, vI k), (19, .s (.lf (.own 0 0 1 (4 * k) 4))), (20, vI 4), (21, vI j)])
          (fun j => [some ⟨199, [.bytes 64 bs]⟩, some ⟨223, [.ints .u32 64 (Us (ws bs 0))]⟩, some ⟨223, [.ints .u32 64 (Us ((ws bs k).set k (acc bs k j)))]⟩]) ?_ ?_
        · refine Weak.of ⟨rfl, okGs.ws (by exact ⟨trivial, trivial⟩), rfl, ⟨.ints rfl fun _ _ => rfl, trivial⟩, rfl, ⟨.ints rfl fun i hi => ?_, trivial⟩, trivial⟩ (by simp) ?_
          · have h0 := ws_zero bs k k (Nat.le_refl _)
            rw [Us_getD, Us_getD]
            congr 1
            simp only [List.getD_eq_getElem?_getD, List.getElem?_set] at h0 ⊢
            split
            · rename_i e; subst e; simp only [h0]; rw [if_pos (by rw [ws_length]; exact hk')]; rfl
            · rfl
          · exact ⟨okF.wv rfl, okF.wv rfl, okF.wv rfl, okF.wv trivial, okF.wv trivial, WV.lf (WL.own rfl rfl (by omega) (by omega)), WV.lf (WL.int (by omega)), okF.wv trivial, trivial⟩
        · intro j hj
          conv => whnf
          by_cases hj' : j < 4
          · refine CaseB.of_true (by simp; omega) ?_
            conv => whnf
            refine ⟨by omega, ?_⟩
            conv => whnf
            refine ⟨by omega, ?_⟩
            conv => whnf
            refine ⟨by omega, ?_⟩
            conv => whnf
            refine ⟨by omega, ?_⟩
            conv => whnf
            refine ⟨by omega, ?_⟩
            conv => whnf
            refine ⟨by omega, ?_⟩
            conv => whnf
            refine ⟨by omega, ?_⟩
            conv => whnf
            have hlen : (Int.toNat (k : Int)) < (Us ((ws bs k).set k (acc bs k j))).length := by rw [Us_length, List.length_set, ws_length]; omega
            refine ⟨hlen, ?_⟩
            conv => whnf
            refine next_round hj' (Weak.of ⟨rfl, okGs.ws (by exact ⟨trivial, trivial⟩), rfl, ⟨.ints rfl fun _ _ => rfl, trivial⟩, rfl, ⟨.ints rfl fun i hi => ?_, trivial⟩, trivial⟩ (by simp) ?_)
            · rw [Int.toNat_natCast, Int.toNat_natCast, Us_getD, show ((ws bs k).set k (acc bs k j)).getD k 0 = acc bs k j by
                rw [List.getD_eq_getElem?_getD, List.getElem?_set_self (by rw [ws_length]; exact hk')]; rfl]
              simp only [U]
              rw [u32_shl' _ 8 (m := 8) (by omega) rfl, byte_u32, u32_or, Us_set', List.set_set]
              rfl
            · exact ⟨okF.wv rfl, okF.wv rfl, okF.wv rfl, okF.wv trivial, okF.wv trivial, okF.wv rfl, okF.wv trivial, WV.lf (WL.int (by rw [wrap_i64 (by omega) (by omega)]; omega)), trivial⟩
          · refine CaseB.of_false (by simp; omega) ?_
            conv => whnf
            obtain rfl : j = 4 := by omega
            refine next_round hk' (Weak.of ⟨rfl, okGs.ws (by exact ⟨trivial, trivial⟩), rfl, ⟨.ints rfl fun _ _ => rfl, trivial⟩, rfl, ⟨.ints rfl fun i hi => ?_, trivial⟩, trivial⟩ (by simp) ?_)
            · simp only [ws, h16, if_true]
            · exact ⟨okF.wv rfl, okF.wv rfl, okF.wv rfl, WV.lf (WL.int (by rw [wrap_i64 (by omega) (by omega)]; omega)), trivial⟩
      · refine CaseB.of_false (by simp; omega) ?_
        conv => whnf
        refine DrawK.mk1 tok mixed [0, 0, 2, 6, 14, 30, 0, 64, 192, 448, 1022, 0, 2048, 6144, 14336, 30782, 65534, 0, 131072, 393216, 917504, 2097150, 4194303, 8388607] [(0, 0, []), (1, 0, []), (2, 0, []), (6, 0, []), (7, 0, []), (11, 0, []), (12, 0, []), (17, 0, []), (18, 0, []), (3, 1, [0]), (4, 1, [0]), (5, 1, [0]), (8, 1, [0]), (9, 1, [0]), (10, 0, []), (13, 1, [0]), (14, 1, [0]), (15, 1, [0]), (16, 0, []), (19, 1, [0]), (20, 1, [0]), (21, 0, []), (22, 1, [0]), (23, 2, [])] (by kernel_rfl) ?_
        conv => whnf
        have d : ∀ m : Nat, m ≤ 16 → IntKind.i64.wrap ((k : Int) - (m : Int)) = ((k - m : Nat) : Int) := fun m hm => by rw [wrap_i64 (by omega) (by omega)]; omega
        rw [show IntKind.i64.wrap ((k : Int) - 2) = _ from d 2 (by omega)]
        refine ⟨by omega, ?_⟩
        conv => whnf
        rw [Int.toNat_natCast]
        refine ⟨by omega, ?_⟩
        conv => whnf
        rw [Us_getD]
        refine CallR.mk' _ ((c236 _).free _ ⟨trivial, trivial⟩ trivial) ?_
        conv => whnf
        rw [show IntKind.i64.wrap ((k : Int) - 7) = _ from d 7 (by omega)]
        refine ⟨by omega, ?_⟩
        conv => whnf
        rw [Int.toNat_natCast]
        refine ⟨by omega, ?_⟩
        conv => whnf
        rw [show IntKind.i64.wrap ((k : Int) - 15) = _ from d 15 (by omega)]
        refine ⟨by omega, ?_⟩
        conv => whnf
        rw [Int.toNat_natCast]
        refine ⟨by omega, ?_⟩
        conv => whnf
        rw [Us_getD _ (k - 15)]
        refine CallR.mk' _ ((c237 _).free _ ⟨trivial, trivial⟩ trivial) ?_
        conv => whnf
        rw [show IntKind.i64.wrap ((k : Int) - 16) = _ from d 16 (by omega)]
        refine ⟨by omega, ?_⟩
        conv => whnf
        rw [Int.toNat_natCast]
        refine ⟨by omega, ?_⟩
        conv => whnf
        refine ⟨by omega, ?_⟩
        conv => whnf
        rw [Int.toNat_natCast]
        refine ⟨by omega, ?_⟩
        conv => whnf
        refine ⟨by rw [Us_length, ws_length]; exact hk', ?_⟩
        conv => whnf
        refine next_round hk' (Weak.of ⟨rfl, okGs.ws (by exact ⟨trivial, trivial⟩), rfl, ⟨.ints rfl fun _ _ => rfl, trivial⟩, rfl, ⟨.ints rfl fun i hi => ?_, trivial⟩, trivial⟩ (by simp) ?_)
        · rw [Us_getD _ (k - 7), Us_getD _ (k - 16)]
          simp only [U]
          rw [u32_add, u32_add, u32_add, Us_set']
          simp only [ws, h16, if_false]
        · exact ⟨okF.wv rfl, okF.wv rfl, okF.wv rfl, WV.lf (WL.int (by rw [wrap_i64 (by omega) (by omega)]; omega)), trivial⟩
    · refine CaseB.of_false (by simp; omega) ?_
      conv => whnf
      obtain rfl : k = 64 := by omega
      exact RetK.of ⟨rfl, okGs.ws (by exact ⟨trivial, trivial⟩), trivial⟩ (by simp) (okF.wv ⟨trivial, trivial⟩)
end Go.Sym.Md

set_option maxRecDepth 10000
set_option linter.unusedVariables false
set_option linter.unusedSimpArgs false
namespace Go.Sym.Md
open Go Go.Sym Go.Sym.Sh
attribute [local irreducible] ws acc

/-- baileyref03.words -/
theorem c215 (bs : List UInt8) (hb : bs.length = 64) : SCalls Proofs.Try.prog 215 [vBlk bs] [] (.s (.agg [.ints .u32 64 (Us (ws bs 64))])) [] := by
  refine SCalls.intro tok Proofs.Try.func215 ?_
  conv => whnf
  refine LoopK.upTo 64 (fun k => [(1, .s (.lf (.ptr 0 0))), (2, .s (.lf (.ptr 1 0))), (3, .s (.lf (.ptr 2 0))), (4, vI k)])
    (fun k => [some ⟨199, [.bytes 64 bs]⟩, some ⟨223, [.ints .u32 64 (Us (ws bs 0))]⟩, some ⟨223, [.ints .u32 64 (Us (ws bs k))]⟩]) ?_ ?_
  · refine Weak.of ⟨rfl, okGs.ws (by exact ⟨trivial, trivial⟩), rfl, ⟨.ints rfl fun i _ => ?_, trivial⟩, rfl, ⟨.ints rfl fun i _ => ?_, trivial⟩, trivial⟩ (by simp) ?_
    · rw [ws, Us_zeros]
    · rw [ws, Us_zeros]
    · exact ⟨okF.wv rfl, okF.wv rfl, okF.wv rfl, okF.wv trivial, trivial⟩
  · intro k hk
    conv => whnf
    by_cases hk' : k < 64
    · refine CaseB.of_true (by simp; omega) ?_
      conv => whnf
      by_cases h16 : k < 16
      · refine CaseB.of_true (by simp; omega) ?_
        conv => whnf
        refine DrawK.mk1 tok mixed [0, 0, 2, 6, 14, 30, 62, 0, 128, 384, 896, 1920, 3968, 8064, 16382, 0, 32768, 98304, 229376, 491520, 1015808, 2064384, 4194302, 0, 8388608, 25165824, 58720256, 125829120, 260046848, 536870910, 1073741823, 2147483647] [(0, 0, []), (1, 0, []), (2, 0, []), (7, 0, []), (8, 0, []), (9, 0, []), (15, 0, []), (16, 0, []), (17, 0, []), (23, 0, []), (24, 0, []), (25, 0, []), (3, 1, [0]), (4, 1, [0]), (5, 0, []), (6, 0, []), (10, 1, [0]), (11, 1, [0]), (12, 0, []), (13, 0, []), (14, 0, []), (18, 1, [0]), (19, 1, [0]), (20, 0, []), (21, 0, []), (22, 0, []), (26, 1, [0]), (27, 1, [0]), (28, 0, []), (29, 0, []), (30, 1, [0]), (31, 2, [])] (by kernel_rfl) ?_
        conv => whnf
        have e0 : IntKind.i64.wrap (4 * (k : Int)) = ((4 * k : Nat) : Int) := by rw [wrap_i64 (by omega) (by omega)]; omega
        have e : ∀ j : Nat, j < 4 → IntKind.i64.wrap (((4 * k : Nat) : Int) + (j : Int)) = ((4 * k + j : Nat) : Int) := fun j hj => by rw [wrap_i64 (by omega) (by omega)]; omega
        rw [e0]
        rw [show IntKind.i64.wrap (((4 * k : Nat) : Int) + 1) = _ from e 1 (by omega), show IntKind.i64.wrap (((4 * k : Nat) : Int) + 2) = _ from e 2 (by omega), show IntKind.i64.wrap (((4 * k : Nat) : Int) + 3) = _ from e 3 (by omega)]
        refine ⟨by omega, ?_⟩
        conv => whnf
        refine ⟨by omega, ?_⟩
        conv => whnf
        refine ⟨by omega, ?_⟩
        conv => whnf
        refine ⟨by omega, ?_⟩
        conv => whnf
        refine ⟨by omega, ?_⟩
        conv => whnf
        refine ⟨by omega, ?_⟩
        conv => whnf
        refine ⟨by omega, ?_⟩
        conv => whnf
        refine ⟨by omega, ?_⟩
        conv => whnf
        refine ⟨by omega, ?_⟩
        conv => whnf
        refine ⟨by omega, ?_⟩
        conv => whnf
        refine ⟨by rw [Us_length, ws_length]; omega, ?_⟩
        conv => whnf
        refine next_round hk' (Weak.of ⟨rfl, okGs.ws (by exact ⟨trivial, trivial⟩), rfl, ⟨.ints rfl fun _ _ => rfl, trivial⟩, rfl, ⟨.ints rfl fun i hi => ?_, trivial⟩, trivial⟩ (by simp) ?_)
        · rw [Int.toNat_natCast, Int.toNat_natCast, Int.toNat_natCast, Int.toNat_natCast, Int.toNat_natCast, byte_u32, byte_u32, byte_u32, byte_u32]
          rw [show (16777216 : Int) = ((16777216 : UInt32).toNat : Int) from rfl, show (65536 : Int) = ((65536 : UInt32).toNat : Int) from rfl, show (256 : Int) = ((256 : UInt32).toNat : Int) from rfl]
          rw [u32_mul, u32_mul, u32_mul, u32_add, u32_add, u32_add, acc_ref, Us_set', ws]
          simp only [h16, if_true]
        · exact ⟨okF.wv rfl, okF.wv rfl, okF.wv rfl, WV.lf (WL.int (by rw [wrap_i64 (by omega) (by omega)]; omega)), trivial⟩
      · refine CaseB.of_false (by simp; omega) ?_
        conv => whnf
        refine DrawK.mk1 tok mixed [0, 1, 3, 7, 0, 16, 48, 112, 15, 511] [(0, 0, []), (1, 0, []), (4, 0, []), (5, 0, []), (2, 1, [0]), (3, 1, [0]), (8, 0, []), (6, 1, [0]), (7, 1, [0]), (9, 0, [])] (by kernel_rfl) ?_
        conv => whnf
        have d : ∀ m : Nat, m ≤ 16 → IntKind.i64.wrap ((k : Int) - (m : Int)) = ((k - m : Nat) : Int) := fun m hm => by rw [wrap_i64 (by omega) (by omega)]; omega
        rw [show IntKind.i64.wrap ((k : Int) - 2) = _ from d 2 (by omega), show IntKind.i64.wrap ((k : Int) - 15) = _ from d 15 (by omega)]
        refine ⟨by omega, ?_⟩
        conv => whnf
        refine ⟨by omega, ?_⟩
        conv => whnf
        refine ⟨by omega, ?_⟩
        conv => whnf
        refine ⟨by omega, ?_⟩
        conv => whnf
        refine DrawK.mk1 tok mixed [0, 0, 2, 0, 14, 30, 0, 64, 254, 0, 512, 1536, 3584, 8190, 0, 16414, 0, 114718, 245790, 0, 524288, 2080798, 4194302, 0, 8388608, 25165824, 58720256, 134217726, 268435455, 536870911] [(0, 0, []), (1, 0, []), (3, 0, []), (6, 0, []), (7, 0, []), (9, 0, []), (10, 0, []), (14, 0, []), (16, 0, []), (19, 0, []), (20, 0, []), (23, 0, []), (24, 0, []), (2, 1, [0]), (4, 1, [0]), (5, 0, []), (8, 0, []), (11, 1, [0]), (12, 1, [0]), (13, 0, []), (15, 1, [0]), (17, 1, [0]), (18, 0, []), (21, 0, []), (22, 0, []), (25, 1, [0]), (26, 1, [0]), (27, 0, []), (28, 1, [0]), (29, 2, [])] (by kernel_rfl) ?_
        conv => whnf
        have g : ∀ m : Nat, (Us (ws bs k)).getD (((m : Nat) : Int)).toNat 0 = (((ws bs k).getD m 0).toNat : Int) := fun m => by rw [Int.toNat_natCast, Us_getD]; rfl
        rw [g (k - 2), g (k - 15)]
        refine ⟨by omega, ?_⟩
        conv => whnf
        refine ⟨by omega, ?_⟩
        conv => whnf
        refine CallR.mk' _ ((c217 _ 17 (by omega) (by omega)).free _ ⟨trivial, trivial, trivial⟩ trivial) ?_
        conv => whnf
        refine CallR.mk' _ ((c217 _ 19 (by omega) (by omega)).free _ ⟨trivial, trivial, trivial⟩ trivial) ?_
        conv => whnf
        rw [show IntKind.i64.wrap ((k : Int) - 7) = _ from d 7 (by omega)]
        refine ⟨by omega, ?_⟩
        conv => whnf
        refine ⟨by omega, ?_⟩
        conv => whnf
        refine CallR.mk' _ ((c217 _ 7 (by omega) (by omega)).free _ ⟨trivial, trivial, trivial⟩ trivial) ?_
        conv => whnf
        refine CallR.mk' _ ((c217 _ 18 (by omega) (by omega)).free _ ⟨trivial, trivial, trivial⟩ trivial) ?_
        conv => whnf
        rw [show IntKind.i64.wrap ((k : Int) - 16) = _ from d 16 (by omega)]
        refine ⟨by omega, ?_⟩
        conv => whnf
        refine ⟨by omega, ?_⟩
        conv => whnf
        refine ⟨by omega, ?_⟩
        conv => whnf
        refine ⟨by omega, ?_⟩
        conv => whnf
        refine ⟨by rw [Us_length, ws_length]; omega, ?_⟩
        conv => whnf
        refine next_round hk' (Weak.of ⟨rfl, okGs.ws (by exact ⟨trivial, trivial⟩), rfl, ⟨.ints rfl fun _ _ => rfl, trivial⟩, rfl, ⟨.ints rfl fun i hi => ?_, trivial⟩, trivial⟩ (by simp) ?_)
        · rw [g (k - 7), g (k - 16), Int.toNat_natCast]
          rw [u32_shr' _ 10 (m := 10) (by omega) rfl, u32_shr' _ 3 (m := 3) (by omega) rfl]
          simp only [u32_xor, u32_add]
          rw [Us_set', ws]
          simp only [h16, if_false]
          rfl
        · exact ⟨okF.wv rfl, okF.wv rfl, okF.wv rfl, WV.lf (WL.int (by rw [wrap_i64 (by omega) (by omega)]; omega)), trivial⟩
    · refine CaseB.of_false (by simp; omega) ?_
      conv => whnf
      obtain rfl : k = 64 := by omega
      exact RetK.empty (okF.wv ⟨trivial, trivial⟩)

end Go.Sym.Md

set_option maxRecDepth 10000

set_option linter.unusedVariables false
set_option linter.unusedSimpArgs false
namespace Go.Sym.Md
open Go Go.Sym Go.Sym.Sh
attribute [local irreducible] ws acc rs addUp Kw highA highB Sh.choose most lowA lowB ror

/-- sha.Block -/
theorem c214 (h : List UInt32) (hh : h.length = 8) (bs : List UInt8) (hb : bs.length = 64) : SCalls Proofs.Try.prog 214 [vH h, vBlk bs] [] (vH (blockF h bs)) [] := by
  refine SCalls.intro tok Proofs.Try.func214 ?_
  conv => whnf
  refine CallK.mk' _ [some ⟨198, [.ints .u32 8 (Us h)]⟩, some ⟨199, [.bytes 64 bs]⟩, some ⟨198, [.ints .u32 8 (List.replicate 8 0)]⟩] ((c225 bs hb).frame1 (nm := 1) rfl rfl (freeGs.ws ⟨trivial, trivial⟩) ⟨WV.lf (WL.ptr rfl rfl), trivial⟩ rfl (freeGs.ws ⟨trivial, trivial⟩) (freeF.wv ⟨trivial, trivial⟩)) ?_
  conv => whnf
  refine CallK.mk' _ _ (c226.free _ trivial ⟨trivial, trivial⟩) ?_
  conv => whnf
  refine LoopK.upTo 64 (fun k => [(2, .s (.lf (.ptr 0 0))), (4, .s (.lf (.ptr 2 0))), (5, .s (.lf (.ptr 3 0))), (6, .s (.lf (.ptr 4 0))), (7, .s (.lf (.ptr 5 0))), (15, vI k)])
    (fun k => [some ⟨198, [.ints .u32 8 (Us h)]⟩, none, some ⟨198, [.ints .u32 8 (List.replicate 8 0)]⟩, some ⟨223, [.ints .u32 64 (Us (ws bs 64))]⟩, some ⟨223, [.ints .u32 64 (Us Kw)]⟩, some ⟨198, [.ints .u32 8 (Us (rs h bs k))]⟩]) ?_ ?_
  · refine Weak.of ⟨rfl, okGs.ws (by exact ⟨trivial, trivial⟩), rfl, okGs.ws (by exact ⟨trivial, trivial⟩), rfl, okGs.ws (by exact ⟨trivial, trivial⟩), rfl, okGs.ws (by exact ⟨trivial, trivial⟩), rfl, ⟨.ints rfl fun i _ => ?_, trivial⟩, trivial⟩ (by simp) ?_
    · rw [rs]
    · exact ⟨okF.wv rfl, okF.wv rfl, okF.wv rfl, okF.wv rfl, okF.wv rfl, okF.wv trivial, trivial⟩
  · intro k hk
    conv => whnf
    by_cases hk' : k < 64
    · refine CaseB.of_true (by simp; omega) ?_
      conv => whnf
      obtain ⟨s0, s1, s2, s3, s4, s5, s6, s7, hs⟩ := eight (rs_length h bs hh k)
      rw [hs]
      refine DrawK.mk1 tok mixed [0, 1, 0, 4, 12, 31, 0, 64, 0, 256, 0, 1024, 4060, 8191, 0, 16384, 49152, 131071, 0, 262144, 786432, 2097151, 4194303] [(14, 0, []), (18, 0, []), (0, 1, [0]), (1, 1, [0]), (2, 1, [0]), (3, 1, [0]), (4, 1, [0]), (5, 0, []), (6, 1, [0]), (7, 1, [0]), (8, 1, [0]), (9, 1, [0]), (10, 1, [0]), (11, 1, [0]), (12, 1, [0]), (13, 0, []), (15, 1, [0]), (16, 1, [0]), (17, 0, []), (19, 1, [0]), (20, 1, [0]), (21, 0, []), (22, 0, [])] (by kernel_rfl) ?_
      conv => whnf
      refine ⟨by omega, ?_⟩
      conv => whnf
      refine ⟨by omega, ?_⟩
      conv => whnf
      refine ⟨by omega, ?_⟩
      conv => whnf
      refine ⟨by omega, ?_⟩
      conv => whnf
      refine CallR.mk' _ ((c227 s4).free _ ⟨trivial, trivial⟩ trivial) ?_
      conv => whnf
      refine ⟨by omega, ?_⟩
      conv => whnf
      refine ⟨by omega, ?_⟩
      conv => whnf
      refine ⟨by omega, ?_⟩
      conv => whnf
      refine ⟨by omega, ?_⟩
      conv => whnf
      refine ⟨by omega, ?_⟩
      conv => whnf
      refine ⟨by omega, ?_⟩
      conv => whnf
      refine CallR.mk' _ ((c228 s4 s5 s6).free _ ⟨trivial, trivial, trivial, trivial⟩ trivial) ?_
      conv => whnf
      refine ⟨by omega, ?_⟩
      conv => whnf
      refine ⟨by omega, ?_⟩
      conv => whnf
      refine ⟨by omega, ?_⟩
      conv => whnf
      refine ⟨by omega, ?_⟩
      conv => whnf
      refine DrawK.mk1 tok mixed [0, 1, 3, 0, 8, 0, 32, 0, 128, 511, 1023, 2047] [(0, 1, [0]), (1, 1, [0]), (2, 1, [0]), (3, 1, [0]), (4, 1, [0]), (5, 1, [0]), (6, 1, [0]), (7, 1, [0]), (8, 1, [0]), (9, 1, [0]), (10, 0, []), (11, 0, [])] (by kernel_rfl) ?_
      conv => whnf
      refine ⟨by omega, ?_⟩
      conv => whnf
      refine ⟨by omega, ?_⟩
      conv => whnf
      refine CallR.mk' _ ((c229 s0).free _ ⟨trivial, trivial⟩ trivial) ?_
      conv => whnf
      refine ⟨by omega, ?_⟩
      conv => whnf
      refine ⟨by omega, ?_⟩
      conv => whnf
      refine ⟨by omega, ?_⟩
      conv => whnf
      refine ⟨by omega, ?_⟩
      conv => whnf
      refine ⟨by omega, ?_⟩
      conv => whnf
      refine ⟨by omega, ?_⟩
      conv => whnf
      refine CallR.mk' _ ((c230 s0 s1 s2).free _ ⟨trivial, trivial, trivial, trivial⟩ trivial) ?_
      conv => whnf
      refine DrawK.mk1 tok mixed [0, 0, 3] [(0, 1, [0]), (1, 1, [0]), (2, 2, [])] (by kernel_rfl) ?_
      conv => whnf
      refine ⟨⟨by omega, by simp [maxLen]⟩, ?_⟩
      conv => whnf
      refine ⟨⟨by omega, by simp [maxLen]⟩, ?_⟩
      conv => whnf
      refine ⟨⟨by decide, by simp⟩, ?_⟩
      conv => whnf
      refine ⟨⟨by decide, by simp⟩, ?_⟩
      conv => whnf
      refine ⟨by omega, ?_⟩
      conv => whnf
      refine ⟨by omega, ?_⟩
      conv => whnf
      refine ⟨by omega, ?_⟩
      conv => whnf
      refine ⟨by omega, ?_⟩
      conv => whnf
      have hsp : spl (Us [s0, s1, s2, s3, s4, s5, s6, s7]) (Int.toNat 1) (List.take ((((8 : Nat) : Int)).toNat - Int.toNat 1) (List.take (Int.toNat 7 - Int.toNat 0) (List.drop (Int.toNat 0) (Us [s0, s1, s2, s3, s4, s5, s6, s7])))) = Us [s0, s0, s1, s2, s3, s4, s5, s6] := rfl
      rw [hsp]
      refine ⟨by simp, ?_⟩
      conv => whnf
      refine ⟨by omega, ?_⟩
      conv => whnf
      refine ⟨by decide, ?_⟩
      conv => whnf
      refine ⟨by simp, ?_⟩
      conv => whnf
      refine next_round hk' (Weak.of ⟨rfl, okGs.ws (by exact ⟨trivial, trivial⟩), rfl, okGs.ws (by exact ⟨trivial, trivial⟩), rfl, okGs.ws (by exact ⟨trivial, trivial⟩), rfl, okGs.ws (by exact ⟨trivial, trivial⟩), rfl, ⟨.ints rfl fun i _ => ?_, trivial⟩, trivial⟩ (by simp) ?_)
      · have x1 : (Us [s0, s1, s2, s3, s4, s5, s6, s7]).getD (Int.toNat 7) 0 = (s7.toNat : Int) := rfl
        have x2 : (Us [s0, s0, s1, s2, s3, s4, s5, s6]).getD (Int.toNat 4) 0 = (s3.toNat : Int) := rfl
        have x3 : ∀ l : List UInt32, (Us l).getD (Int.toNat (k : Int)) 0 = ((l.getD k 0).toNat : Int) := fun l => by rw [Int.toNat_natCast, Us_getD]; rfl
        rw [x1, x2, x3, x3]
        simp only [u32_add]
        rw [show (Int.toNat 4) = 4 from rfl, show (Int.toNat 0) = 0 from rfl, Us_set', Us_set', rs, hs]
        rfl
      · exact ⟨okF.wv rfl, okF.wv rfl, okF.wv rfl, okF.wv rfl, okF.wv rfl, WV.lf (WL.int (by rw [wrap_i64 (by omega) (by omega)]; omega)), trivial⟩
    · refine CaseB.of_false (by simp; omega) ?_
      conv => whnf
      obtain rfl : k = 64 := by omega
      refine LoopK.upTo 8 (fun k => [(2, .s (.lf (.ptr 0 0))), (4, .s (.lf (.ptr 2 0))), (7, .s (.lf (.ptr 5 0))), (64, vI k)])
        (fun k => [some ⟨198, [.ints .u32 8 (Us h)]⟩, none, some ⟨198, [.ints .u32 8 (List.replicate 8 0)]⟩, none, none, some ⟨198, [.ints .u32 8 (Us (addUp (rs h bs 64) h k))]⟩]) ?_ ?_
      · refine Weak.of ⟨rfl, okGs.ws (by exact ⟨trivial, trivial⟩), rfl, okGs.ws (by exact ⟨trivial, trivial⟩), rfl, ⟨.ints rfl fun i _ => ?_, trivial⟩, trivial⟩ (by simp) ?_
        · rw [addUp]
        · exact ⟨okF.wv rfl, okF.wv rfl, okF.wv rfl, okF.wv trivial, trivial⟩
      · intro i hi
        conv => whnf
        by_cases hi' : i < 8
        · refine CaseB.of_true (by simp; omega) ?_
          conv => whnf
          refine DrawK.mk1 tok mixed [0, 1, 3, 0, 8, 24, 63, 127, 255] [(0, 0, []), (3, 0, []), (1, 1, [0]), (2, 1, [0]), (4, 1, [0]), (5, 1, [0]), (6, 0, []), (7, 1, [0]), (8, 2, [])] (by kernel_rfl) ?_
          conv => whnf
          refine ⟨by omega, ?_⟩
          conv => whnf
          refine ⟨by omega, ?_⟩
          conv => whnf
          refine ⟨by omega, ?_⟩
          conv => whnf
          refine ⟨by omega, ?_⟩
          conv => whnf
          refine ⟨by omega, ?_⟩
          conv => whnf
          refine ⟨by omega, ?_⟩
          conv => whnf
          refine ⟨by rw [Us_length, addUp_length, rs_length h bs hh]; omega, ?_⟩
          conv => whnf
          refine next_round hi' (Weak.of ⟨rfl, okGs.ws (by exact ⟨trivial, trivial⟩), rfl, okGs.ws (by exact ⟨trivial, trivial⟩), rfl, ⟨.ints rfl fun o _ => ?_, trivial⟩, trivial⟩ (by simp) ?_)
          · have x3 : ∀ l : List UInt32, (Us l).getD (Int.toNat (i : Int)) 0 = ((l.getD i 0).toNat : Int) := fun l => by rw [Int.toNat_natCast, Us_getD]; rfl
            rw [x3, x3, u32_add, Int.toNat_natCast, Us_set', addUp]
          · exact ⟨okF.wv rfl, okF.wv rfl, okF.wv rfl, WV.lf (WL.int (by rw [wrap_i64 (by omega) (by omega)]; omega)), trivial⟩
        · refine CaseB.of_false (by simp; omega) ?_
          conv => whnf
          obtain rfl : i = 8 := by omega
          exact RetK.empty (okF.wv ⟨trivial, trivial⟩)
end Go.Sym.Md

set_option maxRecDepth 10000
set_option linter.unusedVariables false
set_option linter.unusedSimpArgs false
namespace Go.Sym.Md
open Go Go.Sym Go.Sym.Sh
attribute [local irreducible] ws acc rs addUp Kw highA highB Sh.choose most lowA lowB ror

theorem addUp_comm (s h : List UInt32) (hs : s.length = 8) (hh : h.length = 8) : addUp s h 8 = addUp h s 8 := by
  obtain ⟨a0, a1, a2, a3, a4, a5, a6, a7, rfl⟩ := eight hs
  obtain ⟨b0, b1, b2, b3, b4, b5, b6, b7, rfl⟩ := eight hh
  simp only [addUp, List.getD_cons_zero, List.getD_cons_succ, List.set_cons_zero, List.set_cons_succ]
  rw [UInt32.add_comm a0, UInt32.add_comm a1, UInt32.add_comm a2, UInt32.add_comm a3, UInt32.add_comm a4, UInt32.add_comm a5, UInt32.add_comm a6, UInt32.add_comm a7]

/-- baileyref03.Block -/
theorem c192 (h : List UInt32) (hh : h.length = 8) (bs : List UInt8) (hb : bs.length = 64) : SCalls Proofs.Try.prog 192 [vH h, vBlk bs] [] (vH (blockF h bs)) [] := by
  refine SCalls.intro tok Proofs.Try.func192 ?_
  conv => whnf
  refine DrawK.join [(2, .s (.lf (.ptr 0 0))), (4, .s (.lf (.ptr 2 0))), (5, .s (.lf (.ptr 3 0))), (6, .s (.lf (.ptr 4 0))), (7, .s (.lf (.ptr 5 0)))]
    [some ⟨198, [.ints .u32 8 (Us h)]⟩, none, some ⟨198, [.ints .u32 8 (List.replicate 8 0)]⟩, some ⟨223, [.ints .u32 64 (Us (ws bs 64))]⟩, some ⟨223, [.ints .u32 64 (Us Kw)]⟩, some ⟨198, [.ints .u32 8 (Us h)]⟩] ?_ ?_
  · refine DrawK.mkL tok mixed [0, 1, 3, 0, 0, 0, 0, 119, 247, 511] [4, 5, 6, 7, 8, 9] [
      ([0, 1, 3, 0, 0, 16, 48, 119, 247, 511], [(4, 2, []), (5, 2, []), (6, 2, []), (0, 1, [0, 1, 2, 3]), (1, 1, [0, 1, 2, 3]), (2, 1, [0, 1, 2, 3]), (7, 2, []), (8, 2, []), (3, 1, [0, 1, 2, 3, 4, 5]), (9, 2, [])]),
      ([0, 1, 3, 0, 0, 80, 16, 119, 247, 511], [(4, 2, []), (6, 2, []), (5, 2, []), (0, 1, [0, 1, 2, 3]), (1, 1, [0, 1, 2, 3]), (2, 1, [0, 1, 2, 3]), (7, 2, []), (8, 2, []), (3, 1, [0, 1, 2, 3, 4, 5]), (9, 2, [])]),
      ([0, 1, 3, 0, 32, 0, 48, 119, 247, 511], [(5, 2, []), (4, 2, []), (6, 2, []), (0, 1, [0, 1, 2, 3]), (1, 1, [0, 1, 2, 3]), (2, 1, [0, 1, 2, 3]), (7, 2, []), (8, 2, []), (3, 1, [0, 1, 2, 3, 4, 5]), (9, 2, [])]),
      ([0, 1, 3, 0, 96, 0, 32, 119, 247, 511], [(5, 2, []), (6, 2, []), (4, 2, []), (0, 1, [0, 1, 2, 3]), (1, 1, [0, 1, 2, 3]), (2, 1, [0, 1, 2, 3]), (7, 2, []), (8, 2, []), (3, 1, [0, 1, 2, 3, 4, 5]), (9, 2, [])]),
      ([0, 1, 3, 0, 64, 80, 0, 119, 247, 511], [(6, 2, []), (4, 2, []), (5, 2, []), (0, 1, [0, 1, 2, 3]), (1, 1, [0, 1, 2, 3]), (2, 1, [0, 1, 2, 3]), (7, 2, []), (8, 2, []), (3, 1, [0, 1, 2, 3, 4, 5]), (9, 2, [])]),
      ([0, 1, 3, 0, 96, 64, 0, 119, 247, 511], [(6, 2, []), (5, 2, []), (4, 2, []), (0, 1, [0, 1, 2, 3]), (1, 1, [0, 1, 2, 3]), (2, 1, [0, 1, 2, 3]), (7, 2, []), (8, 2, []), (3, 1, [0, 1, 2, 3, 4, 5]), (9, 2, [])])] (by kernel_rfl) ?_
    refine ⟨?_, ?_, ?_, ?_, ?_, ?_, trivial⟩ <;>
      (conv => whnf) <;>
      (repeat (first
        | (refine CallR.mk' _ ((c215 bs hb).free _ ⟨⟨trivial, trivial⟩, trivial⟩ ⟨trivial, trivial⟩) ?_; conv => whnf)
        | (refine CallR.mk' _ (c216.free _ trivial ⟨trivial, trivial⟩) ?_; conv => whnf)
        | (refine ⟨rfl, ?_⟩; conv => whnf)))
    · exact Weak.perm [0, 1, 2, 3, 4, 5] ⟨⟨rfl, freeGs.ws (by exact ⟨trivial, trivial⟩)⟩, ⟨rfl, freeGs.ws (by exact ⟨trivial, trivial⟩)⟩, ⟨rfl, freeGs.ws (by exact ⟨trivial, trivial⟩)⟩, ⟨rfl, freeGs.ws (by exact ⟨trivial, trivial⟩)⟩, ⟨rfl, freeGs.ws (by exact ⟨trivial, trivial⟩)⟩, trivial⟩ ⟨WV.lf (WL.ptr rfl rfl), WV.lf (WL.ptr rfl rfl), WV.lf (WL.ptr rfl rfl), WV.lf (WL.ptr rfl rfl), WV.lf (WL.ptr rfl rfl), trivial⟩ rfl (by simp) rfl (by simp)
    · exact Weak.perm [0, 1, 2, 3, 5, 4] ⟨⟨rfl, freeGs.ws (by exact ⟨trivial, trivial⟩)⟩, ⟨rfl, freeGs.ws (by exact ⟨trivial, trivial⟩)⟩, ⟨rfl, freeGs.ws (by exact ⟨trivial, trivial⟩)⟩, ⟨rfl, freeGs.ws (by exact ⟨trivial, trivial⟩)⟩, ⟨rfl, freeGs.ws (by exact ⟨trivial, trivial⟩)⟩, trivial⟩ ⟨WV.lf (WL.ptr rfl rfl), WV.lf (WL.ptr rfl rfl), WV.lf (WL.ptr rfl rfl), WV.lf (WL.ptr rfl rfl), WV.lf (WL.ptr rfl rfl), trivial⟩ rfl (by simp) rfl (by simp)
    · exact Weak.perm [0, 1, 2, 4, 3, 5] ⟨⟨rfl, freeGs.ws (by exact ⟨trivial, trivial⟩)⟩, ⟨rfl, freeGs.ws (by exact ⟨trivial, trivial⟩)⟩, ⟨rfl, freeGs.ws (by exact ⟨trivial, trivial⟩)⟩, ⟨rfl, freeGs.ws (by exact ⟨trivial, trivial⟩)⟩, ⟨rfl, freeGs.ws (by exact ⟨trivial, trivial⟩)⟩, trivial⟩ ⟨WV.lf (WL.ptr rfl rfl), WV.lf (WL.ptr rfl rfl), WV.lf (WL.ptr rfl rfl), WV.lf (WL.ptr rfl rfl), WV.lf (WL.ptr rfl rfl), trivial⟩ rfl (by simp) rfl (by simp)
    · exact Weak.perm [0, 1, 2, 5, 3, 4] ⟨⟨rfl, freeGs.ws (by exact ⟨trivial, trivial⟩)⟩, ⟨rfl, freeGs.ws (by exact ⟨trivial, trivial⟩)⟩, ⟨rfl, freeGs.ws (by exact ⟨trivial, trivial⟩)⟩, ⟨rfl, freeGs.ws (by exact ⟨trivial, trivial⟩)⟩, ⟨rfl, freeGs.ws (by exact ⟨trivial, trivial⟩)⟩, trivial⟩ ⟨WV.lf (WL.ptr rfl rfl), WV.lf (WL.ptr rfl rfl), WV.lf (WL.ptr rfl rfl), WV.lf (WL.ptr rfl rfl), WV.lf (WL.ptr rfl rfl), trivial⟩ rfl (by simp) rfl (by simp)
    · exact Weak.perm [0, 1, 2, 4, 5, 3] ⟨⟨rfl, freeGs.ws (by exact ⟨trivial, trivial⟩)⟩, ⟨rfl, freeGs.ws (by exact ⟨trivial, trivial⟩)⟩, ⟨rfl, freeGs.ws (by exact ⟨trivial, trivial⟩)⟩, ⟨rfl, freeGs.ws (by exact ⟨trivial, trivial⟩)⟩, ⟨rfl, freeGs.ws (by exact ⟨trivial, trivial⟩)⟩, trivial⟩ ⟨WV.lf (WL.ptr rfl rfl), WV.lf (WL.ptr rfl rfl), WV.lf (WL.ptr rfl rfl), WV.lf (WL.ptr rfl rfl), WV.lf (WL.ptr rfl rfl), trivial⟩ rfl (by simp) rfl (by simp)
    · exact Weak.perm [0, 1, 2, 5, 4, 3] ⟨⟨rfl, freeGs.ws (by exact ⟨trivial, trivial⟩)⟩, ⟨rfl, freeGs.ws (by exact ⟨trivial, trivial⟩)⟩, ⟨rfl, freeGs.ws (by exact ⟨trivial, trivial⟩)⟩, ⟨rfl, freeGs.ws (by exact ⟨trivial, trivial⟩)⟩, ⟨rfl, freeGs.ws (by exact ⟨trivial, trivial⟩)⟩, trivial⟩ ⟨WV.lf (WL.ptr rfl rfl), WV.lf (WL.ptr rfl rfl), WV.lf (WL.ptr rfl rfl), WV.lf (WL.ptr rfl rfl), WV.lf (WL.ptr rfl rfl), trivial⟩ rfl (by simp) rfl (by simp)
  · conv => whnf
    refine LoopK.upTo 64 (fun k => [(2, .s (.lf (.ptr 0 0))), (4, .s (.lf (.ptr 2 0))), (5, .s (.lf (.ptr 3 0))), (6, .s (.lf (.ptr 4 0))), (7, .s (.lf (.ptr 5 0))), (8, vI k)])
      (fun k => [some ⟨198, [.ints .u32 8 (Us h)]⟩, none, some ⟨198, [.ints .u32 8 (List.replicate 8 0)]⟩, some ⟨223, [.ints .u32 64 (Us (ws bs 64))]⟩, some ⟨223, [.ints .u32 64 (Us Kw)]⟩, some ⟨198, [.ints .u32 8 (Us (rs h bs k))]⟩]) ?_ ?_
    · refine Weak.of ⟨rfl, okGs.ws (by exact ⟨trivial, trivial⟩), rfl, okGs.ws (by exact ⟨trivial, trivial⟩), rfl, okGs.ws (by exact ⟨trivial, trivial⟩), rfl, okGs.ws (by exact ⟨trivial, trivial⟩), rfl, ⟨.ints rfl fun i _ => ?_, trivial⟩, trivial⟩ (by simp) ?_
      · rw [rs]
      · exact ⟨okF.wv rfl, okF.wv rfl, okF.wv rfl, okF.wv rfl, okF.wv rfl, okF.wv trivial, trivial⟩
    intro k hk
    conv => whnf
    by_cases hk' : k < 64
    · refine CaseB.of_true (by simp; omega) ?_
      conv => whnf
      obtain ⟨s0, s1, s2, s3, s4, s5, s6, s7, hs⟩ := eight (rs_length h bs hh k)
      rw [hs]
      refine DrawK.mk1 tok mixed [0, 1, 0, 4, 3, 31] [(0, 1, [0]), (1, 1, [0]), (4, 0, []), (2, 1, [0]), (3, 1, [0]), (5, 0, [])] (by kernel_rfl) ?_
      conv => whnf
      refine ⟨by omega, ?_⟩
      conv => whnf
      refine ⟨by omega, ?_⟩
      conv => whnf
      refine ⟨by omega, ?_⟩
      conv => whnf
      refine ⟨by omega, ?_⟩
      conv => whnf
      refine DrawK.mk1 tok mixed [0, 1, 0, 4, 0, 28, 60, 0, 188, 508, 1023, 0, 0, 4096, 14336, 0, 32768, 0, 131072, 491520, 1046528, 2097151, 0, 4194304, 12582912, 33554431, 0, 67108864, 201326592, 536870911, 1073741823] [(2, 0, []), (4, 0, []), (7, 0, []), (11, 0, []), (15, 0, []), (16, 0, []), (22, 0, []), (26, 0, []), (0, 1, [0]), (1, 1, [0]), (3, 1, [0]), (5, 1, [0]), (6, 0, []), (8, 1, [0]), (9, 0, []), (10, 0, []), (12, 1, [0]), (13, 1, [0]), (14, 0, []), (17, 1, [0]), (18, 1, [0]), (19, 0, []), (20, 0, []), (21, 0, []), (23, 1, [0]), (24, 1, [0]), (25, 0, []), (27, 1, [0]), (28, 1, [0]), (29, 0, []), (30, 0, [])] (by kernel_rfl) ?_
      conv => whnf
      refine ⟨by omega, ?_⟩
      conv => whnf
      refine ⟨by omega, ?_⟩
      conv => whnf
      refine CallR.mk' _ ((c217 s4 6 (by omega) (by omega)).free _ ⟨trivial, trivial, trivial⟩ trivial) ?_
      conv => whnf
      refine CallR.mk' _ ((c217 s4 11 (by omega) (by omega)).free _ ⟨trivial, trivial, trivial⟩ trivial) ?_
      conv => whnf
      refine CallR.mk' _ ((c217 s4 25 (by omega) (by omega)).free _ ⟨trivial, trivial, trivial⟩ trivial) ?_
      conv => whnf
      refine ⟨by omega, ?_⟩
      conv => whnf
      refine ⟨by omega, ?_⟩
      conv => whnf
      refine ⟨by omega, ?_⟩
      conv => whnf
      refine ⟨by omega, ?_⟩
      conv => whnf
      refine ⟨by omega, ?_⟩
      conv => whnf
      refine ⟨by omega, ?_⟩
      conv => whnf
      refine ⟨by omega, ?_⟩
      conv => whnf
      refine ⟨by omega, ?_⟩
      conv => whnf
      refine DrawK.mk1 tok mixed [0, 1, 0, 7, 15, 0, 47, 127, 0, 0, 512, 1792, 0, 0, 8192, 28672, 65280, 0, 131072, 0, 524288, 1966080, 4194048, 8388607, 16777215] [(0, 0, []), (2, 0, []), (5, 0, []), (8, 0, []), (12, 0, []), (1, 1, [0]), (3, 1, [0]), (4, 0, []), (6, 1, [0]), (7, 0, []), (9, 1, [0]), (10, 1, [0]), (11, 0, []), (13, 1, [0]), (14, 1, [0]), (15, 0, []), (16, 0, []), (17, 1, [0]), (18, 1, [0]), (19, 1, [0]), (20, 1, [0]), (21, 0, []), (22, 0, []), (23, 0, []), (24, 0, [])] (by kernel_rfl) ?_
      conv => whnf
      refine CallR.mk' _ ((c217 s0 2 (by omega) (by omega)).free _ ⟨trivial, trivial, trivial⟩ trivial) ?_
      conv => whnf
      refine CallR.mk' _ ((c217 s0 13 (by omega) (by omega)).free _ ⟨trivial, trivial, trivial⟩ trivial) ?_
      conv => whnf
      refine CallR.mk' _ ((c217 s0 22 (by omega) (by omega)).free _ ⟨trivial, trivial, trivial⟩ trivial) ?_
      conv => whnf
      refine ⟨by omega, ?_⟩
      conv => whnf
      refine ⟨by omega, ?_⟩
      conv => whnf
      refine ⟨by omega, ?_⟩
      conv => whnf
      refine ⟨by omega, ?_⟩
      conv => whnf
      refine ⟨by omega, ?_⟩
      conv => whnf
      refine ⟨by omega, ?_⟩
      conv => whnf
      refine ⟨by omega, ?_⟩
      conv => whnf
      refine ⟨by omega, ?_⟩
      conv => whnf
      refine ⟨by omega, ?_⟩
      conv => whnf
      refine ⟨by omega, ?_⟩
      conv => whnf
      refine ⟨by omega, ?_⟩
      conv => whnf
      refine ⟨by omega, ?_⟩
      conv => whnf
      refine ⟨by omega, ?_⟩
      conv => whnf
      refine ⟨by omega, ?_⟩
      conv => whnf
      refine ⟨by omega, ?_⟩
      conv => whnf
      refine ⟨by omega, ?_⟩
      conv => whnf
      refine ⟨by omega, ?_⟩
      conv => whnf
      refine ⟨by omega, ?_⟩
      conv => whnf
      refine ⟨by omega, ?_⟩
      conv => whnf
      refine ⟨by omega, ?_⟩
      conv => whnf
      refine ⟨by omega, ?_⟩
      conv => whnf
      refine ⟨by omega, ?_⟩
      conv => whnf
      refine next_round hk' (Weak.of ⟨rfl, okGs.ws (by exact ⟨trivial, trivial⟩), rfl, okGs.ws (by exact ⟨trivial, trivial⟩), rfl, okGs.ws (by exact ⟨trivial, trivial⟩), rfl, okGs.ws (by exact ⟨trivial, trivial⟩), rfl, ⟨.ints rfl fun i _ => ?_, trivial⟩, trivial⟩ (by simp) ?_)
      · congr 1
        have g0 : (Us [s0, s1, s2, s3, s4, s5, s6, s7]).getD (Int.toNat 0) 0 = (s0.toNat : Int) := rfl
        have g1 : (Us [s0, s1, s2, s3, s4, s5, s6, s7]).getD (Int.toNat 1) 0 = (s1.toNat : Int) := rfl
        have g2 : (Us [s0, s1, s2, s3, s4, s5, s6, s7]).getD (Int.toNat 2) 0 = (s2.toNat : Int) := rfl
        have g3 : (Us [s0, s1, s2, s3, s4, s5, s6, s7]).getD (Int.toNat 3) 0 = (s3.toNat : Int) := rfl
        have g4 : (Us [s0, s1, s2, s3, s4, s5, s6, s7]).getD (Int.toNat 4) 0 = (s4.toNat : Int) := rfl
        have g5 : (Us [s0, s1, s2, s3, s4, s5, s6, s7]).getD (Int.toNat 5) 0 = (s5.toNat : Int) := rfl
        have g6 : (Us [s0, s1, s2, s3, s4, s5, s6, s7]).getD (Int.toNat 6) 0 = (s6.toNat : Int) := rfl
        have g7 : (Us [s0, s1, s2, s3, s4, s5, s6, s7]).getD (Int.toNat 7) 0 = (s7.toNat : Int) := rfl
        have x3 : ∀ l : List UInt32, (Us l).getD (Int.toNat (k : Int)) 0 = ((l.getD k 0).toNat : Int) := fun l => by rw [Int.toNat_natCast, Us_getD]; rfl
        rw [g0, g1, g2, g3, g4, g5, g6, g7, x3, x3, u32_not]
        simp only [u32_xor, u32_and, u32_add]
        rw [choose_ref, most_ref, rs, hs, show (ror s4 6 ^^^ ror s4 11) ^^^ ror s4 25 = highB s4 by rw [highB], show (ror s0 2 ^^^ ror s0 13) ^^^ ror s0 22 = highA s0 by rw [highA]]
        rfl
      · exact ⟨okF.wv rfl, okF.wv rfl, okF.wv rfl, okF.wv rfl, okF.wv rfl, WV.lf (WL.int (by rw [wrap_i64 (by omega) (by omega)]; omega)), trivial⟩
    · refine CaseB.of_false (by simp; omega) ?_
      conv => whnf
      obtain rfl : k = 64 := by omega
      refine LoopK.upTo 8 (fun k => [(2, .s (.lf (.ptr 0 0))), (4, .s (.lf (.ptr 2 0))), (7, .s (.lf (.ptr 5 0))), (13, vI k)])
        (fun k => [some ⟨198, [.ints .u32 8 (Us (addUp h (rs h bs 64) k))]⟩, none, some ⟨198, [.ints .u32 8 (List.replicate 8 0)]⟩, none, none, some ⟨198, [.ints .u32 8 (Us (rs h bs 64))]⟩]) ?_ ?_
      · refine Weak.of ⟨rfl, ⟨.ints rfl fun i _ => ?_, trivial⟩, rfl, okGs.ws (by exact ⟨trivial, trivial⟩), rfl, okGs.ws (by exact ⟨trivial, trivial⟩), trivial⟩ (by simp) ?_
        · rw [addUp]
        · exact ⟨okF.wv rfl, okF.wv rfl, okF.wv rfl, okF.wv trivial, trivial⟩
      intro i hi
      conv => whnf
      by_cases hi' : i < 8
      · refine CaseB.of_true (by simp; omega) ?_
        conv => whnf
        refine DrawK.mk1 tok mixed [0, 0, 2, 6, 0, 16, 48, 126, 255, 511] [(0, 0, []), (1, 0, []), (4, 0, []), (2, 1, [0]), (3, 1, [0]), (5, 1, [0]), (6, 1, [0]), (7, 0, []), (8, 1, [0]), (9, 2, [])] (by kernel_rfl) ?_
        conv => whnf
        refine ⟨by omega, ?_⟩
        conv => whnf
        refine ⟨by omega, ?_⟩
        conv => whnf
        refine ⟨by omega, ?_⟩
        conv => whnf
        refine ⟨by omega, ?_⟩
        conv => whnf
        refine ⟨by omega, ?_⟩
        conv => whnf
        refine ⟨by omega, ?_⟩
        conv => whnf
        refine ⟨by rw [Us_length, addUp_length, hh]; omega, ?_⟩
        conv => whnf
        refine next_round hi' (Weak.of ⟨rfl, ⟨.ints rfl fun o _ => ?_, trivial⟩, rfl, okGs.ws (by exact ⟨trivial, trivial⟩), rfl, okGs.ws (by exact ⟨trivial, trivial⟩), trivial⟩ (by simp) ?_)
        · have x3 : ∀ l : List UInt32, (Us l).getD (Int.toNat (i : Int)) 0 = ((l.getD i 0).toNat : Int) := fun l => by rw [Int.toNat_natCast, Us_getD]; rfl
          rw [x3, x3, u32_add, Int.toNat_natCast, Us_set', addUp]
        · exact ⟨okF.wv rfl, okF.wv rfl, okF.wv rfl, WV.lf (WL.int (by rw [wrap_i64 (by omega) (by omega)]; omega)), trivial⟩
      · refine CaseB.of_false (by simp; omega) ?_
        conv => whnf
        obtain rfl : i = 8 := by omega
        refine RetK.empty (wv_ints ?_)
        rw [blockF, addUp_comm _ _ (rs_length h bs hh 64) hh]

end Go.Sym.Md

