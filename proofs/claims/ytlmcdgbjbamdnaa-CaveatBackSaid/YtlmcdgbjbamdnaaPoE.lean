/- Contracts of the program's functions, proved by the framework (text PoE), without conditions but those that each theorem states. -/
import Derived.Test.YtlmcdgbjbamdnaaPoD
import Derived.Test.YtlmcdgbjbamdnaaFw6
set_option maxRecDepth 10000
set_option linter.unusedVariables false
set_option linter.unusedSimpArgs false
namespace Go.Sym.Md
open Go Go.Sym Go.Sym.Sh
attribute [local irreducible] ws acc

/-- baileyref03.words -/
theorem c215 (bs : List UInt8) (hb : bs.length = 64) : SCalls Proofs.Try.prog 215 [vBlk bs] [] (.s (.agg [.ints .u32 64 (Us (ws bs 64))])) [] := by
  refine SCalls.intro tok Proofs.Try.func215 ?_
  conv => whnf
  refine LoopK.upTo 64 (fun k => [(1, .s (.lf (.ptr 0 0))), (2, .s (.lf (.ptr 1 0))), (3, .s (.lf (.ptr 2 0))), (4, vI k)])
    (fun k => [some ⟨199, [.bytes 64 bs]⟩, some ⟨223, [.ints .u32 64 (Us (ws bs 0))]⟩, some ⟨223, [.ints .u32 64 (Us (ws bs k))]⟩]) ?_ ?_
  · refine Weak.of ⟨rfl, okGs.ws (by exact ⟨trivial, trivial⟩), rfl, ⟨.ints rfl fun i _ => ?_, trivial⟩, rfl, ⟨.ints rfl fun i _ => ?_, trivial⟩, trivial⟩ (by simp) ?_
    · rw [ws, Us_zeros]
    · rw [ws, Us_zeros]
    · exact ⟨okF.wv rfl, okF.wv rfl, okF.wv rfl, okF.wv trivial, trivial⟩
  · intro k hk
    conv => whnf
    by_cases hk' : k < 64
    · refine CaseB.of_true (by simp; omega) ?_
      conv => whnf
      by_cases h16 : k < 16
      · refine CaseB.of_true (by simp; omega) ?_
        conv => whnf
        refine DrawK.mk1 tok mixed [0, 0, 2, 6, 14, 30, 62, 0, 128, 384, 896, 1920, 3968, 8064, 16382, 0, 32768, 98304, 229376, 491520, 1015808, 2064384, 4194302, 0, 8388608, 25165824, 58720256, 125829120, 260046848, 536870910, 1073741823, 2147483647] [(0, 0, []), (1, 0, []), (2, 0, []), (7, 0, []), (8, 0, []), (9, 0, []), (15, 0, []), (16, 0, []), (17, 0, []), (23, 0, []), (24, 0, []), (25, 0, []), (3, 1, [0]), (4, 1, [0]), (5, 0, []), (6, 0, []), (10, 1, [0]), (11, 1, [0]), (12, 0, []), (13, 0, []), (14, 0, []), (18, 1, [0]), (19, 1, [0]), (20, 0, []), (21, 0, []), (22, 0, []), (26, 1, [0]), (27, 1, [0]), (28, 0, []), (29, 0, []), (30, 1, [0]), (31, 2, [])] (by kernel_rfl) ?_
        conv => whnf
        have e0 : IntKind.i64.wrap (4 * (k : Int)) = ((4 * k : Nat) : Int) := by rw [wrap_i64 (by omega) (by omega)]; omega
        have e : ∀ j : Nat, j < 4 → IntKind.i64.wrap (((4 * k : Nat) : Int) + (j : Int)) = ((4 * k + j : Nat) : Int) := fun j hj => by rw [wrap_i64 (by omega) (by omega)]; omega
        rw [e0]
        rw [show IntKind.i64.wrap (((4 * k : Nat) : Int) + 1) = _ from e 1 (by omega), show IntKind.i64.wrap (((4 * k : Nat) : Int) + 2) = _ from e 2 (by omega), show IntKind.i64.wrap (((4 * k : Nat) : Int) + 3) = _ from e 3 (by omega)]
        refine ⟨by omega, ?_⟩
        conv => whnf
        refine ⟨by omega, ?_⟩
        conv => whnf
        refine ⟨by omega, ?_⟩
        conv => whnf
        refine ⟨by omega, ?_⟩
        conv => whnf
        refine ⟨by omega, ?_⟩
        conv => whnf
        refine ⟨by omega, ?_⟩
        conv => whnf
        refine ⟨by omega, ?_⟩
        conv => whnf
        refine ⟨by omega, ?_⟩
        conv => whnf
        refine ⟨by omega, ?_⟩
        conv => whnf
        refine ⟨by omega, ?_⟩
        conv => whnf
        refine ⟨by rw [Us_length, ws_length]; omega, ?_⟩
        conv => whnf
        refine next_round hk' (Weak.of ⟨rfl, okGs.ws (by exact ⟨trivial, trivial⟩), rfl, ⟨.ints rfl fun _ _ => rfl, trivial⟩, rfl, ⟨.ints rfl fun i hi => ?_, trivial⟩, trivial⟩ (by simp) ?_)
        · rw [Int.toNat_natCast, Int.toNat_natCast, Int.toNat_natCast, Int.toNat_natCast, Int.toNat_natCast, byte_u32, byte_u32, byte_u32, byte_u32]
          rw [show (16777216 : Int) = ((16777216 : UInt32).toNat : Int) from rfl, show (65536 : Int) = ((65536 : UInt32).toNat : Int) from rfl, show (256 : Int) = ((256 : UInt32).toNat : Int) from rfl]
          rw [u32_mul, u32_mul, u32_mul, u32_add, u32_add, u32_add, acc_ref, Us_set', ws]
          simp only [h16, if_true]
        · exact ⟨okF.wv rfl, okF.wv rfl, okF.wv rfl, WV.lf (WL.int (by rw [wrap_i64 (by omega) (by omega)]; omega)), trivial⟩
      · refine CaseB.of_false (by simp; omega) ?_
        conv => whnf
        refine DrawK.mk1 tok mixed [0, 1, 3, 7, 0, 16, 48, 112, 15, 511] [(0, 0, []), (1, 0, []), (4, 0, []), (5, 0, []), (2, 1, [0]), (3, 1, [0]), (8, 0, []), (6, 1, [0]), (7, 1, [0]), (9, 0, [])] (by kernel_rfl) ?_
        conv => whnf
        have d : ∀ m : Nat, m ≤ 16 → IntKind.i64.wrap ((k : Int) - (m : Int)) = ((k - m : Nat) : Int) := fun m hm => by rw [wrap_i64 (by omega) (by omega)]; omega
        rw [show IntKind.i64.wrap ((k : Int) - 2) = _ from d 2 (by omega), show IntKind.i64.wrap ((k : Int) - 15) = _ from d 15 (by omega)]
        refine ⟨by omega, ?_⟩
        conv => whnf
        refine ⟨by omega, ?_⟩
        conv => whnf
        refine ⟨by omega, ?_⟩
        conv => whnf
        refine ⟨by omega, ?_⟩
        conv => whnf
        refine DrawK.mk1 tok mixed [0, 0, 2, 0, 14, 30, 0, 64, 254, 0, 512, 1536, 3584, 8190, 0, 16414, 0, 114718, 245790, 0, 524288, 2080798, 4194302, 0, 8388608, 25165824, 58720256, 134217726, 268435455, 536870911] [(0, 0, []), (1, 0, []), (3, 0, []), (6, 0, []), (7, 0, []), (9, 0, []), (10, 0, []), (14, 0, []), (16, 0, []), (19, 0, []), (20, 0, []), (23, 0, []), (24, 0, []), (2, 1, [0]), (4, 1, [0]), (5, 0, []), (8, 0, []), (11, 1, [0]), (12, 1, [0]), (13, 0, []), (15, 1, [0]), (17, 1, [0]), (18, 0, []), (21, 0, []), (22, 0, []), (25, 1, [0]), (26, 1, [0]), (27, 0, []), (28, 1, [0]), (29, 2, [])] (by kernel_rfl) ?_
        conv => whnf
        have g : ∀ m : Nat, (Us (ws bs k)).getD (((m : Nat) : Int)).toNat 0 = (((ws bs k).getD m 0).toNat : Int) := fun m => by rw [Int.toNat_natCast, Us_getD]; rfl
        rw [g (k - 2), g (k - 15)]
        refine ⟨by omega, ?_⟩
        conv => whnf
        refine ⟨by omega, ?_⟩
        conv => whnf
        refine CallR.mk' _ ((c217 _ 17 (by omega) (by omega)).free _ ⟨trivial, trivial, trivial⟩ trivial) ?_
        conv => whnf
        refine CallR.mk' _ ((c217 _ 19 (by omega) (by omega)).free _ ⟨trivial, trivial, trivial⟩ trivial) ?_
        conv => whnf
        rw [show IntKind.i64.wrap ((k : Int) - 7) = _ from d 7 (by omega)]
        refine ⟨by omega, ?_⟩
        conv => whnf
        refine ⟨by omega, ?_⟩
        conv => whnf
        refine CallR.mk' _ ((c217 _ 7 (by omega) (by omega)).free _ ⟨trivial, trivial, trivial⟩ trivial) ?_
        conv => whnf
        refine CallR.mk' _ ((c217 _ 18 (by omega) (by omega)).free _ ⟨trivial, trivial, trivial⟩ trivial) ?_
        conv => whnf
        rw [show IntKind.i64.wrap ((k : Int) - 16) = _ from d 16 (by omega)]
        refine ⟨by omega, ?_⟩
        conv => whnf
        refine ⟨by omega, ?_⟩
        conv => whnf
        refine ⟨by omega, ?_⟩
        conv => whnf
        refine ⟨by omega, ?_⟩
        conv => whnf
        refine ⟨by rw [Us_length, ws_length]; omega, ?_⟩
        conv => whnf
        refine next_round hk' (Weak.of ⟨rfl, okGs.ws (by exact ⟨trivial, trivial⟩), rfl, ⟨.ints rfl fun _ _ => rfl, trivial⟩, rfl, ⟨.ints rfl fun i hi => ?_, trivial⟩, trivial⟩ (by simp) ?_)
        · rw [g (k - 7), g (k - 16), Int.toNat_natCast]
          rw [u32_shr' _ 10 (m := 10) (by omega) rfl, u32_shr' _ 3 (m := 3) (by omega) rfl]
          simp only [u32_xor, u32_add]
          rw [Us_set', ws]
          simp only [h16, if_false]
          rfl
        · exact ⟨okF.wv rfl, okF.wv rfl, okF.wv rfl, WV.lf (WL.int (by rw [wrap_i64 (by omega) (by omega)]; omega)), trivial⟩
    · refine CaseB.of_false (by simp; omega) ?_
      conv => whnf
      obtain rfl : k = 64 := by omega
      exact RetK.empty (okF.wv ⟨trivial, trivial⟩)

end Go.Sym.Md
