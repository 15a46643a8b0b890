/- Contracts of the program's functions, proved by the framework (text PoD), without conditions but those that each theorem states. -/
import Derived.Test.YtlmcdgbjbamdnaaPoC
import Derived.Test.YtlmcdgbjbamdnaaFw6
set_option maxRecDepth 10000
set_option linter.unusedVariables false
namespace Go.Sym.Md
open Go Go.Sym Go.Sym.Sh
theorem u32_shl' (x : UInt32) (n : Nat) (h : n < 32) {m : Int} (e : m = (n : Int)) : shlI .u32 (x.toNat : Int) m = ((x <<< (UInt32.ofNat n)).toNat : Int) := by subst e; exact u32_shl x n h
theorem byte_u32 (x : UInt8) : IntKind.u32.wrap (x.toNat : Int) = (x.toUInt32.toNat : Int) := by
  have := x.toNat_lt
  rw [wrap_u32, UInt8.toNat_toUInt32]; omega

/-- sha.schedule -/
theorem c225 (bs : List UInt8) (hb : bs.length = 64) : SCalls Proofs.Try.prog 225 [.s (.lf (.ptr 0 0))] [some ⟨199, [.bytes 64 bs]⟩] (.s (.agg [.ints .u32 64 (Us (ws bs 64))])) [some ⟨199, [.bytes 64 bs]⟩] := by
  refine SCalls.intro tok Proofs.Try.func225 ?_
  conv => whnf
  refine LoopK.upTo 64 (fun k => [(0, .s (.lf (.ptr 0 0))), (2, .s (.lf (.ptr 1 0))), (3, .s (.lf (.ptr 2 0))), (7, vI k)])
    (fun k => [some ⟨199, [.bytes 64 bs]⟩, some ⟨223, [.ints .u32 64 (Us (ws bs 0))]⟩, some ⟨223, [.ints .u32 64 (Us (ws bs k))]⟩]) ?_ ?_
  · refine Weak.of ⟨rfl, okGs.ws (by exact ⟨trivial, trivial⟩), rfl, ?_, rfl, ?_, trivial⟩ (by simp) ?_
    · exact ⟨.ints rfl fun _ _ => rfl, trivial⟩
    · exact ⟨.ints rfl fun _ _ => rfl, trivial⟩
    · exact ⟨okF.wv rfl, okF.wv rfl, okF.wv rfl, okF.wv trivial, trivial⟩
  · intro k hk
    conv => whnf
    by_cases hk' : k < 64
    · refine CaseB.of_true (by simp; omega) ?_
      conv => whnf
      by_cases h16 : k < 16
      · refine CaseB.of_true (by simp; omega) ?_
        conv => whnf
        have e1 : IntKind.i64.wrap (4 * (k : Int)) = ((4 * k : Nat) : Int) := by rw [wrap_i64 (by omega) (by omega)]; omega
        rw [e1]
        have e2 : IntKind.i64.wrap (((4 * k : Nat) : Int) + 4) = ((4 * k + 4 : Nat) : Int) := by rw [wrap_i64 (by omega) (by omega)]; omega
        rw [e2]
        refine ⟨⟨by omega, by simp [maxLen]⟩, ?_⟩
        conv => whnf
        refine LoopK.upTo 4 (fun j => [(0, .s (.lf (.ptr 0 0))), (2, .s (.lf (.ptr 1 0))), (3, .s (.lf (.ptr 2 0))), (7, vI k), (4, vI k), (19, .s (.lf (.own 0 0 1 (4 * k) 4))), (20, vI 4), (21, vI j)])
          (fun j => [some ⟨199, [.bytes 64 bs]⟩, some ⟨223, [.ints .u32 64 (Us (ws bs 0))]⟩, some ⟨223, [.ints .u32 64 (Us ((ws bs k).set k (acc bs k j)))]⟩]) ?_ ?_
        · refine Weak.of ⟨rfl, okGs.ws (by exact ⟨trivial, trivial⟩), rfl, ⟨.ints rfl fun _ _ => rfl, trivial⟩, rfl, ⟨.ints rfl fun i hi => ?_, trivial⟩, trivial⟩ (by simp) ?_
          · have h0 := ws_zero bs k k (Nat.le_refl _)
            rw [Us_getD, Us_getD]
            congr 1
            simp only [List.getD_eq_getElem?_getD, List.getElem?_set] at h0 ⊢
            split
            · rename_i e; subst e; simp only [h0]; rw [if_pos (by rw [ws_length]; exact hk')]; rfl
            · rfl
          · exact ⟨okF.wv rfl, okF.wv rfl, okF.wv rfl, okF.wv trivial, okF.wv trivial, WV.lf (WL.own rfl rfl (by omega) (by omega)), WV.lf (WL.int (by omega)), okF.wv trivial, trivial⟩
        · intro j hj
          conv => whnf
          by_cases hj' : j < 4
          · refine CaseB.of_true (by simp; omega) ?_
            conv => whnf
            refine ⟨by omega, ?_⟩
            conv => whnf
            refine ⟨by omega, ?_⟩
            conv => whnf
            refine ⟨by omega, ?_⟩
            conv => whnf
            refine ⟨by omega, ?_⟩
            conv => whnf
            refine ⟨by omega, ?_⟩
            conv => whnf
            refine ⟨by omega, ?_⟩
            conv => whnf
            refine ⟨by omega, ?_⟩
            conv => whnf
            have hlen : (Int.toNat (k : Int)) < (Us ((ws bs k).set k (acc bs k j))).length := by rw [Us_length, List.length_set, ws_length]; omega
            refine ⟨hlen, ?_⟩
            conv => whnf
            refine next_round hj' (Weak.of ⟨rfl, okGs.ws (by exact ⟨trivial, trivial⟩), rfl, ⟨.ints rfl fun _ _ => rfl, trivial⟩, rfl, ⟨.ints rfl fun i hi => ?_, trivial⟩, trivial⟩ (by simp) ?_)
            · rw [Int.toNat_natCast, Int.toNat_natCast, Us_getD, show ((ws bs k).set k (acc bs k j)).getD k 0 = acc bs k j by
                rw [List.getD_eq_getElem?_getD, List.getElem?_set_self (by rw [ws_length]; exact hk')]; rfl]
              simp only [U]
              rw [u32_shl' _ 8 (m := 8) (by omega) rfl, byte_u32, u32_or, Us_set', List.set_set]
              rfl
            · exact ⟨okF.wv rfl, okF.wv rfl, okF.wv rfl, okF.wv trivial, okF.wv trivial, okF.wv rfl, okF.wv trivial, WV.lf (WL.int (by rw [wrap_i64 (by omega) (by omega)]; omega)), trivial⟩
          · refine CaseB.of_false (by simp; omega) ?_
            conv => whnf
            obtain rfl : j = 4 := by omega
            refine next_round hk' (Weak.of ⟨rfl, okGs.ws (by exact ⟨trivial, trivial⟩), rfl, ⟨.ints rfl fun _ _ => rfl, trivial⟩, rfl, ⟨.ints rfl fun i hi => ?_, trivial⟩, trivial⟩ (by simp) ?_)
            · simp only [ws, h16, if_true]
            · exact ⟨okF.wv rfl, okF.wv rfl, okF.wv rfl, WV.lf (WL.int (by rw [wrap_i64 (by omega) (by omega)]; omega)), trivial⟩
      · refine CaseB.of_false (by simp; omega) ?_
        conv => whnf
        refine DrawK.mk1 tok mixed [0, 0, 2, 6, 14, 30, 0, 64, 192, 448, 1022, 0, 2048, 6144, 14336, 30782, 65534, 0, 131072, 393216, 917504, 2097150, 4194303, 8388607] [(0, 0, []), (1, 0, []), (2, 0, []), (6, 0, []), (7, 0, []), (11, 0, []), (12, 0, []), (17, 0, []), (18, 0, []), (3, 1, [0]), (4, 1, [0]), (5, 1, [0]), (8, 1, [0]), (9, 1, [0]), (10, 0, []), (13, 1, [0]), (14, 1, [0]), (15, 1, [0]), (16, 0, []), (19, 1, [0]), (20, 1, [0]), (21, 0, []), (22, 1, [0]), (23, 2, [])] (by kernel_rfl) ?_
        conv => whnf
        have d : ∀ m : Nat, m ≤ 16 → IntKind.i64.wrap ((k : Int) - (m : Int)) = ((k - m : Nat) : Int) := fun m hm => by rw [wrap_i64 (by omega) (by omega)]; omega
        rw [show IntKind.i64.wrap ((k : Int) - 2) = _ from d 2 (by omega)]
        refine ⟨by omega, ?_⟩
        conv => whnf
        rw [Int.toNat_natCast]
        refine ⟨by omega, ?_⟩
        conv => whnf
        rw [Us_getD]
        refine CallR.mk' _ ((c236 _).free _ ⟨trivial, trivial⟩ trivial) ?_
        conv => whnf
        rw [show IntKind.i64.wrap ((k : Int) - 7) = _ from d 7 (by omega)]
        refine ⟨by omega, ?_⟩
        conv => whnf
        rw [Int.toNat_natCast]
        refine ⟨by omega, ?_⟩
        conv => whnf
        rw [show IntKind.i64.wrap ((k : Int) - 15) = _ from d 15 (by omega)]
        refine ⟨by omega, ?_⟩
        conv => whnf
        rw [Int.toNat_natCast]
        refine ⟨by omega, ?_⟩
        conv => whnf
        rw [Us_getD _ (k - 15)]
        refine CallR.mk' _ ((c237 _).free _ ⟨trivial, trivial⟩ trivial) ?_
        conv => whnf
        rw [show IntKind.i64.wrap ((k : Int) - 16) = _ from d 16 (by omega)]
        refine ⟨by omega, ?_⟩
        conv => whnf
        rw [Int.toNat_natCast]
        refine ⟨by omega, ?_⟩
        conv => whnf
        refine ⟨by omega, ?_⟩
        conv => whnf
        rw [Int.toNat_natCast]
        refine ⟨by omega, ?_⟩
        conv => whnf
        refine ⟨by rw [Us_length, ws_length]; exact hk', ?_⟩
        conv => whnf
        refine next_round hk' (Weak.of ⟨rfl, okGs.ws (by exact ⟨trivial, trivial⟩), rfl, ⟨.ints rfl fun _ _ => rfl, trivial⟩, rfl, ⟨.ints rfl fun i hi => ?_, trivial⟩, trivial⟩ (by simp) ?_)
        · rw [Us_getD _ (k - 7), Us_getD _ (k - 16)]
          simp only [U]
          rw [u32_add, u32_add, u32_add, Us_set']
          simp only [ws, h16, if_false]
        · exact ⟨okF.wv rfl, okF.wv rfl, okF.wv rfl, WV.lf (WL.int (by rw [wrap_i64 (by omega) (by omega)]; omega)), trivial⟩
    · refine CaseB.of_false (by simp; omega) ?_
      conv => whnf
      obtain rfl : k = 64 := by omega
      exact RetK.of ⟨rfl, okGs.ws (by exact ⟨trivial, trivial⟩), trivial⟩ (by simp) (okF.wv ⟨trivial, trivial⟩)
end Go.Sym.Md
