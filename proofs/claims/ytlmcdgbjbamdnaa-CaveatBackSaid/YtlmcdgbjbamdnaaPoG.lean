/- Contracts of the program's functions, proved by the framework (text PoG), without conditions but those that each theorem states. -/
import Derived.Test.YtlmcdgbjbamdnaaPoF
import Derived.Test.YtlmcdgbjbamdnaaFw7
set_option maxRecDepth 10000
set_option linter.unusedVariables false
set_option linter.unusedSimpArgs false
namespace Go.Sym.Md
open Go Go.Sym Go.Sym.Sh
attribute [local irreducible] ws acc rs addUp Kw highA highB Sh.choose most lowA lowB ror

theorem addUp_comm (s h : List UInt32) (hs : s.length = 8) (hh : h.length = 8) : addUp s h 8 = addUp h s 8 := by
  obtain ⟨a0, a1, a2, a3, a4, a5, a6, a7, rfl⟩ := eight hs
  obtain ⟨b0, b1, b2, b3, b4, b5, b6, b7, rfl⟩ := eight hh
  simp only [addUp, List.getD_cons_zero, List.getD_cons_succ, List.set_cons_zero, List.set_cons_succ]
  rw [UInt32.add_comm a0, UInt32.add_comm a1, UInt32.add_comm a2, UInt32.add_comm a3, UInt32.add_comm a4, UInt32.add_comm a5, UInt32.add_comm a6, UInt32.add_comm a7]

/-- baileyref03.Block -/
theorem c192 (h : List UInt32) (hh : h.length = 8) (bs : List UInt8) (hb : bs.length = 64) : SCalls Proofs.Try.prog 192 [vH h, vBlk bs] [] (vH (blockF h bs)) [] := by
  refine SCalls.intro tok Proofs.Try.func192 ?_
  conv => whnf
  refine DrawK.join [(2, .s (.lf (.ptr 0 0))), (4, .s (.lf (.ptr 2 0))), (5, .s (.lf (.ptr 3 0))), (6, .s (.lf (.ptr 4 0))), (7, .s (.lf (.ptr 5 0)))]
    [some ⟨198, [.ints .u32 8 (Us h)]⟩, none, some ⟨198, [.ints .u32 8 (List.replicate 8 0)]⟩, some ⟨223, [.ints .u32 64 (Us (ws bs 64))]⟩, some ⟨223, [.ints .u32 64 (Us Kw)]⟩, some ⟨198, [.ints .u32 8 (Us h)]⟩] ?_ ?_
  · refine DrawK.mkL tok mixed [0, 1, 3, 0, 0, 0, 0, 119, 247, 511] [4, 5, 6, 7, 8, 9] [
      ([0, 1, 3, 0, 0, 16, 48, 119, 247, 511], [(4, 2, []), (5, 2, []), (6, 2, []), (0, 1, [0, 1, 2, 3]), (1, 1, [0, 1, 2, 3]), (2, 1, [0, 1, 2, 3]), (7, 2, []), (8, 2, []), (3, 1, [0, 1, 2, 3, 4, 5]), (9, 2, [])]),
      ([0, 1, 3, 0, 0, 80, 16, 119, 247, 511], [(4, 2, []), (6, 2, []), (5, 2, []), (0, 1, [0, 1, 2, 3]), (1, 1, [0, 1, 2, 3]), (2, 1, [0, 1, 2, 3]), (7, 2, []), (8, 2, []), (3, 1, [0, 1, 2, 3, 4, 5]), (9, 2, [])]),
      ([0, 1, 3, 0, 32, 0, 48, 119, 247, 511], [(5, 2, []), (4, 2, []), (6, 2, []), (0, 1, [0, 1, 2, 3]), (1, 1, [0, 1, 2, 3]), (2, 1, [0, 1, 2, 3]), (7, 2, []), (8, 2, []), (3, 1, [0, 1, 2, 3, 4, 5]), (9, 2, [])]),
      ([0, 1, 3, 0, 96, 0, 32, 119, 247, 511], [(5, 2, []), (6, 2, []), (4, 2, []), (0, 1, [0, 1, 2, 3]), (1, 1, [0, 1, 2, 3]), (2, 1, [0, 1, 2, 3]), (7, 2, []), (8, 2, []), (3, 1, [0, 1, 2, 3, 4, 5]), (9, 2, [])]),
      ([0, 1, 3, 0, 64, 80, 0, 119, 247, 511], [(6, 2, []), (4, 2, []), (5, 2, []), (0, 1, [0, 1, 2, 3]), (1, 1, [0, 1, 2, 3]), (2, 1, [0, 1, 2, 3]), (7, 2, []), (8, 2, []), (3, 1, [0, 1, 2, 3, 4, 5]), (9, 2, [])]),
      ([0, 1, 3, 0, 96, 64, 0, 119, 247, 511], [(6, 2, []), (5, 2, []), (4, 2, []), (0, 1, [0, 1, 2, 3]), (1, 1, [0, 1, 2, 3]), (2, 1, [0, 1, 2, 3]), (7, 2, []), (8, 2, []), (3, 1, [0, 1, 2, 3, 4, 5]), (9, 2, [])])] (by kernel_rfl) ?_
    refine ⟨?_, ?_, ?_, ?_, ?_, ?_, trivial⟩ <;>
      (conv => whnf) <;>
      (repeat (first
        | (refine CallR.mk' _ ((c215 bs hb).free _ ⟨⟨trivial, trivial⟩, trivial⟩ ⟨trivial, trivial⟩) ?_; conv => whnf)
        | (refine CallR.mk' _ (c216.free _ trivial ⟨trivial, trivial⟩) ?_; conv => whnf)
        | (refine ⟨rfl, ?_⟩; conv => whnf)))
    · exact Weak.perm [0, 1, 2, 3, 4, 5] ⟨⟨rfl, freeGs.ws (by exact ⟨trivial, trivial⟩)⟩, ⟨rfl, freeGs.ws (by exact ⟨trivial, trivial⟩)⟩, ⟨rfl, freeGs.ws (by exact ⟨trivial, trivial⟩)⟩, ⟨rfl, freeGs.ws (by exact ⟨trivial, trivial⟩)⟩, ⟨rfl, freeGs.ws (by exact ⟨trivial, trivial⟩)⟩, trivial⟩ ⟨WV.lf (WL.ptr rfl rfl), WV.lf (WL.ptr rfl rfl), WV.lf (WL.ptr rfl rfl), WV.lf (WL.ptr rfl rfl), WV.lf (WL.ptr rfl rfl), trivial⟩ rfl (by simp) rfl (by simp)
    · exact Weak.perm [0, 1, 2, 3, 5, 4] ⟨⟨rfl, freeGs.ws (by exact ⟨trivial, trivial⟩)⟩, ⟨rfl, freeGs.ws (by exact ⟨trivial, trivial⟩)⟩, ⟨rfl, freeGs.ws (by exact ⟨trivial, trivial⟩)⟩, ⟨rfl, freeGs.ws (by exact ⟨trivial, trivial⟩)⟩, ⟨rfl, freeGs.ws (by exact ⟨trivial, trivial⟩)⟩, trivial⟩ ⟨WV.lf (WL.ptr rfl rfl), WV.lf (WL.ptr rfl rfl), WV.lf (WL.ptr rfl rfl), WV.lf (WL.ptr rfl rfl), WV.lf (WL.ptr rfl rfl), trivial⟩ rfl (by simp) rfl (by simp)
    · exact Weak.perm [0, 1, 2, 4, 3, 5] ⟨⟨rfl, freeGs.ws (by exact ⟨trivial, trivial⟩)⟩, ⟨rfl, freeGs.ws (by exact ⟨trivial, trivial⟩)⟩, ⟨rfl, freeGs.ws (by exact ⟨trivial, trivial⟩)⟩, ⟨rfl, freeGs.ws (by exact ⟨trivial, trivial⟩)⟩, ⟨rfl, freeGs.ws (by exact ⟨trivial, trivial⟩)⟩, trivial⟩ ⟨WV.lf (WL.ptr rfl rfl), WV.lf (WL.ptr rfl rfl), WV.lf (WL.ptr rfl rfl), WV.lf (WL.ptr rfl rfl), WV.lf (WL.ptr rfl rfl), trivial⟩ rfl (by simp) rfl (by simp)
    · exact Weak.perm [0, 1, 2, 5, 3, 4] ⟨⟨rfl, freeGs.ws (by exact ⟨trivial, trivial⟩)⟩, ⟨rfl, freeGs.ws (by exact ⟨trivial, trivial⟩)⟩, ⟨rfl, freeGs.ws (by exact ⟨trivial, trivial⟩)⟩, ⟨rfl, freeGs.ws (by exact ⟨trivial, trivial⟩)⟩, ⟨rfl, freeGs.ws (by exact ⟨trivial, trivial⟩)⟩, trivial⟩ ⟨WV.lf (WL.ptr rfl rfl), WV.lf (WL.ptr rfl rfl), WV.lf (WL.ptr rfl rfl), WV.lf (WL.ptr rfl rfl), WV.lf (WL.ptr rfl rfl), trivial⟩ rfl (by simp) rfl (by simp)
    · exact Weak.perm [0, 1, 2, 4, 5, 3] ⟨⟨rfl, freeGs.ws (by exact ⟨trivial, trivial⟩)⟩, ⟨rfl, freeGs.ws (by exact ⟨trivial, trivial⟩)⟩, ⟨rfl, freeGs.ws (by exact ⟨trivial, trivial⟩)⟩, ⟨rfl, freeGs.ws (by exact ⟨trivial, trivial⟩)⟩, ⟨rfl, freeGs.ws (by exact ⟨trivial, trivial⟩)⟩, trivial⟩ ⟨WV.lf (WL.ptr rfl rfl), WV.lf (WL.ptr rfl rfl), WV.lf (WL.ptr rfl rfl), WV.lf (WL.ptr rfl rfl), WV.lf (WL.ptr rfl rfl), trivial⟩ rfl (by simp) rfl (by simp)
    · exact Weak.perm [0, 1, 2, 5, 4, 3] ⟨⟨rfl, freeGs.ws (by exact ⟨trivial, trivial⟩)⟩, ⟨rfl, freeGs.ws (by exact ⟨trivial, trivial⟩)⟩, ⟨rfl, freeGs.ws (by exact ⟨trivial, trivial⟩)⟩, ⟨rfl, freeGs.ws (by exact ⟨trivial, trivial⟩)⟩, ⟨rfl, freeGs.ws (by exact ⟨trivial, trivial⟩)⟩, trivial⟩ ⟨WV.lf (WL.ptr rfl rfl), WV.lf (WL.ptr rfl rfl), WV.lf (WL.ptr rfl rfl), WV.lf (WL.ptr rfl rfl), WV.lf (WL.ptr rfl rfl), trivial⟩ rfl (by simp) rfl (by simp)
  · conv => whnf
    refine LoopK.upTo 64 (fun k => [(2, .s (.lf (.ptr 0 0))), (4, .s (.lf (.ptr 2 0))), (5, .s (.lf (.ptr 3 0))), (6, .s (.lf (.ptr 4 0))), (7, .s (.lf (.ptr 5 0))), (8, vI k)])
      (fun k => [some ⟨198, [.ints .u32 8 (Us h)]⟩, none, some ⟨198, [.ints .u32 8 (List.replicate 8 0)]⟩, some ⟨223, [.ints .u32 64 (Us (ws bs 64))]⟩, some ⟨223, [.ints .u32 64 (Us Kw)]⟩, some ⟨198, [.ints .u32 8 (Us (rs h bs k))]⟩]) ?_ ?_
    · refine Weak.of ⟨rfl, okGs.ws (by exact ⟨trivial, trivial⟩), rfl, okGs.ws (by exact ⟨trivial, trivial⟩), rfl, okGs.ws (by exact ⟨trivial, trivial⟩), rfl, okGs.ws (by exact ⟨trivial, trivial⟩), rfl, ⟨.ints rfl fun i _ => ?_, trivial⟩, trivial⟩ (by simp) ?_
      · rw [rs]
      · exact ⟨okF.wv rfl, okF.wv rfl, okF.wv rfl, okF.wv rfl, okF.wv rfl, okF.wv trivial, trivial⟩
    intro k hk
    conv => whnf
    by_cases hk' : k < 64
    · refine CaseB.of_true (by simp; omega) ?_
      conv => whnf
      obtain ⟨s0, s1, s2, s3, s4, s5, s6, s7, hs⟩ := eight (rs_length h bs hh k)
      rw [hs]
      refine DrawK.mk1 tok mixed [0, 1, 0, 4, 3, 31] [(0, 1, [0]), (1, 1, [0]), (4, 0, []), (2, 1, [0]), (3, 1, [0]), (5, 0, [])] (by kernel_rfl) ?_
      conv => whnf
      refine ⟨by omega, ?_⟩
      conv => whnf
      refine ⟨by omega, ?_⟩
      conv => whnf
      refine ⟨by omega, ?_⟩
      conv => whnf
      refine ⟨by omega, ?_⟩
      conv => whnf
      refine DrawK.mk1 tok mixed [0, 1, 0, 4, 0, 28, 60, 0, 188, 508, 1023, 0, 0, 4096, 14336, 0, 32768, 0, 131072, 491520, 1046528, 2097151, 0, 4194304, 12582912, 33554431, 0, 67108864, 201326592, 536870911, 1073741823] [(2, 0, []), (4, 0, []), (7, 0, []), (11, 0, []), (15, 0, []), (16, 0, []), (22, 0, []), (26, 0, []), (0, 1, [0]), (1, 1, [0]), (3, 1, [0]), (5, 1, [0]), (6, 0, []), (8, 1, [0]), (9, 0, []), (10, 0, []), (12, 1, [0]), (13, 1, [0]), (14, 0, []), (17, 1, [0]), (18, 1, [0]), (19, 0, []), (20, 0, []), (21, 0, []), (23, 1, [0]), (24, 1, [0]), (25, 0, []), (27, 1, [0]), (28, 1, [0]), (29, 0, []), (30, 0, [])] (by kernel_rfl) ?_
      conv => whnf
      refine ⟨by omega, ?_⟩
      conv => whnf
      refine ⟨by omega, ?_⟩
      conv => whnf
      refine CallR.mk' _ ((c217 s4 6 (by omega) (by omega)).free _ ⟨trivial, trivial, trivial⟩ trivial) ?_
      conv => whnf
      refine CallR.mk' _ ((c217 s4 11 (by omega) (by omega)).free _ ⟨trivial, trivial, trivial⟩ trivial) ?_
      conv => whnf
      refine CallR.mk' _ ((c217 s4 25 (by omega) (by omega)).free _ ⟨trivial, trivial, trivial⟩ trivial) ?_
      conv => whnf
      refine ⟨by omega, ?_⟩
      conv => whnf
      refine ⟨by omega, ?_⟩
      conv => whnf
      refine ⟨by omega, ?_⟩
      conv => whnf
      refine ⟨by omega, ?_⟩
      conv => whnf
      refine ⟨by omega, ?_⟩
      conv => whnf
      refine ⟨by omega, ?_⟩
      conv => whnf
      refine ⟨by omega, ?_⟩
      conv => whnf
      refine ⟨by omega, ?_⟩
      conv => whnf
      refine DrawK.mk1 tok mixed [0, 1, 0, 7, 15, 0, 47, 127, 0, 0, 512, 1792, 0, 0, 8192, 28672, 65280, 0, 131072, 0, 524288, 1966080, 4194048, 8388607, 16777215] [(0, 0, []), (2, 0, []), (5, 0, []), (8, 0, []), (12, 0, []), (1, 1, [0]), (3, 1, [0]), (4, 0, []), (6, 1, [0]), (7, 0, []), (9, 1, [0]), (10, 1, [0]), (11, 0, []), (13, 1, [0]), (14, 1, [0]), (15, 0, []), (16, 0, []), (17, 1, [0]), (18, 1, [0]), (19, 1, [0]), (20, 1, [0]), (21, 0, []), (22, 0, []), (23, 0, []), (24, 0, [])] (by kernel_rfl) ?_
      conv => whnf
      refine CallR.mk' _ ((c217 s0 2 (by omega) (by omega)).free _ ⟨trivial, trivial, trivial⟩ trivial) ?_
      conv => whnf
      refine CallR.mk' _ ((c217 s0 13 (by omega) (by omega)).free _ ⟨trivial, trivial, trivial⟩ trivial) ?_
      conv => whnf
      refine CallR.mk' _ ((c217 s0 22 (by omega) (by omega)).free _ ⟨trivial, trivial, trivial⟩ trivial) ?_
      conv => whnf
      refine ⟨by omega, ?_⟩
      conv => whnf
      refine ⟨by omega, ?_⟩
      conv => whnf
      refine ⟨by omega, ?_⟩
      conv => whnf
      refine ⟨by omega, ?_⟩
      conv => whnf
      refine ⟨by omega, ?_⟩
      conv => whnf
      refine ⟨by omega, ?_⟩
      conv => whnf
      refine ⟨by omega, ?_⟩
      conv => whnf
      refine ⟨by omega, ?_⟩
      conv => whnf
      refine ⟨by omega, ?_⟩
      conv => whnf
      refine ⟨by omega, ?_⟩
      conv => whnf
      refine ⟨by omega, ?_⟩
      conv => whnf
      refine ⟨by omega, ?_⟩
      conv => whnf
      refine ⟨by omega, ?_⟩
      conv => whnf
      refine ⟨by omega, ?_⟩
      conv => whnf
      refine ⟨by omega, ?_⟩
      conv => whnf
      refine ⟨by omega, ?_⟩
      conv => whnf
      refine ⟨by omega, ?_⟩
      conv => whnf
      refine ⟨by omega, ?_⟩
      conv => whnf
      refine ⟨by omega, ?_⟩
      conv => whnf
      refine ⟨by omega, ?_⟩
      conv => whnf
      refine ⟨by omega, ?_⟩
      conv => whnf
      refine ⟨by omega, ?_⟩
      conv => whnf
      refine next_round hk' (Weak.of ⟨rfl, okGs.ws (by exact ⟨trivial, trivial⟩), rfl, okGs.ws (by exact ⟨trivial, trivial⟩), rfl, okGs.ws (by exact ⟨trivial, trivial⟩), rfl, okGs.ws (by exact ⟨trivial, trivial⟩), rfl, ⟨.ints rfl fun i _ => ?_, trivial⟩, trivial⟩ (by simp) ?_)
      · congr 1
        have g0 : (Us [s0, s1, s2, s3, s4, s5, s6, s7]).getD (Int.toNat 0) 0 = (s0.toNat : Int) := rfl
        have g1 : (Us [s0, s1, s2, s3, s4, s5, s6, s7]).getD (Int.toNat 1) 0 = (s1.toNat : Int) := rfl
        have g2 : (Us [s0, s1, s2, s3, s4, s5, s6, s7]).getD (Int.toNat 2) 0 = (s2.toNat : Int) := rfl
        have g3 : (Us [s0, s1, s2, s3, s4, s5, s6, s7]).getD (Int.toNat 3) 0 = (s3.toNat : Int) := rfl
        have g4 : (Us [s0, s1, s2, s3, s4, s5, s6, s7]).getD (Int.toNat 4) 0 = (s4.toNat : Int) := rfl
        have g5 : (Us [s0, s1, s2, s3, s4, s5, s6, s7]).getD (Int.toNat 5) 0 = (s5.toNat : Int) := rfl
        have g6 : (Us [s0, s1, s2, s3, s4, s5, s6, s7]).getD (Int.toNat 6) 0 = (s6.toNat : Int) := rfl
        have g7 : (Us [s0, s1, s2, s3, s4, s5, s6, s7]).getD (Int.toNat 7) 0 = (s7.toNat : Int) := rfl
        have x3 : ∀ l : List UInt32, (Us l).getD (Int.toNat (k : Int)) 0 = ((l.getD k 0).toNat : Int) := fun l => by rw [Int.toNat_natCast, Us_getD]; rfl
        rw [g0, g1, g2, g3, g4, g5, g6, g7, x3, x3, u32_not]
        simp only [u32_xor, u32_and, u32_add]
        rw [choose_ref, most_ref, rs, hs, show (ror s4 6 ^^^ ror s4 11) ^^^ ror s4 25 = highB s4 by rw [highB], show (ror s0 2 ^^^ ror s0 13) ^^^ ror s0 22 = highA s0 by rw [highA]]
        rfl
      · exact ⟨okF.wv rfl, okF.wv rfl, okF.wv rfl, okF.wv rfl, okF.wv rfl, WV.lf (WL.int (by rw [wrap_i64 (by omega) (by omega)]; omega)), trivial⟩
    · refine CaseB.of_false (by simp; omega) ?_
      conv => whnf
      obtain rfl : k = 64 := by omega
      refine LoopK.upTo 8 (fun k => [(2, .s (.lf (.ptr 0 0))), (4, .s (.lf (.ptr 2 0))), (7, .s (.lf (.ptr 5 0))), (13, vI k)])
        (fun k => [some ⟨198, [.ints .u32 8 (Us (addUp h (rs h bs 64) k))]⟩, none, some ⟨198, [.ints .u32 8 (List.replicate 8 0)]⟩, none, none, some ⟨198, [.ints .u32 8 (Us (rs h bs 64))]⟩]) ?_ ?_
      · refine Weak.of ⟨rfl, ⟨.ints rfl fun i _ => ?_, trivial⟩, rfl, okGs.ws (by exact ⟨trivial, trivial⟩), rfl, okGs.ws (by exact ⟨trivial, trivial⟩), trivial⟩ (by simp) ?_
        · rw [addUp]
        · exact ⟨okF.wv rfl, okF.wv rfl, okF.wv rfl, okF.wv trivial, trivial⟩
      intro i hi
      conv => whnf
      by_cases hi' : i < 8
      · refine CaseB.of_true (by simp; omega) ?_
        conv => whnf
        refine DrawK.mk1 tok mixed [0, 0, 2, 6, 0, 16, 48, 126, 255, 511] [(0, 0, []), (1, 0, []), (4, 0, []), (2, 1, [0]), (3, 1, [0]), (5, 1, [0]), (6, 1, [0]), (7, 0, []), (8, 1, [0]), (9, 2, [])] (by kernel_rfl) ?_
        conv => whnf
        refine ⟨by omega, ?_⟩
        conv => whnf
        refine ⟨by omega, ?_⟩
        conv => whnf
        refine ⟨by omega, ?_⟩
        conv => whnf
        refine ⟨by omega, ?_⟩
        conv => whnf
        refine ⟨by omega, ?_⟩
        conv => whnf
        refine ⟨by omega, ?_⟩
        conv => whnf
        refine ⟨by rw [Us_length, addUp_length, hh]; omega, ?_⟩
        conv => whnf
        refine next_round hi' (Weak.of ⟨rfl, ⟨.ints rfl fun o _ => ?_, trivial⟩, rfl, okGs.ws (by exact ⟨trivial, trivial⟩), rfl, okGs.ws (by exact ⟨trivial, trivial⟩), trivial⟩ (by simp) ?_)
        · have x3 : ∀ l : List UInt32, (Us l).getD (Int.toNat (i : Int)) 0 = ((l.getD i 0).toNat : Int) := fun l => by rw [Int.toNat_natCast, Us_getD]; rfl
          rw [x3, x3, u32_add, Int.toNat_natCast, Us_set', addUp]
        · exact ⟨okF.wv rfl, okF.wv rfl, okF.wv rfl, WV.lf (WL.int (by rw [wrap_i64 (by omega) (by omega)]; omega)), trivial⟩
      · refine CaseB.of_false (by simp; omega) ?_
        conv => whnf
        obtain rfl : i = 8 := by omega
        refine RetK.empty (wv_ints ?_)
        rw [blockF, addUp_comm _ _ (rs_length h bs hh 64) hh]

end Go.Sym.Md
