/- Contracts of the program's functions, proved by the framework (text PoF), without conditions but those that each theorem states. -/
import Derived.Test.YtlmcdgbjbamdnaaPoE
import Derived.Test.YtlmcdgbjbamdnaaFw7
set_option maxRecDepth 10000

set_option linter.unusedVariables false
set_option linter.unusedSimpArgs false
namespace Go.Sym.Md
open Go Go.Sym Go.Sym.Sh
attribute [local irreducible] ws acc rs addUp Kw highA highB Sh.choose most lowA lowB ror

/-- sha.Block -/
theorem c214 (h : List UInt32) (hh : h.length = 8) (bs : List UInt8) (hb : bs.length = 64) : SCalls Proofs.Try.prog 214 [vH h, vBlk bs] [] (vH (blockF h bs)) [] := by
  refine SCalls.intro tok Proofs.Try.func214 ?_
  conv => whnf
  refine CallK.mk' _ [some ⟨198, [.ints .u32 8 (Us h)]⟩, some ⟨199, [.bytes 64 bs]⟩, some ⟨198, [.ints .u32 8 (List.replicate 8 0)]⟩] ((c225 bs hb).frame1 (nm := 1) rfl rfl (freeGs.ws ⟨trivial, trivial⟩) ⟨WV.lf (WL.ptr rfl rfl), trivial⟩ rfl (freeGs.ws ⟨trivial, trivial⟩) (freeF.wv ⟨trivial, trivial⟩)) ?_
  conv => whnf
  refine CallK.mk' _ _ (c226.free _ trivial ⟨trivial, trivial⟩) ?_
  conv => whnf
  refine LoopK.upTo 64 (fun k => [(2, .s (.lf (.ptr 0 0))), (4, .s (.lf (.ptr 2 0))), (5, .s (.lf (.ptr 3 0))), (6, .s (.lf (.ptr 4 0))), (7, .s (.lf (.ptr 5 0))), (15, vI k)])
    (fun k => [some ⟨198, [.ints .u32 8 (Us h)]⟩, none, some ⟨198, [.ints .u32 8 (List.replicate 8 0)]⟩, some ⟨223, [.ints .u32 64 (Us (ws bs 64))]⟩, some ⟨223, [.ints .u32 64 (Us Kw)]⟩, some ⟨198, [.ints .u32 8 (Us (rs h bs k))]⟩]) ?_ ?_
  · refine Weak.of ⟨rfl, okGs.ws (by exact ⟨trivial, trivial⟩), rfl, okGs.ws (by exact ⟨trivial, trivial⟩), rfl, okGs.ws (by exact ⟨trivial, trivial⟩), rfl, okGs.ws (by exact ⟨trivial, trivial⟩), rfl, ⟨.ints rfl fun i _ => ?_, trivial⟩, trivial⟩ (by simp) ?_
    · rw [rs]
    · exact ⟨okF.wv rfl, okF.wv rfl, okF.wv rfl, okF.wv rfl, okF.wv rfl, okF.wv trivial, trivial⟩
  · intro k hk
    conv => whnf
    by_cases hk' : k < 64
    · refine CaseB.of_true (by simp; omega) ?_
      conv => whnf
      obtain ⟨s0, s1, s2, s3, s4, s5, s6, s7, hs⟩ := eight (rs_length h bs hh k)
      rw [hs]
      refine DrawK.mk1 tok mixed [0, 1, 0, 4, 12, 31, 0, 64, 0, 256, 0, 1024, 4060, 8191, 0, 16384, 49152, 131071, 0, 262144, 786432, 2097151, 4194303] [(14, 0, []), (18, 0, []), (0, 1, [0]), (1, 1, [0]), (2, 1, [0]), (3, 1, [0]), (4, 1, [0]), (5, 0, []), (6, 1, [0]), (7, 1, [0]), (8, 1, [0]), (9, 1, [0]), (10, 1, [0]), (11, 1, [0]), (12, 1, [0]), (13, 0, []), (15, 1, [0]), (16, 1, [0]), (17, 0, []), (19, 1, [0]), (20, 1, [0]), (21, 0, []), (22, 0, [])] (by kernel_rfl) ?_
      conv => whnf
      refine ⟨by omega, ?_⟩
      conv => whnf
      refine ⟨by omega, ?_⟩
      conv => whnf
      refine ⟨by omega, ?_⟩
      conv => whnf
      refine ⟨by omega, ?_⟩
      conv => whnf
      refine CallR.mk' _ ((c227 s4).free _ ⟨trivial, trivial⟩ trivial) ?_
      conv => whnf
      refine ⟨by omega, ?_⟩
      conv => whnf
      refine ⟨by omega, ?_⟩
      conv => whnf
      refine ⟨by omega, ?_⟩
      conv => whnf
      refine ⟨by omega, ?_⟩
      conv => whnf
      refine ⟨by omega, ?_⟩
      conv => whnf
      refine ⟨by omega, ?_⟩
      conv => whnf
      refine CallR.mk' _ ((c228 s4 s5 s6).free _ ⟨trivial, trivial, trivial, trivial⟩ trivial) ?_
      conv => whnf
      refine ⟨by omega, ?_⟩
      conv => whnf
      refine ⟨by omega, ?_⟩
      conv => whnf
      refine ⟨by omega, ?_⟩
      conv => whnf
      refine ⟨by omega, ?_⟩
      conv => whnf
      refine DrawK.mk1 tok mixed [0, 1, 3, 0, 8, 0, 32, 0, 128, 511, 1023, 2047] [(0, 1, [0]), (1, 1, [0]), (2, 1, [0]), (3, 1, [0]), (4, 1, [0]), (5, 1, [0]), (6, 1, [0]), (7, 1, [0]), (8, 1, [0]), (9, 1, [0]), (10, 0, []), (11, 0, [])] (by kernel_rfl) ?_
      conv => whnf
      refine ⟨by omega, ?_⟩
      conv => whnf
      refine ⟨by omega, ?_⟩
      conv => whnf
      refine CallR.mk' _ ((c229 s0).free _ ⟨trivial, trivial⟩ trivial) ?_
      conv => whnf
      refine ⟨by omega, ?_⟩
      conv => whnf
      refine ⟨by omega, ?_⟩
      conv => whnf
      refine ⟨by omega, ?_⟩
      conv => whnf
      refine ⟨by omega, ?_⟩
      conv => whnf
      refine ⟨by omega, ?_⟩
      conv => whnf
      refine ⟨by omega, ?_⟩
      conv => whnf
      refine CallR.mk' _ ((c230 s0 s1 s2).free _ ⟨trivial, trivial, trivial, trivial⟩ trivial) ?_
      conv => whnf
      refine DrawK.mk1 tok mixed [0, 0, 3] [(0, 1, [0]), (1, 1, [0]), (2, 2, [])] (by kernel_rfl) ?_
      conv => whnf
      refine ⟨⟨by omega, by simp [maxLen]⟩, ?_⟩
      conv => whnf
      refine ⟨⟨by omega, by simp [maxLen]⟩, ?_⟩
      conv => whnf
      refine ⟨⟨by decide, by simp⟩, ?_⟩
      conv => whnf
      refine ⟨⟨by decide, by simp⟩, ?_⟩
      conv => whnf
      refine ⟨by omega, ?_⟩
      conv => whnf
      refine ⟨by omega, ?_⟩
      conv => whnf
      refine ⟨by omega, ?_⟩
      conv => whnf
      refine ⟨by omega, ?_⟩
      conv => whnf
      have hsp : spl (Us [s0, s1, s2, s3, s4, s5, s6, s7]) (Int.toNat 1) (List.take ((((8 : Nat) : Int)).toNat - Int.toNat 1) (List.take (Int.toNat 7 - Int.toNat 0) (List.drop (Int.toNat 0) (Us [s0, s1, s2, s3, s4, s5, s6, s7])))) = Us [s0, s0, s1, s2, s3, s4, s5, s6] := rfl
      rw [hsp]
      refine ⟨by simp, ?_⟩
      conv => whnf
      refine ⟨by omega, ?_⟩
      conv => whnf
      refine ⟨by decide, ?_⟩
      conv => whnf
      refine ⟨by simp, ?_⟩
      conv => whnf
      refine next_round hk' (Weak.of ⟨rfl, okGs.ws (by exact ⟨trivial, trivial⟩), rfl, okGs.ws (by exact ⟨trivial, trivial⟩), rfl, okGs.ws (by exact ⟨trivial, trivial⟩), rfl, okGs.ws (by exact ⟨trivial, trivial⟩), rfl, ⟨.ints rfl fun i _ => ?_, trivial⟩, trivial⟩ (by simp) ?_)
      · have x1 : (Us [s0, s1, s2, s3, s4, s5, s6, s7]).getD (Int.toNat 7) 0 = (s7.toNat : Int) := rfl
        have x2 : (Us [s0, s0, s1, s2, s3, s4, s5, s6]).getD (Int.toNat 4) 0 = (s3.toNat : Int) := rfl
        have x3 : ∀ l : List UInt32, (Us l).getD (Int.toNat (k : Int)) 0 = ((l.getD k 0).toNat : Int) := fun l => by rw [Int.toNat_natCast, Us_getD]; rfl
        rw [x1, x2, x3, x3]
        simp only [u32_add]
        rw [show (Int.toNat 4) = 4 from rfl, show (Int.toNat 0) = 0 from rfl, Us_set', Us_set', rs, hs]
        rfl
      · exact ⟨okF.wv rfl, okF.wv rfl, okF.wv rfl, okF.wv rfl, okF.wv rfl, WV.lf (WL.int (by rw [wrap_i64 (by omega) (by omega)]; omega)), trivial⟩
    · refine CaseB.of_false (by simp; omega) ?_
      conv => whnf
      obtain rfl : k = 64 := by omega
      refine LoopK.upTo 8 (fun k => [(2, .s (.lf (.ptr 0 0))), (4, .s (.lf (.ptr 2 0))), (7, .s (.lf (.ptr 5 0))), (64, vI k)])
        (fun k => [some ⟨198, [.ints .u32 8 (Us h)]⟩, none, some ⟨198, [.ints .u32 8 (List.replicate 8 0)]⟩, none, none, some ⟨198, [.ints .u32 8 (Us (addUp (rs h bs 64) h k))]⟩]) ?_ ?_
      · refine Weak.of ⟨rfl, okGs.ws (by exact ⟨trivial, trivial⟩), rfl, okGs.ws (by exact ⟨trivial, trivial⟩), rfl, ⟨.ints rfl fun i _ => ?_, trivial⟩, trivial⟩ (by simp) ?_
        · rw [addUp]
        · exact ⟨okF.wv rfl, okF.wv rfl, okF.wv rfl, okF.wv trivial, trivial⟩
      · intro i hi
        conv => whnf
        by_cases hi' : i < 8
        · refine CaseB.of_true (by simp; omega) ?_
          conv => whnf
          refine DrawK.mk1 tok mixed [0, 1, 3, 0, 8, 24, 63, 127, 255] [(0, 0, []), (3, 0, []), (1, 1, [0]), (2, 1, [0]), (4, 1, [0]), (5, 1, [0]), (6, 0, []), (7, 1, [0]), (8, 2, [])] (by kernel_rfl) ?_
          conv => whnf
          refine ⟨by omega, ?_⟩
          conv => whnf
          refine ⟨by omega, ?_⟩
          conv => whnf
          refine ⟨by omega, ?_⟩
          conv => whnf
          refine ⟨by omega, ?_⟩
          conv => whnf
          refine ⟨by omega, ?_⟩
          conv => whnf
          refine ⟨by omega, ?_⟩
          conv => whnf
          refine ⟨by rw [Us_length, addUp_length, rs_length h bs hh]; omega, ?_⟩
          conv => whnf
          refine next_round hi' (Weak.of ⟨rfl, okGs.ws (by exact ⟨trivial, trivial⟩), rfl, okGs.ws (by exact ⟨trivial, trivial⟩), rfl, ⟨.ints rfl fun o _ => ?_, trivial⟩, trivial⟩ (by simp) ?_)
          · have x3 : ∀ l : List UInt32, (Us l).getD (Int.toNat (i : Int)) 0 = ((l.getD i 0).toNat : Int) := fun l => by rw [Int.toNat_natCast, Us_getD]; rfl
            rw [x3, x3, u32_add, Int.toNat_natCast, Us_set', addUp]
          · exact ⟨okF.wv rfl, okF.wv rfl, okF.wv rfl, WV.lf (WL.int (by rw [wrap_i64 (by omega) (by omega)]; omega)), trivial⟩
        · refine CaseB.of_false (by simp; omega) ?_
          conv => whnf
          obtain rfl : i = 8 := by omega
          exact RetK.empty (okF.wv ⟨trivial, trivial⟩)
end Go.Sym.Md
