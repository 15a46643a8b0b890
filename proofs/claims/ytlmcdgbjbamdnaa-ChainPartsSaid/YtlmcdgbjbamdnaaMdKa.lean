/- Contracts of the program's functions, proved by the framework (text MdKa), without conditions but those that each theorem states. -/
import Derived.Test.YtlmcdgbjbamdnaaMdK
set_option linter.unusedVariables false
set_option linter.unusedSimpArgs false
set_option maxRecDepth 10000
namespace Go.Sym.Md
open Go Go.Sym Go.Sym.Sh
attribute [local irreducible] shaF numF sz

def chZ : ChS := ⟨0, List.replicate 32 0⟩

theorem linkZ_n (t : List UInt8) : (linkF chZ t).n = 1 := by show min (0 : Int) 4611686018427387903 + 1 = 1; decide
theorem linkF_h (c : ChS) (t : List UInt8) : (linkF c t).h.length = 32 := shaF_length _
theorem linkF_hi (c : ChS) (t : List UInt8) : ((linkF c t).h.length : Int) = 32 := by rw [linkF_h]; rfl
attribute [local irreducible] linkF

/-- baileylaw22.awake -/
theorem c41 : SCalls Proofs.Try.prog 41 [] [] (.s (.lf .tt)) [] := by
  have hp1 : Pcs 1 (fun _ _ => .rob true false [97]) (fun _ => [97]) := ⟨fun i hi => .inr rfl⟩
  have hp0 : Pcs 0 (fun _ _ => .rob true false [97]) (fun _ => [97]) := ⟨fun i hi => .inr rfl⟩
  have k1 := c46 chZ (linkF chZ [97]) 1 _ _ hp1 (by omega) (fun _ _ => by simp) (by simp [chZ]) (by simp [chZ])
  have k0 := c46 chZ (linkF chZ [97]) 0 _ _ hp0 (by omega) (fun _ _ => by simp) (by simp [chZ]) (by simp [chZ])
  rw [if_pos (by rfl)] at k1
  rw [if_neg (fun h : upF chZ (fun _ => [97]) 0 = linkF chZ [97] => by
    change chZ = _ at h; have := linkZ_n [97]; rw [← h] at this; exact absurd this (by decide))] at k0
  have hE := k1.lend (cs := [vCh chZ, .s (.lf (.ro true true 1 1 fun i j => cellD [Seg.one (LV.own 2 0 1 0 1)] (i * 1 + j))), vCh (linkF chZ [97])]) (fun _ => False) [some ⟨5, [.bytes 1 [97]]⟩, some (obCh (linkF chZ [97])), some ⟨5, [.bytes 1 [97]]⟩]
    ⟨freeF.wv ⟨trivial, trivial, trivial⟩, WV.lf (WL.ro rfl (by simp) (by simp) fun i hi j hj => by
      obtain rfl : i = 0 := by omega
      obtain rfl : j = 0 := by omega
      exact WL.freezeB (ob := ⟨5, [.bytes 1 [97]]⟩) (p := []) (q := []) rfl rfl rfl (by omega) (by simp) rfl ⟨fun h => h, fun i ob h => by simp at h⟩), freeF.wv ⟨trivial, trivial, trivial⟩, trivial⟩ (plainF.wv trivial)
  have hF := k0.lend (cs := [vCh chZ, .s (.lf .sl0), vCh (linkF chZ [97])]) (fun _ => True) [some ⟨5, [.bytes 1 [97]]⟩, some (obCh (linkF chZ [97])), some ⟨5, [.bytes 1 [97]]⟩]
    ⟨freeF.wv ⟨trivial, trivial, trivial⟩, WV.lf WL.sl0ro, freeF.wv ⟨trivial, trivial, trivial⟩, trivial⟩ (plainF.wv trivial)
  refine SCalls.intro tok Proofs.Try.func41 ?_
  conv => whnf
  refine CallK.mk' _ _ c48 ?_
  conv => whnf
  refine Or.inl ?_
  conv => whnf
  refine CallK.mk' (vCh (linkF chZ [97])) _ ((c42 chZ [97] (by simp [chZ]) (by simp) (by simp [chZ])).lend (cs := [vCh chZ, .s (.lf (.own 0 0 1 0 1))]) (fun _ => False) [some ⟨5, [.bytes 1 [97]]⟩] ⟨freeF.wv ⟨trivial, trivial, trivial⟩, WV.lf (WL.lent (ty := 5) rfl rfl ⟨fun h => h, fun i ob h => by simp at h⟩), trivial⟩ (plainF.wv ⟨trivial, trivial, trivial⟩)) ?_
  conv => whnf
  refine DrawK.mk1 tok mixed [0, 1, 3, 7, 15, 31, 63, 127, 255, 511, 1023, 1023, 3071, 7167, 1023, 32767, 65535, 131071, 262143, 524287, 524287, 2097151, 4194303, 8388607, 16777215] [(0, 1, [0]), (1, 1, [0]), (2, 0, []), (3, 0, []), (4, 1, [0]), (5, 1, [0]), (6, 1, [0]), (7, 0, []), (8, 0, []), (9, 0, []), (11, 2, []), (12, 2, []), (13, 2, []), (10, 1, [0, 1, 2, 3]), (14, 1, [0, 1, 2, 3]), (15, 1, [0]), (16, 0, []), (17, 0, []), (18, 0, []), (19, 1, [0]), (20, 1, [0]), (21, 1, [0]), (22, 0, []), (23, 0, []), (24, 0, [])] (by kernel_rfl) ?_
  conv => whnf
  repeat ((first | refine CaseB.of_true (decide_eq_true (linkZ_n _)) ?_ | refine CaseB.of_true (decide_eq_true (linkF_hi _ _)) ?_); conv => whnf)
  refine Or.inl ?_
  conv => whnf
  repeat ((first | refine CaseB.of_true (decide_eq_true (linkZ_n _)) ?_ | refine CaseB.of_true (decide_eq_true (linkF_hi _ _)) ?_); conv => whnf)
  refine Or.inr ?_
  conv => whnf
  repeat ((first | refine CaseB.of_true (decide_eq_true (linkZ_n _)) ?_ | refine CaseB.of_true (decide_eq_true (linkF_hi _ _)) ?_); conv => whnf)
  repeat ((first | refine CallR.mk' _ (c48.free _ trivial ⟨trivial, trivial, trivial⟩) ?_ | refine And.intro rfl ?_ | refine CaseB.of_true (decide_eq_true (linkZ_n _)) ?_ | refine CaseB.of_true (decide_eq_true (linkF_hi _ _)) ?_); conv => whnf)
  refine CallR.mk' _ hE ?_
  conv => whnf
  repeat ((first | refine CallR.mk' _ hE ?_ | refine CallR.mk' _ hF ?_ | refine CallR.mk' _ (c48.free _ trivial ⟨trivial, trivial, trivial⟩) ?_ | refine And.intro rfl ?_ | refine CaseB.of_true (decide_eq_true (linkZ_n _)) ?_ | refine CaseB.of_true (decide_eq_true (linkF_hi _ _)) ?_ | refine CaseB.of_true (decide_eq_true (rfl : (0 : Int) = 0)) ?_); conv => whnf)
  exact RetK.empty (WV.lf (WL.btt rfl))
end Go.Sym.Md
