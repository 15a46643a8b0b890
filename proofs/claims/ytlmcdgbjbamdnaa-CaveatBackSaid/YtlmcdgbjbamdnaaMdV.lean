/- Contracts of the program's functions, proved by the framework (text MdV), without conditions but those that each theorem states. -/
import Derived.Test.YtlmcdgbjbamdnaaMdU
set_option linter.unusedVariables false
set_option linter.unusedSimpArgs false
set_option maxRecDepth 10000
namespace Go.Sym.Md
open Go Go.Sym Go.Lib
attribute [local irreducible] holdsF okC

abbrev obD (d : DeedS) : OB := ⟨33, [.one (.int .i64 d.a), .one (.int .i64 d.t), .one (.int .i64 d.c), .one (.int .i64 d.b), .one (.str d.sp), .one (.str d.sn)]⟩
theorem obD_ws {D : Rel} (d : DeedS) : WSs D (obD d).segs (obD d).segs := plainGs.ws ⟨trivial, trivial, trivial, trivial, trivial, trivial, trivial⟩
def holdsC (c : CV) (d : DeedS) : Bool := holdsF c.k c.n c.s d

/-- caveat.All's broken -/
theorem c129 (k n : Int) (s : List UInt8) (d : DeedS) : SCalls Proofs.Try.prog 129 [vC k n s, .s (.lf (.ptr 0 0))] [some (obD d)] (.s (.lf (.bool (!holdsF k n s d)))) [some (obD d)] := by
  refine SCalls.intro tok Proofs.Try.func129 ?_
  conv => whnf
  refine CallK.mk' _ _ ((c35 k n s d).free _ ⟨⟨trivial, trivial, trivial, trivial⟩, ⟨trivial, trivial, trivial, trivial, trivial, trivial, trivial⟩, trivial⟩ trivial) ?_
  conv => whnf
  exact RetK.of ⟨rfl, obD_ws d, trivial⟩ (by simp) (okF.wv trivial)

def idxF (d : DeedS) : List CV → Nat → Int
  | [], _ => -1
  | c :: l, i => if holdsC c d then idxF d l (i + 1) else (i : Int)

theorem idxF_all (d : DeedS) : ∀ (cs : List CV) (i : Nat), decide (0 ≤ idxF d cs i) = !(cs.all fun c => holdsC c d)
  | [], i => rfl
  | c :: l, i => by
    unfold idxF
    cases h : holdsC c d with
    | true => rw [if_pos rfl, idxF_all d l (i + 1), List.all_cons, h, Bool.true_and]
    | false => rw [if_neg (by simp), List.all_cons, h, Bool.false_and]; simp

abbrev vB : LV := .fn 129 1 fun i => nthL [LV.ptr 0 0] i
theorem vB_ok {o : OB} {l : Hp} : okF (some o :: l) (.s (.lf vB)) := by
  intro i hi
  obtain rfl : i = 0 := by omega
  exact rfl
theorem idxF_cons (d : DeedS) (c : CV) (l : List CV) (i : Nat) : idxF d (c :: l) i = if holdsC c d then idxF d l (i + 1) else (i : Int) := rfl

/-- slices.IndexFunc -/
theorem c184 (cs : List CV) (hl : cs.length ≤ maxLen) (d : DeedS) : SCalls Proofs.Try.prog 184 [vR cs, .s (.lf vB)] [some (obD d)] (vI (idxF d cs 0)) [some (obD d)] := by
  have hm : maxLen = 9223372036854775807 := rfl
  refine SCalls.intro tok Proofs.Try.func184 ?_
  conv => whnf
  refine LoopK.mk1 (fun i : Nat => [(0, vR cs), (1, .s (.lf vB)), (7, vI cs.length), (8, vI i)]) (fun i => [some (obD d)]) (fun i => i ≤ cs.length ∧ idxF d cs 0 = idxF d (cs.drop i) i) (fun i => cs.length - i) 0 ⟨by omega, rfl⟩ ?_ ?_
  · exact Weak.of ⟨rfl, obD_ws d, trivial⟩ (by simp) ⟨okF.wv rowC_ok, okF.wv vB_ok, okF.wv trivial, okF.wv trivial, trivial⟩
  intro i hi
  obtain ⟨hi, ht⟩ := hi
  conv => whnf
  by_cases hi' : i < cs.length
  · refine CaseB.of_true (decide_eq_true (by omega)) ?_
    conv => whnf
    refine And.intro (by omega) ?_
    conv => whnf
    have hd : cs.drop i = cs.getD i cv0 :: cs.drop (i + 1) := by rw [List.drop_eq_getElem_cons hi', List.getD_eq_getElem?_getD, List.getElem?_eq_getElem hi']; rfl
    rw [hd, idxF_cons] at ht
    refine CallK.mk' _ _ (c129 _ _ _ d) ?_
    conv => whnf
    have e0 : holdsF (cs.getD (Int.toNat (i : Int)) cv0).k (cs.getD (Int.toNat (i : Int)) cv0).n (cs.getD (Int.toNat (i : Int)) cv0).s d = holdsC (cs.getD i cv0) d := by rw [Int.toNat_natCast]; rfl
    cases hh : holdsC (cs.getD i cv0) d with
    | false =>
      refine CaseB.of_true (by rw [e0, hh]; rfl) ?_
      conv => whnf
      rw [hh] at ht
      exact RetK.of ⟨rfl, obD_ws d, trivial⟩ (by simp) (WV.lf (WL.int ht.symm))
    | true =>
      refine CaseB.of_false (by rw [e0, hh]; rfl) ?_
      conv => whnf
      rw [hh] at ht
      refine ⟨i + 1, ⟨by omega, ht⟩, by show cs.length - (i + 1) < cs.length - i; omega, ?_⟩
      exact Weak.of ⟨rfl, obD_ws d, trivial⟩ (by simp) ⟨okF.wv rowC_ok, okF.wv vB_ok, okF.wv trivial, WV.lf (WL.int (by rw [wrap_i64 (by omega) (by omega)]; omega)), trivial⟩
  · refine CaseB.of_false (decide_eq_false (by omega)) ?_
    conv => whnf
    rw [List.drop_of_length_le (by omega)] at ht
    exact RetK.of ⟨rfl, obD_ws d, trivial⟩ (by simp) (WV.lf (WL.int ht.symm))

/-- slices.ContainsFunc -/
theorem c130 (cs : List CV) (hl : cs.length ≤ maxLen) (d : DeedS) : SCalls Proofs.Try.prog 130 [vR cs, .s (.lf vB)] [some (obD d)] (.s (.lf (.bool (!(cs.all fun c => holdsC c d))))) [some (obD d)] := by
  refine SCalls.intro tok Proofs.Try.func130 ?_
  conv => whnf
  refine CallK.mk' _ _ (c184 cs hl d) ?_
  conv => whnf
  exact RetK.of ⟨rfl, obD_ws d, trivial⟩ (by simp) (WV.lf (WL.bool (idxF_all d cs 0)))

/-- caveat.All -/
theorem c37 (cs : List CV) (hl : cs.length ≤ maxLen) (d : DeedS) : SCalls Proofs.Try.prog 37 [vR cs, vD d] [] (.s (.lf (.bool (cs.all fun c => holdsC c d)))) [] := by
  refine SCalls.intro tok Proofs.Try.func37 ?_
  conv => whnf
  refine CallK.mk' _ _ (c130 cs hl d) ?_
  conv => whnf
  exact RetK.empty (WV.lf (WL.bool (Bool.not_not _)))

/-- baileyref06.All -/
theorem c38 (cs : List CV) (hl : cs.length ≤ maxLen) (d : DeedS) : SCalls Proofs.Try.prog 38 [vR cs, vD d] [] (.s (.lf (.bool (cs.all fun c => holdsC c d)))) [] := by
  have hm : maxLen = 9223372036854775807 := rfl
  refine SCalls.intro tok Proofs.Try.func38 ?_
  conv => whnf
  refine LoopK.mk1 (fun i : Nat => [(0, vR cs), (3, .s (.lf (.ptr 0 0))), (5, vI i)]) (fun i => [some (obD d)]) (fun i => i ≤ cs.length ∧ (cs.take i).all (fun c => holdsC c d) = true) (fun i => cs.length - i) 0 ⟨by omega, rfl⟩ ?_ ?_
  · exact Weak.of ⟨rfl, obD_ws d, trivial⟩ (by simp) ⟨okF.wv rowC_ok, okF.wv rfl, okF.wv trivial, trivial⟩
  intro i hi
  obtain ⟨hi, ht⟩ := hi
  conv => whnf
  by_cases hi' : i < cs.length
  · refine CaseB.of_true (decide_eq_true (by omega)) ?_
    conv => whnf
    refine DrawK.mk1 tok mixed [0, 0, 3, 7, 0, 31, 63] [(0, 0, []), (1, 0, []), (2, 1, [0]), (3, 1, [0]), (4, 1, [0]), (5, 1, [0]), (6, 0, [])] (by kernel_rfl) ?_
    conv => whnf
    refine And.intro (by omega) ?_
    conv => whnf
    have hx0 : cs[i]? = some (cs.getD i cv0) := by rw [List.getD_eq_getElem?_getD, List.getElem?_eq_getElem hi']; rfl
    refine CallR.mk' _ ((c36 _ _ _ d).free _ ⟨⟨trivial, trivial, trivial, trivial⟩, ⟨trivial, trivial, trivial, trivial, trivial, trivial, trivial⟩, trivial⟩ trivial) ?_
    conv => whnf
    have e0 : holdsF (cs.getD (Int.toNat (i : Int)) cv0).k (cs.getD (Int.toNat (i : Int)) cv0).n (cs.getD (Int.toNat (i : Int)) cv0).s d = holdsC (cs.getD i cv0) d := by rw [Int.toNat_natCast]; rfl
    cases hh : holdsC (cs.getD i cv0) d with
    | false =>
      refine CaseB.of_true (by rw [e0, hh]; rfl) ?_
      conv => whnf
      refine RetK.empty (WV.lf (WL.ff ?_))
      rw [List.all_eq_false]
      exact ⟨_, List.mem_of_getElem? hx0, by rw [hh]; simp⟩
    | true =>
      refine CaseB.of_false (by rw [e0, hh]; rfl) ?_
      conv => whnf
      refine ⟨i + 1, ⟨by omega, ?_⟩, by show cs.length - (i + 1) < cs.length - i; omega, ?_⟩
      · rw [List.take_add_one, hx0, List.all_append, ht]
        show (true && (holdsC (cs.getD i cv0) d && true)) = true
        rw [hh]
        rfl
      · exact Weak.of ⟨rfl, obD_ws d, trivial⟩ (by simp) ⟨okF.wv rowC_ok, okF.wv rfl, WV.lf (WL.int (by rw [wrap_i64 (by omega) (by omega)]; omega)), trivial⟩
  · refine CaseB.of_false (decide_eq_false (by omega)) ?_
    conv => whnf
    rw [List.take_of_length_le (by omega)] at ht
    exact RetK.empty (WV.lf (WL.tt ht))

/-- baileylaw06.CaveatHolds -/
theorem c5 (k n : Int) (s : List UInt8) (cs : List CV) (hl : cs.length ≤ maxLen) (d : DeedS) : SCalls Proofs.Try.prog 5 [vC k n s, vR cs, vD d] [] (.s (.lf .tt)) [] := by
  have h35 := (c35 k n s d).free [some ⟨23, [.one (.int .i64 k), .one (.int .i64 n), .one (.str s)]⟩, some (obD d)] ⟨⟨trivial, trivial, trivial, trivial⟩, ⟨trivial, trivial, trivial, trivial, trivial, trivial, trivial⟩, trivial⟩ trivial
  have h36 := (c36 k n s d).free [some ⟨23, [.one (.int .i64 k), .one (.int .i64 n), .one (.str s)]⟩, some (obD d)] ⟨⟨trivial, trivial, trivial, trivial⟩, ⟨trivial, trivial, trivial, trivial, trivial, trivial, trivial⟩, trivial⟩ trivial
  have h37 := (c37 cs hl d).free [some ⟨23, [.one (.int .i64 k), .one (.int .i64 n), .one (.str s)]⟩, some (obD d)] ⟨rowC_free, ⟨trivial, trivial, trivial, trivial, trivial, trivial, trivial⟩, trivial⟩ trivial
  have h38 := (c38 cs hl d).free [some ⟨23, [.one (.int .i64 k), .one (.int .i64 n), .one (.str s)]⟩, some (obD d)] ⟨rowC_free, ⟨trivial, trivial, trivial, trivial, trivial, trivial, trivial⟩, trivial⟩ trivial
  have h25 := c25.free [some ⟨23, [.one (.int .i64 k), .one (.int .i64 n), .one (.str s)]⟩, some (obD d)] trivial trivial
  refine SCalls.intro tok Proofs.Try.func5 ?_
  conv => whnf
  refine CallK.mk' _ _ ((c30L cs hl).free _ ⟨rowC_free, trivial⟩ trivial) ?_
  conv => whnf
  cases fa : fewL cs with
  | false =>
    refine CaseB.of_true rfl ?_
    conv => whnf
    refine CallK.mk' _ _ h25 ?_
    conv => whnf
    exact RetK.empty (okF.wv trivial)
  | true =>
    refine CaseB.of_false rfl ?_
    conv => whnf
    by_cases h2 : 200 < (s.length : Int)
    · refine CaseB.of_true (decide_eq_true h2) ?_
      conv => whnf
      refine CallK.mk' _ _ h25 ?_
      conv => whnf
      exact RetK.empty (okF.wv trivial)
    refine CaseB.of_false (decide_eq_false h2) ?_
    conv => whnf
    refine DrawK.mk1 tok mixed [0, 0, 3, 0, 0, 31, 63, 127, 255, 255, 1023, 255, 255, 8191, 16383, 32767, 65535, 131071, 262143, 524287] [(0, 1, [0]), (1, 1, [0]), (2, 1, [0]), (3, 1, [0]), (4, 1, [0]), (5, 1, [0]), (6, 0, []), (7, 0, []), (8, 0, []), (11, 0, []), (9, 1, [0]), (10, 1, [0]), (12, 1, [0]), (13, 1, [0]), (14, 0, []), (15, 0, []), (16, 0, []), (17, 1, [0]), (18, 0, []), (19, 0, [])] (by kernel_rfl) ?_
    conv => whnf
    refine CallR.mk' _ h35 ?_
    conv => whnf
    refine CallR.mk' _ h36 ?_
    conv => whnf
    repeat (first
      | (refine CaseB.of_true (beq_self_eq_true _) ?_; conv => whnf)
      | (refine CallR.mk' _ h37 ?_; conv => whnf)
      | (refine CallR.mk' _ h38 ?_; conv => whnf)
      | (refine CallR.mk' _ h25 ?_; conv => whnf))
    exact RetK.empty (okF.wv trivial)
end Go.Sym.Md
