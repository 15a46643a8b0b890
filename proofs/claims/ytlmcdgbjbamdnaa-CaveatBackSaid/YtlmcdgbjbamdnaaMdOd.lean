/- Contracts of the program's functions, proved by the framework (text MdOd), without conditions but those that each theorem states. -/
import Derived.Test.YtlmcdgbjbamdnaaMdOc
set_option linter.unusedVariables false
set_option linter.unusedSimpArgs false
set_option maxRecDepth 10000
namespace Go.Sym.Md
open Go Go.Sym
attribute [local irreducible] numF checkF hasF okC boundF numR textR readC putC codeC parseC

theorem codeC_len (cs : List CV) : (codeC cs).length ≤ 10 + 50 * cs.length := by
  have hcl := codeC_length cs cs.length (Nat.le_refl _)
  rw [List.take_length] at hcl
  unfold codeC; exact hcl.2

/-- baileylaw06.CaveatBack -/
theorem c11 (cs : List CV) (hl : cs.length ≤ maxLen) {u : LV} {b : List UInt8} (hu : isB u b) (hbl : b.length ≤ maxLen) : SCalls Proofs.Try.prog 11 [vR cs, .s (.lf u)] [] (.s (.lf .tt)) [] := by
  have hm : maxLen = 9223372036854775807 := rfl
  have k30 := c30L cs hl
  have k25 := c25
  cases fa : fewL cs with
  | false =>
    rw [fa] at k30
    rcases hu with ⟨rfl, rfl⟩ | rfl
    all_goals
      refine SCalls.intro tok Proofs.Try.func11 ?_
      conv => whnf
      refine CallK.mk' _ _ k30 ?_
      conv => whnf
      repeat (refine CaseB.of_true rfl ?_; conv => whnf)
      refine CallK.mk' _ _ k25 ?_
      conv => whnf
      exact RetK.empty (okF.wv trivial)
  | true =>
    rw [fa] at k30
    have hfew : cs.length ≤ 30 := by unfold fewL at fa; simp at fa; omega
    by_cases h3 : 2000 < (b.length : Int)
    · rcases hu with ⟨rfl, rfl⟩ | rfl
      · simp at h3
      refine SCalls.intro tok Proofs.Try.func11 ?_
      conv => whnf
      refine CallK.mk' _ _ k30 ?_
      conv => whnf
      repeat ((first | refine CaseB.of_false rfl ?_ | refine CaseB.of_true (decide_eq_true h3) ?_); conv => whnf)
      refine CallK.mk' _ _ k25 ?_
      conv => whnf
      exact RetK.empty (okF.wv trivial)
    have hb : b.length ≤ 2000 := by omega
    have hcl := codeC_len cs
    have hbi : Int.toNat ((b.length : Int)) = b.length := Int.toNat_natCast _
    obtain ⟨P, hP⟩ : ∃ P, parseC (codeC cs) = P := ⟨_, rfl⟩
    obtain ⟨Q, hQ⟩ : ∃ Q, parseC b = Q := ⟨_, rfl⟩
    have hPl := parseC_len (codeC cs) (by omega)
    have hQl := parseC_len b (by omega)
    have hQc := codeC_len Q.1
    rw [hP] at hPl
    rw [hQ] at hQl
    obtain ⟨F, hFd⟩ : ∃ F : Nat → Bool, F = fun i => decide (cs.length ≤ 8) && (cs.take i).all okV := ⟨_, rfl⟩
    have hF0 : decide ((cs.length : Int) ≤ 8) = F 0 := by
      rw [hFd]
      simp only [List.take_zero, List.all_nil, Bool.and_true, decide_eq_decide]
      omega
    have hF : ∀ i, i < cs.length → F (i + 1) = (F i && okV (cs.getD i cv0)) := fun i hi => by
      rw [hFd]
      simp only [List.take_add_one, List.all_append, List.getElem?_eq_getElem hi, List.getD_eq_getElem?_getD, Option.getD_some, Option.toList_some, List.all_cons, List.all_nil, Bool.and_true, Bool.and_assoc]
    have hFn : F cs.length = (decide (cs.length ≤ 8) && cs.all okV) := by rw [hFd]; simp only [List.take_length]
    clear hFd
    have hck : ∀ c : CV, decide (checkF c.k c.n c.s = 0) = okV c := fun c => by
      unfold okV
      cases h : okC c.k c.n c.s with
      | false => rw [checkF_bad h]; rfl
      | true => rw [checkF_good h]; rfl
    have hfine : F cs.length = true → P = (cs, 0) := fun h => by
      rw [hFn] at h
      simp only [Bool.and_eq_true, decide_eq_true_eq, List.all_eq_true] at h
      rw [← hP]
      exact parseC_code cs h.1 h.2
    have hback : Q.2 = 0 → codeC Q.1 = b := fun h => codeC_parse (by omega) (by rw [hQ]; exact Prod.ext rfl h)
    have k60 := c60 cs (by omega)
    have k62 := (c62 (codeC cs) (by omega)).pure [] (cs := [.s (.lf (.rob true false (codeC cs)))]) (rc := .tup [.lf (.ro false false 3 (parseC (codeC cs)).1.length (rowC (parseC (codeC cs)).1)), .lf (.int .i64 (parseC (codeC cs)).2)]) ⟨WV.lf toRob, trivial⟩ (WV.tup ⟨WL.ro rfl (by simp) (by simp) fun i hi j hj => rowC_wl hj, WL.int rfl, trivial⟩)
    have k62b := (c62 b (by omega)).pure [] (cs := [.s (.lf u)]) (rc := .tup [.lf (.ro false false 3 (parseC b).1.length (rowC (parseC b).1)), .lf (.int .i64 (parseC b).2)]) ⟨WV.lf hu.wl, trivial⟩ (WV.tup ⟨WL.ro rfl (by simp) (by simp) fun i hi j hj => rowC_wl hj, WL.int rfl, trivial⟩)
    rw [hP] at k62
    rw [hQ] at k62b
    have k31 := c31 P.1 cs (by omega)
    have k60b := c60 Q.1 (by omega)
    have k57 : Q.2 = 0 → SCalls Proofs.Try.prog 57 [.s (.lf (.rob true false (codeC Q.1))), .s (.lf u)] [] (.s (.lf (.bool true))) [] := fun h => by
      have := (c57 (codeC Q.1) b (by omega)).pure [] (cs := [.s (.lf (.rob true false (codeC Q.1))), .s (.lf u)]) ⟨WV.lf toRob, WV.lf hu.wl, trivial⟩ (freeF.wv trivial)
      rw [decide_eq_true (hback h)] at this
      exact this
    rcases hu with ⟨rfl, rfl⟩ | rfl
    · refine SCalls.intro tok Proofs.Try.func11 ?_
      conv => whnf
      refine CallK.mk' _ _ k30 ?_
      conv => whnf
      repeat ((first | refine CaseB.of_false rfl ?_ | refine CaseB.of_false (decide_eq_false h3) ?_ | refine CaseB.of_false (by decide) ?_); conv => whnf)
      refine LoopK.mk1 (fun i : Nat => [(26, vI i), (25, vI cs.length), (24, vR cs), (5, .s (.lf (.bool (F i)))), (4, .s (.lf .ff)), (0, vR cs), (1, .s (.lf (.sl0)))]) (fun _ => []) (fun i => i ≤ cs.length) (fun i => cs.length - i) 0 (by omega) ?_ ?_
      · exact Weak.of ⟨⟩ (by simp) ⟨okF.wv trivial, okF.wv trivial, okF.wv rowC_ok, WV.lf (WL.bool hF0), okF.wv trivial, okF.wv rowC_ok, okF.wv trivial, trivial⟩
      intro i hi
      conv => whnf
      by_cases hl' : i < cs.length
      · refine CaseB.of_true (decide_eq_true (by omega)) ?_
        conv => whnf
        refine And.intro (by omega) ?_
        conv => whnf
        have hFs := hF i hl'
        obtain ⟨c, hc⟩ : ∃ c, cs.getD i cv0 = c := ⟨_, rfl⟩
        have hi0 : cs.getD (Int.toNat (i : Int)) cv0 = c := by rw [Int.toNat_natCast]; exact hc
        rw [hc] at hFs
        rw [hi0]
        cases hf : F i with
        | false =>
          rw [hf] at hFs
          repeat (refine CaseB.of_false rfl ?_; conv => whnf)
          refine ⟨i + 1, by omega, by omega, ?_⟩
          exact Weak.of HpW.nil (by simp) ⟨WV.lf (WL.int (by rw [wrap_i64 (by omega) (by omega)]; omega)), freeF.wv trivial, freeF.wv rowC_free, WV.lf (WL.ff (by rw [hFs]; rfl)), freeF.wv trivial, freeF.wv rowC_free, freeF.wv trivial, trivial⟩
        | true =>
          rw [hf] at hFs
          repeat ((first | refine CaseB.of_true rfl ?_ | refine CallK.mk' _ _ ((c26 c.k c.n c.s).free _ ⟨⟨trivial, trivial, trivial, trivial⟩, trivial⟩ trivial) ?_); conv => whnf)
          refine ⟨i + 1, by omega, by omega, ?_⟩
          exact Weak.of HpW.nil (by simp) ⟨WV.lf (WL.int (by rw [wrap_i64 (by omega) (by omega)]; omega)), freeF.wv trivial, freeF.wv rowC_free, WV.lf (WL.bool (by rw [hck, hFs, Bool.true_and])), freeF.wv trivial, freeF.wv rowC_free, freeF.wv trivial, trivial⟩
      · refine CaseB.of_false (decide_eq_false (by omega)) ?_
        conv => whnf
        obtain rfl : i = cs.length := by omega
        refine CallK.mk' _ _ k60 ?_
        conv => whnf
        refine CallK.mk' _ _ k62 ?_
        conv => whnf
        cases hf : F cs.length with
        | false =>
          repeat (refine CaseB.of_false rfl ?_; conv => whnf)
          refine CallK.mk' _ _ k62b ?_
          conv => whnf
          by_cases hz : Q.2 = 0
          · have k57 := k57 hz
            repeat ((first | refine CaseB.of_false (decide_eq_false (fun h => h hz)) ?_ | refine CallK.mk' _ _ k60b ?_ | refine CallK.mk' _ _ k57 ?_ | refine CallK.mk' _ _ k25 ?_ | refine CaseB.of_true rfl ?_); conv => whnf)
            exact RetK.empty (okF.wv trivial)
          · repeat ((first | refine CaseB.of_true (decide_eq_true hz) ?_ | refine CallK.mk' _ _ k25 ?_); conv => whnf)
            exact RetK.empty (okF.wv trivial)
        | true =>
          obtain rfl := hfine hf
          rw [show decide ((cs, (0 : Int)).1 = cs) = true from decide_eq_true rfl] at k31
          repeat ((first | refine CaseB.of_true rfl ?_ | refine CaseB.of_false (by decide) ?_ | refine CallK.mk' _ _ k31 ?_ | refine CaseB.of_false rfl ?_); conv => whnf)
          refine CallK.mk' _ _ k62b ?_
          conv => whnf
          by_cases hz : Q.2 = 0
          · have k57 := k57 hz
            repeat ((first | refine CaseB.of_false (decide_eq_false (fun h => h hz)) ?_ | refine CallK.mk' _ _ k60b ?_ | refine CallK.mk' _ _ k57 ?_ | refine CallK.mk' _ _ k25 ?_ | refine CaseB.of_true rfl ?_); conv => whnf)
            exact RetK.empty (okF.wv trivial)
          · repeat ((first | refine CaseB.of_true (decide_eq_true hz) ?_ | refine CallK.mk' _ _ k25 ?_); conv => whnf)
            exact RetK.empty (okF.wv trivial)
    · refine SCalls.intro tok Proofs.Try.func11 ?_
      conv => whnf
      refine CallK.mk' _ _ k30 ?_
      conv => whnf
      repeat ((first | refine CaseB.of_false rfl ?_ | refine CaseB.of_false (decide_eq_false h3) ?_ | refine CaseB.of_false (by decide) ?_); conv => whnf)
      refine LoopK.mk1 (fun i : Nat => [(26, vI i), (25, vI cs.length), (24, vR cs), (5, .s (.lf (.bool (F i)))), (4, .s (.lf .ff)), (0, vR cs), (1, .s (.lf (.rob true false b)))]) (fun _ => []) (fun i => i ≤ cs.length) (fun i => cs.length - i) 0 (by omega) ?_ ?_
      · exact Weak.of ⟨⟩ (by simp) ⟨okF.wv trivial, okF.wv trivial, okF.wv rowC_ok, WV.lf (WL.bool hF0), okF.wv trivial, okF.wv rowC_ok, okF.wv trivial, trivial⟩
      intro i hi
      conv => whnf
      by_cases hl' : i < cs.length
      · refine CaseB.of_true (decide_eq_true (by omega)) ?_
        conv => whnf
        refine And.intro (by omega) ?_
        conv => whnf
        have hFs := hF i hl'
        obtain ⟨c, hc⟩ : ∃ c, cs.getD i cv0 = c := ⟨_, rfl⟩
        have hi0 : cs.getD (Int.toNat (i : Int)) cv0 = c := by rw [Int.toNat_natCast]; exact hc
        rw [hc] at hFs
        rw [hi0]
        cases hf : F i with
        | false =>
          rw [hf] at hFs
          repeat (refine CaseB.of_false rfl ?_; conv => whnf)
          refine ⟨i + 1, by omega, by omega, ?_⟩
          exact Weak.of HpW.nil (by simp) ⟨WV.lf (WL.int (by rw [wrap_i64 (by omega) (by omega)]; omega)), freeF.wv trivial, freeF.wv rowC_free, WV.lf (WL.ff (by rw [hFs]; rfl)), freeF.wv trivial, freeF.wv rowC_free, freeF.wv trivial, trivial⟩
        | true =>
          rw [hf] at hFs
          repeat ((first | refine CaseB.of_true rfl ?_ | refine CallK.mk' _ _ ((c26 c.k c.n c.s).free _ ⟨⟨trivial, trivial, trivial, trivial⟩, trivial⟩ trivial) ?_); conv => whnf)
          refine ⟨i + 1, by omega, by omega, ?_⟩
          exact Weak.of HpW.nil (by simp) ⟨WV.lf (WL.int (by rw [wrap_i64 (by omega) (by omega)]; omega)), freeF.wv trivial, freeF.wv rowC_free, WV.lf (WL.bool (by rw [hck, hFs, Bool.true_and])), freeF.wv trivial, freeF.wv rowC_free, freeF.wv trivial, trivial⟩
      · refine CaseB.of_false (decide_eq_false (by omega)) ?_
        conv => whnf
        obtain rfl : i = cs.length := by omega
        refine CallK.mk' _ _ k60 ?_
        conv => whnf
        refine CallK.mk' _ _ k62 ?_
        conv => whnf
        cases hf : F cs.length with
        | false =>
          repeat (refine CaseB.of_false rfl ?_; conv => whnf)
          refine CallK.mk' _ _ k62b ?_
          conv => whnf
          by_cases hz : Q.2 = 0
          · have k57 := k57 hz
            repeat ((first | refine CaseB.of_false (decide_eq_false (fun h => h hz)) ?_ | refine CallK.mk' _ _ k60b ?_ | refine CallK.mk' _ _ k57 ?_ | refine CallK.mk' _ _ k25 ?_ | refine CaseB.of_true rfl ?_); conv => whnf)
            exact RetK.empty (okF.wv trivial)
          · repeat ((first | refine CaseB.of_true (decide_eq_true hz) ?_ | refine CallK.mk' _ _ k25 ?_); conv => whnf)
            exact RetK.empty (okF.wv trivial)
        | true =>
          obtain rfl := hfine hf
          rw [show decide ((cs, (0 : Int)).1 = cs) = true from decide_eq_true rfl] at k31
          repeat ((first | refine CaseB.of_true rfl ?_ | refine CaseB.of_false (by decide) ?_ | refine CallK.mk' _ _ k31 ?_ | refine CaseB.of_false rfl ?_); conv => whnf)
          refine CallK.mk' _ _ k62b ?_
          conv => whnf
          by_cases hz : Q.2 = 0
          · have k57 := k57 hz
            repeat ((first | refine CaseB.of_false (decide_eq_false (fun h => h hz)) ?_ | refine CallK.mk' _ _ k60b ?_ | refine CallK.mk' _ _ k57 ?_ | refine CallK.mk' _ _ k25 ?_ | refine CaseB.of_true rfl ?_); conv => whnf)
            exact RetK.empty (okF.wv trivial)
          · repeat ((first | refine CaseB.of_true (decide_eq_true hz) ?_ | refine CallK.mk' _ _ k25 ?_); conv => whnf)
            exact RetK.empty (okF.wv trivial)
end Go.Sym.Md
