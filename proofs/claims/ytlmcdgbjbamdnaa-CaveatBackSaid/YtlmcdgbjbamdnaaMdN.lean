/- Contracts of the program's functions, proved by the framework (text MdN), without conditions but those that each theorem states. -/
import Derived.Test.YtlmcdgbjbamdnaaMdM
set_option linter.unusedVariables false
set_option linter.unusedSimpArgs false
set_option maxRecDepth 10000
namespace Go.Sym.Md
open Go Go.Sym

/-! ### A caveat is read -/
def bodyC (k : Int) (r1 : Rd) : CV × Rd :=
  if k = 0 then (cv0, ⟨[], 3⟩) else
  if k = 2 ∨ k = 3 then
    (if (textR r1 16).2.e ≠ 0 then (cv0, (textR r1 16).2) else if okC k 0 (textR r1 16).1 then (⟨k, 0, (textR r1 16).1⟩, (textR r1 16).2) else (cv0, ⟨[], 3⟩))
  else
    (if (numR r1 (boundF k)).2.e ≠ 0 then (cv0, (numR r1 (boundF k)).2) else (⟨k, (numR r1 (boundF k)).1, []⟩, (numR r1 (boundF k)).2))
def readC (r : Rd) : CV × Rd := if (numR r 6).2.e ≠ 0 then (cv0, (numR r 6).2) else bodyC (numR r 6).1 (numR r 6).2

theorem okC_zero : okC 0 0 [] = false := by decide
theorem hasF_two {k : Int} (h0 : 0 ≤ k) (h6 : k ≤ 6) (hk : k ≠ 0) (h : ¬ (k = 2 ∨ k = 3)) : hasF k = 2 := by
  unfold hasF
  rw [if_neg h, if_pos (by omega)]
theorem okC_noname : okC 2 0 [] = false ∧ okC 3 0 [] = false := by decide
theorem hasF_zero : hasF 0 = 0 := by decide
theorem boundF_nn (k : Int) : 0 ≤ boundF k := by
  unfold boundF; split
  · omega
  · split <;> omega
theorem okC_num {k n : Int} (h0 : 0 ≤ k) (h6 : k ≤ 6) (hk : k ≠ 0) (h : ¬ (k = 2 ∨ k = 3)) (hn : 0 ≤ n) (hb : n ≤ boundF k) : okC k n [] = true := by
  have h2 := hasF_two h0 h6 hk h
  unfold okC
  rw [if_neg (by omega), if_pos h2]
  simp [hn, hb]

theorem bodyC_ok {k : Int} {r : Rd} (h : r.ok) : (bodyC k r).2.ok := by
  have ho : (⟨[], 3⟩ : Rd).ok := ⟨fun _ => rfl, by show IntKind.i64.min ≤ 3; decide, by show (3 : Int) ≤ IntKind.i64.max; decide, by simp⟩
  unfold bodyC
  split
  · exact ho
  · split
    · split
      · exact textR_ok h 16
      · split
        · exact textR_ok h 16
        · exact ho
    · split
      · exact numR_ok h _
      · exact numR_ok h _
theorem readC_ok {r : Rd} (h : r.ok) : (readC r).2.ok := by
  unfold readC
  split
  · exact numR_ok h 6
  · exact bodyC_ok (numR_ok h 6)

theorem numR_of_err {r : Rd} {m : Int} (h : r.e ≠ 0) : numR r m = (0, r) := by unfold numR; rw [if_pos h]
theorem numR_err {r : Rd} {m : Int} (h : (numR r m).2.e ≠ 0) : (numR r m).1 = 0 := by
  unfold numR at h ⊢
  split
  · rfl
  · rename_i h1
    rw [if_neg h1] at h
    split
    · rfl
    · rename_i h2
      rw [if_neg h2] at h
      split
      · rfl
      · rename_i h3
        rw [if_neg h3] at h
        exact absurd rfl h
theorem textR_err {r : Rd} {m : Int} (h : (textR r m).2.e ≠ 0) : (textR r m).1 = [] := by
  unfold textR at h ⊢
  split
  · rfl
  · rename_i h1
    rw [if_neg h1] at h
    split
    · rfl
    · rename_i h2
      rw [if_neg h2] at h
      exact absurd rfl h

attribute [local irreducible] numF checkF hasF okC boundF numR textR

theorem failR_err {r : Rd} (h : r.e ≠ 0) (e : Int) : failR r e = r := by unfold failR; rw [if_neg (fun k => h k.1)]
theorem failR_new {r : Rd} (h : r.e = 0) : failR r 3 = ⟨[], 3⟩ := by unfold failR; rw [if_pos ⟨h, by decide⟩]

/-- A reader's contract, in a larger heap. -/
theorem frR {f : FuncId} {l : List FV} {a b : Rd} {ret : FV} (T : Hp) (h : SCalls Proofs.Try.prog f (.s (.lf (.ptr 0 0)) :: l) [some (obR a)] ret [some (obR b)]) (hl : freeFs l) (hr : freeF ret) : SCalls Proofs.Try.prog f (.s (.lf (.ptr 0 0)) :: l) (some (obR a) :: T) ret (some (obR b) :: T) :=
  h.frame1 (H := some (obR a) :: T) (nm := 0) (ob2 := obR b) rfl rfl (obR_ws _) ⟨WV.lf (WL.ptr rfl rfl), hl.wvs⟩ rfl (obR_ws _) hr.wv
theorem frQ {f : FuncId} {l : List FV} {a b : Rd} {ret : FV} (T : Hp) (h : SCalls Proofs.Try.prog f (.s (.lf (.ptr 0 0)) :: l) [some (obQ a)] ret [some (obQ b)]) (hl : freeFs l) (hr : freeF ret) : SCalls Proofs.Try.prog f (.s (.lf (.ptr 0 0)) :: l) (some (obQ a) :: T) ret (some (obQ b) :: T) :=
  h.frame1 (H := some (obQ a) :: T) (nm := 0) (ob2 := obQ b) rfl rfl (obQ_ws _) ⟨WV.lf (WL.ptr rfl rfl), hl.wvs⟩ rfl (obQ_ws _) hr.wv

/-- caveat.Read -/
theorem c66 (r : Rd) (h : r.ok) : SCalls Proofs.Try.prog 66 [.s (.lf (.ptr 0 0))] [some (obR r)] (vCc (readC r).1) [some (obR (readC r).2)] := by
  have hk := numR_range h 6
  have hn := numR_ok h 6
  have h140 := c140 r 6 h
  obtain ⟨k, hkk⟩ : ∃ k, (numR r 6).1 = k := ⟨_, rfl⟩
  obtain ⟨r1, hr1⟩ : ∃ r1, (numR r 6).2 = r1 := ⟨_, rfl⟩
  have hR : readC r = if r1.e ≠ 0 then (cv0, r1) else bodyC k r1 := by unfold readC; rw [hr1, hkk]
  rw [hkk, hr1] at h140
  rw [hkk] at hk
  rw [hr1] at hn
  refine SCalls.intro tok Proofs.Try.func66 ?_
  conv => whnf
  refine CallK.mk' _ _ (frR _ h140 ⟨trivial, trivial⟩ trivial) ?_
  conv => whnf
  refine CallK.mk' _ _ ((c121 k).free _ ⟨trivial, trivial⟩ trivial) ?_
  conv => whnf
  by_cases he : r1.e = 0
  · rw [if_neg (by omega)] at hR
    unfold bodyC at hR
    by_cases hk0 : k = 0
    · rw [if_pos hk0] at hR
      subst hk0
      refine CaseB.of_false (decide_eq_false (by rw [hasF_zero]; decide)) ?_
      conv => whnf
      refine CaseB.of_false (decide_eq_false (by rw [hasF_zero]; decide)) ?_
      conv => whnf
      refine CallK.mk' _ _ (frR _ (c146 r1 3) ⟨trivial, trivial⟩ trivial) ?_
      conv => whnf
      rw [failR_new he]
      refine CallK.mk' _ _ ((c26 (0) (0) ([])).free _ ⟨⟨trivial, trivial, trivial, trivial⟩, trivial⟩ trivial) ?_
      conv => whnf
      refine CaseB.of_true (by rw [checkF_bad (okC_zero)]; rfl) ?_
      conv => whnf
      refine CallK.mk' _ _ (frR _ (c146 ⟨[], 3⟩ 3) ⟨trivial, trivial⟩ trivial) ?_
      conv => whnf
      rw [failR_err (show (3 : Int) ≠ 0 by decide)]
      refine CallK.mk' _ _ (frR _ (c68 ⟨[], 3⟩) trivial trivial) ?_
      conv => whnf
      refine CaseB.of_true (decide_eq_true ((show (3 : Int) ≠ 0 by decide))) ?_
      conv => whnf
      rw [hR]
      exact RetK.of ⟨rfl, okGs.ws (by exact ⟨trivial, trivial, trivial, trivial⟩), trivial⟩ (by simp) (okF.wv ⟨trivial, trivial, trivial, trivial⟩)
    · rw [if_neg hk0] at hR
      by_cases hk2 : k = 2 ∨ k = 3
      · rw [if_pos hk2] at hR
        refine CaseB.of_true (decide_eq_true ((hasF_one k).2 hk2)) ?_
        conv => whnf
        have hx := textR_ok hn 16
        have hxl := textR_len hn 16 (by omega)
        have h145 := c145 r1 16 hn
        obtain ⟨s, hs⟩ : ∃ s, (textR r1 16).1 = s := ⟨_, rfl⟩
        obtain ⟨r2, hr2⟩ : ∃ r2, (textR r1 16).2 = r2 := ⟨_, rfl⟩
        have hze := textR_err (r := r1) (m := 16)
        rw [hs, hr2] at h145 hR hze
        rw [hr2] at hx
        rw [hs] at hxl
        refine CallK.mk' _ _ (frR _ h145 ⟨trivial, trivial⟩ trivial) ?_
        conv => whnf
        refine CallK.mk' _ _ ((c26 (k) (0) (s)).free _ ⟨⟨trivial, trivial, trivial, trivial⟩, trivial⟩ trivial) ?_
        conv => whnf
        by_cases he2 : r2.e = 0
        · rw [if_neg (fun h => h he2)] at hR
          cases ho : okC k 0 s with
          | true =>
            rw [ho, if_pos rfl] at hR
            refine CaseB.of_false (by rw [checkF_good ho]; rfl) ?_
            conv => whnf
            refine CallK.mk' _ _ (frR _ (c68 r2) trivial trivial) ?_
            conv => whnf
            refine CaseB.of_false (decide_eq_false (fun h => h he2)) ?_
            conv => whnf
            rw [hR]
            exact RetK.of ⟨rfl, okGs.ws (by exact ⟨trivial, trivial, trivial, trivial⟩), trivial⟩ (by simp) (okF.wv ⟨trivial, trivial, trivial, trivial⟩)
          | false =>
            rw [ho, if_neg (by simp)] at hR
            refine CaseB.of_true (by rw [checkF_bad (ho)]; rfl) ?_
            conv => whnf
            refine CallK.mk' _ _ (frR _ (c146 r2 3) ⟨trivial, trivial⟩ trivial) ?_
            conv => whnf
            rw [failR_new he2]
            refine CallK.mk' _ _ (frR _ (c68 ⟨[], 3⟩) trivial trivial) ?_
            conv => whnf
            refine CaseB.of_true (decide_eq_true ((show (3 : Int) ≠ 0 by decide))) ?_
            conv => whnf
            rw [hR]
            exact RetK.of ⟨rfl, okGs.ws (by exact ⟨trivial, trivial, trivial, trivial⟩), trivial⟩ (by simp) (okF.wv ⟨trivial, trivial, trivial, trivial⟩)
        · rw [if_pos he2] at hR
          have hsn := hze he2
          subst hsn
          have ho : okC k 0 [] = false := by
            rcases hk2 with rfl | rfl
            · exact okC_noname.1
            · exact okC_noname.2
          refine CaseB.of_true (by rw [checkF_bad (ho)]; rfl) ?_
          conv => whnf
          refine CallK.mk' _ _ (frR _ (c146 r2 3) ⟨trivial, trivial⟩ trivial) ?_
          conv => whnf
          rw [failR_err he2]
          refine CallK.mk' _ _ (frR _ (c68 r2) trivial trivial) ?_
          conv => whnf
          refine CaseB.of_true (decide_eq_true (he2)) ?_
          conv => whnf
          rw [hR]
          exact RetK.of ⟨rfl, okGs.ws (by exact ⟨trivial, trivial, trivial, trivial⟩), trivial⟩ (by simp) (okF.wv ⟨trivial, trivial, trivial, trivial⟩)
      · rw [if_neg hk2] at hR
        have h2 := hasF_two (by omega) (by omega) hk0 hk2
        refine CaseB.of_false (decide_eq_false (by omega)) ?_
        conv => whnf
        refine CaseB.of_true (decide_eq_true h2) ?_
        conv => whnf
        refine CallK.mk' _ _ ((c123 k).free _ ⟨trivial, trivial⟩ trivial) ?_
        conv => whnf
        have hx := numR_ok hn (boundF k)
        have hxl := numR_range hn (boundF k)
        have hbn := boundF_nn k
        have h140' := c140 r1 (boundF k) hn
        obtain ⟨n, hs⟩ : ∃ n, (numR r1 (boundF k)).1 = n := ⟨_, rfl⟩
        obtain ⟨r2, hr2⟩ : ∃ r2, (numR r1 (boundF k)).2 = r2 := ⟨_, rfl⟩
        rw [hs, hr2] at h140' hR
        rw [hr2] at hx
        rw [hs] at hxl
        refine CallK.mk' _ _ (frR _ h140' ⟨trivial, trivial⟩ trivial) ?_
        conv => whnf
        have ho := okC_num (k := k) (n := n) (by omega) (by omega) hk0 hk2 (by omega) (by omega)
        refine CallK.mk' _ _ ((c26 (k) (n) ([])).free _ ⟨⟨trivial, trivial, trivial, trivial⟩, trivial⟩ trivial) ?_
        conv => whnf
        refine CaseB.of_false (by rw [checkF_good ho]; rfl) ?_
        conv => whnf
        refine CallK.mk' _ _ (frR _ (c68 r2) trivial trivial) ?_
        conv => whnf
        by_cases he2 : r2.e = 0
        · rw [if_neg (fun h => h he2)] at hR
          refine CaseB.of_false (decide_eq_false (fun h => h he2)) ?_
          conv => whnf
          rw [hR]
          exact RetK.of ⟨rfl, okGs.ws (by exact ⟨trivial, trivial, trivial, trivial⟩), trivial⟩ (by simp) (okF.wv ⟨trivial, trivial, trivial, trivial⟩)
        · rw [if_pos he2] at hR
          refine CaseB.of_true (decide_eq_true he2) ?_
          conv => whnf
          rw [hR]
          exact RetK.of ⟨rfl, okGs.ws (by exact ⟨trivial, trivial, trivial, trivial⟩), trivial⟩ (by simp) (okF.wv ⟨trivial, trivial, trivial, trivial⟩)
  · rw [if_pos he] at hR
    have hk0 := numR_err (r := r) (m := 6)
    rw [hr1, hkk] at hk0
    obtain rfl := hk0 he
    refine CaseB.of_false (decide_eq_false (by rw [hasF_zero]; decide)) ?_
    conv => whnf
    refine CaseB.of_false (decide_eq_false (by rw [hasF_zero]; decide)) ?_
    conv => whnf
    refine CallK.mk' _ _ (frR _ (c146 r1 3) ⟨trivial, trivial⟩ trivial) ?_
    conv => whnf
    rw [failR_err he]
    refine CallK.mk' _ _ ((c26 (0) (0) ([])).free _ ⟨⟨trivial, trivial, trivial, trivial⟩, trivial⟩ trivial) ?_
    conv => whnf
    refine CaseB.of_true (by rw [checkF_bad (okC_zero)]; rfl) ?_
    conv => whnf
    refine CallK.mk' _ _ (frR _ (c146 r1 3) ⟨trivial, trivial⟩ trivial) ?_
    conv => whnf
    rw [failR_err he]
    refine CallK.mk' _ _ (frR _ (c68 r1) trivial trivial) ?_
    conv => whnf
    refine CaseB.of_true (decide_eq_true (he)) ?_
    conv => whnf
    rw [hR]
    exact RetK.of ⟨rfl, okGs.ws (by exact ⟨trivial, trivial, trivial, trivial⟩), trivial⟩ (by simp) (okF.wv ⟨trivial, trivial, trivial, trivial⟩)

/-- baileyref06.Read -/
theorem c67 (r : Rd) (h : r.ok) : SCalls Proofs.Try.prog 67 [.s (.lf (.ptr 0 0))] [some (obQ r)] (vCc (readC r).1) [some (obQ (readC r).2)] := by
  have hk := numR_range h 6
  have hn := numR_ok h 6
  have h140 := c147 r 6 h
  obtain ⟨k, hkk⟩ : ∃ k, (numR r 6).1 = k := ⟨_, rfl⟩
  obtain ⟨r1, hr1⟩ : ∃ r1, (numR r 6).2 = r1 := ⟨_, rfl⟩
  have hR : readC r = if r1.e ≠ 0 then (cv0, r1) else bodyC k r1 := by unfold readC; rw [hr1, hkk]
  rw [hkk, hr1] at h140
  rw [hkk] at hk
  rw [hr1] at hn
  have ok3 : (⟨[], 3⟩ : Rd).ok := ⟨fun _ => rfl, by show IntKind.i64.min ≤ 3; decide, by show (3 : Int) ≤ IntKind.i64.max; decide, by simp⟩
  refine SCalls.intro tok Proofs.Try.func67 ?_
  conv => whnf
  refine CallK.mk' _ _ (frQ _ h140 ⟨trivial, trivial⟩ trivial) ?_
  conv => whnf
  refine CallK.mk' _ _ (frQ _ (c69 r1) trivial trivial) ?_
  conv => whnf
  by_cases he : r1.e = 0
  · rw [if_neg (by omega)] at hR
    unfold bodyC at hR
    refine CaseB.of_true (decide_eq_true he) ?_
    conv => whnf
    by_cases hk0 : k = 0
    · rw [if_pos hk0] at hR
      subst hk0
      repeat (refine CaseB.of_true (by decide) ?_; conv => whnf)
      refine CallK.mk' _ _ (frQ _ (c148 r1 hn 3) ⟨trivial, trivial⟩ trivial) ?_
      conv => whnf
      rw [failR_new he]
      refine CallK.mk' _ _ ((c124 0).free _ ⟨trivial, trivial⟩ trivial) ?_
      conv => whnf
      refine CaseB.of_false (by decide) ?_
      conv => whnf
      refine CallK.mk' _ _ ((c125 0).free _ ⟨trivial, trivial⟩ trivial) ?_
      conv => whnf
      have h0 := c147 ⟨[], 3⟩ (boundF 0) ok3
      rw [numR_of_err (show (3 : Int) ≠ 0 by decide)] at h0
      refine CallK.mk' _ _ (frQ _ h0 ⟨trivial, trivial⟩ trivial) ?_
      conv => whnf
      refine CallK.mk' _ _ (frQ _ (c69 ⟨[], 3⟩) trivial trivial) ?_
      conv => whnf
      repeat (refine CaseB.of_false (decide_eq_false ((show (3 : Int) ≠ 0 by decide))) ?_; conv => whnf)
      refine CallK.mk' _ _ (frQ _ (c69 ⟨[], 3⟩) trivial trivial) ?_
      conv => whnf
      refine CaseB.of_true (decide_eq_true ((show (3 : Int) ≠ 0 by decide))) ?_
      conv => whnf
      rw [hR]
      exact RetK.of ⟨rfl, okGs.ws (by exact ⟨trivial, trivial, trivial⟩), trivial⟩ (by simp) (okF.wv ⟨trivial, trivial, trivial, trivial⟩)
    · rw [if_neg hk0] at hR
      refine CaseB.of_false (decide_eq_false hk0) ?_
      conv => whnf
      refine CallK.mk' _ _ ((c124 k).free _ ⟨trivial, trivial⟩ trivial) ?_
      conv => whnf
      by_cases hk2 : k = 2 ∨ k = 3
      · rw [if_pos hk2] at hR
        refine CaseB.of_true (decide_eq_true hk2) ?_
        conv => whnf
        have hx := textR_ok hn 16
        have hxl := textR_len hn 16 (by omega)
        have h145 := c149 r1 16 hn
        obtain ⟨s, hs⟩ : ∃ s, (textR r1 16).1 = s := ⟨_, rfl⟩
        obtain ⟨r2, hr2⟩ : ∃ r2, (textR r1 16).2 = r2 := ⟨_, rfl⟩
        have hze := textR_err (r := r1) (m := 16)
        rw [hs, hr2] at h145 hR hze
        rw [hr2] at hx
        rw [hs] at hxl
        refine CallK.mk' _ _ (frQ _ h145 ⟨trivial, trivial⟩ trivial) ?_
        conv => whnf
        by_cases he2 : r2.e = 0
        · rw [if_neg (fun h => h he2)] at hR
          cases ho : okC k 0 s with
          | true =>
            rw [ho, if_pos rfl] at hR
            refine CallK.mk' _ _ (frQ _ (c69 r2) trivial trivial) ?_
            conv => whnf
            repeat (refine CaseB.of_true (decide_eq_true he2) ?_; conv => whnf)
            refine CallK.mk' _ _ ((c27 (k) (0) (s)).free _ ⟨⟨trivial, trivial, trivial, trivial⟩, trivial⟩ trivial) ?_
            conv => whnf
            repeat (refine CaseB.of_true (decide_eq_true he2) ?_; conv => whnf)
            refine CaseB.of_false (by rw [checkF_good ho]; rfl) ?_
            conv => whnf
            refine CallK.mk' _ _ (frQ _ (c69 r2) trivial trivial) ?_
            conv => whnf
            refine CaseB.of_false (decide_eq_false (fun h => h he2)) ?_
            conv => whnf
            rw [hR]
            exact RetK.of ⟨rfl, okGs.ws (by exact ⟨trivial, trivial, trivial⟩), trivial⟩ (by simp) (okF.wv ⟨trivial, trivial, trivial, trivial⟩)
          | false =>
            rw [ho, if_neg (by simp)] at hR
            refine CallK.mk' _ _ (frQ _ (c69 r2) trivial trivial) ?_
            conv => whnf
            repeat (refine CaseB.of_true (decide_eq_true he2) ?_; conv => whnf)
            refine CallK.mk' _ _ ((c27 (k) (0) (s)).free _ ⟨⟨trivial, trivial, trivial, trivial⟩, trivial⟩ trivial) ?_
            conv => whnf
            repeat (refine CaseB.of_true (decide_eq_true he2) ?_; conv => whnf)
            refine CaseB.of_true (by rw [checkF_bad ho]; rfl) ?_
            conv => whnf
            refine CallK.mk' _ _ (frQ _ (c148 r2 hx 3) ⟨trivial, trivial⟩ trivial) ?_
            conv => whnf
            rw [failR_new he2]
            refine CallK.mk' _ _ (frQ _ (c69 ⟨[], 3⟩) trivial trivial) ?_
            conv => whnf
            refine CaseB.of_true (decide_eq_true (show (3 : Int) ≠ 0 by decide)) ?_
            conv => whnf
            rw [hR]
            exact RetK.of ⟨rfl, okGs.ws (by exact ⟨trivial, trivial, trivial⟩), trivial⟩ (by simp) (okF.wv ⟨trivial, trivial, trivial, trivial⟩)
        · rw [if_pos he2] at hR
          refine CallK.mk' _ _ (frQ _ (c69 r2) trivial trivial) ?_
          conv => whnf
          repeat (refine CaseB.of_false (decide_eq_false (he2)) ?_; conv => whnf)
          refine CallK.mk' _ _ (frQ _ (c69 r2) trivial trivial) ?_
          conv => whnf
          refine CaseB.of_true (decide_eq_true (he2)) ?_
          conv => whnf
          rw [hR]
          exact RetK.of ⟨rfl, okGs.ws (by exact ⟨trivial, trivial, trivial⟩), trivial⟩ (by simp) (okF.wv ⟨trivial, trivial, trivial, trivial⟩)
      · rw [if_neg hk2] at hR
        refine CaseB.of_false (decide_eq_false hk2) ?_
        conv => whnf
        refine CallK.mk' _ _ ((c125 k).free _ ⟨trivial, trivial⟩ trivial) ?_
        conv => whnf
        have hx := numR_ok hn (boundF k)
        have hxl := numR_range hn (boundF k)
        have hbn := boundF_nn k
        have h140' := c147 r1 (boundF k) hn
        obtain ⟨n, hs⟩ : ∃ n, (numR r1 (boundF k)).1 = n := ⟨_, rfl⟩
        obtain ⟨r2, hr2⟩ : ∃ r2, (numR r1 (boundF k)).2 = r2 := ⟨_, rfl⟩
        rw [hs, hr2] at h140' hR
        rw [hr2] at hx
        rw [hs] at hxl
        refine CallK.mk' _ _ (frQ _ h140' ⟨trivial, trivial⟩ trivial) ?_
        conv => whnf
        have ho := okC_num (k := k) (n := n) (by omega) (by omega) hk0 hk2 (by omega) (by omega)
        by_cases he2 : r2.e = 0
        · rw [if_neg (fun h => h he2)] at hR
          refine CallK.mk' _ _ (frQ _ (c69 r2) trivial trivial) ?_
          conv => whnf
          repeat (refine CaseB.of_true (decide_eq_true he2) ?_; conv => whnf)
          refine CallK.mk' _ _ ((c27 (k) (n) ([])).free _ ⟨⟨trivial, trivial, trivial, trivial⟩, trivial⟩ trivial) ?_
          conv => whnf
          repeat (refine CaseB.of_true (decide_eq_true he2) ?_; conv => whnf)
          refine CaseB.of_false (by rw [checkF_good ho]; rfl) ?_
          conv => whnf
          refine CallK.mk' _ _ (frQ _ (c69 r2) trivial trivial) ?_
          conv => whnf
          refine CaseB.of_false (decide_eq_false (fun h => h he2)) ?_
          conv => whnf
          rw [hR]
          exact RetK.of ⟨rfl, okGs.ws (by exact ⟨trivial, trivial, trivial⟩), trivial⟩ (by simp) (okF.wv ⟨trivial, trivial, trivial, trivial⟩)
        · rw [if_pos he2] at hR
          refine CallK.mk' _ _ (frQ _ (c69 r2) trivial trivial) ?_
          conv => whnf
          repeat (refine CaseB.of_false (decide_eq_false (he2)) ?_; conv => whnf)
          refine CallK.mk' _ _ (frQ _ (c69 r2) trivial trivial) ?_
          conv => whnf
          refine CaseB.of_true (decide_eq_true (he2)) ?_
          conv => whnf
          rw [hR]
          exact RetK.of ⟨rfl, okGs.ws (by exact ⟨trivial, trivial, trivial⟩), trivial⟩ (by simp) (okF.wv ⟨trivial, trivial, trivial, trivial⟩)
  · rw [if_pos he] at hR
    refine CaseB.of_false (decide_eq_false he) ?_
    conv => whnf
    have hk0 := numR_err (r := r) (m := 6)
    rw [hr1, hkk] at hk0
    obtain rfl := hk0 he
    repeat (refine CaseB.of_false (decide_eq_false he) ?_; conv => whnf)
    refine CallK.mk' _ _ ((c124 0).free _ ⟨trivial, trivial⟩ trivial) ?_
    conv => whnf
    refine CaseB.of_false (by decide) ?_
    conv => whnf
    refine CallK.mk' _ _ ((c125 0).free _ ⟨trivial, trivial⟩ trivial) ?_
    conv => whnf
    have h0 := c147 r1 (boundF 0) hn
    rw [numR_of_err he] at h0
    refine CallK.mk' _ _ (frQ _ h0 ⟨trivial, trivial⟩ trivial) ?_
    conv => whnf
    refine CallK.mk' _ _ (frQ _ (c69 r1) trivial trivial) ?_
    conv => whnf
    repeat (refine CaseB.of_false (decide_eq_false (he)) ?_; conv => whnf)
    refine CallK.mk' _ _ (frQ _ (c69 r1) trivial trivial) ?_
    conv => whnf
    refine CaseB.of_true (decide_eq_true (he)) ?_
    conv => whnf
    rw [hR]
    exact RetK.of ⟨rfl, okGs.ws (by exact ⟨trivial, trivial, trivial⟩), trivial⟩ (by simp) (okF.wv ⟨trivial, trivial, trivial, trivial⟩)
end Go.Sym.Md
