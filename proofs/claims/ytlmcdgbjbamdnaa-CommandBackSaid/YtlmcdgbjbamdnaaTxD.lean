/- Contracts of the program's functions, proved by the framework (text TxD), without conditions but those that each theorem states. -/
import Derived.Test.YtlmcdgbjbamdnaaTxC
import Derived.Test.YtlmcdgbjbamdnaaTxB
import Derived.Test.YtlmcdgbjbamdnaaFw8
import Derived.KernelRfl
set_option linter.unusedVariables false
set_option linter.unusedSimpArgs false
set_option maxRecDepth 10000
namespace Go.Sym.Md
open Go Go.Sym

/-! ### A caveat is read -/
def bodyC (k : Int) (r1 : Rd) : CV × Rd :=
  if k = 0 then (cv0, ⟨[], 3⟩) else
  if k = 2 ∨ k = 3 then
    (if (textR r1 16).2.e ≠ 0 then (cv0, (textR r1 16).2) else if okC k 0 (textR r1 16).1 then (⟨k, 0, (textR r1 16).1⟩, (textR r1 16).2) else (cv0, ⟨[], 3⟩))
  else
    (if (numR r1 (boundF k)).2.e ≠ 0 then (cv0, (numR r1 (boundF k)).2) else (⟨k, (numR r1 (boundF k)).1, []⟩, (numR r1 (boundF k)).2))
def readC (r : Rd) : CV × Rd := if (numR r 6).2.e ≠ 0 then (cv0, (numR r 6).2) else bodyC (numR r 6).1 (numR r 6).2

theorem okC_zero : okC 0 0 [] = false := by decide
theorem hasF_two {k : Int} (h0 : 0 ≤ k) (h6 : k ≤ 6) (hk : k ≠ 0) (h : ¬ (k = 2 ∨ k = 3)) : hasF k = 2 := by
  unfold hasF
  rw [if_neg h, if_pos (by omega)]
theorem okC_noname : okC 2 0 [] = false ∧ okC 3 0 [] = false := by decide
theorem hasF_zero : hasF 0 = 0 := by decide
theorem boundF_nn (k : Int) : 0 ≤ boundF k := by
  unfold boundF; split
  · omega
  · split <;> omega
theorem okC_num {k n : Int} (h0 : 0 ≤ k) (h6 : k ≤ 6) (hk : k ≠ 0) (h : ¬ (k = 2 ∨ k = 3)) (hn : 0 ≤ n) (hb : n ≤ boundF k) : okC k n [] = true := by
  have h2 := hasF_two h0 h6 hk h
  unfold okC
  rw [if_neg (by omega), if_pos h2]
  simp [hn, hb]

theorem bodyC_ok {k : Int} {r : Rd} (h : r.ok) : (bodyC k r).2.ok := by
  have ho : (⟨[], 3⟩ : Rd).ok := ⟨fun _ => rfl, by show IntKind.i64.min ≤ 3; decide, by show (3 : Int) ≤ IntKind.i64.max; decide, by simp⟩
  unfold bodyC
  split
  · exact ho
  · split
    · split
      · exact textR_ok h 16
      · split
        · exact textR_ok h 16
        · exact ho
    · split
      · exact numR_ok h _
      · exact numR_ok h _
theorem readC_ok {r : Rd} (h : r.ok) : (readC r).2.ok := by
  unfold readC
  split
  · exact numR_ok h 6
  · exact bodyC_ok (numR_ok h 6)

theorem numR_of_err {r : Rd} {m : Int} (h : r.e ≠ 0) : numR r m = (0, r) := by unfold numR; rw [if_pos h]
theorem numR_err {r : Rd} {m : Int} (h : (numR r m).2.e ≠ 0) : (numR r m).1 = 0 := by
  unfold numR at h ⊢
  split
  · rfl
  · rename_i h1
    rw [if_neg h1] at h
    split
    · rfl
    · rename_i h2
      rw [if_neg h2] at h
      split
      · rfl
      · rename_i h3
        rw [if_neg h3] at h
        exact absurd rfl h
theorem textR_err {r : Rd} {m : Int} (h : (textR r m).2.e ≠ 0) : (textR r m).1 = [] := by
  unfold textR at h ⊢
  split
  · rfl
  · rename_i h1
    rw [if_neg h1] at h
    split
    · rfl
    · rename_i h2
      rw [if_neg h2] at h
      exact absurd rfl h

attribute [local irreducible] numF checkF hasF okC boundF numR textR

theorem failR_err {r : Rd} (h : r.e ≠ 0) (e : Int) : failR r e = r := by unfold failR; rw [if_neg (fun k => h k.1)]
theorem failR_new {r : Rd} (h : r.e = 0) : failR r 3 = ⟨[], 3⟩ := by unfold failR; rw [if_pos ⟨h, by decide⟩]

/-- A reader's contract, in a larger heap. -/
theorem frR {f : FuncId} {l : List FV} {a b : Rd} {ret : FV} (T : Hp) (h : SCalls Proofs.Try.prog f (.s (.lf (.ptr 0 0)) :: l) [some (obR a)] ret [some (obR b)]) (hl : freeFs l) (hr : freeF ret) : SCalls Proofs.Try.prog f (.s (.lf (.ptr 0 0)) :: l) (some (obR a) :: T) ret (some (obR b) :: T) :=
  h.frame1 (H := some (obR a) :: T) (nm := 0) (ob2 := obR b) rfl rfl (obR_ws _) ⟨WV.lf (WL.ptr rfl rfl), hl.wvs⟩ rfl (obR_ws _) hr.wv
theorem frQ {f : FuncId} {l : List FV} {a b : Rd} {ret : FV} (T : Hp) (h : SCalls Proofs.Try.prog f (.s (.lf (.ptr 0 0)) :: l) [some (obQ a)] ret [some (obQ b)]) (hl : freeFs l) (hr : freeF ret) : SCalls Proofs.Try.prog f (.s (.lf (.ptr 0 0)) :: l) (some (obQ a) :: T) ret (some (obQ b) :: T) :=
  h.frame1 (H := some (obQ a) :: T) (nm := 0) (ob2 := obQ b) rfl rfl (obQ_ws _) ⟨WV.lf (WL.ptr rfl rfl), hl.wvs⟩ rfl (obQ_ws _) hr.wv

/-- caveat.Read -/
theorem c66 (r : Rd) (h : r.ok) : SCalls Proofs.Try.prog 66 [.s (.lf (.ptr 0 0))] [some (obR r)] (vCc (readC r).1) [some (obR (readC r).2)] := by
  have hk := numR_range h 6
  have hn := numR_ok h 6
  have h140 := c140 r 6 h
  obtain ⟨k, hkk⟩ : ∃ k, (numR r 6).1 = k := ⟨_, rfl⟩
  obtain ⟨r1, hr1⟩ : ∃ r1, (numR r 6).2 = r1 := ⟨_, rfl⟩
  have hR : readC r = if r1.e ≠ 0 then (cv0, r1) else bodyC k r1 := by unfold readC; rw [hr1, hkk]
  rw [hkk, hr1] at h140
  rw [hkk] at hk
  rw [hr1] at hn
  refine SCalls.intro tok Proofs.Try.func66 ?_
  conv => whnf
  refine CallK.mk' _ _ (frR _ h140 ⟨trivial, trivial⟩ trivial) ?_
  conv => whnf
  refine CallK.mk' _ _ ((c121 k).free _ ⟨trivial, trivial⟩ trivial) ?_
  conv => whnf
  by_cases he : r1.e = 0
  · rw [if_neg (by omega)] at hR
    unfold bodyC at hR
    by_cases hk0 : k = 0
    · rw [if_pos hk0] at hR
      subst hk0
      refine CaseB.of_false (decide_eq_false (by rw [hasF_zero]; decide)) ?_
      conv => whnf
      refine CaseB.of_false (decide_eq_false (by rw [hasF_zero]; decide)) ?_
      conv => whnf
      refine CallK.mk' _ _ (frR _ (c146 r1 3) ⟨trivial, trivial⟩ trivial) ?_
      conv => whnf
      rw [failR_new he]
      refine CallK.mk' _ _ ((c26 (0) (0) ([])).free _ ⟨⟨trivial, trivial, trivial, trivial⟩, trivial⟩ trivial) ?_
      conv => whnf
      refine CaseB.of_true (by rw [checkF_bad (okC_zero)]; rfl) ?_
      conv => whnf
      refine CallK.mk' _ _ (frR _ (c146 ⟨[], 3⟩ 3) ⟨trivial, trivial⟩ trivial) ?_
      conv => whnf
      rw [failR_err (show (3 : Int) ≠ 0 by decide)]
      refine CallK.mk' _ _ (frR _ (c68 ⟨[], 3⟩) trivial trivial) ?_
      conv => whnf
      refine CaseB.of_true (decide_eq_true ((show (3 : Int) ≠ 0 by decide))) ?_
      conv => whnf
      rw [hR]
      exact RetK.of ⟨rfl, okGs.ws (by exact ⟨trivial, trivial, trivial, trivial⟩), trivial⟩ (by simp) (okF.wv ⟨trivial, trivial, trivial, trivial⟩)
    · rw [if_neg hk0] at hR
      by_cases hk2 : k = 2 ∨ k = 3
      · rw [if_pos hk2] at hR
        refine CaseB.of_true (decide_eq_true ((hasF_one k).2 hk2)) ?_
        conv => whnf
        have hx := textR_ok hn 16
        have hxl := textR_len hn 16 (by omega)
        have h145 := c145 r1 16 hn
        obtain ⟨s, hs⟩ : ∃ s, (textR r1 16).1 = s := ⟨_, rfl⟩
        obtain ⟨r2, hr2⟩ : ∃ r2, (textR r1 16).2 = r2 := ⟨_, rfl⟩
        have hze := textR_err (r := r1) (m := 16)
        rw [hs, hr2] at h145 hR hze
        rw [hr2] at hx
        rw [hs] at hxl
        refine CallK.mk' _ _ (frR _ h145 ⟨trivial, trivial⟩ trivial) ?_
        conv => whnf
        refine CallK.mk' _ _ ((c26 (k) (0) (s)).free _ ⟨⟨trivial, trivial, trivial, trivial⟩, trivial⟩ trivial) ?_
        conv => whnf
        by_cases he2 : r2.e = 0
        · rw [if_neg (fun h => h he2)] at hR
          cases ho : okC k 0 s with
          | true =>
            rw [ho, if_pos rfl] at hR
            refine CaseB.of_false (by rw [checkF_good ho]; rfl) ?_
            conv => whnf
            refine CallK.mk' _ _ (frR _ (c68 r2) trivial trivial) ?_
            conv => whnf
            refine CaseB.of_false (decide_eq_false (fun h => h he2)) ?_
            conv => whnf
            rw [hR]
            exact RetK.of ⟨rfl, okGs.ws (by exact ⟨trivial, trivial, trivial, trivial⟩), trivial⟩ (by simp) (okF.wv ⟨trivial, trivial, trivial, trivial⟩)
          | false =>
            rw [ho, if_neg (by simp)] at hR
            refine CaseB.of_true (by rw [checkF_bad (ho)]; rfl) ?_
            conv => whnf
            refine CallK.mk' _ _ (frR _ (c146 r2 3) ⟨trivial, trivial⟩ trivial) ?_
            conv => whnf
            rw [failR_new he2]
            refine CallK.mk' _ _ (frR _ (c68 ⟨[], 3⟩) trivial trivial) ?_
            conv => whnf
            refine CaseB.of_true (decide_eq_true ((show (3 : Int) ≠ 0 by decide))) ?_
            conv => whnf
            rw [hR]
            exact RetK.of ⟨rfl, okGs.ws (by exact ⟨trivial, trivial, trivial, trivial⟩), trivial⟩ (by simp) (okF.wv ⟨trivial, trivial, trivial, trivial⟩)
        · rw [if_pos he2] at hR
          have hsn := hze he2
          subst hsn
          have ho : okC k 0 [] = false := by
            rcases hk2 with rfl | rfl
            · exact okC_noname.1
            · exact okC_noname.2
          refine CaseB.of_true (by rw [checkF_bad (ho)]; rfl) ?_
          conv => whnf
          refine CallK.mk' _ _ (frR _ (c146 r2 3) ⟨trivial, trivial⟩ trivial) ?_
          conv => whnf
          rw [failR_err he2]
          refine CallK.mk' _ _ (frR _ (c68 r2) trivial trivial) ?_
          conv => whnf
          refine CaseB.of_true (decide_eq_true (he2)) ?_
          conv => whnf
          rw [hR]
          exact RetK.of ⟨rfl, okGs.ws (by exact ⟨trivial, trivial, trivial, trivial⟩), trivial⟩ (by simp) (okF.wv ⟨trivial, trivial, trivial, trivial⟩)
      · rw [if_neg hk2] at hR
        have h2 := hasF_two (by omega) (by omega) hk0 hk2
        refine CaseB.of_false (decide_eq_false (by omega)) ?_
        conv => whnf
        refine CaseB.of_true (decide_eq_true h2) ?_
        conv => whnf
        refine CallK.mk' _ _ ((c123 k).free _ ⟨trivial, trivial⟩ trivial) ?_
        conv => whnf
        have hx := numR_ok hn (boundF k)
        have hxl := numR_range hn (boundF k)
        have hbn := boundF_nn k
        have h140' := c140 r1 (boundF k) hn
        obtain ⟨n, hs⟩ : ∃ n, (numR r1 (boundF k)).1 = n := ⟨_, rfl⟩
        obtain ⟨r2, hr2⟩ : ∃ r2, (numR r1 (boundF k)).2 = r2 := ⟨_, rfl⟩
        rw [hs, hr2] at h140' hR
        rw [hr2] at hx
        rw [hs] at hxl
        refine CallK.mk' _ _ (frR _ h140' ⟨trivial, trivial⟩ trivial) ?_
        conv => whnf
        have ho := okC_num (k := k) (n := n) (by omega) (by omega) hk0 hk2 (by omega) (by omega)
        refine CallK.mk' _ _ ((c26 (k) (n) ([])).free _ ⟨⟨trivial, trivial, trivial, trivial⟩, trivial⟩ trivial) ?_
        conv => whnf
        refine CaseB.of_false (by rw [checkF_good ho]; rfl) ?_
        conv => whnf
        refine CallK.mk' _ _ (frR _ (c68 r2) trivial trivial) ?_
        conv => whnf
        by_cases he2 : r2.e = 0
        · rw [if_neg (fun h => h he2)] at hR
          refine CaseB.of_false (decide_eq_false (fun h => h he2)) ?_
          conv => whnf
          rw [hR]
          exact RetK.of ⟨rfl, okGs.ws (by exact ⟨trivial, trivial, trivial, trivial⟩), trivial⟩ (by simp) (okF.wv ⟨trivial, trivial, trivial, trivial⟩)
        · rw [if_pos he2] at hR
          refine CaseB.of_true (decide_eq_true he2) ?_
          conv => whnf
          rw [hR]
          exact RetK.of ⟨rfl, okGs.ws (by exact ⟨trivial, trivial, trivial, trivial⟩), trivial⟩ (by simp) (okF.wv ⟨trivial, trivial, trivial, trivial⟩)
  · rw [if_pos he] at hR
    have hk0 := numR_err (r := r) (m := 6)
    rw [hr1, hkk] at hk0
    obtain rfl := hk0 he
    refine CaseB.of_false (decide_eq_false (by rw [hasF_zero]; decide)) ?_
    conv => whnf
    refine CaseB.of_false (decide_eq_false (by rw [hasF_zero]; decide)) ?_
    conv => whnf
    refine CallK.mk' _ _ (frR _ (c146 r1 3) ⟨trivial, trivial⟩ trivial) ?_
    conv => whnf
    rw [failR_err he]
    refine CallK.mk' _ _ ((c26 (0) (0) ([])).free _ ⟨⟨trivial, trivial, trivial, trivial⟩, trivial⟩ trivial) ?_
    conv => whnf
    refine CaseB.of_true (by rw [checkF_bad (okC_zero)]; rfl) ?_
    conv => whnf
    refine CallK.mk' _ _ (frR _ (c146 r1 3) ⟨trivial, trivial⟩ trivial) ?_
    conv => whnf
    rw [failR_err he]
    refine CallK.mk' _ _ (frR _ (c68 r1) trivial trivial) ?_
    conv => whnf
    refine CaseB.of_true (decide_eq_true (he)) ?_
    conv => whnf
    rw [hR]
    exact RetK.of ⟨rfl, okGs.ws (by exact ⟨trivial, trivial, trivial, trivial⟩), trivial⟩ (by simp) (okF.wv ⟨trivial, trivial, trivial, trivial⟩)

/-- baileyref06.Read -/
theorem c67 (r : Rd) (h : r.ok) : SCalls Proofs.Try.prog 67 [.s (.lf (.ptr 0 0))] [some (obQ r)] (vCc (readC r).1) [some (obQ (readC r).2)] := by
  have hk := numR_range h 6
  have hn := numR_ok h 6
  have h140 := c147 r 6 h
  obtain ⟨k, hkk⟩ : ∃ k, (numR r 6).1 = k := ⟨_, rfl⟩
  obtain ⟨r1, hr1⟩ : ∃ r1, (numR r 6).2 = r1 := ⟨_, rfl⟩
  have hR : readC r = if r1.e ≠ 0 then (cv0, r1) else bodyC k r1 := by unfold readC; rw [hr1, hkk]
  rw [hkk, hr1] at h140
  rw [hkk] at hk
  rw [hr1] at hn
  have ok3 : (⟨[], 3⟩ : Rd).ok := ⟨fun _ => rfl, by show IntKind.i64.min ≤ 3; decide, by show (3 : Int) ≤ IntKind.i64.max; decide, by simp⟩
  refine SCalls.intro tok Proofs.Try.func67 ?_
  conv => whnf
  refine CallK.mk' _ _ (frQ _ h140 ⟨trivial, trivial⟩ trivial) ?_
  conv => whnf
  refine CallK.mk' _ _ (frQ _ (c69 r1) trivial trivial) ?_
  conv => whnf
  by_cases he : r1.e = 0
  · rw [if_neg (by omega)] at hR
    unfold bodyC at hR
    refine CaseB.of_true (decide_eq_true he) ?_
    conv => whnf
    by_cases hk0 : k = 0
    · rw [if_pos hk0] at hR
      subst hk0
      repeat (refine CaseB.of_true (by decide) ?_; conv => whnf)
      refine CallK.mk' _ _ (frQ _ (c148 r1 hn 3) ⟨trivial, trivial⟩ trivial) ?_
      conv => whnf
      rw [failR_new he]
      refine CallK.mk' _ _ ((c124 0).free _ ⟨trivial, trivial⟩ trivial) ?_
      conv => whnf
      refine CaseB.of_false (by decide) ?_
      conv => whnf
      refine CallK.mk' _ _ ((c125 0).free _ ⟨trivial, trivial⟩ trivial) ?_
      conv => whnf
      have h0 := c147 ⟨[], 3⟩ (boundF 0) ok3
      rw [numR_of_err (show (3 : Int) ≠ 0 by decide)] at h0
      refine CallK.mk' _ _ (frQ _ h0 ⟨trivial, trivial⟩ trivial) ?_
      conv => whnf
      refine CallK.mk' _ _ (frQ _ (c69 ⟨[], 3⟩) trivial trivial) ?_
      conv => whnf
      repeat (refine CaseB.of_false (decide_eq_false ((show (3 : Int) ≠ 0 by decide))) ?_; conv => whnf)
      refine CallK.mk' _ _ (frQ _ (c69 ⟨[], 3⟩) trivial trivial) ?_
      conv => whnf
      refine CaseB.of_true (decide_eq_true ((show (3 : Int) ≠ 0 by decide))) ?_
      conv => whnf
      rw [hR]
      exact RetK.of ⟨rfl, okGs.ws (by exact ⟨trivial, trivial, trivial⟩), trivial⟩ (by simp) (okF.wv ⟨trivial, trivial, trivial, trivial⟩)
    · rw [if_neg hk0] at hR
      refine CaseB.of_false (decide_eq_false hk0) ?_
      conv => whnf
      refine CallK.mk' _ _ ((c124 k).free _ ⟨trivial, trivial⟩ trivial) ?_
      conv => whnf
      by_cases hk2 : k = 2 ∨ k = 3
      · rw [if_pos hk2] at hR
        refine CaseB.of_true (decide_eq_true hk2) ?_
        conv => whnf
        have hx := textR_ok hn 16
        have hxl := textR_len hn 16 (by omega)
        have h145 := c149 r1 16 hn
        obtain ⟨s, hs⟩ : ∃ s, (textR r1 16).1 = s := ⟨_, rfl⟩
        obtain ⟨r2, hr2⟩ : ∃ r2, (textR r1 16).2 = r2 := ⟨_, rfl⟩
        have hze := textR_err (r := r1) (m := 16)
        rw [hs, hr2] at h145 hR hze
        rw [hr2] at hx
        rw [hs] at hxl
        refine CallK.mk' _ _ (frQ _ h145 ⟨trivial, trivial⟩ trivial) ?_
        conv => whnf
        by_cases he2 : r2.e = 0
        · rw [if_neg (fun h => h he2)] at hR
          cases ho : okC k 0 s with
          | true =>
            rw [ho, if_pos rfl] at hR
            refine CallK.mk' _ _ (frQ _ (c69 r2) trivial trivial) ?_
            conv => whnf
            repeat (refine CaseB.of_true (decide_eq_true he2) ?_; conv => whnf)
            refine CallK.mk' _ _ ((c27 (k) (0) (s)).free _ ⟨⟨trivial, trivial, trivial, trivial⟩, trivial⟩ trivial) ?_
            conv => whnf
            repeat (refine CaseB.of_true (decide_eq_true he2) ?_; conv => whnf)
            refine CaseB.of_false (by rw [checkF_good ho]; rfl) ?_
            conv => whnf
            refine CallK.mk' _ _ (frQ _ (c69 r2) trivial trivial) ?_
            conv => whnf
            refine CaseB.of_false (decide_eq_false (fun h => h he2)) ?_
            conv => whnf
            rw [hR]
            exact RetK.of ⟨rfl, okGs.ws (by exact ⟨trivial, trivial, trivial⟩), trivial⟩ (by simp) (okF.wv ⟨trivial, trivial, trivial, trivial⟩)
          | false =>
            rw [ho, if_neg (by simp)] at hR
            refine CallK.mk' _ _ (frQ _ (c69 r2) trivial trivial) ?_
            conv => whnf
            repeat (refine CaseB.of_true (decide_eq_true he2) ?_; conv => whnf)
            refine CallK.mk' _ _ ((c27 (k) (0) (s)).free _ ⟨⟨trivial, trivial, trivial, trivial⟩, trivial⟩ trivial) ?_
            conv => whnf
            repeat (refine CaseB.of_true (decide_eq_true he2) ?_; conv => whnf)
            refine CaseB.of_true (by rw [checkF_bad ho]; rfl) ?_
            conv => whnf
            refine CallK.mk' _ _ (frQ _ (c148 r2 hx 3) ⟨trivial, trivial⟩ trivial) ?_
            conv => whnf
            rw [failR_new he2]
            refine CallK.mk' _ _ (frQ _ (c69 ⟨[], 3⟩) trivial trivial) ?_
            conv => whnf
            refine CaseB.of_true (decide_eq_true (show (3 : Int) ≠ 0 by decide)) ?_
            conv => whnf
            rw [hR]
            exact RetK.of ⟨rfl, okGs.ws (by exact ⟨trivial, trivial, trivial⟩), trivial⟩ (by simp) (okF.wv ⟨trivial, trivial, trivial, trivial⟩)
        · rw [if_pos he2] at hR
          refine CallK.mk' _ _ (frQ _ (c69 r2) trivial trivial) ?_
          conv => whnf
          repeat (refine CaseB.of_false (decide_eq_false (he2)) ?_; conv => whnf)
          refine CallK.mk' _ _ (frQ _ (c69 r2) trivial trivial) ?_
          conv => whnf
          refine CaseB.of_true (decide_eq_true (he2)) ?_
          conv => whnf
          rw [hR]
          exact RetK.of ⟨rfl, okGs.ws (by exact ⟨trivial, trivial, trivial⟩), trivial⟩ (by simp) (okF.wv ⟨trivial, trivial, trivial, trivial⟩)
      · rw [if_neg hk2] at hR
        refine CaseB.of_false (decide_eq_false hk2) ?_
        conv => whnf
        refine CallK.mk' _ _ ((c125 k).free _ ⟨trivial, trivial⟩ trivial) ?_
        conv => whnf
        have hx := numR_ok hn (boundF k)
        have hxl := numR_range hn (boundF k)
        have hbn := boundF_nn k
        have h140' := c147 r1 (boundF k) hn
        obtain ⟨n, hs⟩ : ∃ n, (numR r1 (boundF k)).1 = n := ⟨_, rfl⟩
        obtain ⟨r2, hr2⟩ : ∃ r2, (numR r1 (boundF k)).2 = r2 := ⟨_, rfl⟩
        rw [hs, hr2] at h140' hR
        rw [hr2] at hx
        rw [hs] at hxl
        refine CallK.mk' _ _ (frQ _ h140' ⟨trivial, trivial⟩ trivial) ?_
        conv => whnf
        have ho := okC_num (k := k) (n := n) (by omega) (by omega) hk0 hk2 (by omega) (by omega)
        by_cases he2 : r2.e = 0
        · rw [if_neg (fun h => h he2)] at hR
          refine CallK.mk' _ _ (frQ _ (c69 r2) trivial trivial) ?_
          conv => whnf
          repeat (refine CaseB.of_true (decide_eq_true he2) ?_; conv => whnf)
          refine CallK.mk' _ _ ((c27 (k) (n) ([])).free _ ⟨⟨trivial, trivial, trivial, trivial⟩, trivial⟩ trivial) ?_
          conv => whnf
          repeat (refine CaseB.of_true (decide_eq_true he2) ?_; conv => whnf)
          refine CaseB.of_false (by rw [checkF_good ho]; rfl) ?_
          conv => whnf
          refine CallK.mk' _ _ (frQ _ (c69 r2) trivial trivial) ?_
          conv => whnf
          refine CaseB.of_false (decide_eq_false (fun h => h he2)) ?_
          conv => whnf
          rw [hR]
          exact RetK.of ⟨rfl, okGs.ws (by exact ⟨trivial, trivial, trivial⟩), trivial⟩ (by simp) (okF.wv ⟨trivial, trivial, trivial, trivial⟩)
        · rw [if_pos he2] at hR
          refine CallK.mk' _ _ (frQ _ (c69 r2) trivial trivial) ?_
          conv => whnf
          repeat (refine CaseB.of_false (decide_eq_false (he2)) ?_; conv => whnf)
          refine CallK.mk' _ _ (frQ _ (c69 r2) trivial trivial) ?_
          conv => whnf
          refine CaseB.of_true (decide_eq_true (he2)) ?_
          conv => whnf
          rw [hR]
          exact RetK.of ⟨rfl, okGs.ws (by exact ⟨trivial, trivial, trivial⟩), trivial⟩ (by simp) (okF.wv ⟨trivial, trivial, trivial, trivial⟩)
  · rw [if_pos he] at hR
    refine CaseB.of_false (decide_eq_false he) ?_
    conv => whnf
    have hk0 := numR_err (r := r) (m := 6)
    rw [hr1, hkk] at hk0
    obtain rfl := hk0 he
    repeat (refine CaseB.of_false (decide_eq_false he) ?_; conv => whnf)
    refine CallK.mk' _ _ ((c124 0).free _ ⟨trivial, trivial⟩ trivial) ?_
    conv => whnf
    refine CaseB.of_false (by decide) ?_
    conv => whnf
    refine CallK.mk' _ _ ((c125 0).free _ ⟨trivial, trivial⟩ trivial) ?_
    conv => whnf
    have h0 := c147 r1 (boundF 0) hn
    rw [numR_of_err he] at h0
    refine CallK.mk' _ _ (frQ _ h0 ⟨trivial, trivial⟩ trivial) ?_
    conv => whnf
    refine CallK.mk' _ _ (frQ _ (c69 r1) trivial trivial) ?_
    conv => whnf
    repeat (refine CaseB.of_false (decide_eq_false (he)) ?_; conv => whnf)
    refine CallK.mk' _ _ (frQ _ (c69 r1) trivial trivial) ?_
    conv => whnf
    refine CaseB.of_true (decide_eq_true (he)) ?_
    conv => whnf
    rw [hR]
    exact RetK.of ⟨rfl, okGs.ws (by exact ⟨trivial, trivial, trivial⟩), trivial⟩ (by simp) (okF.wv ⟨trivial, trivial, trivial, trivial⟩)
end Go.Sym.Md

set_option linter.unusedVariables false
set_option linter.unusedSimpArgs false
set_option maxRecDepth 10000
namespace Go.Sym.Md
open Go Go.Sym

/-! ### Lists of caveats are read -/
def readsC : Nat → Rd → List CV × Rd
  | 0, r => ([], r)
  | n + 1, r => if r.e ≠ 0 then ([], r) else ((readC r).1 :: (readsC n (readC r).2).1, (readsC n (readC r).2).2)
def allC (r : Rd) : List CV × Rd := readsC (numR r 8).1.toNat (numR r 8).2
def endF (r : Rd) : Int := if 0 < r.l.length then 3 else r.e
def parseC (b : List UInt8) : List CV × Int := if endF (allC ⟨b, 0⟩).2 = 0 then ((allC ⟨b, 0⟩).1, 0) else ([], endF (allC ⟨b, 0⟩).2)

theorem readsC_ok : ∀ (n : Nat) {r : Rd}, r.ok → (readsC n r).2.ok
  | 0, r, h => h
  | n + 1, r, h => by
    unfold readsC
    split
    · exact h
    · exact readsC_ok n (readC_ok h)
theorem allC_ok {r : Rd} (h : r.ok) : (allC r).2.ok := readsC_ok _ (numR_ok h 8)
theorem readsC_err (n : Nat) {r : Rd} (h : r.e ≠ 0) : readsC n r = ([], r) := by
  cases n with
  | zero => rfl
  | succ n => unfold readsC; rw [if_pos h]
theorem readsC_len : ∀ (n : Nat) (r : Rd), (readsC n r).1.length ≤ n
  | 0, r => by simp [readsC]
  | n + 1, r => by
    unfold readsC
    split
    · simp
    · simp only [List.length_cons]
      have := readsC_len n (readC r).2
      omega

theorem rowC_snoc (cs : List CV) (c : CV) (i j : Nat) (hi : i < cs.length + 1) (hj : j < 3) : catRow 3 cs.length (fun i j => rowC cs (0 + i) j) (fun i j => cellD ([] ++ ([Seg.one (LV.int IntKind.i64 c.k), Seg.one (LV.int IntKind.i64 c.n), Seg.one (LV.str c.s)] ++ [])) (i * 3 + j)) i j = rowC (cs ++ [c]) i j := by
  unfold catRow
  by_cases h : i < cs.length
  · rw [show Nat.blt i cs.length = true by simp [Nat.blt, Nat.ble_eq]; omega]
    show rowC cs (0 + i) j = _
    unfold rowC
    rw [Nat.zero_add, show (cs ++ [c]).getD i cv0 = cs.getD i cv0 by rw [List.getD_eq_getElem?_getD, List.getD_eq_getElem?_getD, List.getElem?_append_left h]]
  · have e : i = cs.length := by omega
    subst e
    rw [show Nat.blt cs.length cs.length = false by cases hb : Nat.blt cs.length cs.length <;> first | rfl | (have := blt_true hb; omega)]
    show cellD _ ((cs.length - cs.length) * 3 + j) = _
    unfold rowC
    rw [Nat.sub_self, show (cs ++ [c]).getD cs.length cv0 = c by rw [List.getD_eq_getElem?_getD, List.getElem?_append_right (Nat.le_refl _), Nat.sub_self]; rfl]
    have : j = 0 ∨ j = 1 ∨ j = 2 := by omega
    rcases this with rfl | rfl | rfl <;> rfl

attribute [local irreducible] numF checkF hasF okC boundF numR textR readC

theorem wl_of_eq {D : Rel} {u v : LV} (h : u = v) (hv : WL D v v) : WL D u v := by subst h; exact hv

def accV (nm : Nat) : List CV → FV
  | [] => .s (.lf .sl0)
  | a :: l => .s (.lf (.own nm 0 3 0 (a :: l).length))
def accH : List CV → Hp
  | [] => []
  | a :: l => [some ⟨23, [.recs 3 (a :: l).length (rowC (a :: l))]⟩]

/-- caveat.Parse -/
theorem c62 (b : List UInt8) (hb : b.length ≤ 1000000000) : SCalls Proofs.Try.prog 62 [.s (.lf (.rob false false b))] [] (.tup [.lf (.ro false false 3 (parseC b).1.length (rowC (parseC b).1)), .lf (.int .i64 (parseC b).2)]) [] := by
  have h0 : (⟨b, 0⟩ : Rd).ok := ⟨fun h => absurd rfl h, by show IntKind.i64.min ≤ 0; decide, by show (0 : Int) ≤ IntKind.i64.max; decide, by show b.length ≤ _; omega⟩
  refine SCalls.intro tok Proofs.Try.func62 ?_
  conv => whnf
  refine CallK.mk' _ _ (c64 b (by omega)) ?_
  conv => whnf
  refine CallK.mk' _ _ (c140 ⟨b, 0⟩ 8 h0) ?_
  conv => whnf
  have hn8 := numR_range h0 8
  have hno := numR_ok h0 8
  obtain ⟨n, hn⟩ : ∃ n : Nat, (numR ⟨b, 0⟩ 8).1 = n := ⟨(numR ⟨b, 0⟩ 8).1.toNat, by omega⟩
  obtain ⟨r1, hr1⟩ : ∃ r1, (numR ⟨b, 0⟩ 8).2 = r1 := ⟨_, rfl⟩
  have hA : allC ⟨b, 0⟩ = readsC n r1 := by unfold allC; rw [hn, hr1, Int.toNat_natCast]
  have hE : parseC b = if endF (readsC n r1).2 = 0 then ((readsC n r1).1, 0) else ([], endF (readsC n r1).2) := by unfold parseC; rw [hA]
  rw [hn, hr1]
  rw [hr1] at hno
  rw [hn] at hn8
  refine LoopK.mk3 (fun (m : Nat) (q : Rd) (acc : List CV) => [(6, vI m), (5, accV 1 acc), (4, .s (.lf (.ptr 0 0))), (3, vI 0), (2, .s (.lf .sl0))]) (fun m q acc => some (obR q) :: accH acc)
    (fun m q acc => q.ok ∧ acc ++ (readsC m q).1 = (readsC n r1).1 ∧ (readsC m q).2 = (readsC n r1).2 ∧ acc.length + m = n) (fun m q acc => m) n r1 [] ⟨hno, rfl, rfl, by simp⟩ ?_ ?_
  · exact Weak.of ⟨rfl, okGs.ws (by exact ⟨trivial, trivial, trivial, trivial⟩), trivial⟩ (by simp) ⟨okF.wv trivial, okF.wv trivial, okF.wv rfl, okF.wv trivial, okF.wv trivial, trivial⟩
  rintro m q acc ⟨hq, ha, hb', hl⟩
  conv => whnf
  cases m with
  | zero =>
    repeat (refine CaseB.of_false (decide_eq_false (show ¬ (0 : Int) < ((0 : Nat) : Int) by omega)) ?_; conv => whnf)
    have hS : readsC 0 q = ([], q) := rfl
    rw [hS, List.append_nil] at ha
    rw [hS] at hb'
    refine CallK.mk' _ _ (frR _ (c85 q hq) trivial trivial) ?_
    conv => whnf
    rw [show (if 0 < q.l.length then 3 else q.e) = endF q from rfl]
    rw [← hb', ← ha] at hE
    by_cases hz : endF q = 0
    · refine CaseB.of_false (decide_eq_false (fun h => h hz)) ?_
      conv => whnf
      rw [if_pos hz] at hE
      rw [hE]
      cases acc with
      | nil => exact RetK.empty (WV.tup ⟨WL.sl0ro, WL.int rfl, trivial⟩)
      | cons a l => exact RetK.empty (WV.tup ⟨WL.lentC (ty := 23) rfl rfl rfl (fun _ _ _ _ => rfl) (gone_none fun h => h), WL.int rfl, trivial⟩)
    · refine CaseB.of_true (decide_eq_true hz) ?_
      conv => whnf
      rw [if_neg hz] at hE
      rw [hE]
      exact RetK.empty (WV.tup ⟨WL.sl0ro, WL.int rfl, trivial⟩)
  | succ m =>
    repeat (refine CaseB.of_true (decide_eq_true (show (0 : Int) < ((m + 1 : Nat) : Int) by omega)) ?_; conv => whnf)
    refine CallK.mk' _ _ (frR _ (c68 q) trivial trivial) ?_
    conv => whnf
    by_cases he : q.e = 0
    · repeat ((first | refine CaseB.of_true (decide_eq_true he) ?_ | refine CaseB.of_true (decide_eq_true (show (0 : Int) < ((m + 1 : Nat) : Int) by omega)) ?_); conv => whnf)
      have hS : readsC (m + 1) q = ((readC q).1 :: (readsC m (readC q).2).1, (readsC m (readC q).2).2) := by conv => lhs; unfold readsC; rw [if_neg (fun h => h he)]
      rw [hS] at ha hb'
      have hq2 := readC_ok hq
      have h66 := c66 q hq
      obtain ⟨c, hc⟩ : ∃ c, (readC q).1 = c := ⟨_, rfl⟩
      obtain ⟨q2, hq2'⟩ : ∃ q2, (readC q).2 = q2 := ⟨_, rfl⟩
      rw [hc, hq2'] at ha h66
      rw [hq2'] at hb' hq2
      have ha' : acc ++ [c] ++ (readsC m q2).1 = (readsC n r1).1 := by rw [← ha]; simp
      cases acc with
      | nil =>
        conv => whnf
        refine CallK.mk' _ _ (frR _ h66 trivial ⟨trivial, trivial, trivial, trivial⟩) ?_
        conv => whnf
        refine Or.inr ?_
        conv => whnf
        refine And.intro (by show (0 + 1) * 32 ≤ _; omega) ?_
        conv => whnf
        refine ⟨(m, q2, [c]), ⟨hq2, ha', hb', by simp only [List.length_nil, List.length_cons] at hl ⊢; omega⟩, by show m < m + 1; omega, ?_⟩
        exact Weak.of ⟨rfl, okGs.ws (by exact ⟨trivial, trivial, trivial, trivial⟩), rfl, ⟨.recs rfl fun i hi j hj => by
            have hi : i < 0 + 1 := hi
            obtain rfl : i = 0 := by omega
            have : j = 0 ∨ j = 1 ∨ j = 2 := by have : j < 3 := hj; omega
            rcases this with rfl | rfl | rfl
            · exact plainL.wl (v := .int .i64 c.k) trivial
            · exact plainL.wl (v := .int .i64 c.n) trivial
            · exact plainL.wl (v := .str c.s) trivial, trivial⟩, trivial⟩ (by simp)
          ⟨WV.lf (WL.int (by rw [wrap_i64 (by omega) (by omega)]; show ((m + 1 : Nat) : Int) - 1 = (m : Int); omega)), WV.lf (WL.own rfl rfl rfl rfl), okF.wv rfl, okF.wv trivial, okF.wv trivial, trivial⟩
      | cons a l =>
        conv => whnf
        refine CallK.mk' _ _ (frR _ h66 trivial ⟨trivial, trivial, trivial, trivial⟩) ?_
        conv => whnf
        refine Or.inr ?_
        conv => whnf
        refine And.intro (by omega) ?_
        conv => whnf
        refine And.intro ⟨rfl, by show ((a :: l).length + 1) * 32 ≤ _; omega⟩ ?_
        conv => whnf
        refine ⟨(m, q2, a :: l ++ [c]), ⟨hq2, ha', hb', by show (a :: l ++ [c]).length + m = n; rw [List.length_append]; simp only [List.length_cons, List.length_nil] at hl ⊢; omega⟩, by show m < m + 1; omega, ?_⟩
        have hlc : (a :: l).length + 1 = (a :: (l ++ [c])).length := by simp
        exact Weak.perm [0, 2] ⟨⟨rfl, obR_ws _⟩, ⟨rfl, .recs hlc fun i hi j hj => wl_of_eq (rowC_snoc (a :: l) c i j hi hj) (rowC_wl hj), trivial⟩, trivial⟩
          ⟨WV.lf (WL.int (by rw [wrap_i64 (by omega) (by omega)]; show ((m + 1 : Nat) : Int) - 1 = (m : Int); omega)), WV.lf (WL.own rfl rfl rfl hlc), WV.lf (WL.ptr rfl rfl), freeF.wv trivial, freeF.wv trivial, trivial⟩ rfl (by show 2 ≤ 2; omega) rfl (Nat.zero_le _)
    · repeat ((first | refine CaseB.of_false (decide_eq_false he) ?_ | refine CaseB.of_true (decide_eq_true (show (0 : Int) < ((m + 1 : Nat) : Int) by omega)) ?_); conv => whnf)
      have hS := readsC_err (m + 1) he
      rw [hS, List.append_nil] at ha
      rw [hS] at hb'
      refine CallK.mk' _ _ (frR _ (c85 q hq) trivial trivial) ?_
      conv => whnf
      rw [show (if 0 < q.l.length then 3 else q.e) = endF q from rfl]
      rw [← hb', ← ha] at hE
      by_cases hz : endF q = 0
      · refine CaseB.of_false (decide_eq_false (fun h => h hz)) ?_
        conv => whnf
        rw [if_pos hz] at hE
        rw [hE]
        cases acc with
        | nil => exact RetK.empty (WV.tup ⟨WL.sl0ro, WL.int rfl, trivial⟩)
        | cons a l => exact RetK.empty (WV.tup ⟨WL.lentC (ty := 23) rfl rfl rfl (fun _ _ _ _ => rfl) (gone_none fun h => h), WL.int rfl, trivial⟩)
      · refine CaseB.of_true (decide_eq_true hz) ?_
        conv => whnf
        rw [if_neg hz] at hE
        rw [hE]
        exact RetK.empty (WV.tup ⟨WL.sl0ro, WL.int rfl, trivial⟩)

/-- What ReadAll gives. -/
def keptC (x : List CV × Rd) : List CV := if x.2.e ≠ 0 then [] else x.1

/-- baileyref06.ReadAll -/
theorem c141 (r : Rd) (hr : r.ok) : SCalls Proofs.Try.prog 141 [.s (.lf (.ptr 0 0))] [some (obQ r)] (.s (.lf (.ro false false 3 (keptC (allC r)).length (rowC (keptC (allC r)))))) [some (obQ (allC r).2)] := by
  have hn8 := numR_range hr 8
  have hno := numR_ok hr 8
  have h147 := c147 r 8 hr
  obtain ⟨n, hn⟩ : ∃ n : Nat, (numR r 8).1 = n := ⟨(numR r 8).1.toNat, by omega⟩
  obtain ⟨r1, hr1⟩ : ∃ r1, (numR r 8).2 = r1 := ⟨_, rfl⟩
  have hA : allC r = readsC n r1 := by unfold allC; rw [hn, hr1, Int.toNat_natCast]
  rw [hn, hr1] at h147
  rw [hr1] at hno
  rw [hn] at hn8
  rw [hA]
  refine SCalls.intro tok Proofs.Try.func141 ?_
  conv => whnf
  refine CallK.mk' _ _ h147 ?_
  conv => whnf
  refine LoopK.mk3 (fun (m : Nat) (q : Rd) (acc : List CV) => [(5, vI ((n - m : Nat) : Int)), (4, vI n), (3, accV 1 acc), (2, .s (.lf .sl0)), (0, .s (.lf (.ptr 0 0)))]) (fun m q acc => some (obQ q) :: accH acc)
    (fun m q acc => q.ok ∧ acc ++ (readsC m q).1 = (readsC n r1).1 ∧ (readsC m q).2 = (readsC n r1).2 ∧ acc.length + m = n) (fun m q acc => m) n r1 [] ⟨hno, rfl, rfl, by simp⟩ ?_ ?_
  · exact Weak.of ⟨rfl, okGs.ws (by exact ⟨trivial, trivial, trivial⟩), trivial⟩ (by simp) ⟨WV.lf (WL.int (by omega)), okF.wv trivial, okF.wv trivial, okF.wv trivial, okF.wv rfl, trivial⟩
  rintro m q acc ⟨hq, ha, hb', hl⟩
  conv => whnf
  cases m with
  | zero =>
    repeat (refine CaseB.of_false (decide_eq_false (show ¬ ((n - 0 : Nat) : Int) < (n : Int) by omega)) ?_; conv => whnf)
    have hS : readsC 0 q = ([], q) := rfl
    rw [hS, List.append_nil] at ha
    rw [hS] at hb'
    refine CallK.mk' _ _ (frQ _ (c69 q) trivial trivial) ?_
    conv => whnf
    have hK : keptC (readsC n r1) = if q.e ≠ 0 then [] else acc := by unfold keptC; rw [← hb', ← ha]
    have hW : (readsC n r1).2 = q := hb'.symm
    rw [hW, hK]
    by_cases hz : q.e = 0
    · refine CaseB.of_false (decide_eq_false (fun h => h hz)) ?_
      conv => whnf
      rw [if_neg (fun h => h hz)]
      cases acc with
      | nil => exact RetK.of ⟨rfl, okGs.ws (by exact ⟨trivial, trivial, trivial⟩), trivial⟩ (by simp) (WV.lf WL.sl0ro)
      | cons a l => exact RetK.of ⟨rfl, okGs.ws (by exact ⟨trivial, trivial, trivial⟩), trivial⟩ (by simp) (WV.lf (WL.lentC (ty := 23) rfl rfl rfl (fun _ _ _ _ => rfl) (gone_one (by decide))))
    · refine CaseB.of_true (decide_eq_true hz) ?_
      conv => whnf
      rw [if_pos hz]
      cases acc with
      | nil => exact RetK.of ⟨rfl, okGs.ws (by exact ⟨trivial, trivial, trivial⟩), trivial⟩ (by simp) (WV.lf WL.sl0ro)
      | cons a l => exact RetK.of ⟨rfl, okGs.ws (by exact ⟨trivial, trivial, trivial⟩), trivial⟩ (by simp) (WV.lf WL.sl0ro)
  | succ m =>
    repeat (refine CaseB.of_true (decide_eq_true (show ((n - (m + 1) : Nat) : Int) < (n : Int) by omega)) ?_; conv => whnf)
    refine CallK.mk' _ _ (frQ _ (c69 q) trivial trivial) ?_
    conv => whnf
    by_cases he : q.e = 0
    · repeat ((first | refine CaseB.of_true (decide_eq_true he) ?_ | refine CaseB.of_true (decide_eq_true (show ((n - (m + 1) : Nat) : Int) < (n : Int) by omega)) ?_); conv => whnf)
      have hS : readsC (m + 1) q = ((readC q).1 :: (readsC m (readC q).2).1, (readsC m (readC q).2).2) := by conv => lhs; unfold readsC; rw [if_neg (fun h => h he)]
      rw [hS] at ha hb'
      have hq2 := readC_ok hq
      have h66 := c67 q hq
      obtain ⟨c, hc⟩ : ∃ c, (readC q).1 = c := ⟨_, rfl⟩
      obtain ⟨q2, hq2'⟩ : ∃ q2, (readC q).2 = q2 := ⟨_, rfl⟩
      rw [hc, hq2'] at ha h66
      rw [hq2'] at hb' hq2
      have ha' : acc ++ [c] ++ (readsC m q2).1 = (readsC n r1).1 := by rw [← ha]; simp
      cases acc with
      | nil =>
        conv => whnf
        refine CallK.mk' _ _ (frQ _ h66 trivial ⟨trivial, trivial, trivial, trivial⟩) ?_
        conv => whnf
        refine Or.inr ?_
        conv => whnf
        refine And.intro (by show (0 + 1) * 32 ≤ _; omega) ?_
        conv => whnf
        refine ⟨(m, q2, [c]), ⟨hq2, ha', hb', by simp only [List.length_nil, List.length_cons] at hl ⊢; omega⟩, by show m < m + 1; omega, ?_⟩
        exact Weak.of ⟨rfl, okGs.ws (by exact ⟨trivial, trivial, trivial⟩), rfl, ⟨.recs rfl fun i hi j hj => by
            have hi : i < 0 + 1 := hi
            obtain rfl : i = 0 := by omega
            have : j = 0 ∨ j = 1 ∨ j = 2 := by have : j < 3 := hj; omega
            rcases this with rfl | rfl | rfl
            · exact plainL.wl (v := .int .i64 c.k) trivial
            · exact plainL.wl (v := .int .i64 c.n) trivial
            · exact plainL.wl (v := .str c.s) trivial, trivial⟩, trivial⟩ (by simp)
          ⟨WV.lf (WL.int (by rw [wrap_i64 (by omega) (by omega)]; show ((n - (m + 1) : Nat) : Int) + 1 = ((n - m : Nat) : Int); omega)), okF.wv trivial, WV.lf (WL.own rfl rfl rfl rfl), okF.wv trivial, okF.wv rfl, trivial⟩
      | cons a l =>
        conv => whnf
        refine CallK.mk' _ _ (frQ _ h66 trivial ⟨trivial, trivial, trivial, trivial⟩) ?_
        conv => whnf
        refine Or.inr ?_
        conv => whnf
        refine And.intro (by omega) ?_
        conv => whnf
        refine And.intro ⟨rfl, by show ((a :: l).length + 1) * 32 ≤ _; omega⟩ ?_
        conv => whnf
        refine ⟨(m, q2, a :: l ++ [c]), ⟨hq2, ha', hb', by show (a :: l ++ [c]).length + m = n; rw [List.length_append]; simp only [List.length_cons, List.length_nil] at hl ⊢; omega⟩, by show m < m + 1; omega, ?_⟩
        have hlc : (a :: l).length + 1 = (a :: (l ++ [c])).length := by simp
        exact Weak.perm [0, 2] ⟨⟨rfl, obQ_ws _⟩, ⟨rfl, .recs hlc fun i hi j hj => wl_of_eq (rowC_snoc (a :: l) c i j hi hj) (rowC_wl hj), trivial⟩, trivial⟩
          ⟨WV.lf (WL.int (by rw [wrap_i64 (by omega) (by omega)]; show ((n - (m + 1) : Nat) : Int) + 1 = ((n - m : Nat) : Int); omega)), freeF.wv trivial, WV.lf (WL.own rfl rfl rfl hlc), freeF.wv trivial, WV.lf (WL.ptr rfl rfl), trivial⟩ rfl (by show 2 ≤ 2; omega) rfl (by show 1 ≤ 2; omega)
    · repeat ((first | refine CaseB.of_false (decide_eq_false he) ?_ | refine CaseB.of_true (decide_eq_true (show ((n - (m + 1) : Nat) : Int) < (n : Int) by omega)) ?_); conv => whnf)
      have hS := readsC_err (m + 1) he
      rw [hS, List.append_nil] at ha
      rw [hS] at hb'
      refine CallK.mk' _ _ (frQ _ (c69 q) trivial trivial) ?_
      conv => whnf
      have hK : keptC (readsC n r1) = if q.e ≠ 0 then [] else acc := by unfold keptC; rw [← hb', ← ha]
      have hW : (readsC n r1).2 = q := hb'.symm
      rw [hW, hK]
      by_cases hz : q.e = 0
      · refine CaseB.of_false (decide_eq_false (fun h => h hz)) ?_
        conv => whnf
        rw [if_neg (fun h => h hz)]
        cases acc with
        | nil => exact RetK.of ⟨rfl, okGs.ws (by exact ⟨trivial, trivial, trivial⟩), trivial⟩ (by simp) (WV.lf WL.sl0ro)
        | cons a l => exact RetK.of ⟨rfl, okGs.ws (by exact ⟨trivial, trivial, trivial⟩), trivial⟩ (by simp) (WV.lf (WL.lentC (ty := 23) rfl rfl rfl (fun _ _ _ _ => rfl) (gone_one (by decide))))
      · refine CaseB.of_true (decide_eq_true hz) ?_
        conv => whnf
        rw [if_pos hz]
        cases acc with
        | nil => exact RetK.of ⟨rfl, okGs.ws (by exact ⟨trivial, trivial, trivial⟩), trivial⟩ (by simp) (WV.lf WL.sl0ro)
        | cons a l => exact RetK.of ⟨rfl, okGs.ws (by exact ⟨trivial, trivial, trivial⟩), trivial⟩ (by simp) (WV.lf WL.sl0ro)

theorem endF_err {q : Rd} (hq : q.ok) (h : q.e ≠ 0) : endF q = q.e := by unfold endF; rw [if_neg (by rw [hq.nil h]; simp)]

/-- baileyref06.Parse -/
theorem c63 (b : List UInt8) (hb : b.length ≤ 1000000000) : SCalls Proofs.Try.prog 63 [.s (.lf (.rob false false b))] [] (.tup [.lf (.ro false false 3 (parseC b).1.length (rowC (parseC b).1)), .lf (.int .i64 (parseC b).2)]) [] := by
  have h0 : (⟨b, 0⟩ : Rd).ok := ⟨fun h => absurd rfl h, by show IntKind.i64.min ≤ 0; decide, by show (0 : Int) ≤ IntKind.i64.max; decide, by show b.length ≤ _; omega⟩
  have hk := allC_ok h0
  refine SCalls.intro tok Proofs.Try.func63 ?_
  conv => whnf
  refine CallK.mk' _ _ (c65 b (by omega)) ?_
  conv => whnf
  refine CallK.mk' _ _ (c141 ⟨b, 0⟩ h0) ?_
  conv => whnf
  refine CallK.mk' _ _ (c142 _ hk) ?_
  conv => whnf
  rw [show (if 0 < (allC ⟨b, 0⟩).2.l.length then 3 else (allC ⟨b, 0⟩).2.e) = endF (allC ⟨b, 0⟩).2 from rfl]
  by_cases hz : endF (allC ⟨b, 0⟩).2 = 0
  · refine CaseB.of_false (decide_eq_false (fun h => h hz)) ?_
    conv => whnf
    have hE : parseC b = ((allC ⟨b, 0⟩).1, 0) := by unfold parseC; rw [if_pos hz]
    have he : (allC ⟨b, 0⟩).2.e = 0 := by
      by_cases h : (allC ⟨b, 0⟩).2.e = 0
      · exact h
      · rw [endF_err hk h] at hz; exact hz
    have hK : keptC (allC ⟨b, 0⟩) = (allC ⟨b, 0⟩).1 := by unfold keptC; rw [if_neg (fun h => h he)]
    rw [hE, hK]
    exact RetK.empty (WV.tup ⟨WL.ro rfl (by simp) (by simp) fun i hi j hj => rowC_wl hj, WL.int rfl, trivial⟩)
  · refine CaseB.of_true (decide_eq_true hz) ?_
    conv => whnf
    have hE : parseC b = ([], endF (allC ⟨b, 0⟩).2) := by unfold parseC; rw [if_neg hz]
    rw [hE]
    exact RetK.empty (WV.tup ⟨WL.sl0ro, WL.int rfl, trivial⟩)
end Go.Sym.Md

set_option linter.unusedVariables false
set_option linter.unusedSimpArgs false
set_option maxRecDepth 10000
namespace Go.Sym.Md
open Go Go.Sym
theorem allC_len {r : Rd} (h : r.ok) : (allC r).1.length ≤ 8 := by
  have h1 := readsC_len (numR r 8).1.toNat (numR r 8).2
  have h2 := numR_range h 8
  unfold allC
  omega
theorem parseC_len (b : List UInt8) (hb : b.length ≤ 140737488355328) : (parseC b).1.length ≤ 8 := by
  have h0 : (⟨b, 0⟩ : Rd).ok := ⟨fun h => absurd rfl h, by show IntKind.i64.min ≤ 0; decide, by show (0 : Int) ≤ IntKind.i64.max; decide, hb⟩
  unfold parseC
  split
  · exact allC_len h0
  · simp

attribute [local irreducible] numF checkF hasF okC boundF numR textR readC putC codeC parseC

/-- Bytes that an argument holds: nil, or some. -/
def isB (u : LV) (b : List UInt8) : Prop := (u = .sl0 ∧ b = []) ∨ u = .rob true false b
theorem isB.wl {D : Rel} [ROk D] {u : LV} {b : List UInt8} (h : isB u b) : WL D u (.rob false false b) := by
  rcases h with ⟨rfl, rfl⟩ | rfl
  · exact WL.sl0rob'
  · exact WL.rob rfl (by simp) (by simp)
theorem isB.self {D : Rel} [ROk D] {u : LV} {b : List UInt8} (h : isB u b) : WL D u u := by
  rcases h with ⟨rfl, rfl⟩ | rfl
  · exact WL.sl0
  · exact WL.rob rfl (by simp) (by simp)

theorem toRob {xs : List UInt8} {D : Rel} [ROk D] : WL D (.rob true false xs) (.rob false false xs) := WL.rob rfl (by simp) (by simp)

/-- caveat.Put, its bytes handed on -/
theorem c58f {u : LV} {b : List UInt8} (hu : isB u b) (c : CV) (hb : b.length ≤ 1000000000) : SCalls Proofs.Try.prog 58 [.s (.lf u), vCc c] [] (.s (.lf (.rob false false (putC b c)))) [] := by
  rcases hu with ⟨rfl, rfl⟩ | rfl
  · cases h : okC c.k c.n c.s with
    | false =>
      rw [show putC [] c = [] by unfold putC; rw [h]; rfl]
      exact (c58x c h).after (RetK.empty (WV.lf WL.sl0rob'))
    | true =>
      rw [show putC [] c = putF [] c.k c.n c.s by unfold putC; rw [h]; rfl]
      have h1 := (c58 [] c.k c.n c.s h (by simp)).frozen rfl
      exact h1.pure [] (cs := [.s (.lf .sl0), vCc c]) ⟨WV.lf WL.sl0rob', freeF.wv ⟨trivial, trivial, trivial, trivial⟩, trivial⟩ (WV.lf toRob)
  · exact ((c58t b c (by omega)).frozen rfl).after (RetK.empty (WV.lf toRob))

/-- baileyref06.Put, its bytes handed on -/
theorem c59f (b : List UInt8) (c : CV) (hb : b.length ≤ 1000000000) : SCalls Proofs.Try.prog 59 [.s (.lf (.rob false false b)), vCc c] [] (.s (.lf (.rob false false (putC b c)))) [] := by
  cases b with
  | nil =>
    cases h : okC c.k c.n c.s with
    | false =>
      rw [show putC [] c = [] by unfold putC; rw [h]; rfl]
      exact (c59x c h).after (RetK.empty (WV.lf WL.sl0rob'))
    | true =>
      rw [show putC [] c = putF [] c.k c.n c.s by unfold putC; rw [h]; rfl]
      exact ((c59k [] c.k c.n c.s h (by simp)).frozen rfl).after (RetK.empty (WV.lf toRob))
  | cons x b => exact ((c59t (x :: b) c (by omega) (by simp)).frozen rfl).after (RetK.empty (WV.lf toRob))

theorem frRi {f : FuncId} {l : List FV} {a b : Rd} {ret : FV} (H : Hp) (nm : Nat) (h : SCalls Proofs.Try.prog f (.s (.lf (.ptr 0 0)) :: l) [some (obR a)] ret [some (obR b)]) (hn : H[nm]? = some (some (obR a))) (hl : freeFs l) (hr : freeF ret) : SCalls Proofs.Try.prog f (.s (.lf (.ptr nm 0)) :: l) H ret (H.set nm (some (obR b))) :=
  h.frame1 (H := H) (nm := nm) (ob2 := obR b) hn rfl (obR_ws _) ⟨WV.lf (WL.ptr rfl rfl), hl.wvs⟩ rfl (obR_ws _) hr.wv
theorem frQi {f : FuncId} {l : List FV} {a b : Rd} {ret : FV} (H : Hp) (nm : Nat) (h : SCalls Proofs.Try.prog f (.s (.lf (.ptr 0 0)) :: l) [some (obQ a)] ret [some (obQ b)]) (hn : H[nm]? = some (some (obQ a))) (hl : freeFs l) (hr : freeF ret) : SCalls Proofs.Try.prog f (.s (.lf (.ptr nm 0)) :: l) H ret (H.set nm (some (obQ b))) :=
  h.frame1 (H := H) (nm := nm) (ob2 := obQ b) hn rfl (obQ_ws _) ⟨WV.lf (WL.ptr rfl rfl), hl.wvs⟩ rfl (obQ_ws _) hr.wv

theorem cvEq_t {x y : CV} (h : x = y) : (decide (x.k = y.k) && (decide (x.n = y.n) && (decide (x.s = y.s) && true))) = true := by subst h; simp

/-- baileylaw06.CaveatCodes -/
theorem c10 (c : CV) (cs : List CV) (hl : cs.length ≤ maxLen) {u : LV} {b : List UInt8} (hu : isB u b) (hbl : b.length ≤ maxLen) : SCalls Proofs.Try.prog 10 [vCc c, vR cs, .s (.lf u)] [] (.s (.lf .tt)) [] := by
  have hm : maxLen = 9223372036854775807 := rfl
  have k30 := (c30L cs hl).free [some (obC c)] ⟨rowC_free, trivial⟩ trivial
  have k25 := c25.free [some (obC c)] trivial trivial
  cases fa : fewL cs with
  | false =>
    rw [fa] at k30
    rcases hu with ⟨rfl, rfl⟩ | rfl
    all_goals
      refine SCalls.intro tok Proofs.Try.func10 ?_
      conv => whnf
      refine CallK.mk' _ _ k30 ?_
      conv => whnf
      repeat (refine CaseB.of_true rfl ?_; conv => whnf)
      refine CallK.mk' _ _ k25 ?_
      conv => whnf
      exact RetK.empty (okF.wv trivial)
  | true =>
    rw [fa] at k30
    have hfew : cs.length ≤ 30 := by unfold fewL at fa; simp at fa; omega
    by_cases h2 : 200 < (c.s.length : Int)
    · rcases hu with ⟨rfl, rfl⟩ | rfl
      all_goals
        refine SCalls.intro tok Proofs.Try.func10 ?_
        conv => whnf
        refine CallK.mk' _ _ k30 ?_
        conv => whnf
        repeat ((first | refine CaseB.of_false rfl ?_ | refine CaseB.of_true (decide_eq_true h2) ?_); conv => whnf)
        refine CallK.mk' _ _ k25 ?_
        conv => whnf
        exact RetK.empty (okF.wv trivial)
    by_cases h3 : 2000 < (b.length : Int)
    · rcases hu with ⟨rfl, rfl⟩ | rfl
      · simp at h3
      refine SCalls.intro tok Proofs.Try.func10 ?_
      conv => whnf
      refine CallK.mk' _ _ k30 ?_
      conv => whnf
      repeat ((first | refine CaseB.of_false rfl ?_ | refine CaseB.of_false (decide_eq_false h2) ?_ | refine CaseB.of_true (decide_eq_true h3) ?_); conv => whnf)
      refine CallK.mk' _ _ k25 ?_
      conv => whnf
      exact RetK.empty (okF.wv trivial)
    have hb : b.length ≤ 2000 := by omega
    have h0 : (⟨b, 0⟩ : Rd).ok := ⟨fun h => absurd rfl h, by show IntKind.i64.min ≤ 0; decide, by show (0 : Int) ≤ IntKind.i64.max; decide, by show b.length ≤ _; omega⟩
    obtain ⟨P, hP⟩ : ∃ P, parseC b = P := ⟨_, rfl⟩
    obtain ⟨one, h1⟩ : ∃ one, (readC ⟨b, 0⟩).1 = one := ⟨_, rfl⟩
    obtain ⟨q, hq⟩ : ∃ q, (readC ⟨b, 0⟩).2 = q := ⟨_, rfl⟩
    have hqo := readC_ok h0
    have k66 := c66 ⟨b, 0⟩ h0
    have k67 := c67 ⟨b, 0⟩ h0
    rw [hq] at hqo
    rw [h1, hq] at k66 k67
    have k58 := (c58f hu c (by omega)).pure [some (obC c)] (cs := [.s (.lf u), vCc c]) ⟨WV.lf hu.self, freeF.wv ⟨trivial, trivial, trivial, trivial⟩, trivial⟩ (WV.lf (WL.rob rfl (by simp) (by simp))) (rc := .s (.lf (.rob false false (putC b c))))
    have k59 := (c59f b c (by omega)).pure [some (obC c)] (cs := [.s (.lf u), vCc c]) ⟨WV.lf hu.wl, freeF.wv ⟨trivial, trivial, trivial, trivial⟩, trivial⟩ (WV.lf (WL.rob rfl (by simp) (by simp))) (rc := .s (.lf (.rob false false (putC b c))))
    have hpl := putC_length b c
    have k57 := (c57 (putC b c) (putC b c) (by omega)).free [some (obC c)] ⟨trivial, trivial, trivial⟩ trivial
    rw [show decide (putC b c = putC b c) = true from decide_eq_true rfl] at k57
    have k60 := (c60 cs (by omega)).free [some (obC c)] ⟨rowC_free, trivial⟩ trivial
    have k61 := (c61 cs (by omega)).free [some (obC c)] ⟨rowC_free, trivial⟩ trivial
    have hcl := codeC_length cs cs.length (Nat.le_refl _)
    rw [List.take_length] at hcl
    have hcl' : (codeC cs).length ≤ 10 + 50 * cs.length := by unfold codeC; exact hcl.2
    have k57' := (c57 (codeC cs) (codeC cs) (by omega)).pure [some (obC c)] (cs := [.s (.lf (.rob true false (codeC cs))), .s (.lf (.rob true false (codeC cs)))]) ⟨WV.lf toRob, WV.lf toRob, trivial⟩ (freeF.wv trivial)
    rw [show decide (codeC cs = codeC cs) = true from decide_eq_true rfl] at k57'
    have k62 := (c62 b (by omega)).pure [some (obC c)] (cs := [.s (.lf u)]) (rc := .tup [.lf (.ro false false 3 (parseC b).1.length (rowC (parseC b).1)), .lf (.int .i64 (parseC b).2)]) ⟨WV.lf hu.wl, trivial⟩ (WV.tup ⟨WL.ro rfl (by simp) (by simp) fun i hi j hj => rowC_wl hj, WL.int rfl, trivial⟩)
    have k63 := (c63 b (by omega)).pure [some (obC c)] (cs := [.s (.lf u)]) (rc := .tup [.lf (.ro false false 3 (parseC b).1.length (rowC (parseC b).1)), .lf (.int .i64 (parseC b).2)]) ⟨WV.lf hu.wl, trivial⟩ (WV.tup ⟨WL.ro rfl (by simp) (by simp) fun i hi j hj => rowC_wl hj, WL.int rfl, trivial⟩)
    have hPl := parseC_len b (by omega)
    rw [hP] at k62 k63 hPl
    have k64 := (c64 b (by omega)).made [some (obC c)] (Hn := [some (obR ⟨b, 0⟩)]) (cs := [.s (.lf u)]) (rc := .s (.lf (.ptr 1 0))) ⟨WV.lf hu.wl, trivial⟩ (WV.lf (WL.uptr rfl)) ⟨rfl, obR_ws _, trivial⟩
    have k65 := (c65 b (by omega)).made [some (obC c), some (obR ⟨b, 0⟩)] (Hn := [some (obQ ⟨b, 0⟩)]) (cs := [.s (.lf u)]) (rc := .s (.lf (.ptr 2 0))) ⟨WV.lf hu.wl, trivial⟩ (WV.lf (WL.uptr rfl)) ⟨rfl, obQ_ws _, trivial⟩
    obtain ⟨H5, hH5⟩ : ∃ H5, H5 = [some (obC c), some (obR q), some (obQ q), some (obC one), some (obC one)] := ⟨_, rfl⟩
    have k32 := (c32 P.1 P.1 (by omega)).free H5 ⟨rowC_free, rowC_free, trivial⟩ trivial
    rw [show decide (P.1 = P.1) = true from decide_eq_true rfl] at k32
    have k68 := frRi H5 1 (c68 q) (by rw [hH5]; rfl) trivial trivial
    have k70 := frRi H5 1 (c70 q hqo) (by rw [hH5]; rfl) trivial trivial
    have k69 := frQi H5 2 (c69 q) (by rw [hH5]; rfl) trivial trivial
    have k71 := frQi H5 2 (c71 q) (by rw [hH5]; rfl) trivial trivial
    have k25' := c25.free H5 trivial trivial
    subst hH5
    rcases hu with ⟨rfl, rfl⟩ | rfl
    all_goals
      refine SCalls.intro tok Proofs.Try.func10 ?_
      conv => whnf
      refine CallK.mk' _ _ k30 ?_
      conv => whnf
      repeat ((first | refine CaseB.of_false rfl ?_ | refine CaseB.of_false (decide_eq_false h2) ?_ | refine CaseB.of_false (decide_eq_false h3) ?_ | refine CaseB.of_false (by decide) ?_); conv => whnf)
      refine DrawK.mk1 tok mixed [0, 0, 3, 0, 0, 31, 63, 127, 255, 511, 1023, 511, 4095, 8191, 16383, 32767] [(0, 0, []), (3, 0, []), (1, 1, [0]), (2, 1, [0]), (4, 1, [0]), (5, 1, [0]), (6, 1, [0]), (7, 0, []), (8, 0, []), (9, 0, []), (11, 0, []), (10, 1, [0]), (12, 1, [0]), (13, 1, [0]), (14, 0, []), (15, 0, [])] (by kernel_rfl) ?_
      conv => whnf
      repeat ((first | refine CallR.mk' _ k58 ?_ | refine CallR.mk' _ k59 ?_ | refine CallR.mk' _ k57 ?_ | refine CallR.mk' _ k60 ?_ | refine CallR.mk' _ k61 ?_ | refine CallR.mk' _ k57' ?_ | refine CaseB.of_false rfl ?_); conv => whnf)
      refine CallK.mk' _ _ k62 ?_
      conv => whnf
      refine CallK.mk' _ _ k63 ?_
      conv => whnf
      refine CallK.mk' _ _ k64 ?_
      conv => whnf
      refine CallK.mk' _ _ k65 ?_
      conv => whnf
      refine CallK.mk' _ _ (frRi _ 1 k66 rfl trivial ⟨trivial, trivial, trivial, trivial⟩) ?_
      conv => whnf
      refine CallK.mk' _ _ (frQi _ 2 k67 rfl trivial ⟨trivial, trivial, trivial, trivial⟩) ?_
      conv => whnf
      repeat ((first | refine CallK.mk' _ _ k32 ?_ | refine CallK.mk' _ _ k68 ?_ | refine CallK.mk' _ _ k69 ?_ | refine CallK.mk' _ _ k70 ?_ | refine CallK.mk' _ _ k71 ?_ | refine CallK.mk' _ _ k25' ?_ | refine CaseB.of_true (cvEq_t rfl) ?_ | refine CaseB.of_true (decide_eq_true rfl) ?_ | refine CaseB.of_true rfl ?_); conv => whnf)
      exact RetK.empty (okF.wv trivial)
end Go.Sym.Md

set_option linter.unusedVariables false
set_option linter.unusedSimpArgs false
set_option maxRecDepth 10000
namespace Go.Sym.Md
open Go Go.Sym

/-! ### Numbers and pieces as bytes -/
def numZ (z : Int) : List UInt8 := numF (max z 0).toNat
def numsF (b : List UInt8) (f : Nat → Int) : Nat → List UInt8
  | 0 => b
  | k + 1 => numsF b f k ++ numZ (f k)
theorem numZ_len (z : Int) : (numZ z).length ≤ 10 := by
  unfold numZ
  have h1 := numF_length (max z 0).toNat
  have h2 := sz_le (max z 0).toNat
  omega
theorem numsF_len (b : List UInt8) (f : Nat → Int) : ∀ k, (numsF b f k).length ≤ b.length + 10 * k
  | 0 => by simp [numsF]
  | k + 1 => by
    have := numsF_len b f k
    have := numZ_len (f k)
    simp only [numsF, List.length_append]
    omega

/-- pack.Num, of bytes that nobody changes any more. -/
theorem c137r (b : List UInt8) (z : Int) (hz : z ≤ 1099511627776) (hb : b.length ≤ 1000000000) : SCalls Proofs.Try.prog 137 [.s (.lf (.rob false false b)), vI z] [] (.s (.lf (.rob true false (b ++ numZ z)))) [] :=
  (c137 b z (max z 0).toNat (by omega) (by omega) (by omega)).frozen rfl
/-- pack.Text, of the same -/
theorem c138r (b s : List UInt8) (hs : s.length ≤ 1000) (hb : b.length ≤ 1000000000) : SCalls Proofs.Try.prog 138 [.s (.lf (.rob false false b)), .s (.lf (.str s))] [] (.s (.lf (.rob true false (b ++ numF s.length ++ s)))) [] :=
  (c138 b s (by omega) (by omega)).frozen rfl

theorem robW {D : Rel} [ROk D] {b : List UInt8} : WV D (.s (.lf (.rob true false b))) (.s (.lf (.rob false false b))) := WV.lf (WL.rob rfl (by simp) (by simp))

theorem okR_get {c : CmS} : ∀ {n : Nat}, okR c n = true → ∀ k, k < n → rOk c k = true
  | 0, _, k, hk => by omega
  | n + 1, h, k, hk => by
    unfold okR at h
    simp only [Bool.and_eq_true] at h
    by_cases e : k = n
    · rw [e]; exact h.2
    · exact okR_get h.1 k (by omega)
theorem okR_hi {c : CmS} (h : okR c 8 = true) (k : Nat) (hk : k < 8) : rv c k ≤ 1099511627776 := by
  have h1 := okR_get h k hk
  unfold rOk at h1
  simp only [decide_eq_true_eq] at h1
  have h2 : rhigh k ≤ 1099511627776 := by
    unfold rhigh
    split <;> decide
  omega

theorem head_wl {D : Rel} (hp : ∀ k, WL D (.ptr 0 k) (.ptr 0 k)) {i j : Nat} (hi : i < 5) (hj : j < 3) : WL D (rowF headS i j) (rowF headS i j) := by
  have h1 : i = 0 ∨ i = 1 ∨ i = 2 ∨ i = 3 ∨ i = 4 := by omega
  have h2 : j = 0 ∨ j = 1 ∨ j = 2 := by omega
  rcases h1 with rfl | rfl | rfl | rfl | rfl <;> rcases h2 with rfl | rfl | rfl <;> first | exact hp _ | exact WL.int rfl
abbrev obB (b : List UInt8) : OB := ⟨5, [.bytes b.length b]⟩
def hdF (c : CmS) (k : Nat) : FV :=
  match k with
  | 5 => .s (.lf (.own 2 0 1 0 (numsF [] (rv c) 5).length))
  | _ => .s (.lf (.rob false false (numsF [] (rv c) k)))
def hdG (c : CmS) (k : Nat) : Hp :=
  match k with
  | 5 => [some (obM c), some (rowsO headS 5), some (obB (numsF [] (rv c) 5))]
  | _ => [some (obM c), some (rowsO headS 5)]
/-- command.put, of a command's head -/
theorem c168h (c : CmS) (h : okR c 8 = true) : SCalls Proofs.Try.prog 168 [.s (.lf .sl0), .s (.lf (.own 1 0 3 0 5))] [some (obM c), some (rowsO headS 5)] (.s (.lf (.own 2 0 1 0 (numsF [] (rv c) 5).length))) [some (obM c), some (rowsO headS 5), some (obB (numsF [] (rv c) 5))] := by
  have hlen : ∀ k, (numsF [] (rv c) k).length ≤ ([] : List UInt8).length + 10 * k := numsF_len [] (rv c)
  have hb : ([] : List UInt8).length ≤ 1000000 := by decide
  refine SCalls.intro tok Proofs.Try.func168 ?_
  conv => whnf
  refine LoopK.mk1 (fun k : Nat => [(9, vI k), (8, vI 5), (7, .s (.lf (.own 1 0 3 0 5))), (0, hdF c k)]) (fun k => hdG c k) (fun k => k ≤ 5) (fun k => 5 - k) 0 (by omega) ?_ ?_
  · exact Weak.of ⟨rfl, obM_ws c, rfl, rows_ws (m := 2) rfl rfl, trivial⟩ (by simp [hdG]) ⟨okF.wv trivial, okF.wv trivial, WV.lf (WL.own rfl rfl rfl rfl), WV.lf WL.sl0rob', trivial⟩
  intro k hk
  have h8 : k = 0 ∨ k = 1 ∨ k = 2 ∨ k = 3 ∨ k = 4 ∨ k = 5 := by omega
  rcases h8 with rfl | rfl | rfl | rfl | rfl | rfl
  · conv => whnf
    refine CaseB.of_true (decide_eq_true (by omega)) ?_
    conv => whnf
    refine And.intro (by omega) ?_
    conv => whnf
    refine And.intro (by omega) ?_
    conv => whnf
    have hz := okR_hi h 0 (by omega)
    have hl := hlen 0
    refine CallK.mk' _ _ ((c137r (numsF [] (rv c) 0) (rv c 0) hz (by omega)).free _ ⟨trivial, trivial, trivial⟩ trivial) ?_
    conv => whnf
    exact ⟨1, by omega, by decide, Weak.of ⟨rfl, obM_ws c, rfl, rows_ws (m := 2) rfl rfl, trivial⟩ (by simp [hdG]) ⟨okF.wv trivial, okF.wv trivial, WV.lf (WL.own rfl rfl rfl rfl), robW, trivial⟩⟩
  · conv => whnf
    refine CaseB.of_true (decide_eq_true (by omega)) ?_
    conv => whnf
    refine And.intro (by omega) ?_
    conv => whnf
    refine And.intro (by omega) ?_
    conv => whnf
    have hz := okR_hi h 1 (by omega)
    have hl := hlen 1
    refine CallK.mk' _ _ ((c137r (numsF [] (rv c) 1) (rv c 1) hz (by omega)).free _ ⟨trivial, trivial, trivial⟩ trivial) ?_
    conv => whnf
    exact ⟨2, by omega, by decide, Weak.of ⟨rfl, obM_ws c, rfl, rows_ws (m := 2) rfl rfl, trivial⟩ (by simp [hdG]) ⟨okF.wv trivial, okF.wv trivial, WV.lf (WL.own rfl rfl rfl rfl), robW, trivial⟩⟩
  · conv => whnf
    refine CaseB.of_true (decide_eq_true (by omega)) ?_
    conv => whnf
    refine And.intro (by omega) ?_
    conv => whnf
    refine And.intro (by omega) ?_
    conv => whnf
    have hz := okR_hi h 2 (by omega)
    have hl := hlen 2
    refine CallK.mk' _ _ ((c137r (numsF [] (rv c) 2) (rv c 2) hz (by omega)).free _ ⟨trivial, trivial, trivial⟩ trivial) ?_
    conv => whnf
    exact ⟨3, by omega, by decide, Weak.of ⟨rfl, obM_ws c, rfl, rows_ws (m := 2) rfl rfl, trivial⟩ (by simp [hdG]) ⟨okF.wv trivial, okF.wv trivial, WV.lf (WL.own rfl rfl rfl rfl), robW, trivial⟩⟩
  · conv => whnf
    refine CaseB.of_true (decide_eq_true (by omega)) ?_
    conv => whnf
    refine And.intro (by omega) ?_
    conv => whnf
    refine And.intro (by omega) ?_
    conv => whnf
    have hz := okR_hi h 3 (by omega)
    have hl := hlen 3
    refine CallK.mk' _ _ ((c137r (numsF [] (rv c) 3) (rv c 3) hz (by omega)).free _ ⟨trivial, trivial, trivial⟩ trivial) ?_
    conv => whnf
    exact ⟨4, by omega, by decide, Weak.of ⟨rfl, obM_ws c, rfl, rows_ws (m := 2) rfl rfl, trivial⟩ (by simp [hdG]) ⟨okF.wv trivial, okF.wv trivial, WV.lf (WL.own rfl rfl rfl rfl), robW, trivial⟩⟩
  · conv => whnf
    refine CaseB.of_true (decide_eq_true (by omega)) ?_
    conv => whnf
    refine And.intro (by omega) ?_
    conv => whnf
    refine And.intro (by omega) ?_
    conv => whnf
    have hz := okR_hi h 4 (by omega)
    have hl := hlen 4
    refine CallK.mk' (.s (.lf (.own 3 0 1 0 (numsF [] (rv c) 5).length))) _ ((c137 (numsF [] (rv c) 4) (rv c 4) (max (rv c 4) 0).toNat (by omega) (by omega) (by omega)).made _ (cs := [.s (.lf (.rob false false (numsF [] (rv c) 4))), vI (rv c 4)]) (Hn := [some (obB (numsF [] (rv c) 5))]) ⟨freeF.wv trivial, freeF.wv trivial, trivial⟩ (WV.lf (WL.uown rfl rfl rfl)) ⟨rfl, ⟨.bytes rfl fun _ _ => rfl, trivial⟩, trivial⟩) ?_
    conv => whnf
    exact ⟨5, by omega, by decide, Weak.perm [0, 1, 3] ⟨⟨rfl, obM_ws c⟩, ⟨rfl, .recs rfl fun i hi j hj => head_wl (fun k => WL.ptr (by exact rfl) (by exact rfl)) hi hj, trivial⟩, ⟨rfl, .bytes rfl fun _ _ => rfl, trivial⟩, trivial⟩ ⟨WV.lf (WL.int rfl), freeF.wv trivial, WV.lf (WL.own rfl rfl rfl rfl), WV.lf (WL.own rfl rfl rfl rfl), trivial⟩ rfl (by simp [hdG]) rfl (by simp [hdG])⟩
  · conv => whnf
    refine CaseB.of_false (decide_eq_false (by omega)) ?_
    conv => whnf
    exact RetK.of ⟨rfl, obM_ws c, rfl, rows_ws (m := 3) rfl rfl, rfl, ⟨.bytes rfl fun _ _ => rfl, trivial⟩, trivial⟩ (by simp) (WV.lf (WL.own rfl rfl rfl rfl))

/-- command.put, of a command's tail -/
theorem c168t (c : CmS) (b : List UInt8) (h : okR c 8 = true) (hb : b.length ≤ 1000000) : SCalls Proofs.Try.prog 168 [.s (.lf (.rob false false b)), .s (.lf (.own 1 0 3 0 3))] [some (obM c), some (rowsO tailS 3)] (.s (.lf (.rob false false (numsF b (fun k => rv c (5 + k)) 3)))) [some (obM c), some (rowsO tailS 3)] := by
  have hlen : ∀ k, (numsF b (fun k => rv c (5 + k)) k).length ≤ b.length + 10 * k := numsF_len b (fun k => rv c (5 + k))
  skip
  refine SCalls.intro tok Proofs.Try.func168 ?_
  conv => whnf
  refine LoopK.mk1 (fun k : Nat => [(9, vI k), (8, vI 3), (7, .s (.lf (.own 1 0 3 0 3))), (0, .s (.lf (.rob false false (numsF b (fun k => rv c (5 + k)) k))))]) (fun k => [some (obM c), some (rowsO tailS 3)]) (fun k => k ≤ 3) (fun k => 3 - k) 0 (by omega) ?_ ?_
  · exact Weak.of ⟨rfl, obM_ws c, rfl, rows_ws (m := 2) rfl rfl, trivial⟩ (by simp) ⟨okF.wv trivial, okF.wv trivial, WV.lf (WL.own rfl rfl rfl rfl), okF.wv trivial, trivial⟩
  intro k hk
  conv => whnf
  by_cases hlt : k < 3
  · refine CaseB.of_true (decide_eq_true (by omega)) ?_
    conv => whnf
    refine And.intro (by omega) ?_
    conv => whnf
    refine And.intro (by omega) ?_
    have h8 : k = 0 ∨ k = 1 ∨ k = 2 := by omega
    rcases h8 with rfl | rfl | rfl
    · conv => whnf
      have hz := okR_hi h 5 (by omega)
      have hl := hlen 0
      refine CallK.mk' _ _ ((c137r (numsF b (fun k => rv c (5 + k)) 0) (rv c 5) hz (by omega)).free _ ⟨trivial, trivial, trivial⟩ trivial) ?_
      conv => whnf
      exact ⟨1, by omega, by decide, Weak.of ⟨rfl, obM_ws c, rfl, rows_ws (m := 2) rfl rfl, trivial⟩ (by simp) ⟨okF.wv trivial, okF.wv trivial, WV.lf (WL.own rfl rfl rfl rfl), robW, trivial⟩⟩
    · conv => whnf
      have hz := okR_hi h 6 (by omega)
      have hl := hlen 1
      refine CallK.mk' _ _ ((c137r (numsF b (fun k => rv c (5 + k)) 1) (rv c 6) hz (by omega)).free _ ⟨trivial, trivial, trivial⟩ trivial) ?_
      conv => whnf
      exact ⟨2, by omega, by decide, Weak.of ⟨rfl, obM_ws c, rfl, rows_ws (m := 2) rfl rfl, trivial⟩ (by simp) ⟨okF.wv trivial, okF.wv trivial, WV.lf (WL.own rfl rfl rfl rfl), robW, trivial⟩⟩
    · conv => whnf
      have hz := okR_hi h 7 (by omega)
      have hl := hlen 2
      refine CallK.mk' _ _ ((c137r (numsF b (fun k => rv c (5 + k)) 2) (rv c 7) hz (by omega)).free _ ⟨trivial, trivial, trivial⟩ trivial) ?_
      conv => whnf
      exact ⟨3, by omega, by decide, Weak.of ⟨rfl, obM_ws c, rfl, rows_ws (m := 2) rfl rfl, trivial⟩ (by simp) ⟨okF.wv trivial, okF.wv trivial, WV.lf (WL.own rfl rfl rfl rfl), robW, trivial⟩⟩
  · refine CaseB.of_false (decide_eq_false (by omega)) ?_
    conv => whnf
    obtain rfl : k = 3 := by omega
    exact RetK.of ⟨rfl, obM_ws c, rfl, rows_ws (m := 2) rfl rfl, trivial⟩ (by simp) (okF.wv trivial)

/-- manifest.putPiece -/
def putPc (b : List UInt8) (p : PcV) : List UInt8 := b ++ numF p.s.length ++ p.s ++ numZ p.z
theorem c207 (b : List UInt8) (p : PcV) (hp : okP p = true) (hb : b.length ≤ 100000000) : SCalls Proofs.Try.prog 207 [.s (.lf (.rob false false b)), vPc p] [] (.s (.lf (.rob true false (putPc b p)))) [] := by
  have h32 : p.s.length = 32 := by
    simp only [okP, Bool.and_eq_true, decide_eq_true_eq] at hp
    omega
  have hz := okP_z hp
  have h1 := numF_length p.s.length
  have h2 := sz_le p.s.length
  refine SCalls.intro tok Proofs.Try.func207 ?_
  conv => whnf
  refine DrawK.mk1 tok mixed [0, 0, 2, 7, 0, 16, 63, 127] [(0, 0, []), (1, 1, [0]), (2, 1, [0]), (3, 2, []), (4, 1, [0, 1]), (5, 1, [0, 1]), (6, 2, []), (7, 0, [])] (by kernel_rfl) ?_
  conv => whnf
  refine CallK.mk' _ _ ((c138r b p.s (by omega) (by omega)).free _ ⟨trivial, trivial, trivial⟩ trivial) ?_
  conv => whnf
  refine ⟨rfl, ?_⟩
  conv => whnf
  refine ⟨rfl, ?_⟩
  conv => whnf
  refine CallK.mk' _ _ ((c137r (b ++ numF p.s.length ++ p.s) p.z (by omega) (by simp only [List.length_append]; omega)).pure _ ⟨robW, freeF.wv trivial, trivial⟩ (freeF.wv (v := .s (.lf (.rob true false (b ++ numF p.s.length ++ p.s ++ numZ p.z)))) trivial)) ?_
  conv => whnf
  exact RetK.empty (okF.wv trivial)

theorem putPc_len {b : List UInt8} {p : PcV} (hp : okP p = true) : (putPc b p).length ≤ b.length + 60 := by
  have h32 : p.s.length = 32 := by
    simp only [okP, Bool.and_eq_true, decide_eq_true_eq] at hp
    omega
  have h1 := numF_length p.s.length
  have h2 := sz_le p.s.length
  have h3 := numZ_len p.z
  unfold putPc
  simp only [List.length_append]
  omega
def putPs (b : List UInt8) (ps : List PcV) : List UInt8 := ps.foldl putPc (b ++ numZ ps.length)
theorem putPs_take (b : List UInt8) (ps : List PcV) (i : Nat) (hi : i < ps.length) : (ps.take (i + 1)).foldl putPc b = putPc ((ps.take i).foldl putPc b) (ps.getD i pc0) := by
  rw [List.take_add_one, List.foldl_append, List.getElem?_eq_getElem hi, List.getD_eq_getElem?_getD, List.getElem?_eq_getElem hi]
  rfl
theorem allP_get : ∀ {l : List PcV} {i : Nat}, allP l = true → i < l.length → okP (l.getD i pc0) = true
  | [], _, _, h => by simp at h
  | p :: l, 0, h, _ => by
    simp only [allP, Bool.and_eq_true] at h
    exact h.1
  | p :: l, i + 1, h, hi => by
    simp only [allP, Bool.and_eq_true] at h
    have := allP_get (l := l) (i := i) h.2 (by simpa using hi)
    simpa using this
theorem putPs_len (b : List UInt8) (ps : List PcV) (ha : allP ps = true) : ∀ i, i ≤ ps.length → ((ps.take i).foldl putPc b).length ≤ b.length + 60 * i := by
  intro i hi
  induction i with
  | zero => simp
  | succ i ih =>
    rw [putPs_take b ps i (by omega)]
    have h1 := putPc_len (b := (ps.take i).foldl putPc b) (allP_get ha (i := i) (by omega))
    have h2 := ih (by omega)
    omega

/-- manifest.list, of pieces that may be -/
theorem c206 (b : List UInt8) (ps : List PcV) (h8 : ps.length ≤ 8) (ha : allP ps = true) (hb : b.length ≤ 1000000) : SCalls Proofs.Try.prog 206 [.s (.lf (.rob false false b)), vQ ps, .s (.lf (.fn 207 0 fun _ => .any))] [] (.s (.lf (.rob false false (putPs b ps)))) [] := by
  refine SCalls.intro tok Proofs.Try.func206 ?_
  conv => whnf
  refine CallK.mk' _ _ (c137r b ps.length (by omega) (by omega)) ?_
  conv => whnf
  refine LoopK.mk1 (fun i : Nat => [(15, vI i), (14, vI ps.length), (13, vQ ps), (0, .s (.lf (.rob false false ((ps.take i).foldl putPc (b ++ numZ ps.length))))), (2, .s (.lf (.fn 207 0 fun _ => .any)))]) (fun i => []) (fun i => i ≤ ps.length) (fun i => ps.length - i) 0 (by omega) ?_ ?_
  · exact Weak.of ⟨⟩ (by simp) ⟨okF.wv trivial, okF.wv trivial, okF.wv rowP_ok, robW, WV.lf (okL.wl (fun i hi => by omega)), trivial⟩
  intro i hi
  conv => whnf
  by_cases hi' : i < ps.length
  · refine CaseB.of_true (decide_eq_true (by omega)) ?_
    conv => whnf
    refine And.intro (by omega) ?_
    conv => whnf
    have hl := putPs_len (b ++ numZ ps.length) ps ha i (by omega)
    have hn := numZ_len ps.length
    rw [List.length_append] at hl
    refine CallK.mk' _ _ ((c207 ((ps.take i).foldl putPc (b ++ numZ ps.length)) (ps.getD i pc0) (allP_get ha hi') (by omega)).free _ ⟨trivial, ⟨trivial, trivial, trivial⟩, trivial⟩ trivial) ?_
    conv => whnf
    exact ⟨i + 1, by omega, by show ps.length - (i + 1) < ps.length - i; omega, Weak.of ⟨⟩ (by simp) ⟨WV.lf (WL.int (by rw [wrap_i64 (by omega) (by omega)]; omega)), okF.wv trivial, okF.wv rowP_ok, WV.lf (WL.rob (putPs_take _ ps i hi').symm (by simp) (by simp)), WV.lf (okL.wl (fun i hi => by omega)), trivial⟩⟩
  · refine CaseB.of_false (decide_eq_false (by omega)) ?_
    conv => whnf
    obtain rfl : i = ps.length := by omega
    rw [List.take_length]
    exact RetK.empty (okF.wv trivial)

/-- manifest.PutPieces -/
theorem c170 (b : List UInt8) (ps : List PcV) (h8 : ps.length ≤ 8) (ha : allP ps = true) (hb : b.length ≤ 1000000) : SCalls Proofs.Try.prog 170 [.s (.lf (.rob false false b)), vQ ps] [] (.s (.lf (.rob false false (putPs b ps)))) [] := by
  refine SCalls.intro tok Proofs.Try.func170 ?_
  conv => whnf
  refine CallK.mk' _ _ (c206 b ps h8 ha hb) ?_
  conv => whnf
  exact RetK.empty (okF.wv trivial)
end Go.Sym.Md

set_option linter.unusedVariables false
set_option linter.unusedSimpArgs false
set_option maxRecDepth 10000
namespace Go.Sym.Md
open Go Go.Sym

theorem tail_wl {D : Rel} (hp : ∀ k, WL D (.ptr 0 k) (.ptr 0 k)) {i j : Nat} (hi : i < 3) (hj : j < 3) : WL D (rowF tailS i j) (rowF tailS i j) := by
  have h1 : i = 0 ∨ i = 1 ∨ i = 2 := by omega
  have h2 : j = 0 ∨ j = 1 ∨ j = 2 := by omega
  rcases h1 with rfl | rfl | rfl <;> rcases h2 with rfl | rfl | rfl <;> first | exact hp _ | exact WL.int rfl
theorem c168tg (c : CmS) (b : List UInt8) (h : okR c 8 = true) (hb : b.length ≤ 1000000) {H : Hp} {n : Nat} (h0 : H[0]? = some (some (obM c))) (hn : H[n]? = some (some (rowsO tailS 3))) (hne : 0 ≠ n) :
    SCalls Proofs.Try.prog 168 [.s (.lf (.rob true false b)), .s (.lf (.own n 0 3 0 3))] H (.s (.lf (.rob false false (numsF b (fun k => rv c (5 + k)) 3)))) H := by
  have hl0 : 0 < H.length := (List.getElem?_eq_some_iff.1 h0).1
  have hln : n < H.length := (List.getElem?_eq_some_iff.1 hn).1
  have hnb : Nat.beq 0 n = false := by
    cases e : Nat.beq 0 n
    · rfl
    · exact absurd (beq_true e) hne
  have hnb' : Nat.beq n 0 = false := by
    cases e : Nat.beq n 0
    · rfl
    · exact absurd (beq_true e).symm hne
  refine (c168t c b h hb).at (cs := [.s (.lf (.rob true false b)), .s (.lf (.own n 0 3 0 3))]) [0, n] rfl (by unfold nodupB memB; simp [nodupB, memB, hnb, hnb']) rfl (fun i ob hi => ?_) ⟨robW, WV.lf (WL.own rfl rfl rfl rfl), trivial⟩ (freeF.wv (v := .s (.lf (.rob false false (numsF b (fun k => rv c (5 + k)) 3)))) trivial)
  match i, hi with
  | 0, hi =>
    simp at hi
    subst hi
    exact ⟨obM c, h0, rfl, (obM_ws c).ws, (obM_ws c).ws⟩
  | 1, hi =>
    simp at hi
    subst hi
    refine ⟨rowsO tailS 3, hn, rfl, WSs.ws (l := (rowsO tailS 3).segs) (m := (rowsO tailS 3).segs) ⟨.recs rfl fun i hi j hj => tail_wl (fun k => WL.ptr (by exact rfl) (by exact rfl)) hi hj, trivial⟩, WSs.ws ⟨.recs rfl fun i hi j hj => tail_wl (fun k => WL.uptr ?_) hi hj, trivial⟩⟩
    unfold ρs
    rw [show Nat.blt 0 H.length = true from Nat.ble_eq_true_of_le hl0]
    rfl

/-- pack.Text, of bytes of the caller's -/
theorem c138o (b s : List UInt8) (hs : s.length ≤ 1000) (hb : b.length ≤ 1000000000) : SCalls Proofs.Try.prog 138 [.s (.lf (.own 0 0 1 0 b.length)), .s (.lf (.str s))] [some (obB b)] (.s (.lf (.rob true false (b ++ numF s.length ++ s)))) [some (obB b)] := by
  have h0 := (c138 b s (by omega) (by omega)).made [] (cs := [.s (.lf (.rob true false b)), .s (.lf (.str s))]) (rc := .s (.lf (.own 0 0 1 0 (b ++ numF s.length ++ s).length))) (Hn := [some (obB (b ++ numF s.length ++ s))]) ⟨robW, freeF.wv trivial, trivial⟩ (WV.lf (WL.uown rfl rfl rfl)) ⟨rfl, ⟨.bytes rfl fun _ _ => rfl, trivial⟩, trivial⟩
  have h := h0.madeL (cs := [.s (.lf (.own 0 0 1 0 b.length)), .s (.lf (.str s))]) (rc := .s (.lf (.own 1 0 1 0 (b ++ numF s.length ++ s).length))) (fun _ => False) [some (obB b)] (Hn := [some (obB (b ++ numF s.length ++ s))]) ⟨WV.lf (WL.lentT (ty := 5) rfl rfl (gone_none fun h => h)), freeF.wv trivial, trivial⟩ (WV.lf (WL.uown rfl rfl rfl)) ⟨rfl, ⟨.bytes rfl fun _ _ => rfl, trivial⟩, trivial⟩
  refine h.after (RetK.of ⟨rfl, ⟨.bytes rfl fun _ _ => rfl, trivial⟩, trivial⟩ (by simp) (WV.lf (WL.freezeB (ob := obB (b ++ numF s.length ++ s)) (p := []) (q := []) rfl rfl rfl (by omega) (by omega) (by rw [List.drop_zero, List.take_length]) (gone_one (by decide)))))
theorem c138og (b s : List UInt8) (hs : s.length ≤ 1000) (hb : b.length ≤ 1000000000) {H : Hp} {n : Nat} (hn : H[n]? = some (some (obB b))) : SCalls Proofs.Try.prog 138 [.s (.lf (.own n 0 1 0 b.length)), .s (.lf (.str s))] H (.s (.lf (.rob true false (b ++ numF s.length ++ s)))) H := by
  refine (c138o b s hs hb).at (cs := [.s (.lf (.own n 0 1 0 b.length)), .s (.lf (.str s))]) [n] rfl rfl rfl (fun i ob hi => ?_) ⟨WV.lf (WL.own rfl rfl rfl rfl), freeF.wv (v := .s (.lf (.str s))) trivial, trivial⟩ (freeF.wv (v := .s (.lf (.rob true false (b ++ numF s.length ++ s)))) trivial)
  match i, hi with
  | 0, hi =>
    simp at hi
    subst hi
    exact ⟨obB b, hn, rfl, WSs.ws (l := (obB b).segs) (m := (obB b).segs) ⟨.bytes rfl fun _ _ => rfl, trivial⟩, WSs.ws (l := (obB b).segs) (m := (obB b).segs) ⟨.bytes rfl fun _ _ => rfl, trivial⟩⟩

/-- A command's bytes. -/
def textsF (b : List UInt8) (c : CmS) : List UInt8 := b ++ numF c.sp.length ++ c.sp ++ numF c.nm.length ++ c.nm
def encM (c : CmS) : List UInt8 := putPs (numsF (textsF (numsF [] (rv c) 5 ++ codeC c.cs) c) (fun k => rv c (5 + k)) 3) c.ps
def encF (c : CmS) : List UInt8 × Int := if okM c then (encM c, 0) else ([], 1)

theorem okM_facts {c : CmS} (h : okM c = true) : okR c 8 = true ∧ c.cs.length ≤ 8 ∧ okCs c.cs = true ∧ textOk c.sp = true ∧ textOk c.nm = true ∧ c.ps.length ≤ 8 ∧ allP c.ps = true := by
  unfold okM okPs at h
  simp only [Bool.and_eq_true, decide_eq_true_eq] at h
  obtain ⟨⟨⟨h1, h2, h3⟩, h4, h5⟩, h6, h7⟩ := h
  exact ⟨h1, h2, h3, h4, h5, h6, h7⟩
theorem textOk_len {s : List UInt8} (h : textOk s = true) : s.length ≤ 16 := by
  unfold textOk at h
  simp only [Bool.or_eq_true, decide_eq_true_eq] at h
  rcases h with h | h
  · rw [h]; simp
  · unfold nameF at h
    simp at h
    exact h.1.2

/-- command.Encode -/
theorem c110 (c : CmS) : SCalls Proofs.Try.prog 110 [vM c] [] (.tup [.lf (.rob false false (encF c).1), .lf (.int .i64 (encF c).2)]) [] := by
  refine SCalls.intro tok Proofs.Try.func110 ?_
  conv => whnf
  refine CallK.mk' _ _ ((c112 c).free _ ⟨vM_free c, trivial⟩ trivial) ?_
  conv => whnf
  cases h : okM c with
  | false =>
    have e1 : checkM c = 1 := by unfold checkM; rw [h]; rfl
    have e2 : encF c = ([], 1) := by unfold encF; rw [h]; rfl
    rw [e1, e2]
    refine CaseB.of_true rfl ?_
    conv => whnf
    exact RetK.empty (WV.tup ⟨WV.lf WL.sl0rob', WV.lf (WL.int rfl), trivial⟩)
  | true =>
    have e1 : checkM c = 0 := by unfold checkM; rw [h]; rfl
    have e2 : encF c = (encM c, 0) := by unfold encF; rw [h]; rfl
    rw [e1, e2]
    obtain ⟨h1, h2, h3, h4, h5, h6, h7⟩ := okM_facts h
    refine CaseB.of_false rfl ?_
    conv => whnf
    refine CallK.mk' (.s (.lf (.own 1 0 3 0 5))) _ (c169g c []) ?_
    conv => whnf
    refine CallK.mk' _ _ (c168h c h1) ?_
    conv => whnf
    have hK0 := codeC_length c.cs c.cs.length (Nat.le_refl _)
    rw [List.take_length] at hK0
    obtain ⟨x, K, hK⟩ : ∃ x K, codeC c.cs = x :: K := by
      cases e : codeC c.cs with
      | nil => unfold codeC at e; rw [e] at hK0; simp at hK0
      | cons x K => exact ⟨x, K, rfl⟩
    have h60 := (c60 c.cs (by omega)).free [some (obM c), some (rowsO headS 5), some (obB (numsF [] (rv c) 5))] ⟨rowC_free (cs := c.cs), trivial⟩ trivial
    rw [hK] at h60
    refine CallK.mk' _ _ h60 ?_
    conv => whnf
    have hl5 := numsF_len [] (rv c) 5
    have hKl : (numsF [] (rv c) 5 ++ x :: K).length ≤ 1000 := by
      have : (x :: K).length ≤ 410 := by rw [← hK]; unfold codeC; omega
      rw [List.length_append]
      simp only [List.length_nil] at hl5
      omega
    refine And.intro ⟨rfl, rfl, by omega⟩ ?_
    conv => whnf
    refine DrawK.mk1 tok mixed [0, 0, 2, 7, 0, 16, 63, 127] [(0, 0, []), (1, 1, [0]), (2, 1, [0]), (3, 2, []), (4, 1, [0, 1]), (5, 1, [0, 1]), (6, 2, []), (7, 0, [])] (by kernel_rfl) ?_
    conv => whnf
    have hs1 := textOk_len h4
    have hs2 := textOk_len h5
    refine CallK.mk' _ _ (c138og (numsF [] (rv c) 5 ++ x :: K) c.sp (by omega) (by omega) rfl) ?_
    conv => whnf
    refine ⟨rfl, ?_⟩
    conv => whnf
    refine ⟨rfl, ?_⟩
    conv => whnf
    have hl1 := numF_length c.sp.length
    have hl2 := sz_le c.sp.length
    have hl3 := numF_length c.nm.length
    have hl4 := sz_le c.nm.length
    have hB1 : (numsF [] (rv c) 5 ++ x :: K ++ numF c.sp.length ++ c.sp).length ≤ 1100 := by
      rw [List.length_append, List.length_append]; omega
    refine CallK.mk' _ _ ((c138r (numsF [] (rv c) 5 ++ x :: K ++ numF c.sp.length ++ c.sp) c.nm (by omega) (by omega)).pure _ ⟨robW, freeF.wv (v := .s (.lf (.str c.nm))) trivial, trivial⟩ (freeF.wv (v := .s (.lf (.rob true false (numsF [] (rv c) 5 ++ x :: K ++ numF c.sp.length ++ c.sp ++ numF c.nm.length ++ c.nm)))) trivial)) ?_
    conv => whnf
    refine DrawK.mk1 tok mixed [0, 0, 3, 0, 8, 31, 63, 127] [(1, 2, []), (0, 0, []), (2, 2, []), (3, 1, [0, 1, 2]), (4, 1, [0, 1, 2]), (5, 2, []), (6, 0, []), (7, 0, [])] (by kernel_rfl) ?_
    conv => whnf
    refine CallK.mk' (.s (.lf (.own 4 0 3 0 3))) _ (c171g c _) ?_
    conv => whnf
    have hBl : (numsF [] (rv c) 5 ++ x :: K ++ numF c.sp.length ++ c.sp ++ numF c.nm.length ++ c.nm).length ≤ 1200 := by
      rw [List.length_append, List.length_append]; omega
    refine CallK.mk' _ _ (c168tg c _ h1 (by omega) rfl rfl (by decide)) ?_
    conv => whnf
    repeat (refine And.intro rfl ?_; conv => whnf)
    have hl6 := numsF_len (numsF [] (rv c) 5 ++ x :: K ++ numF c.sp.length ++ c.sp ++ numF c.nm.length ++ c.nm) (fun k => rv c (5 + k)) 3
    refine CallK.mk' _ _ ((c170 (numsF (numsF [] (rv c) 5 ++ x :: K ++ numF c.sp.length ++ c.sp ++ numF c.nm.length ++ c.nm) (fun k => rv c (5 + k)) 3) c.ps h6 h7 (by omega)).free _ ⟨trivial, rowP_free (ps := c.ps), trivial⟩ trivial) ?_
    conv => whnf
    refine RetK.empty (WV.tup ⟨WV.lf (WL.rob ?_ (by simp) (by simp)), WV.lf (WL.int rfl), trivial⟩)
    unfold encM textsF
    rw [hK]
end Go.Sym.Md

set_option linter.unusedVariables false
set_option linter.unusedSimpArgs false
set_option maxRecDepth 10000
namespace Go.Sym.Md
open Go Go.Sym

/-- What a kind is. -/
def actF (k : Int) : Int :=
  if k = 1 then 1 else if k = 3 then 2 else if k = 2 then 2 else if k = 4 then 4 else if k = 14 then 8 else if k = 12 then 8 else if k = 13 then 16 else if k = 5 then 32 else if k = 10 then 64
  else if k = 9 ∨ k = 7 ∨ k = 8 ∨ k = 6 ∨ k = 11 ∨ k = 15 then 128 else 0
/-- command.Action -/
theorem c77 (k : Int) : SCalls Proofs.Try.prog 77 [vI k] [] (vI (actF k)) [] := by
  refine SCalls.intro tok Proofs.Try.func77 ?_
  conv => whnf
  by_cases h1 : k = 1
  · refine CaseB.of_true (decide_eq_true h1) ?_
    conv => whnf
    exact RetK.empty (WV.lf (WL.int (by rw [h1]; rfl)))
  refine CaseB.of_false (decide_eq_false h1) ?_
  conv => whnf
  by_cases h3 : k = 3
  · refine CaseB.of_true (decide_eq_true h3) ?_
    conv => whnf
    exact RetK.empty (WV.lf (WL.int (by rw [h3]; rfl)))
  refine CaseB.of_false (decide_eq_false h3) ?_
  conv => whnf
  by_cases h2 : k = 2
  · refine CaseB.of_true (decide_eq_true h2) ?_
    conv => whnf
    exact RetK.empty (WV.lf (WL.int (by rw [h2]; rfl)))
  refine CaseB.of_false (decide_eq_false h2) ?_
  conv => whnf
  by_cases h4 : k = 4
  · refine CaseB.of_true (decide_eq_true h4) ?_
    conv => whnf
    exact RetK.empty (WV.lf (WL.int (by rw [h4]; rfl)))
  refine CaseB.of_false (decide_eq_false h4) ?_
  conv => whnf
  by_cases h14 : k = 14
  · refine CaseB.of_true (decide_eq_true h14) ?_
    conv => whnf
    exact RetK.empty (WV.lf (WL.int (by rw [h14]; rfl)))
  refine CaseB.of_false (decide_eq_false h14) ?_
  conv => whnf
  by_cases h12 : k = 12
  · refine CaseB.of_true (decide_eq_true h12) ?_
    conv => whnf
    exact RetK.empty (WV.lf (WL.int (by rw [h12]; rfl)))
  refine CaseB.of_false (decide_eq_false h12) ?_
  conv => whnf
  by_cases h13 : k = 13
  · refine CaseB.of_true (decide_eq_true h13) ?_
    conv => whnf
    exact RetK.empty (WV.lf (WL.int (by rw [h13]; rfl)))
  refine CaseB.of_false (decide_eq_false h13) ?_
  conv => whnf
  by_cases h5 : k = 5
  · refine CaseB.of_true (decide_eq_true h5) ?_
    conv => whnf
    exact RetK.empty (WV.lf (WL.int (by rw [h5]; rfl)))
  refine CaseB.of_false (decide_eq_false h5) ?_
  conv => whnf
  by_cases h10 : k = 10
  · refine CaseB.of_true (decide_eq_true h10) ?_
    conv => whnf
    exact RetK.empty (WV.lf (WL.int (by rw [h10]; rfl)))
  refine CaseB.of_false (decide_eq_false h10) ?_
  conv => whnf
  by_cases h9 : k = 9
  · refine CaseB.of_true (decide_eq_true h9) ?_
    conv => whnf
    exact RetK.empty (WV.lf (WL.int (by rw [h9]; rfl)))
  refine CaseB.of_false (decide_eq_false h9) ?_
  conv => whnf
  by_cases h7 : k = 7
  · refine CaseB.of_true (decide_eq_true h7) ?_
    conv => whnf
    exact RetK.empty (WV.lf (WL.int (by rw [h7]; rfl)))
  refine CaseB.of_false (decide_eq_false h7) ?_
  conv => whnf
  by_cases h8 : k = 8
  · refine CaseB.of_true (decide_eq_true h8) ?_
    conv => whnf
    exact RetK.empty (WV.lf (WL.int (by rw [h8]; rfl)))
  refine CaseB.of_false (decide_eq_false h8) ?_
  conv => whnf
  by_cases h6 : k = 6
  · refine CaseB.of_true (decide_eq_true h6) ?_
    conv => whnf
    exact RetK.empty (WV.lf (WL.int (by rw [h6]; rfl)))
  refine CaseB.of_false (decide_eq_false h6) ?_
  conv => whnf
  by_cases h11 : k = 11
  · refine CaseB.of_true (decide_eq_true h11) ?_
    conv => whnf
    exact RetK.empty (WV.lf (WL.int (by rw [h11]; rfl)))
  refine CaseB.of_false (decide_eq_false h11) ?_
  conv => whnf
  by_cases h15 : k = 15
  · refine CaseB.of_true (decide_eq_true h15) ?_
    conv => whnf
    exact RetK.empty (WV.lf (WL.int (by rw [h15]; rfl)))
  refine CaseB.of_false (decide_eq_false h15) ?_
  conv => whnf
  exact RetK.empty (WV.lf (WL.int (by unfold actF; simp [h1, h3, h2, h4, h14, h12, h13, h5, h10, h9, h7, h8, h6, h11, h15])))

/-- baileyref23.Action -/
theorem c78 (k : Int) : SCalls Proofs.Try.prog 78 [vI k] [] (vI (actF k)) [] := by
  refine SCalls.intro tok Proofs.Try.func78 ?_
  conv => whnf
  by_cases h1 : k = 1
  · refine CaseB.of_true (decide_eq_true h1) ?_
    conv => whnf
    exact RetK.empty (WV.lf (WL.int (by rw [h1]; rfl)))
  refine CaseB.of_false (decide_eq_false h1) ?_
  conv => whnf
  by_cases h2 : k = 2
  · refine CaseB.of_true (decide_eq_true h2) ?_
    conv => whnf
    exact RetK.empty (WV.lf (WL.int (by rw [h2]; rfl)))
  refine CaseB.of_false (decide_eq_false h2) ?_
  conv => whnf
  by_cases h3 : k = 3
  · refine CaseB.of_true (decide_eq_true h3) ?_
    conv => whnf
    exact RetK.empty (WV.lf (WL.int (by rw [h3]; rfl)))
  refine CaseB.of_false (decide_eq_false h3) ?_
  conv => whnf
  by_cases h4 : k = 4
  · refine CaseB.of_true (decide_eq_true h4) ?_
    conv => whnf
    exact RetK.empty (WV.lf (WL.int (by rw [h4]; rfl)))
  refine CaseB.of_false (decide_eq_false h4) ?_
  conv => whnf
  by_cases h12 : k = 12
  · refine CaseB.of_true (decide_eq_true h12) ?_
    conv => whnf
    exact RetK.empty (WV.lf (WL.int (by rw [h12]; rfl)))
  refine CaseB.of_false (decide_eq_false h12) ?_
  conv => whnf
  by_cases h14 : k = 14
  · refine CaseB.of_true (decide_eq_true h14) ?_
    conv => whnf
    exact RetK.empty (WV.lf (WL.int (by rw [h14]; rfl)))
  refine CaseB.of_false (decide_eq_false h14) ?_
  conv => whnf
  by_cases h13 : k = 13
  · refine CaseB.of_true (decide_eq_true h13) ?_
    conv => whnf
    exact RetK.empty (WV.lf (WL.int (by rw [h13]; rfl)))
  refine CaseB.of_false (decide_eq_false h13) ?_
  conv => whnf
  by_cases h5 : k = 5
  · refine CaseB.of_true (decide_eq_true h5) ?_
    conv => whnf
    exact RetK.empty (WV.lf (WL.int (by rw [h5]; rfl)))
  refine CaseB.of_false (decide_eq_false h5) ?_
  conv => whnf
  by_cases h10 : k = 10
  · refine CaseB.of_true (decide_eq_true h10) ?_
    conv => whnf
    exact RetK.empty (WV.lf (WL.int (by rw [h10]; rfl)))
  refine CaseB.of_false (decide_eq_false h10) ?_
  conv => whnf
  by_cases h6 : k = 6
  · refine CaseB.of_true (decide_eq_true h6) ?_
    conv => whnf
    exact RetK.empty (WV.lf (WL.int (by rw [h6]; rfl)))
  refine CaseB.of_false (decide_eq_false h6) ?_
  conv => whnf
  by_cases h7 : k = 7
  · refine CaseB.of_true (decide_eq_true h7) ?_
    conv => whnf
    exact RetK.empty (WV.lf (WL.int (by rw [h7]; rfl)))
  refine CaseB.of_false (decide_eq_false h7) ?_
  conv => whnf
  by_cases h8 : k = 8
  · refine CaseB.of_true (decide_eq_true h8) ?_
    conv => whnf
    exact RetK.empty (WV.lf (WL.int (by rw [h8]; rfl)))
  refine CaseB.of_false (decide_eq_false h8) ?_
  conv => whnf
  by_cases h9 : k = 9
  · refine CaseB.of_true (decide_eq_true h9) ?_
    conv => whnf
    exact RetK.empty (WV.lf (WL.int (by rw [h9]; rfl)))
  refine CaseB.of_false (decide_eq_false h9) ?_
  conv => whnf
  by_cases h11 : k = 11
  · refine CaseB.of_true (decide_eq_true h11) ?_
    conv => whnf
    exact RetK.empty (WV.lf (WL.int (by rw [h11]; rfl)))
  refine CaseB.of_false (decide_eq_false h11) ?_
  conv => whnf
  by_cases h15 : k = 15
  · refine CaseB.of_true (decide_eq_true h15) ?_
    conv => whnf
    exact RetK.empty (WV.lf (WL.int (by rw [h15]; rfl)))
  refine CaseB.of_false (decide_eq_false h15) ?_
  conv => whnf
  exact RetK.empty (WV.lf (WL.int (by unfold actF; simp [h1, h2, h3, h4, h12, h14, h13, h5, h10, h6, h7, h8, h9, h11, h15])))

abbrev cmA : CmS := ⟨1, 2, 9, 3, 0, [], [], [], 0, 0, 0, []⟩
theorem encA : encF cmA = ([1, 2, 9, 3, 0, 0, 0, 0, 0, 0, 0, 0], 0) := by kernel_rfl
/-- baileylaw23.awake -/
theorem c51 : SCalls Proofs.Try.prog 51 [] [] (.s (.lf .tt)) [] := by
  have h110 := c110 cmA
  rw [encA] at h110
  refine SCalls.intro tok Proofs.Try.func51 ?_
  conv => whnf
  refine CallK.mk' _ _ (h110.pure [] ⟨WV.agg ⟨.one (WL.int rfl), .one (WL.int rfl), .one (WL.int rfl), .one (WL.int rfl), .one (WL.int rfl), .one WL.sl0ro, .one (WL.str rfl), .one (WL.str rfl), .one (WL.int rfl), .one (WL.int rfl), .one (WL.int rfl), .one WL.sl0ro, trivial⟩, trivial⟩ (freeF.wv (v := .tup [.lf (.rob false false [1, 2, 9, 3, 0, 0, 0, 0, 0, 0, 0, 0]), .lf (.int .i64 0)]) ⟨trivial, trivial, trivial⟩)) ?_
  conv => whnf
  refine CaseB.of_true rfl ?_
  conv => whnf
  refine Or.inr ?_
  conv => whnf
  refine CallK.mk' _ _ ((c57 [1, 2, 9, 3, 0, 0, 0, 0, 0, 0, 0, 0] [1, 2, 9, 3, 0, 0, 0, 0, 0, 0, 0, 0] (by decide)).pure _ ⟨freeF.wv (v := .s (.lf (.rob false false [1, 2, 9, 3, 0, 0, 0, 0, 0, 0, 0, 0]))) trivial, WV.lf (WL.rob rfl (by simp) (by simp)), trivial⟩ (freeF.wv (v := .s (.lf (.bool _))) trivial)) ?_
  conv => whnf
  refine CaseB.of_true (decide_eq_true rfl) ?_
  conv => whnf
  refine CallK.mk' _ _ ((c77 13).free _ ⟨trivial, trivial⟩ trivial) ?_
  conv => whnf
  exact RetK.empty (WV.lf (WL.bool rfl))
end Go.Sym.Md

