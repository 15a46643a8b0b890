/- Contracts of the program's functions, proved by the framework (text TxI), without conditions but those that each theorem states. -/
import Derived.Test.YtlmcdgbjbamdnaaTxH
set_option linter.unusedVariables false
set_option linter.unusedSimpArgs false
set_option maxRecDepth 10000
namespace Go.Sym.Md
open Go Go.Sym

/-! ### What bytes are as a command -/
def cm0 : CmS := ⟨0, 0, 0, 0, 0, [], [], [], 0, 0, 0, []⟩
def hdR (b : List UInt8) : Rd := tkR 0 ⟨b, 0⟩ 5
def cvR (b : List UInt8) : List CV × Rd := allC (hdR b)
def spR (b : List UInt8) : List UInt8 × Rd := textR (cvR b).2 16
def nmR (b : List UInt8) : List UInt8 × Rd := textR (spR b).2 16
def tlR (b : List UInt8) : Rd := tkR 5 (nmR b).2 3
def psR (b : List UInt8) : List PcV × Rd := allPc (tlR b)
def cmR (b : List UInt8) (cs : List CV) : CmS :=
  let h := tkC 0 cm0 ⟨b, 0⟩ 5
  let t := tkC 5 cm0 (nmR b).2 3
  ⟨h.cl, h.sq, h.kd, h.id, h.ep, cs, (spR b).1, (nmR b).1, t.nu, t.by', t.tm, keptP (psR b)⟩
def finM (c : CmS) (q : Rd) : CmS × Int := if q.e ≠ 0 then (cm0, endF q) else if okM c then (if endF q = 0 then (c, 0) else (cm0, endF q)) else (cm0, 3)
def decM (b : List UInt8) : CmS × Int := finM (cmR b (cvR b).1) (psR b).2

abbrev zU : OB := obU cm0 .sl0 .sl0
theorem zU_ws {D : Rel} : WSs D zU.segs zU.segs := cmW (fun _ _ _ _ _ h => h) (fun _ _ _ _ _ h => h)
theorem gone3 {z a b : OB} : gone [some z, some a, some b, none] id noHid 3 := by
  refine ⟨fun h => h, fun i o hi => ?_⟩
  match i, hi with
  | 0, _ => decide
  | 1, _ => decide
  | 2, _ => decide
  | 3, hi => simp at hi
  | k + 4, hi => simp at hi
theorem tk5 (c : CmS) (r : Rd) : tkC 5 c r 3 = ⟨c.cl, c.sq, c.kd, c.id, c.ep, c.cs, c.sp, c.nm, (tkC 5 cm0 r 3).nu, (tkC 5 cm0 r 3).by', (tkC 5 cm0 r 3).tm, c.ps⟩ := by
  simp only [tkC, setM]
def accL (nm : Nat) : List CV → LV
  | [] => .sl0
  | a :: l => .own nm 0 3 0 (a :: l).length
attribute [local irreducible] numF checkF hasF okC boundF numR textR readC okP tkR tkC

set_option maxHeartbeats 8000000 in
/-- command.Decode -/
theorem c115 (b : List UInt8) (hb : b.length ≤ 2000) : SCalls Proofs.Try.prog 115 [.s (.lf (.rob false false b))] [] (.tup [.agg (segsM (decM b).1), .lf (.int .i64 (decM b).2)]) [] := by
  have h0 : (⟨b, 0⟩ : Rd).ok := ⟨fun h => absurd rfl h, by show IntKind.i64.min ≤ 0; decide, by show (0 : Int) ≤ IntKind.i64.max; decide, by show b.length ≤ _; omega⟩
  have hoh : (tkR 0 ⟨b, 0⟩ 5).ok := tkR_ok 0 h0 5
  refine SCalls.intro tok Proofs.Try.func115 ?_
  conv => whnf
  refine CallK.mk' (.s (.lf (.ptr 1 0))) [some zU, some (obR ⟨b, 0⟩)] ((c64 b (by omega)).made [some zU] (cs := [.s (.lf (.rob false false b))]) (rc := .s (.lf (.ptr 1 0))) (Hn := [some (obR ⟨b, 0⟩)]) ⟨freeF.wv trivial, trivial⟩ (WV.lf (WL.uptr rfl)) ⟨rfl, obR_ws _, trivial⟩) ?_
  conv => whnf
  refine CallK.mk' (.s (.lf (.own 3 0 3 0 5))) [some zU, some (obR ⟨b, 0⟩), some (obU cm0 .sl0 .sl0), some (rowsO (headP 2) 5)] (c169d zU (obR ⟨b, 0⟩) cm0 .sl0 .sl0 trivial trivial []) ?_
  conv => whnf
  refine CallK.mk' (.tup []) [some zU, some (obR (tkR 0 ⟨b, 0⟩ 5)), some (obU (tkC 0 cm0 ⟨b, 0⟩ 5) .sl0 .sl0), some (rowsO (headP 2) 5)] (c179hd zU cm0 .sl0 .sl0 trivial trivial ⟨b, 0⟩ h0 [some (rowsO (headP 2) 5)] 3 rfl (by decide)) ?_
  conv => whnf
  obtain ⟨rh, hrh⟩ : ∃ rh, tkR 0 ⟨b, 0⟩ 5 = rh := ⟨_, rfl⟩
  obtain ⟨cH, hcH⟩ : ∃ cH, tkC 0 cm0 ⟨b, 0⟩ 5 = cH := ⟨_, rfl⟩
  rw [hrh] at hoh
  rw [hrh, hcH]
  have hn8 := numR_range hoh 8
  have hno := numR_ok hoh 8
  have h140 := c140 rh 8 hoh
  obtain ⟨n, hn⟩ : ∃ n : Nat, (numR rh 8).1 = n := ⟨(numR rh 8).1.toNat, by omega⟩
  obtain ⟨r1, hr1⟩ : ∃ r1, (numR rh 8).2 = r1 := ⟨_, rfl⟩
  have hA : allC rh = readsC n r1 := by unfold allC; rw [hn, hr1, Int.toNat_natCast]
  rw [hn, hr1] at h140
  rw [hr1] at hno
  rw [hn] at hn8
  refine CallK.mk' _ _ (frR1 zU _ h140 ⟨trivial, trivial⟩ trivial) ?_
  conv => whnf
  refine LoopK.mk3 (fun (m : Nat) (q : Rd) (acc : List CV) => [(6, vI m), (5, .s (.lf (.ptr 2 0))), (4, .s (.lf (.ptr 1 0))), (3, vI 0), (2, .s (.lf (.ptr 0 0)))]) (fun m q acc => some zU :: some (obR q) :: some (obU cH (accL 3 acc) .sl0) :: accH acc)
    (fun m q acc => q.ok ∧ acc ++ (readsC m q).1 = (readsC n r1).1 ∧ (readsC m q).2 = (readsC n r1).2 ∧ acc.length + m = n) (fun m q acc => m) n r1 [] ⟨hno, rfl, rfl, by simp⟩ ?_ ?_
  · exact Weak.perm [0, 1, 2] ⟨⟨rfl, zU_ws⟩, ⟨rfl, obR_ws _⟩, ⟨rfl, cmW (freeL.wl (v := .sl0) trivial) (freeL.wl (v := .sl0) trivial)⟩, trivial⟩ ⟨WV.lf (WL.int rfl), WV.lf (WL.ptr rfl rfl), WV.lf (WL.ptr rfl rfl), WV.lf (WL.int rfl), WV.lf (WL.ptr rfl rfl), trivial⟩ rfl (by show 3 ≤ 3; omega) rfl (by show 0 ≤ 3; omega)
  rintro m q acc ⟨hq, ha, hb', hl⟩
  cases m with
  | zero =>
    have haf : acc = (readsC n r1).1 := by rw [← ha]; exact (List.append_nil acc).symm
    have hbf : q = (readsC n r1).2 := hb'
    cases acc with
    | nil =>
      conv => whnf
      refine CaseB.of_false (decide_eq_false (by omega)) ?_
      conv => whnf
      have hcs : (cvR b).1 = [] ∧ (cvR b).2 = q := by
        have e : cvR b = readsC n r1 := by unfold cvR hdR; rw [hrh]; exact hA
        rw [e]
        exact ⟨haf.symm, hbf.symm⟩
      have o1 := textR_ok hq 16
      have k1 := c145 q 16 hq
      have d1 : spR b = textR q 16 := by unfold spR; rw [hcs.2]
      obtain ⟨s1, hs1⟩ : ∃ s1, (textR q 16).1 = s1 := ⟨_, rfl⟩
      obtain ⟨q1, hq1⟩ : ∃ q1, (textR q 16).2 = q1 := ⟨_, rfl⟩
      rw [hs1, hq1] at k1
      rw [hq1] at o1
      have o2 := textR_ok o1 16
      have k2 := c145 q1 16 o1
      have d2 : nmR b = textR q1 16 := by unfold nmR; rw [d1, hq1]
      obtain ⟨s2, hs2⟩ : ∃ s2, (textR q1 16).1 = s2 := ⟨_, rfl⟩
      obtain ⟨q2, hq2⟩ : ∃ q2, (textR q1 16).2 = q2 := ⟨_, rfl⟩
      rw [hs2, hq2] at k2
      rw [hq2] at o2
      have o3 := tkR_ok 5 o2 3
      have d3 : tlR b = tkR 5 q2 3 := by unfold tlR; rw [d2, hq2]
      have o4 := allPc_ok o3
      have k4 := c180 (tkR 5 q2 3) o3
      have d4 : psR b = allPc (tkR 5 q2 3) := by unfold psR; rw [d3]
      obtain ⟨ps, hps⟩ : ∃ ps, keptP (allPc (tkR 5 q2 3)) = ps := ⟨_, rfl⟩
      obtain ⟨q4, hq4⟩ : ∃ q4, (allPc (tkR 5 q2 3)).2 = q4 := ⟨_, rfl⟩
      rw [hps, hq4] at k4
      rw [hq4] at o4
      refine CallK.mk' (.s (.lf (.str s1))) [some zU, some (obR q1), some (obU cH (vKl []) .sl0)] ((frR1 zU [some (obU cH (.sl0) .sl0)] k1 ⟨trivial, trivial⟩ trivial).after (RetK.of ⟨rfl, zU_ws, rfl, obR_ws _, rfl, cmW (WL.sl0ro) (freeL.wl (v := .sl0) trivial), trivial⟩ (by simp) (freeF.wv (v := .s (.lf (.str s1))) trivial))) ?_
      conv => whnf
      refine CallK.mk' _ _ (frR1 zU _ k2 ⟨trivial, trivial⟩ trivial) ?_
      conv => whnf
      refine CallK.mk' (.s (.lf (.own 3 0 3 0 3))) [some zU, some (obR q2), some (obU ⟨cH.cl, cH.sq, cH.kd, cH.id, cH.ep, [], s1, s2, cH.nu, cH.by', cH.tm, cH.ps⟩ (vKl []) .sl0), some (rowsO (tailP 2) 3)] (c171d zU (obR q2) ⟨cH.cl, cH.sq, cH.kd, cH.id, cH.ep, [], s1, s2, cH.nu, cH.by', cH.tm, cH.ps⟩ (vKl []) .sl0 (rowC_free (cs := [])) trivial []) ?_
      conv => whnf
      have h179 := c179td zU ⟨cH.cl, cH.sq, cH.kd, cH.id, cH.ep, [], s1, s2, cH.nu, cH.by', cH.tm, cH.ps⟩ (vKl []) .sl0 (rowC_free (cs := [])) trivial q2 o2 [some (rowsO (tailP 2) 3)] 3 rfl (by decide)
      rw [tk5] at h179
      refine CallK.mk' (.tup []) [some zU, some (obR (tkR 5 q2 3)), some (obU ⟨cH.cl, cH.sq, cH.kd, cH.id, cH.ep, [], s1, s2, (tkC 5 cm0 q2 3).nu, (tkC 5 cm0 q2 3).by', (tkC 5 cm0 q2 3).tm, cH.ps⟩ (vKl []) .sl0), some (rowsO (tailP 2) 3)] h179 ?_
      conv => whnf
      refine CallK.mk' _ _ (frR1 zU _ k4 trivial (rowP_free (ps := ps))) ?_
      conv => whnf
      have hcm : cmR b (cvR b).1 = ⟨cH.cl, cH.sq, cH.kd, cH.id, cH.ep, [], s1, s2, (tkC 5 cm0 q2 3).nu, (tkC 5 cm0 q2 3).by', (tkC 5 cm0 q2 3).tm, ps⟩ := by
        unfold cmR
        simp only [hcH, hcs.1, d1, d2, d4, hs1, hs2, hq2, hps]
      obtain ⟨cT, hcT⟩ : ∃ cT : CmS, cT = ⟨cH.cl, cH.sq, cH.kd, cH.id, cH.ep, [], s1, s2, (tkC 5 cm0 q2 3).nu, (tkC 5 cm0 q2 3).by', (tkC 5 cm0 q2 3).tm, ps⟩ := ⟨_, rfl⟩
      have hD : decM b = finM cT q4 := by unfold decM; rw [hcm, ← hcT, d4, hq4]
      rw [hD]
      have h112 := c112 cT
      rw [show vM cT = .s (.agg (segsM ⟨cH.cl, cH.sq, cH.kd, cH.id, cH.ep, [], s1, s2, (tkC 5 cm0 q2 3).nu, (tkC 5 cm0 q2 3).by', (tkC 5 cm0 q2 3).tm, ps⟩)) by rw [hcT]] at h112
      refine CallK.mk' _ _ (h112.free _ ⟨⟨trivial, trivial, trivial, trivial, trivial, rowC_free (cs := []), trivial, trivial, trivial, trivial, trivial, rowP_free (ps := ps), trivial⟩, trivial⟩ trivial) ?_
      conv => whnf
      cases hok : okM cT with
      | false =>
        have e1 : checkM cT = 1 := by unfold checkM; rw [hok]; rfl
        rw [e1]
        refine CaseB.of_true rfl ?_
        conv => whnf
        refine CallK.mk' _ _ (frR1 zU _ (c146 q4 3) ⟨trivial, trivial⟩ trivial) ?_
        conv => whnf
        have o5 := failR_ok o4 (e := 3) (by decide) (by decide)
        refine CallK.mk' _ _ (frR1 zU _ (c85 (failR q4 3) o5) trivial trivial) ?_
        conv => whnf
        have hf : finM cT q4 = (cm0, endF (failR q4 3)) ∧ endF (failR q4 3) ≠ 0 := by
          unfold finM
          by_cases hz : q4.e = 0
          · rw [if_neg (fun h => h hz), hok, failR_new hz]
            exact ⟨rfl, by decide⟩
          · rw [if_pos hz, failR_err hz]
            exact ⟨rfl, by rw [endF_err o4 hz]; exact hz⟩
        rw [hf.1]
        refine CaseB.of_true (decide_eq_true hf.2) ?_
        conv => whnf
        exact RetK.empty (WV.tup ⟨WV.agg (cmW (c := cm0) WL.sl0ro WL.sl0ro), WV.lf (WL.int rfl), trivial⟩)
      | true =>
        have e1 : checkM cT = 0 := by unfold checkM; rw [hok]; rfl
        rw [e1]
        refine CaseB.of_false rfl ?_
        conv => whnf
        refine CallK.mk' _ _ (frR1 zU _ (c85 q4 o4) trivial trivial) ?_
        conv => whnf
        by_cases hz : endF q4 = 0
        · refine CaseB.of_false (decide_eq_false (fun h => h hz)) ?_
          conv => whnf
          have he : q4.e = 0 := by
            by_cases h : q4.e = 0
            · exact h
            · rw [endF_err o4 h] at hz; exact hz
          have hf : finM cT q4 = (cT, 0) := by unfold finM; rw [if_neg (fun h => h he), hok, if_pos rfl, if_pos hz]
          rw [hf, hcT]
          exact RetK.empty (WV.tup ⟨WV.agg (cmW (freeL.wl (rowC_free (cs := []))) (freeL.wl (rowP_free (ps := ps)))), WV.lf (WL.int rfl), trivial⟩)
        · refine CaseB.of_true (decide_eq_true hz) ?_
          conv => whnf
          have hf : finM cT q4 = (cm0, endF q4) := by
            unfold finM
            by_cases he : q4.e = 0
            · rw [if_neg (fun h => h he), hok, if_pos rfl, if_neg hz]
            · rw [if_pos he]
          rw [hf]
          exact RetK.empty (WV.tup ⟨WV.agg (cmW (c := cm0) WL.sl0ro WL.sl0ro), WV.lf (WL.int rfl), trivial⟩)
    | cons a l =>
      conv => whnf
      refine CaseB.of_false (decide_eq_false (by omega)) ?_
      conv => whnf
      have hcs : (cvR b).1 = (a :: l) ∧ (cvR b).2 = q := by
        have e : cvR b = readsC n r1 := by unfold cvR hdR; rw [hrh]; exact hA
        rw [e]
        exact ⟨haf.symm, hbf.symm⟩
      have o1 := textR_ok hq 16
      have k1 := c145 q 16 hq
      have d1 : spR b = textR q 16 := by unfold spR; rw [hcs.2]
      obtain ⟨s1, hs1⟩ : ∃ s1, (textR q 16).1 = s1 := ⟨_, rfl⟩
      obtain ⟨q1, hq1⟩ : ∃ q1, (textR q 16).2 = q1 := ⟨_, rfl⟩
      rw [hs1, hq1] at k1
      rw [hq1] at o1
      have o2 := textR_ok o1 16
      have k2 := c145 q1 16 o1
      have d2 : nmR b = textR q1 16 := by unfold nmR; rw [d1, hq1]
      obtain ⟨s2, hs2⟩ : ∃ s2, (textR q1 16).1 = s2 := ⟨_, rfl⟩
      obtain ⟨q2, hq2⟩ : ∃ q2, (textR q1 16).2 = q2 := ⟨_, rfl⟩
      rw [hs2, hq2] at k2
      rw [hq2] at o2
      have o3 := tkR_ok 5 o2 3
      have d3 : tlR b = tkR 5 q2 3 := by unfold tlR; rw [d2, hq2]
      have o4 := allPc_ok o3
      have k4 := c180 (tkR 5 q2 3) o3
      have d4 : psR b = allPc (tkR 5 q2 3) := by unfold psR; rw [d3]
      obtain ⟨ps, hps⟩ : ∃ ps, keptP (allPc (tkR 5 q2 3)) = ps := ⟨_, rfl⟩
      obtain ⟨q4, hq4⟩ : ∃ q4, (allPc (tkR 5 q2 3)).2 = q4 := ⟨_, rfl⟩
      rw [hps, hq4] at k4
      rw [hq4] at o4
      refine CallK.mk' (.s (.lf (.str s1))) [some zU, some (obR q1), some (obU cH (vKl (a :: l)) .sl0), none] ((frR1 zU [some (obU cH (.own 3 0 3 0 (a :: l).length) .sl0), some ⟨23, [.recs 3 (a :: l).length (rowC (a :: l))]⟩] k1 ⟨trivial, trivial⟩ trivial).after (RetK.of ⟨rfl, zU_ws, rfl, obR_ws _, rfl, cmW (WL.lentC (ty := 23) rfl rfl rfl (fun _ _ _ _ => rfl) gone3) (freeL.wl (v := .sl0) trivial), trivial⟩ (by simp) (freeF.wv (v := .s (.lf (.str s1))) trivial))) ?_
      conv => whnf
      refine CallK.mk' _ _ (frR1 zU _ k2 ⟨trivial, trivial⟩ trivial) ?_
      conv => whnf
      refine CallK.mk' (.s (.lf (.own 4 0 3 0 3))) [some zU, some (obR q2), some (obU ⟨cH.cl, cH.sq, cH.kd, cH.id, cH.ep, (a :: l), s1, s2, cH.nu, cH.by', cH.tm, cH.ps⟩ (vKl (a :: l)) .sl0), none, some (rowsO (tailP 2) 3)] (c171d zU (obR q2) ⟨cH.cl, cH.sq, cH.kd, cH.id, cH.ep, (a :: l), s1, s2, cH.nu, cH.by', cH.tm, cH.ps⟩ (vKl (a :: l)) .sl0 (rowC_free (cs := (a :: l))) trivial [none]) ?_
      conv => whnf
      have h179 := c179td zU ⟨cH.cl, cH.sq, cH.kd, cH.id, cH.ep, (a :: l), s1, s2, cH.nu, cH.by', cH.tm, cH.ps⟩ (vKl (a :: l)) .sl0 (rowC_free (cs := (a :: l))) trivial q2 o2 [none, some (rowsO (tailP 2) 3)] 4 rfl (by decide)
      rw [tk5] at h179
      refine CallK.mk' (.tup []) [some zU, some (obR (tkR 5 q2 3)), some (obU ⟨cH.cl, cH.sq, cH.kd, cH.id, cH.ep, (a :: l), s1, s2, (tkC 5 cm0 q2 3).nu, (tkC 5 cm0 q2 3).by', (tkC 5 cm0 q2 3).tm, cH.ps⟩ (vKl (a :: l)) .sl0), none, some (rowsO (tailP 2) 3)] h179 ?_
      conv => whnf
      refine CallK.mk' _ _ (frR1 zU _ k4 trivial (rowP_free (ps := ps))) ?_
      conv => whnf
      have hcm : cmR b (cvR b).1 = ⟨cH.cl, cH.sq, cH.kd, cH.id, cH.ep, (a :: l), s1, s2, (tkC 5 cm0 q2 3).nu, (tkC 5 cm0 q2 3).by', (tkC 5 cm0 q2 3).tm, ps⟩ := by
        unfold cmR
        simp only [hcH, hcs.1, d1, d2, d4, hs1, hs2, hq2, hps]
      obtain ⟨cT, hcT⟩ : ∃ cT : CmS, cT = ⟨cH.cl, cH.sq, cH.kd, cH.id, cH.ep, (a :: l), s1, s2, (tkC 5 cm0 q2 3).nu, (tkC 5 cm0 q2 3).by', (tkC 5 cm0 q2 3).tm, ps⟩ := ⟨_, rfl⟩
      have hD : decM b = finM cT q4 := by unfold decM; rw [hcm, ← hcT, d4, hq4]
      rw [hD]
      have h112 := c112 cT
      rw [show vM cT = .s (.agg (segsM ⟨cH.cl, cH.sq, cH.kd, cH.id, cH.ep, (a :: l), s1, s2, (tkC 5 cm0 q2 3).nu, (tkC 5 cm0 q2 3).by', (tkC 5 cm0 q2 3).tm, ps⟩)) by rw [hcT]] at h112
      refine CallK.mk' _ _ (h112.free _ ⟨⟨trivial, trivial, trivial, trivial, trivial, rowC_free (cs := (a :: l)), trivial, trivial, trivial, trivial, trivial, rowP_free (ps := ps), trivial⟩, trivial⟩ trivial) ?_
      conv => whnf
      cases hok : okM cT with
      | false =>
        have e1 : checkM cT = 1 := by unfold checkM; rw [hok]; rfl
        rw [e1]
        refine CaseB.of_true rfl ?_
        conv => whnf
        refine CallK.mk' _ _ (frR1 zU _ (c146 q4 3) ⟨trivial, trivial⟩ trivial) ?_
        conv => whnf
        have o5 := failR_ok o4 (e := 3) (by decide) (by decide)
        refine CallK.mk' _ _ (frR1 zU _ (c85 (failR q4 3) o5) trivial trivial) ?_
        conv => whnf
        have hf : finM cT q4 = (cm0, endF (failR q4 3)) ∧ endF (failR q4 3) ≠ 0 := by
          unfold finM
          by_cases hz : q4.e = 0
          · rw [if_neg (fun h => h hz), hok, failR_new hz]
            exact ⟨rfl, by decide⟩
          · rw [if_pos hz, failR_err hz]
            exact ⟨rfl, by rw [endF_err o4 hz]; exact hz⟩
        rw [hf.1]
        refine CaseB.of_true (decide_eq_true hf.2) ?_
        conv => whnf
        exact RetK.empty (WV.tup ⟨WV.agg (cmW (c := cm0) WL.sl0ro WL.sl0ro), WV.lf (WL.int rfl), trivial⟩)
      | true =>
        have e1 : checkM cT = 0 := by unfold checkM; rw [hok]; rfl
        rw [e1]
        refine CaseB.of_false rfl ?_
        conv => whnf
        refine CallK.mk' _ _ (frR1 zU _ (c85 q4 o4) trivial trivial) ?_
        conv => whnf
        by_cases hz : endF q4 = 0
        · refine CaseB.of_false (decide_eq_false (fun h => h hz)) ?_
          conv => whnf
          have he : q4.e = 0 := by
            by_cases h : q4.e = 0
            · exact h
            · rw [endF_err o4 h] at hz; exact hz
          have hf : finM cT q4 = (cT, 0) := by unfold finM; rw [if_neg (fun h => h he), hok, if_pos rfl, if_pos hz]
          rw [hf, hcT]
          exact RetK.empty (WV.tup ⟨WV.agg (cmW (freeL.wl (rowC_free (cs := (a :: l)))) (freeL.wl (rowP_free (ps := ps)))), WV.lf (WL.int rfl), trivial⟩)
        · refine CaseB.of_true (decide_eq_true hz) ?_
          conv => whnf
          have hf : finM cT q4 = (cm0, endF q4) := by
            unfold finM
            by_cases he : q4.e = 0
            · rw [if_neg (fun h => h he), hok, if_pos rfl, if_neg hz]
            · rw [if_pos he]
          rw [hf]
          exact RetK.empty (WV.tup ⟨WV.agg (cmW (c := cm0) WL.sl0ro WL.sl0ro), WV.lf (WL.int rfl), trivial⟩)
  | succ m =>
    by_cases he : q.e = 0
    rotate_left
    · have hS := readsC_err (m + 1) he
      have haf : acc = (readsC n r1).1 := by rw [← ha, hS, List.append_nil]
      have hbf : q = (readsC n r1).2 := by rw [← hb', hS]
      cases acc with
      | nil =>
        conv => whnf
        refine CaseB.of_true (decide_eq_true (by omega)) ?_
        conv => whnf
        refine CallK.mk' _ _ (frR1 zU _ (c68 q) trivial trivial) ?_
        conv => whnf
        refine CaseB.of_false (decide_eq_false he) ?_
        conv => whnf
        have hcs : (cvR b).1 = [] ∧ (cvR b).2 = q := by
          have e : cvR b = readsC n r1 := by unfold cvR hdR; rw [hrh]; exact hA
          rw [e]
          exact ⟨haf.symm, hbf.symm⟩
        have o1 := textR_ok hq 16
        have k1 := c145 q 16 hq
        have d1 : spR b = textR q 16 := by unfold spR; rw [hcs.2]
        obtain ⟨s1, hs1⟩ : ∃ s1, (textR q 16).1 = s1 := ⟨_, rfl⟩
        obtain ⟨q1, hq1⟩ : ∃ q1, (textR q 16).2 = q1 := ⟨_, rfl⟩
        rw [hs1, hq1] at k1
        rw [hq1] at o1
        have o2 := textR_ok o1 16
        have k2 := c145 q1 16 o1
        have d2 : nmR b = textR q1 16 := by unfold nmR; rw [d1, hq1]
        obtain ⟨s2, hs2⟩ : ∃ s2, (textR q1 16).1 = s2 := ⟨_, rfl⟩
        obtain ⟨q2, hq2⟩ : ∃ q2, (textR q1 16).2 = q2 := ⟨_, rfl⟩
        rw [hs2, hq2] at k2
        rw [hq2] at o2
        have o3 := tkR_ok 5 o2 3
        have d3 : tlR b = tkR 5 q2 3 := by unfold tlR; rw [d2, hq2]
        have o4 := allPc_ok o3
        have k4 := c180 (tkR 5 q2 3) o3
        have d4 : psR b = allPc (tkR 5 q2 3) := by unfold psR; rw [d3]
        obtain ⟨ps, hps⟩ : ∃ ps, keptP (allPc (tkR 5 q2 3)) = ps := ⟨_, rfl⟩
        obtain ⟨q4, hq4⟩ : ∃ q4, (allPc (tkR 5 q2 3)).2 = q4 := ⟨_, rfl⟩
        rw [hps, hq4] at k4
        rw [hq4] at o4
        refine CallK.mk' (.s (.lf (.str s1))) [some zU, some (obR q1), some (obU cH (vKl []) .sl0)] ((frR1 zU [some (obU cH (.sl0) .sl0)] k1 ⟨trivial, trivial⟩ trivial).after (RetK.of ⟨rfl, zU_ws, rfl, obR_ws _, rfl, cmW (WL.sl0ro) (freeL.wl (v := .sl0) trivial), trivial⟩ (by simp) (freeF.wv (v := .s (.lf (.str s1))) trivial))) ?_
        conv => whnf
        refine CallK.mk' _ _ (frR1 zU _ k2 ⟨trivial, trivial⟩ trivial) ?_
        conv => whnf
        refine CallK.mk' (.s (.lf (.own 3 0 3 0 3))) [some zU, some (obR q2), some (obU ⟨cH.cl, cH.sq, cH.kd, cH.id, cH.ep, [], s1, s2, cH.nu, cH.by', cH.tm, cH.ps⟩ (vKl []) .sl0), some (rowsO (tailP 2) 3)] (c171d zU (obR q2) ⟨cH.cl, cH.sq, cH.kd, cH.id, cH.ep, [], s1, s2, cH.nu, cH.by', cH.tm, cH.ps⟩ (vKl []) .sl0 (rowC_free (cs := [])) trivial []) ?_
        conv => whnf
        have h179 := c179td zU ⟨cH.cl, cH.sq, cH.kd, cH.id, cH.ep, [], s1, s2, cH.nu, cH.by', cH.tm, cH.ps⟩ (vKl []) .sl0 (rowC_free (cs := [])) trivial q2 o2 [some (rowsO (tailP 2) 3)] 3 rfl (by decide)
        rw [tk5] at h179
        refine CallK.mk' (.tup []) [some zU, some (obR (tkR 5 q2 3)), some (obU ⟨cH.cl, cH.sq, cH.kd, cH.id, cH.ep, [], s1, s2, (tkC 5 cm0 q2 3).nu, (tkC 5 cm0 q2 3).by', (tkC 5 cm0 q2 3).tm, cH.ps⟩ (vKl []) .sl0), some (rowsO (tailP 2) 3)] h179 ?_
        conv => whnf
        refine CallK.mk' _ _ (frR1 zU _ k4 trivial (rowP_free (ps := ps))) ?_
        conv => whnf
        have hcm : cmR b (cvR b).1 = ⟨cH.cl, cH.sq, cH.kd, cH.id, cH.ep, [], s1, s2, (tkC 5 cm0 q2 3).nu, (tkC 5 cm0 q2 3).by', (tkC 5 cm0 q2 3).tm, ps⟩ := by
          unfold cmR
          simp only [hcH, hcs.1, d1, d2, d4, hs1, hs2, hq2, hps]
        obtain ⟨cT, hcT⟩ : ∃ cT : CmS, cT = ⟨cH.cl, cH.sq, cH.kd, cH.id, cH.ep, [], s1, s2, (tkC 5 cm0 q2 3).nu, (tkC 5 cm0 q2 3).by', (tkC 5 cm0 q2 3).tm, ps⟩ := ⟨_, rfl⟩
        have hD : decM b = finM cT q4 := by unfold decM; rw [hcm, ← hcT, d4, hq4]
        rw [hD]
        have h112 := c112 cT
        rw [show vM cT = .s (.agg (segsM ⟨cH.cl, cH.sq, cH.kd, cH.id, cH.ep, [], s1, s2, (tkC 5 cm0 q2 3).nu, (tkC 5 cm0 q2 3).by', (tkC 5 cm0 q2 3).tm, ps⟩)) by rw [hcT]] at h112
        refine CallK.mk' _ _ (h112.free _ ⟨⟨trivial, trivial, trivial, trivial, trivial, rowC_free (cs := []), trivial, trivial, trivial, trivial, trivial, rowP_free (ps := ps), trivial⟩, trivial⟩ trivial) ?_
        conv => whnf
        cases hok : okM cT with
        | false =>
          have e1 : checkM cT = 1 := by unfold checkM; rw [hok]; rfl
          rw [e1]
          refine CaseB.of_true rfl ?_
          conv => whnf
          refine CallK.mk' _ _ (frR1 zU _ (c146 q4 3) ⟨trivial, trivial⟩ trivial) ?_
          conv => whnf
          have o5 := failR_ok o4 (e := 3) (by decide) (by decide)
          refine CallK.mk' _ _ (frR1 zU _ (c85 (failR q4 3) o5) trivial trivial) ?_
          conv => whnf
          have hf : finM cT q4 = (cm0, endF (failR q4 3)) ∧ endF (failR q4 3) ≠ 0 := by
            unfold finM
            by_cases hz : q4.e = 0
            · rw [if_neg (fun h => h hz), hok, failR_new hz]
              exact ⟨rfl, by decide⟩
            · rw [if_pos hz, failR_err hz]
              exact ⟨rfl, by rw [endF_err o4 hz]; exact hz⟩
          rw [hf.1]
          refine CaseB.of_true (decide_eq_true hf.2) ?_
          conv => whnf
          exact RetK.empty (WV.tup ⟨WV.agg (cmW (c := cm0) WL.sl0ro WL.sl0ro), WV.lf (WL.int rfl), trivial⟩)
        | true =>
          have e1 : checkM cT = 0 := by unfold checkM; rw [hok]; rfl
          rw [e1]
          refine CaseB.of_false rfl ?_
          conv => whnf
          refine CallK.mk' _ _ (frR1 zU _ (c85 q4 o4) trivial trivial) ?_
          conv => whnf
          by_cases hz : endF q4 = 0
          · refine CaseB.of_false (decide_eq_false (fun h => h hz)) ?_
            conv => whnf
            have he : q4.e = 0 := by
              by_cases h : q4.e = 0
              · exact h
              · rw [endF_err o4 h] at hz; exact hz
            have hf : finM cT q4 = (cT, 0) := by unfold finM; rw [if_neg (fun h => h he), hok, if_pos rfl, if_pos hz]
            rw [hf, hcT]
            exact RetK.empty (WV.tup ⟨WV.agg (cmW (freeL.wl (rowC_free (cs := []))) (freeL.wl (rowP_free (ps := ps)))), WV.lf (WL.int rfl), trivial⟩)
          · refine CaseB.of_true (decide_eq_true hz) ?_
            conv => whnf
            have hf : finM cT q4 = (cm0, endF q4) := by
              unfold finM
              by_cases he : q4.e = 0
              · rw [if_neg (fun h => h he), hok, if_pos rfl, if_neg hz]
              · rw [if_pos he]
            rw [hf]
            exact RetK.empty (WV.tup ⟨WV.agg (cmW (c := cm0) WL.sl0ro WL.sl0ro), WV.lf (WL.int rfl), trivial⟩)
      | cons a l =>
        conv => whnf
        refine CaseB.of_true (decide_eq_true (by omega)) ?_
        conv => whnf
        refine CallK.mk' _ _ (frR1 zU _ (c68 q) trivial trivial) ?_
        conv => whnf
        refine CaseB.of_false (decide_eq_false he) ?_
        conv => whnf
        have hcs : (cvR b).1 = (a :: l) ∧ (cvR b).2 = q := by
          have e : cvR b = readsC n r1 := by unfold cvR hdR; rw [hrh]; exact hA
          rw [e]
          exact ⟨haf.symm, hbf.symm⟩
        have o1 := textR_ok hq 16
        have k1 := c145 q 16 hq
        have d1 : spR b = textR q 16 := by unfold spR; rw [hcs.2]
        obtain ⟨s1, hs1⟩ : ∃ s1, (textR q 16).1 = s1 := ⟨_, rfl⟩
        obtain ⟨q1, hq1⟩ : ∃ q1, (textR q 16).2 = q1 := ⟨_, rfl⟩
        rw [hs1, hq1] at k1
        rw [hq1] at o1
        have o2 := textR_ok o1 16
        have k2 := c145 q1 16 o1
        have d2 : nmR b = textR q1 16 := by unfold nmR; rw [d1, hq1]
        obtain ⟨s2, hs2⟩ : ∃ s2, (textR q1 16).1 = s2 := ⟨_, rfl⟩
        obtain ⟨q2, hq2⟩ : ∃ q2, (textR q1 16).2 = q2 := ⟨_, rfl⟩
        rw [hs2, hq2] at k2
        rw [hq2] at o2
        have o3 := tkR_ok 5 o2 3
        have d3 : tlR b = tkR 5 q2 3 := by unfold tlR; rw [d2, hq2]
        have o4 := allPc_ok o3
        have k4 := c180 (tkR 5 q2 3) o3
        have d4 : psR b = allPc (tkR 5 q2 3) := by unfold psR; rw [d3]
        obtain ⟨ps, hps⟩ : ∃ ps, keptP (allPc (tkR 5 q2 3)) = ps := ⟨_, rfl⟩
        obtain ⟨q4, hq4⟩ : ∃ q4, (allPc (tkR 5 q2 3)).2 = q4 := ⟨_, rfl⟩
        rw [hps, hq4] at k4
        rw [hq4] at o4
        refine CallK.mk' (.s (.lf (.str s1))) [some zU, some (obR q1), some (obU cH (vKl (a :: l)) .sl0), none] ((frR1 zU [some (obU cH (.own 3 0 3 0 (a :: l).length) .sl0), some ⟨23, [.recs 3 (a :: l).length (rowC (a :: l))]⟩] k1 ⟨trivial, trivial⟩ trivial).after (RetK.of ⟨rfl, zU_ws, rfl, obR_ws _, rfl, cmW (WL.lentC (ty := 23) rfl rfl rfl (fun _ _ _ _ => rfl) gone3) (freeL.wl (v := .sl0) trivial), trivial⟩ (by simp) (freeF.wv (v := .s (.lf (.str s1))) trivial))) ?_
        conv => whnf
        refine CallK.mk' _ _ (frR1 zU _ k2 ⟨trivial, trivial⟩ trivial) ?_
        conv => whnf
        refine CallK.mk' (.s (.lf (.own 4 0 3 0 3))) [some zU, some (obR q2), some (obU ⟨cH.cl, cH.sq, cH.kd, cH.id, cH.ep, (a :: l), s1, s2, cH.nu, cH.by', cH.tm, cH.ps⟩ (vKl (a :: l)) .sl0), none, some (rowsO (tailP 2) 3)] (c171d zU (obR q2) ⟨cH.cl, cH.sq, cH.kd, cH.id, cH.ep, (a :: l), s1, s2, cH.nu, cH.by', cH.tm, cH.ps⟩ (vKl (a :: l)) .sl0 (rowC_free (cs := (a :: l))) trivial [none]) ?_
        conv => whnf
        have h179 := c179td zU ⟨cH.cl, cH.sq, cH.kd, cH.id, cH.ep, (a :: l), s1, s2, cH.nu, cH.by', cH.tm, cH.ps⟩ (vKl (a :: l)) .sl0 (rowC_free (cs := (a :: l))) trivial q2 o2 [none, some (rowsO (tailP 2) 3)] 4 rfl (by decide)
        rw [tk5] at h179
        refine CallK.mk' (.tup []) [some zU, some (obR (tkR 5 q2 3)), some (obU ⟨cH.cl, cH.sq, cH.kd, cH.id, cH.ep, (a :: l), s1, s2, (tkC 5 cm0 q2 3).nu, (tkC 5 cm0 q2 3).by', (tkC 5 cm0 q2 3).tm, cH.ps⟩ (vKl (a :: l)) .sl0), none, some (rowsO (tailP 2) 3)] h179 ?_
        conv => whnf
        refine CallK.mk' _ _ (frR1 zU _ k4 trivial (rowP_free (ps := ps))) ?_
        conv => whnf
        have hcm : cmR b (cvR b).1 = ⟨cH.cl, cH.sq, cH.kd, cH.id, cH.ep, (a :: l), s1, s2, (tkC 5 cm0 q2 3).nu, (tkC 5 cm0 q2 3).by', (tkC 5 cm0 q2 3).tm, ps⟩ := by
          unfold cmR
          simp only [hcH, hcs.1, d1, d2, d4, hs1, hs2, hq2, hps]
        obtain ⟨cT, hcT⟩ : ∃ cT : CmS, cT = ⟨cH.cl, cH.sq, cH.kd, cH.id, cH.ep, (a :: l), s1, s2, (tkC 5 cm0 q2 3).nu, (tkC 5 cm0 q2 3).by', (tkC 5 cm0 q2 3).tm, ps⟩ := ⟨_, rfl⟩
        have hD : decM b = finM cT q4 := by unfold decM; rw [hcm, ← hcT, d4, hq4]
        rw [hD]
        have h112 := c112 cT
        rw [show vM cT = .s (.agg (segsM ⟨cH.cl, cH.sq, cH.kd, cH.id, cH.ep, (a :: l), s1, s2, (tkC 5 cm0 q2 3).nu, (tkC 5 cm0 q2 3).by', (tkC 5 cm0 q2 3).tm, ps⟩)) by rw [hcT]] at h112
        refine CallK.mk' _ _ (h112.free _ ⟨⟨trivial, trivial, trivial, trivial, trivial, rowC_free (cs := (a :: l)), trivial, trivial, trivial, trivial, trivial, rowP_free (ps := ps), trivial⟩, trivial⟩ trivial) ?_
        conv => whnf
        cases hok : okM cT with
        | false =>
          have e1 : checkM cT = 1 := by unfold checkM; rw [hok]; rfl
          rw [e1]
          refine CaseB.of_true rfl ?_
          conv => whnf
          refine CallK.mk' _ _ (frR1 zU _ (c146 q4 3) ⟨trivial, trivial⟩ trivial) ?_
          conv => whnf
          have o5 := failR_ok o4 (e := 3) (by decide) (by decide)
          refine CallK.mk' _ _ (frR1 zU _ (c85 (failR q4 3) o5) trivial trivial) ?_
          conv => whnf
          have hf : finM cT q4 = (cm0, endF (failR q4 3)) ∧ endF (failR q4 3) ≠ 0 := by
            unfold finM
            by_cases hz : q4.e = 0
            · rw [if_neg (fun h => h hz), hok, failR_new hz]
              exact ⟨rfl, by decide⟩
            · rw [if_pos hz, failR_err hz]
              exact ⟨rfl, by rw [endF_err o4 hz]; exact hz⟩
          rw [hf.1]
          refine CaseB.of_true (decide_eq_true hf.2) ?_
          conv => whnf
          exact RetK.empty (WV.tup ⟨WV.agg (cmW (c := cm0) WL.sl0ro WL.sl0ro), WV.lf (WL.int rfl), trivial⟩)
        | true =>
          have e1 : checkM cT = 0 := by unfold checkM; rw [hok]; rfl
          rw [e1]
          refine CaseB.of_false rfl ?_
          conv => whnf
          refine CallK.mk' _ _ (frR1 zU _ (c85 q4 o4) trivial trivial) ?_
          conv => whnf
          by_cases hz : endF q4 = 0
          · refine CaseB.of_false (decide_eq_false (fun h => h hz)) ?_
            conv => whnf
            have he : q4.e = 0 := by
              by_cases h : q4.e = 0
              · exact h
              · rw [endF_err o4 h] at hz; exact hz
            have hf : finM cT q4 = (cT, 0) := by unfold finM; rw [if_neg (fun h => h he), hok, if_pos rfl, if_pos hz]
            rw [hf, hcT]
            exact RetK.empty (WV.tup ⟨WV.agg (cmW (freeL.wl (rowC_free (cs := (a :: l)))) (freeL.wl (rowP_free (ps := ps)))), WV.lf (WL.int rfl), trivial⟩)
          · refine CaseB.of_true (decide_eq_true hz) ?_
            conv => whnf
            have hf : finM cT q4 = (cm0, endF q4) := by
              unfold finM
              by_cases he : q4.e = 0
              · rw [if_neg (fun h => h he), hok, if_pos rfl, if_neg hz]
              · rw [if_pos he]
            rw [hf]
            exact RetK.empty (WV.tup ⟨WV.agg (cmW (c := cm0) WL.sl0ro WL.sl0ro), WV.lf (WL.int rfl), trivial⟩)
    have hS : readsC (m + 1) q = ((readC q).1 :: (readsC m (readC q).2).1, (readsC m (readC q).2).2) := by conv => lhs; unfold readsC; rw [if_neg (fun h => h he)]
    rw [hS] at ha hb'
    have hq2 := readC_ok hq
    have h66 := c66 q hq
    obtain ⟨c, hc⟩ : ∃ c, (readC q).1 = c := ⟨_, rfl⟩
    obtain ⟨q2, hq2'⟩ : ∃ q2, (readC q).2 = q2 := ⟨_, rfl⟩
    rw [hc, hq2'] at ha h66
    rw [hq2'] at hb' hq2
    have ha' : acc ++ [c] ++ (readsC m q2).1 = (readsC n r1).1 := by rw [← ha]; simp
    cases acc with
    | nil =>
      conv => whnf
      refine CaseB.of_true (decide_eq_true (by omega)) ?_
      conv => whnf
      refine CallK.mk' _ _ (frR1 zU _ (c68 q) trivial trivial) ?_
      conv => whnf
      refine CaseB.of_true (decide_eq_true he) ?_
      conv => whnf
      refine DrawK.mk1 tok mixed [0, 1, 0, 4, 12, 31, 63, 127] [(2, 0, []), (3, 2, []), (4, 2, []), (0, 1, [0, 1, 2]), (1, 1, [0, 1, 2]), (5, 2, []), (6, 1, [0]), (7, 2, [])] (by kernel_rfl) ?_
      conv => whnf
      refine CallK.mk' _ [some zU, some (obR q2), some (obU cH .sl0 .sl0)] (frR1 zU _ h66 trivial ⟨trivial, trivial, trivial, trivial⟩) ?_
      conv => whnf
      refine Or.inr ?_
      conv => whnf
      repeat (refine And.intro rfl ?_; conv => whnf)
      refine And.intro (by show (0 + 1) * 32 ≤ _; omega) ?_
      conv => whnf
      repeat (refine And.intro rfl ?_; conv => whnf)
      refine ⟨(m, q2, [c]), ⟨hq2, ha', hb', by simp only [List.length_nil, List.length_cons] at hl ⊢; omega⟩, by show m < m + 1; omega, ?_⟩
      exact Weak.perm [0, 1, 2, 3] ⟨⟨rfl, zU_ws⟩, ⟨rfl, obR_ws _⟩, ⟨rfl, cmW (WL.own rfl rfl rfl rfl) (freeL.wl (v := .sl0) trivial)⟩, ⟨rfl, .recs rfl fun i hi j hj => by
          have hi : i < 0 + 1 := hi
          obtain rfl : i = 0 := by omega
          have : j = 0 ∨ j = 1 ∨ j = 2 := by have : j < 3 := hj; omega
          rcases this with rfl | rfl | rfl
          · exact plainL.wl (v := .int .i64 c.k) trivial
          · exact plainL.wl (v := .int .i64 c.n) trivial
          · exact plainL.wl (v := .str c.s) trivial, trivial⟩, trivial⟩ ⟨WV.lf (WL.int (by rw [wrap_i64 (by omega) (by omega)]; omega)), WV.lf (WL.ptr rfl rfl), WV.lf (WL.ptr rfl rfl), WV.lf (WL.int rfl), WV.lf (WL.ptr rfl rfl), trivial⟩ rfl (by show 4 ≤ 4; omega) rfl (by show 0 ≤ 4; omega)
    | cons a l =>
      conv => whnf
      refine CaseB.of_true (decide_eq_true (by omega)) ?_
      conv => whnf
      refine CallK.mk' _ _ (frR1 zU _ (c68 q) trivial trivial) ?_
      conv => whnf
      refine CaseB.of_true (decide_eq_true he) ?_
      conv => whnf
      refine DrawK.mk1 tok mixed [0, 1, 0, 4, 12, 31, 63, 127] [(2, 0, []), (3, 2, []), (4, 2, []), (0, 1, [0, 1, 2]), (1, 1, [0, 1, 2]), (5, 2, []), (6, 1, [0]), (7, 2, [])] (by kernel_rfl) ?_
      conv => whnf
      refine CallK.mk' _ [some zU, some (obR q2), some (obU cH (.own 3 0 3 0 (a :: l).length) .sl0), some ⟨23, [.recs 3 (a :: l).length (rowC (a :: l))]⟩] (frR1 zU _ h66 trivial ⟨trivial, trivial, trivial, trivial⟩) ?_
      conv => whnf
      refine Or.inr ?_
      conv => whnf
      repeat (refine And.intro rfl ?_; conv => whnf)
      refine And.intro (by omega) ?_
      conv => whnf
      refine And.intro ⟨rfl, by show ((a :: l).length + 1) * 32 ≤ _; omega⟩ ?_
      conv => whnf
      repeat (refine And.intro rfl ?_; conv => whnf)
      refine ⟨(m, q2, a :: l ++ [c]), ⟨hq2, ha', hb', by show (a :: l ++ [c]).length + m = n; rw [List.length_append]; simp only [List.length_cons, List.length_nil] at hl ⊢; omega⟩, by show m < m + 1; omega, ?_⟩
      have hlc : (a :: l).length + 1 = (a :: (l ++ [c])).length := by simp
      exact Weak.perm [0, 1, 2, 4] ⟨⟨rfl, zU_ws⟩, ⟨rfl, obR_ws _⟩, ⟨rfl, cmW (WL.own rfl rfl rfl hlc) (freeL.wl (v := .sl0) trivial)⟩, ⟨rfl, .recs hlc fun i hi j hj => wl_of_eq (rowC_snoc (a :: l) c i j hi hj) (rowC_wl hj), trivial⟩, trivial⟩ ⟨WV.lf (WL.int (by rw [wrap_i64 (by omega) (by omega)]; omega)), WV.lf (WL.ptr rfl rfl), WV.lf (WL.ptr rfl rfl), WV.lf (WL.int rfl), WV.lf (WL.ptr rfl rfl), trivial⟩ rfl (by show 4 ≤ 4; omega) rfl (by show 0 ≤ 4; omega)
end Go.Sym.Md

set_option linter.unusedVariables false
set_option linter.unusedSimpArgs false
set_option maxRecDepth 10000
namespace Go.Sym.Md
open Go Go.Sym

theorem frQ1 {f : FuncId} {l : List FV} {a b : Rd} {ret : FV} (z : OB) (T : Hp) (h : SCalls Proofs.Try.prog f (.s (.lf (.ptr 0 0)) :: l) [some (obQ a)] ret [some (obQ b)]) (hl : freeFs l) (hr : freeF ret) : SCalls Proofs.Try.prog f (.s (.lf (.ptr 1 0)) :: l) (some z :: some (obQ a) :: T) ret (some z :: some (obQ b) :: T) :=
  h.frame1 (H := some z :: some (obQ a) :: T) (nm := 1) (ob2 := obQ b) rfl rfl (obQ_ws _) ⟨WV.lf (WL.ptr rfl rfl), hl.wvs⟩ rfl (obQ_ws _) hr.wv
theorem tkR_s (off : Nat) (r : Rd) (k : Nat) : tkR off r (k + 1) = (numR (tkR off r k) (rhigh (off + k))).2 := rfl
theorem tkR_z (off : Nat) (r : Rd) : tkR off r 0 = r := rfl
theorem tk0 (r : Rd) : tkC 0 cm0 r 5 = ⟨(numR (tkR 0 r 0) 7).1, (numR (tkR 0 r 1) 2147483648).1, (numR (tkR 0 r 2) 14).1, (numR (tkR 0 r 3) 2147483648).1, (numR (tkR 0 r 4) 2147483648).1, [], [], [], 0, 0, 0, []⟩ := by
  simp only [tkC, setM, cm0, rhigh]
theorem tk5' (r : Rd) : (tkC 5 cm0 r 3).nu = (numR (tkR 5 r 0) 2147483648).1 ∧ (tkC 5 cm0 r 3).by' = (numR (tkR 5 r 1) 1099511627776).1 ∧ (tkC 5 cm0 r 3).tm = (numR (tkR 5 r 2) 1099511627776).1 := by
  simp only [tkC, setM, cm0, rhigh, and_self]
attribute [local irreducible] numF checkF hasF okC boundF numR textR readC okP tkR tkC

theorem finM_kept {b : List UInt8} (h : (psR b).2.e = 0 → (cvR b).2.e = 0) : decM b = finM (cmR b (keptC (cvR b))) (psR b).2 := by
  unfold decM finM
  by_cases he : (psR b).2.e = 0
  · have hk : keptC (cvR b) = (cvR b).1 := by unfold keptC; rw [if_neg (fun k => k (h he))]
    rw [hk]
  · rw [if_pos he, if_pos he]

set_option maxHeartbeats 8000000 in
/-- baileyref23.Decode -/
theorem c116 (b : List UInt8) (hb : b.length ≤ 2000) (hs : (psR b).2.e = 0 → (cvR b).2.e = 0) : SCalls Proofs.Try.prog 116 [.s (.lf (.rob false false b))] [] (.tup [.agg (segsM (decM b).1), .lf (.int .i64 (decM b).2)]) [] := by
  rw [finM_kept hs]
  have h0 : (⟨b, 0⟩ : Rd).ok := ⟨fun h => absurd rfl h, by show IntKind.i64.min ≤ 0; decide, by show (0 : Int) ≤ IntKind.i64.max; decide, by show b.length ≤ _; omega⟩
  refine SCalls.intro tok Proofs.Try.func116 ?_
  conv => whnf
  refine CallK.mk' (.s (.lf (.ptr 1 0))) [some zU, some (obQ ⟨b, 0⟩)] ((c65 b (by omega)).made [some zU] (cs := [.s (.lf (.rob false false b))]) (rc := .s (.lf (.ptr 1 0))) (Hn := [some (obQ ⟨b, 0⟩)]) ⟨freeF.wv trivial, trivial⟩ (WV.lf (WL.uptr rfl)) ⟨rfl, obQ_ws _, trivial⟩) ?_
  conv => whnf
  have w0 := numR_ok h0 7
  have k0 := c147 ⟨b, 0⟩ 7 h0
  obtain ⟨a0, ha0⟩ : ∃ a0, (numR ⟨b, 0⟩ 7).1 = a0 := ⟨_, rfl⟩
  obtain ⟨q1, hq1⟩ : ∃ q1, (numR ⟨b, 0⟩ 7).2 = q1 := ⟨_, rfl⟩
  rw [ha0, hq1] at k0
  rw [hq1] at w0
  refine CallK.mk' _ _ (frQ1 zU _ k0 ⟨trivial, trivial⟩ trivial) ?_
  conv => whnf
  have w1 := numR_ok w0 2147483648
  have k1 := c147 q1 2147483648 w0
  obtain ⟨a1, ha1⟩ : ∃ a1, (numR q1 2147483648).1 = a1 := ⟨_, rfl⟩
  obtain ⟨q2, hq2⟩ : ∃ q2, (numR q1 2147483648).2 = q2 := ⟨_, rfl⟩
  rw [ha1, hq2] at k1
  rw [hq2] at w1
  refine CallK.mk' _ _ (frQ1 zU _ k1 ⟨trivial, trivial⟩ trivial) ?_
  conv => whnf
  have w2 := numR_ok w1 14
  have k2 := c147 q2 14 w1
  obtain ⟨a2, ha2⟩ : ∃ a2, (numR q2 14).1 = a2 := ⟨_, rfl⟩
  obtain ⟨q3, hq3⟩ : ∃ q3, (numR q2 14).2 = q3 := ⟨_, rfl⟩
  rw [ha2, hq3] at k2
  rw [hq3] at w2
  refine CallK.mk' _ _ (frQ1 zU _ k2 ⟨trivial, trivial⟩ trivial) ?_
  conv => whnf
  have w3 := numR_ok w2 2147483648
  have k3 := c147 q3 2147483648 w2
  obtain ⟨a3, ha3⟩ : ∃ a3, (numR q3 2147483648).1 = a3 := ⟨_, rfl⟩
  obtain ⟨q4, hq4⟩ : ∃ q4, (numR q3 2147483648).2 = q4 := ⟨_, rfl⟩
  rw [ha3, hq4] at k3
  rw [hq4] at w3
  refine CallK.mk' _ _ (frQ1 zU _ k3 ⟨trivial, trivial⟩ trivial) ?_
  conv => whnf
  have w4 := numR_ok w3 2147483648
  have k4 := c147 q4 2147483648 w3
  obtain ⟨a4, ha4⟩ : ∃ a4, (numR q4 2147483648).1 = a4 := ⟨_, rfl⟩
  obtain ⟨q5, hq5⟩ : ∃ q5, (numR q4 2147483648).2 = q5 := ⟨_, rfl⟩
  rw [ha4, hq5] at k4
  rw [hq5] at w4
  refine CallK.mk' _ _ (frQ1 zU _ k4 ⟨trivial, trivial⟩ trivial) ?_
  conv => whnf
  have w5 := allC_ok w4
  have k5 := c141 q5 w4
  obtain ⟨cs, hcs⟩ : ∃ cs, keptC (allC q5) = cs := ⟨_, rfl⟩
  obtain ⟨q6, hq6⟩ : ∃ q6, (allC q5).2 = q6 := ⟨_, rfl⟩
  rw [hcs, hq6] at k5
  rw [hq6] at w5
  refine CallK.mk' _ _ (frQ1 zU _ k5 trivial (rowC_free (cs := cs))) ?_
  conv => whnf
  have w6 := textR_ok w5 16
  have k6 := c149 q6 16 w5
  obtain ⟨s1, hs1⟩ : ∃ s1, (textR q6 16).1 = s1 := ⟨_, rfl⟩
  obtain ⟨q7, hq7⟩ : ∃ q7, (textR q6 16).2 = q7 := ⟨_, rfl⟩
  rw [hs1, hq7] at k6
  rw [hq7] at w6
  refine CallK.mk' _ _ (frQ1 zU _ k6 ⟨trivial, trivial⟩ trivial) ?_
  conv => whnf
  have w7 := textR_ok w6 16
  have k7 := c149 q7 16 w6
  obtain ⟨s2, hs2⟩ : ∃ s2, (textR q7 16).1 = s2 := ⟨_, rfl⟩
  obtain ⟨q8, hq8⟩ : ∃ q8, (textR q7 16).2 = q8 := ⟨_, rfl⟩
  rw [hs2, hq8] at k7
  rw [hq8] at w7
  refine CallK.mk' _ _ (frQ1 zU _ k7 ⟨trivial, trivial⟩ trivial) ?_
  conv => whnf
  have w8 := numR_ok w7 2147483648
  have k8 := c147 q8 2147483648 w7
  obtain ⟨b0, hb0⟩ : ∃ b0, (numR q8 2147483648).1 = b0 := ⟨_, rfl⟩
  obtain ⟨q9, hq9⟩ : ∃ q9, (numR q8 2147483648).2 = q9 := ⟨_, rfl⟩
  rw [hb0, hq9] at k8
  rw [hq9] at w8
  refine CallK.mk' _ _ (frQ1 zU _ k8 ⟨trivial, trivial⟩ trivial) ?_
  conv => whnf
  have w9 := numR_ok w8 1099511627776
  have k9 := c147 q9 1099511627776 w8
  obtain ⟨b1, hb1⟩ : ∃ b1, (numR q9 1099511627776).1 = b1 := ⟨_, rfl⟩
  obtain ⟨q10, hq10⟩ : ∃ q10, (numR q9 1099511627776).2 = q10 := ⟨_, rfl⟩
  rw [hb1, hq10] at k9
  rw [hq10] at w9
  refine CallK.mk' _ _ (frQ1 zU _ k9 ⟨trivial, trivial⟩ trivial) ?_
  conv => whnf
  have w10 := numR_ok w9 1099511627776
  have k10 := c147 q10 1099511627776 w9
  obtain ⟨b2, hb2⟩ : ∃ b2, (numR q10 1099511627776).1 = b2 := ⟨_, rfl⟩
  obtain ⟨q11, hq11⟩ : ∃ q11, (numR q10 1099511627776).2 = q11 := ⟨_, rfl⟩
  rw [hb2, hq11] at k10
  rw [hq11] at w10
  refine CallK.mk' _ _ (frQ1 zU _ k10 ⟨trivial, trivial⟩ trivial) ?_
  conv => whnf
  have w11 := allPc_ok w10
  have k11 := c181 q11 w10
  obtain ⟨ps, hps⟩ : ∃ ps, keptP (allPc q11) = ps := ⟨_, rfl⟩
  obtain ⟨q12, hq12⟩ : ∃ q12, (allPc q11).2 = q12 := ⟨_, rfl⟩
  rw [hps, hq12] at k11
  rw [hq12] at w11
  refine CallK.mk' _ _ (frQ1 zU _ k11 trivial (rowP_free (ps := ps))) ?_
  conv => whnf
  have t1 : tkR 0 ⟨b, 0⟩ 1 = q1 := by rw [tkR_s, tkR_z]; exact hq1
  have t2 : tkR 0 ⟨b, 0⟩ 2 = q2 := by rw [tkR_s, t1]; exact hq2
  have t3 : tkR 0 ⟨b, 0⟩ 3 = q3 := by rw [tkR_s, t2]; exact hq3
  have t4 : tkR 0 ⟨b, 0⟩ 4 = q4 := by rw [tkR_s, t3]; exact hq4
  have t5 : tkR 0 ⟨b, 0⟩ 5 = q5 := by rw [tkR_s, t4]; exact hq5
  have d0 : cvR b = allC q5 := by unfold cvR hdR; rw [t5]
  have d1 : spR b = textR q6 16 := by unfold spR; rw [d0, hq6]
  have d2 : nmR b = textR q7 16 := by unfold nmR; rw [d1, hq7]
  have u1 : tkR 5 q8 1 = q9 := by rw [tkR_s, tkR_z]; exact hq9
  have u2 : tkR 5 q8 2 = q10 := by rw [tkR_s, u1]; exact hq10
  have u3 : tkR 5 q8 3 = q11 := by rw [tkR_s, u2]; exact hq11
  have d3 : tlR b = q11 := by unfold tlR; rw [d2, hq8, u3]
  have d4 : psR b = allPc q11 := by unfold psR; rw [d3]
  have hcm : cmR b (keptC (cvR b)) = ⟨a0, a1, a2, a3, a4, cs, s1, s2, b0, b1, b2, ps⟩ := by
    unfold cmR
    simp only [d0, d1, d2, d4, hcs, hs1, hs2, hq8, hps, tk0, (tk5' q8).1, (tk5' q8).2.1, (tk5' q8).2.2, tkR_z, t1, t2, t3, t4, u1, u2, ha0, ha1, ha2, ha3, ha4, hb0, hb1, hb2]
  obtain ⟨cT, hcT⟩ : ∃ cT : CmS, cT = ⟨a0, a1, a2, a3, a4, cs, s1, s2, b0, b1, b2, ps⟩ := ⟨_, rfl⟩
  rw [hcm, ← hcT, d4, hq12]
  refine CallK.mk' _ _ (frQ1 zU _ (c69 q12) trivial trivial) ?_
  conv => whnf
  have lcs : cs.length ≤ maxLen := by
    have h1 := numR_range w4 8
    have h2 := readsC_len (numR q5 8).1.toNat (numR q5 8).2
    have h3 : cs.length ≤ (allC q5).1.length := by rw [← hcs]; unfold keptC; split <;> simp
    unfold allC at h3
    have : maxLen = 9223372036854775807 := rfl
    omega
  have lps : ps.length ≤ maxLen := by
    have h1 := allPc_len w10
    have h3 : ps.length ≤ (allPc q11).1.length := by rw [← hps]; unfold keptP; split <;> simp
    have : maxLen = 9223372036854775807 := rfl
    omega
  by_cases he : q12.e = 0
  rotate_left
  · refine CaseB.of_false (decide_eq_false he) ?_
    conv => whnf
    refine CallK.mk' _ _ (frQ1 zU _ (c142 q12 w11) trivial trivial) ?_
    conv => whnf
    have hz : endF q12 ≠ 0 := by rw [endF_err w11 he]; exact he
    have hf : finM cT q12 = (cm0, endF q12) := by unfold finM; rw [if_pos he]
    rw [hf]
    refine CaseB.of_true (decide_eq_true hz) ?_
    conv => whnf
    exact RetK.empty (WV.tup ⟨WV.agg (cmW (c := cm0) WL.sl0ro WL.sl0ro), WV.lf (WL.int rfl), trivial⟩)
  refine CaseB.of_true (decide_eq_true he) ?_
  conv => whnf
  have h113 := c113 cT (by rw [hcT]; exact lcs) (by rw [hcT]; exact lps)
  rw [show vM cT = .s (.agg (segsM ⟨a0, a1, a2, a3, a4, cs, s1, s2, b0, b1, b2, ps⟩)) by rw [hcT]] at h113
  refine CallK.mk' _ _ (h113.free _ ⟨⟨trivial, trivial, trivial, trivial, trivial, rowC_free (cs := cs), trivial, trivial, trivial, trivial, trivial, rowP_free (ps := ps), trivial⟩, trivial⟩ trivial) ?_
  conv => whnf
  cases hok : okM cT with
  | false =>
    have e1 : checkM cT = 1 := by unfold checkM; rw [hok]; rfl
    rw [e1]
    refine CaseB.of_true rfl ?_
    conv => whnf
    refine CallK.mk' _ _ (frQ1 zU _ (c148 q12 w11 3) ⟨trivial, trivial⟩ trivial) ?_
    conv => whnf
    have o5 := failR_ok w11 (e := 3) (by decide) (by decide)
    refine CallK.mk' _ _ (frQ1 zU _ (c142 (failR q12 3) o5) trivial trivial) ?_
    conv => whnf
    have hf : finM cT q12 = (cm0, endF (failR q12 3)) ∧ endF (failR q12 3) ≠ 0 := by
      unfold finM
      rw [if_neg (fun h => h he), hok, failR_new he]
      exact ⟨rfl, by decide⟩
    rw [hf.1]
    refine CaseB.of_true (decide_eq_true hf.2) ?_
    conv => whnf
    exact RetK.empty (WV.tup ⟨WV.agg (cmW (c := cm0) WL.sl0ro WL.sl0ro), WV.lf (WL.int rfl), trivial⟩)
  | true =>
    have e1 : checkM cT = 0 := by unfold checkM; rw [hok]; rfl
    rw [e1]
    refine CaseB.of_false rfl ?_
    conv => whnf
    refine CallK.mk' _ _ (frQ1 zU _ (c142 q12 w11) trivial trivial) ?_
    conv => whnf
    by_cases hz : endF q12 = 0
    · refine CaseB.of_false (decide_eq_false (fun h => h hz)) ?_
      conv => whnf
      have hf : finM cT q12 = (cT, 0) := by unfold finM; rw [if_neg (fun h => h he), hok, if_pos rfl, if_pos hz]
      rw [hf, hcT]
      exact RetK.empty (WV.tup ⟨WV.agg (cmW (c := ⟨a0, a1, a2, a3, a4, cs, s1, s2, b0, b1, b2, ps⟩) (freeL.wl (rowC_free (cs := cs))) (freeL.wl (rowP_free (ps := ps)))), WV.lf (WL.int rfl), trivial⟩)
    · refine CaseB.of_true (decide_eq_true hz) ?_
      conv => whnf
      have hf : finM cT q12 = (cm0, endF q12) := by unfold finM; rw [if_neg (fun h => h he), hok, if_pos rfl, if_neg hz]
      rw [hf]
      exact RetK.empty (WV.tup ⟨WV.agg (cmW (c := cm0) WL.sl0ro WL.sl0ro), WV.lf (WL.int rfl), trivial⟩)
end Go.Sym.Md


set_option linter.unusedVariables false
set_option linter.unusedSimpArgs false
set_option maxRecDepth 10000
namespace Go.Sym.Md
open Go Go.Sym

/-! ### Errors stay -/
theorem numR_stay {r : Rd} {m : Int} (h : r.e ≠ 0) : numR r m = (0, r) := by unfold numR; rw [if_pos h]
theorem textR_stay {r : Rd} {m : Int} (h : r.e ≠ 0) : textR r m = ([], r) := by unfold textR; rw [numR_stay h, if_pos h]
theorem tkR_stay (off : Nat) {r : Rd} (h : r.e ≠ 0) : ∀ k, tkR off r k = r
  | 0 => rfl
  | k + 1 => by
    show (numR (tkR off r k) (rhigh (off + k))).2 = r
    rw [tkR_stay off h k, numR_stay h]
theorem psR_err {b : List UInt8} (h : (psR b).2.e = 0) : (cvR b).2.e = 0 := by
  by_cases he : (cvR b).2.e = 0
  · exact he
  · exfalso
    have h1 : (spR b).2 = (cvR b).2 := by unfold spR; rw [textR_stay he]
    have h2 : (nmR b).2 = (cvR b).2 := by unfold nmR; rw [h1, textR_stay he]
    have h3 : tlR b = (cvR b).2 := by unfold tlR; rw [h2, tkR_stay 5 he]
    have h4 : (psR b).2 = (cvR b).2 := by
      unfold psR allPc
      rw [h3, numR_stay he]
      rfl
    rw [h4] at h
    exact he h
theorem decM_len (b : List UInt8) : (decM b).1.cs.length ≤ maxLen ∧ (decM b).1.ps.length ≤ maxLen := by
  have hm : maxLen = 9223372036854775807 := rfl
  unfold decM finM
  split
  · exact ⟨by simp [cm0], by simp [cm0]⟩
  · split
    · rename_i hok
      obtain ⟨_, h2, _, _, _, h6, _⟩ := okM_facts hok
      split
      · exact ⟨by show (cmR b (cvR b).1).cs.length ≤ _; omega, by show (cmR b (cvR b).1).ps.length ≤ _; omega⟩
      · exact ⟨by simp [cm0], by simp [cm0]⟩
    · exact ⟨by simp [cm0], by simp [cm0]⟩
theorem encM_len {c : CmS} (h : okM c = true) : (encM c).length ≤ 2000 := by
  obtain ⟨h1, h2, h3, h4, h5, h6, h7⟩ := okM_facts h
  have hl5 := numsF_len [] (rv c) 5
  have hK0 := codeC_length c.cs c.cs.length (Nat.le_refl _)
  rw [List.take_length] at hK0
  have hs1 := textOk_len h4
  have hs2 := textOk_len h5
  have q1 := numF_length c.sp.length
  have q2 := sz_le c.sp.length
  have q3 := numF_length c.nm.length
  have q4 := sz_le c.nm.length
  have hB : (textsF (numsF [] (rv c) 5 ++ codeC c.cs) c).length ≤ 600 := by
    unfold textsF
    simp only [List.length_append, List.length_nil] at hl5 ⊢
    have : (codeC c.cs).length ≤ 410 := by unfold codeC; omega
    omega
  have hl6 := numsF_len (textsF (numsF [] (rv c) 5 ++ codeC c.cs) c) (fun k => rv c (5 + k)) 3
  have hP := putPs_len (numsF (textsF (numsF [] (rv c) 5 ++ codeC c.cs) c) (fun k => rv c (5 + k)) 3 ++ numZ c.ps.length) c.ps h7 c.ps.length (Nat.le_refl _)
  rw [List.take_length, List.length_append] at hP
  have hz := numZ_len c.ps.length
  unfold encM putPs
  omega
theorem encF_len (c : CmS) : (encF c).1.length ≤ maxLen := by
  have hm : maxLen = 9223372036854775807 := rfl
  unfold encF
  split
  · rename_i h
    have := encM_len h
    show (encM c).length ≤ _
    omega
  · simp
attribute [local irreducible] numF checkF hasF okC boundF numR textR readC okP tkR tkC decM encF checkM

set_option maxHeartbeats 8000000 in
/-- baileylaw23.CommandCodes -/
theorem c22 (c d : CmS) (b : List UInt8) (hcl : c.cs.length ≤ maxLen) (hpl : c.ps.length ≤ maxLen) (hdl : d.cs.length ≤ maxLen) (hbl : b.length ≤ maxLen) : SCalls Proofs.Try.prog 22 [vM c, vM d, .s (.lf (.rob false false b))] [] (.s (.lf .tt)) [] := by
  have hel := encF_len c
  obtain ⟨hdc, hdp⟩ := decM_len b
  refine SCalls.intro tok Proofs.Try.func22 ?_
  conv => whnf
  refine CallK.mk' _ _ ((c72 c hcl).free _ ⟨vM_free c, trivial⟩ trivial) ?_
  conv => whnf
  cases hf : fewM c with
  | false =>
    refine CaseB.of_true rfl ?_
    conv => whnf
    refine CallK.mk' _ _ (c51.free _ trivial trivial) ?_
    conv => whnf
    exact RetK.empty (okF.wv trivial)
  | true =>
  refine CaseB.of_false rfl ?_
  conv => whnf
  refine CallK.mk' _ _ ((c72 d hdl).free _ ⟨vM_free d, trivial⟩ trivial) ?_
  conv => whnf
  cases hf2 : fewM d with
  | false =>
    refine CaseB.of_true rfl ?_
    conv => whnf
    refine CallK.mk' _ _ (c51.free _ trivial trivial) ?_
    conv => whnf
    exact RetK.empty (okF.wv trivial)
  | true =>
  refine CaseB.of_false rfl ?_
  conv => whnf
  by_cases hb : 2000 < (b.length : Int)
  · refine CaseB.of_true (decide_eq_true hb) ?_
    conv => whnf
    refine CallK.mk' _ _ (c51.free _ trivial trivial) ?_
    conv => whnf
    exact RetK.empty (okF.wv trivial)
  refine CaseB.of_false (decide_eq_false hb) ?_
  conv => whnf
  refine CallK.mk' _ _ ((c110 c).free _ ⟨vM_free c, trivial⟩ ⟨trivial, trivial, trivial⟩) ?_
  conv => whnf
  refine CallK.mk' _ _ ((c111 c hcl hpl).free _ ⟨vM_free c, trivial⟩ ⟨trivial, trivial, trivial⟩) ?_
  conv => whnf
  refine DrawK.mk1 tok mixed [0, 0, 3, 7, 15, 15, 63, 127, 255, 511, 1023, 2047, 1023, 8191, 16383, 32767, 65535, 131071, 131071, 524287, 131071, 131071, 4194303, 8388607, 16777215] [(0, 0, []), (1, 0, []), (2, 0, []), (3, 0, []), (4, 0, []), (5, 0, []), (6, 2, []), (7, 0, []), (8, 0, []), (9, 0, []), (10, 1, [0]), (11, 2, []), (12, 1, [0, 1]), (13, 2, []), (14, 0, []), (15, 0, []), (16, 0, []), (17, 1, [0]), (18, 1, [0]), (19, 2, []), (20, 1, [0, 1]), (21, 1, [0, 1]), (22, 2, []), (23, 0, []), (24, 0, [])] (by kernel_rfl) ?_
  conv => whnf
  repeat (first
    | (refine CaseB.of_false (by simp) ?_; conv => whnf)
    | (refine CallK.mk' _ _ ((c57 (encF c).1 (encF c).1 hel).free _ ⟨trivial, trivial, trivial⟩ trivial) ?_; conv => whnf)
    | (refine CallK.mk' _ _ ((c112 c).free _ ⟨vM_free c, trivial⟩ trivial) ?_; conv => whnf)
    | (refine CallK.mk' _ _ ((c113 c hcl hpl).free _ ⟨vM_free c, trivial⟩ trivial) ?_; conv => whnf)
    | (refine CallK.mk' _ _ ((c114 c d hcl hpl).free _ ⟨vM_free c, vM_free d, trivial⟩ trivial) ?_; conv => whnf)
    | (refine CallK.mk' _ _ ((c55 c d hcl hpl).free _ ⟨vM_free c, vM_free d, trivial⟩ trivial) ?_; conv => whnf)
    | (refine And.intro rfl ?_; conv => whnf))
  refine CallK.mk' _ [some (obM c), some (obM d)] ((c115 b (by omega)).free _ ⟨trivial, trivial⟩ ⟨vM_free (decM b).1, trivial, trivial⟩) ?_
  conv => whnf
  refine CallK.mk' _ _ ((c116 b (by omega) psR_err).free _ ⟨trivial, trivial⟩ ⟨vM_free (decM b).1, trivial, trivial⟩) ?_
  conv => whnf
  refine CaseB.of_true (decide_eq_true rfl) ?_
  conv => whnf
  refine CallK.mk' _ _ ((c55 (decM b).1 (decM b).1 hdc hdp).free _ ⟨vM_free _, vM_free _, trivial⟩ trivial) ?_
  conv => whnf
  refine CaseB.of_true (decide_eq_true rfl) ?_
  conv => whnf
  refine CallK.mk' _ _ (c51.free _ trivial trivial) ?_
  conv => whnf
  exact RetK.empty (okF.wv trivial)
end Go.Sym.Md

