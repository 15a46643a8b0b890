/- Contracts of the program's functions, proved by the framework (text TxG), without conditions but those that each theorem states. -/
import Derived.Test.YtlmcdgbjbamdnaaTxF
import Derived.Test.YtlmcdgbjbamdnaaTxD
set_option linter.unusedVariables false
set_option linter.unusedSimpArgs false
set_option maxRecDepth 10000
namespace Go.Sym.Md
open Go Go.Sym

/-! ### What bytes are as a command -/
def cm0 : CmS := ⟨0, 0, 0, 0, 0, [], [], [], 0, 0, 0, []⟩
def hdR (b : List UInt8) : Rd := tkR 0 ⟨b, 0⟩ 5
def cvR (b : List UInt8) : List CV × Rd := allC (hdR b)
def spR (b : List UInt8) : List UInt8 × Rd := textR (cvR b).2 16
def nmR (b : List UInt8) : List UInt8 × Rd := textR (spR b).2 16
def tlR (b : List UInt8) : Rd := tkR 5 (nmR b).2 3
def psR (b : List UInt8) : List PcV × Rd := allPc (tlR b)
def cmR (b : List UInt8) (cs : List CV) : CmS :=
  let h := tkC 0 cm0 ⟨b, 0⟩ 5
  let t := tkC 5 cm0 (nmR b).2 3
  ⟨h.cl, h.sq, h.kd, h.id, h.ep, cs, (spR b).1, (nmR b).1, t.nu, t.by', t.tm, keptP (psR b)⟩
def finM (c : CmS) (q : Rd) : CmS × Int := if q.e ≠ 0 then (cm0, endF q) else if okM c then (if endF q = 0 then (c, 0) else (cm0, endF q)) else (cm0, 3)
def decM (b : List UInt8) : CmS × Int := finM (cmR b (cvR b).1) (psR b).2

abbrev zU : OB := obU cm0 .sl0 .sl0
theorem zU_ws {D : Rel} : WSs D zU.segs zU.segs := cmW (fun _ _ _ _ _ h => h) (fun _ _ _ _ _ h => h)
theorem gone3 {z a b : OB} : gone [some z, some a, some b, none] id noHid 3 := by
  refine ⟨fun h => h, fun i o hi => ?_⟩
  match i, hi with
  | 0, _ => decide
  | 1, _ => decide
  | 2, _ => decide
  | 3, hi => simp at hi
  | k + 4, hi => simp at hi
theorem tk5 (c : CmS) (r : Rd) : tkC 5 c r 3 = ⟨c.cl, c.sq, c.kd, c.id, c.ep, c.cs, c.sp, c.nm, (tkC 5 cm0 r 3).nu, (tkC 5 cm0 r 3).by', (tkC 5 cm0 r 3).tm, c.ps⟩ := by
  simp only [tkC, setM]
def accL (nm : Nat) : List CV → LV
  | [] => .sl0
  | a :: l => .own nm 0 3 0 (a :: l).length
attribute [local irreducible] numF checkF hasF okC boundF numR textR readC okP tkR tkC

set_option maxHeartbeats 8000000 in
/-- command.Decode -/
theorem c115 (b : List UInt8) (hb : b.length ≤ 2000) : SCalls Proofs.Try.prog 115 [.s (.lf (.rob false false b))] [] (.tup [.agg (segsM (decM b).1), .lf (.int .i64 (decM b).2)]) [] := by
  have h0 : (⟨b, 0⟩ : Rd).ok := ⟨fun h => absurd rfl h, by show IntKind.i64.min ≤ 0; decide, by show (0 : Int) ≤ IntKind.i64.max; decide, by show b.length ≤ _; omega⟩
  have hoh : (tkR 0 ⟨b, 0⟩ 5).ok := tkR_ok 0 h0 5
  refine SCalls.intro tok Proofs.Try.func115 ?_
  conv => whnf
  refine CallK.mk' (.s (.lf (.ptr 1 0))) [some zU, some (obR ⟨b, 0⟩)] ((c64 b (by omega)).made [some zU] (cs := [.s (.lf (.rob false false b))]) (rc := .s (.lf (.ptr 1 0))) (Hn := [some (obR ⟨b, 0⟩)]) ⟨freeF.wv trivial, trivial⟩ (WV.lf (WL.uptr rfl)) ⟨rfl, obR_ws _, trivial⟩) ?_
  conv => whnf
  refine CallK.mk' (.s (.lf (.own 3 0 3 0 5))) [some zU, some (obR ⟨b, 0⟩), some (obU cm0 .sl0 .sl0), some (rowsO (headP 2) 5)] (c169d zU (obR ⟨b, 0⟩) cm0 .sl0 .sl0 trivial trivial []) ?_
  conv => whnf
  refine CallK.mk' (.tup []) [some zU, some (obR (tkR 0 ⟨b, 0⟩ 5)), some (obU (tkC 0 cm0 ⟨b, 0⟩ 5) .sl0 .sl0), some (rowsO (headP 2) 5)] (c179hd zU cm0 .sl0 .sl0 trivial trivial ⟨b, 0⟩ h0 [some (rowsO (headP 2) 5)] 3 rfl (by decide)) ?_
  conv => whnf
  obtain ⟨rh, hrh⟩ : ∃ rh, tkR 0 ⟨b, 0⟩ 5 = rh := ⟨_, rfl⟩
  obtain ⟨cH, hcH⟩ : ∃ cH, tkC 0 cm0 ⟨b, 0⟩ 5 = cH := ⟨_, rfl⟩
  rw [hrh] at hoh
  rw [hrh, hcH]
  have hn8 := numR_range hoh 8
  have hno := numR_ok hoh 8
  have h140 := c140 rh 8 hoh
  obtain ⟨n, hn⟩ : ∃ n : Nat, (numR rh 8).1 = n := ⟨(numR rh 8).1.toNat, by omega⟩
  obtain ⟨r1, hr1⟩ : ∃ r1, (numR rh 8).2 = r1 := ⟨_, rfl⟩
  have hA : allC rh = readsC n r1 := by unfold allC; rw [hn, hr1, Int.toNat_natCast]
  rw [hn, hr1] at h140
  rw [hr1] at hno
  rw [hn] at hn8
  refine CallK.mk' _ _ (frR1 zU _ h140 ⟨trivial, trivial⟩ trivial) ?_
  conv => whnf
  refine LoopK.mk3 (fun (m : Nat) (q : Rd) (acc : List CV) => [(6, vI m), (5, .s (.lf (.ptr 2 0))), (4, .s (.lf (.ptr 1 0))), (3, vI 0), (2, .s (.lf (.ptr 0 0)))]) (fun m q acc => some zU :: some (obR q) :: some (obU cH (accL 3 acc) .sl0) :: accH acc)
    (fun m q acc => q.ok ∧ acc ++ (readsC m q).1 = (readsC n r1).1 ∧ (readsC m q).2 = (readsC n r1).2 ∧ acc.length + m = n) (fun m q acc => m) n r1 [] ⟨hno, rfl, rfl, by simp⟩ ?_ ?_
  · exact Weak.perm [0, 1, 2] ⟨⟨rfl, zU_ws⟩, ⟨rfl, obR_ws _⟩, ⟨rfl, cmW (freeL.wl (v := .sl0) trivial) (freeL.wl (v := .sl0) trivial)⟩, trivial⟩ ⟨WV.lf (WL.int rfl), WV.lf (WL.ptr rfl rfl), WV.lf (WL.ptr rfl rfl), WV.lf (WL.int rfl), WV.lf (WL.ptr rfl rfl), trivial⟩ rfl (by show 3 ≤ 3; omega) rfl (by show 0 ≤ 3; omega)
  rintro m q acc ⟨hq, ha, hb', hl⟩
  cases m with
  | zero =>
    have haf : acc = (readsC n r1).1 := by rw [← ha]; exact (List.append_nil acc).symm
    have hbf : q = (readsC n r1).2 := hb'
    cases acc with
    | nil =>
      conv => whnf
      refine CaseB.of_false (decide_eq_false (by omega)) ?_
      conv => whnf
      have hcs : (cvR b).1 = [] ∧ (cvR b).2 = q := by
        have e : cvR b = readsC n r1 := by unfold cvR hdR; rw [hrh]; exact hA
        rw [e]
        exact ⟨haf.symm, hbf.symm⟩
      have o1 := textR_ok hq 16
      have k1 := c145 q 16 hq
      have d1 : spR b = textR q 16 := by unfold spR; rw [hcs.2]
      obtain ⟨s1, hs1⟩ : ∃ s1, (textR q 16).1 = s1 := ⟨_, rfl⟩
      obtain ⟨q1, hq1⟩ : ∃ q1, (textR q 16).2 = q1 := ⟨_, rfl⟩
      rw [hs1, hq1] at k1
      rw [hq1] at o1
      have o2 := textR_ok o1 16
      have k2 := c145 q1 16 o1
      have d2 : nmR b = textR q1 16 := by unfold nmR; rw [d1, hq1]
      obtain ⟨s2, hs2⟩ : ∃ s2, (textR q1 16).1 = s2 := ⟨_, rfl⟩
      obtain ⟨q2, hq2⟩ : ∃ q2, (textR q1 16).2 = q2 := ⟨_, rfl⟩
      rw [hs2, hq2] at k2
      rw [hq2] at o2
      have o3 := tkR_ok 5 o2 3
      have d3 : tlR b = tkR 5 q2 3 := by unfold tlR; rw [d2, hq2]
      have o4 := allPc_ok o3
      have k4 := c180 (tkR 5 q2 3) o3
      have d4 : psR b = allPc (tkR 5 q2 3) := by unfold psR; rw [d3]
      obtain ⟨ps, hps⟩ : ∃ ps, keptP (allPc (tkR 5 q2 3)) = ps := ⟨_, rfl⟩
      obtain ⟨q4, hq4⟩ : ∃ q4, (allPc (tkR 5 q2 3)).2 = q4 := ⟨_, rfl⟩
      rw [hps, hq4] at k4
      rw [hq4] at o4
      refine CallK.mk' (.s (.lf (.str s1))) [some zU, some (obR q1), some (obU cH (vKl []) .sl0)] ((frR1 zU [some (obU cH (.sl0) .sl0)] k1 ⟨trivial, trivial⟩ trivial).after (RetK.of ⟨rfl, zU_ws, rfl, obR_ws _, rfl, cmW (WL.sl0ro) (freeL.wl (v := .sl0) trivial), trivial⟩ (by simp) (freeF.wv (v := .s (.lf (.str s1))) trivial))) ?_
      conv => whnf
      refine CallK.mk' _ _ (frR1 zU _ k2 ⟨trivial, trivial⟩ trivial) ?_
      conv => whnf
      refine CallK.mk' (.s (.lf (.own 3 0 3 0 3))) [some zU, some (obR q2), some (obU ⟨cH.cl, cH.sq, cH.kd, cH.id, cH.ep, [], s1, s2, cH.nu, cH.by', cH.tm, cH.ps⟩ (vKl []) .sl0), some (rowsO (tailP 2) 3)] (c171d zU (obR q2) ⟨cH.cl, cH.sq, cH.kd, cH.id, cH.ep, [], s1, s2, cH.nu, cH.by', cH.tm, cH.ps⟩ (vKl []) .sl0 (rowC_free (cs := [])) trivial []) ?_
      conv => whnf
      have h179 := c179td zU ⟨cH.cl, cH.sq, cH.kd, cH.id, cH.ep, [], s1, s2, cH.nu, cH.by', cH.tm, cH.ps⟩ (vKl []) .sl0 (rowC_free (cs := [])) trivial q2 o2 [some (rowsO (tailP 2) 3)] 3 rfl (by decide)
      rw [tk5] at h179
      refine CallK.mk' (.tup []) [some zU, some (obR (tkR 5 q2 3)), some (obU ⟨cH.cl, cH.sq, cH.kd, cH.id, cH.ep, [], s1, s2, (tkC 5 cm0 q2 3).nu, (tkC 5 cm0 q2 3).by', (tkC 5 cm0 q2 3).tm, cH.ps⟩ (vKl []) .sl0), some (rowsO (tailP 2) 3)] h179 ?_
      conv => whnf
      refine CallK.mk' _ _ (frR1 zU _ k4 trivial (rowP_free (ps := ps))) ?_
      conv => whnf
      have hcm : cmR b (cvR b).1 = ⟨cH.cl, cH.sq, cH.kd, cH.id, cH.ep, [], s1, s2, (tkC 5 cm0 q2 3).nu, (tkC 5 cm0 q2 3).by', (tkC 5 cm0 q2 3).tm, ps⟩ := by
        unfold cmR
        simp only [hcH, hcs.1, d1, d2, d4, hs1, hs2, hq2, hps]
      obtain ⟨cT, hcT⟩ : ∃ cT : CmS, cT = ⟨cH.cl, cH.sq, cH.kd, cH.id, cH.ep, [], s1, s2, (tkC 5 cm0 q2 3).nu, (tkC 5 cm0 q2 3).by', (tkC 5 cm0 q2 3).tm, ps⟩ := ⟨_, rfl⟩
      have hD : decM b = finM cT q4 := by unfold decM; rw [hcm, ← hcT, d4, hq4]
      rw [hD]
      have h112 := c112 cT
      rw [show vM cT = .s (.agg (segsM ⟨cH.cl, cH.sq, cH.kd, cH.id, cH.ep, [], s1, s2, (tkC 5 cm0 q2 3).nu, (tkC 5 cm0 q2 3).by', (tkC 5 cm0 q2 3).tm, ps⟩)) by rw [hcT]] at h112
      refine CallK.mk' _ _ (h112.free _ ⟨⟨trivial, trivial, trivial, trivial, trivial, rowC_free (cs := []), trivial, trivial, trivial, trivial, trivial, rowP_free (ps := ps), trivial⟩, trivial⟩ trivial) ?_
      conv => whnf
      cases hok : okM cT with
      | false =>
        have e1 : checkM cT = 1 := by unfold checkM; rw [hok]; rfl
        rw [e1]
        refine CaseB.of_true rfl ?_
        conv => whnf
        refine CallK.mk' _ _ (frR1 zU _ (c146 q4 3) ⟨trivial, trivial⟩ trivial) ?_
        conv => whnf
        have o5 := failR_ok o4 (e := 3) (by decide) (by decide)
        refine CallK.mk' _ _ (frR1 zU _ (c85 (failR q4 3) o5) trivial trivial) ?_
        conv => whnf
        have hf : finM cT q4 = (cm0, endF (failR q4 3)) ∧ endF (failR q4 3) ≠ 0 := by
          unfold finM
          by_cases hz : q4.e = 0
          · rw [if_neg (fun h => h hz), hok, failR_new hz]
            exact ⟨rfl, by decide⟩
          · rw [if_pos hz, failR_err hz]
            exact ⟨rfl, by rw [endF_err o4 hz]; exact hz⟩
        rw [hf.1]
        refine CaseB.of_true (decide_eq_true hf.2) ?_
        conv => whnf
        exact RetK.empty (WV.tup ⟨WV.agg (cmW (c := cm0) WL.sl0ro WL.sl0ro), WV.lf (WL.int rfl), trivial⟩)
      | true =>
        have e1 : checkM cT = 0 := by unfold checkM; rw [hok]; rfl
        rw [e1]
        refine CaseB.of_false rfl ?_
        conv => whnf
        refine CallK.mk' _ _ (frR1 zU _ (c85 q4 o4) trivial trivial) ?_
        conv => whnf
        by_cases hz : endF q4 = 0
        · refine CaseB.of_false (decide_eq_false (fun h => h hz)) ?_
          conv => whnf
          have he : q4.e = 0 := by
            by_cases h : q4.e = 0
            · exact h
            · rw [endF_err o4 h] at hz; exact hz
          have hf : finM cT q4 = (cT, 0) := by unfold finM; rw [if_neg (fun h => h he), hok, if_pos rfl, if_pos hz]
          rw [hf, hcT]
          exact RetK.empty (WV.tup ⟨WV.agg (cmW (freeL.wl (rowC_free (cs := []))) (freeL.wl (rowP_free (ps := ps)))), WV.lf (WL.int rfl), trivial⟩)
        · refine CaseB.of_true (decide_eq_true hz) ?_
          conv => whnf
          have hf : finM cT q4 = (cm0, endF q4) := by
            unfold finM
            by_cases he : q4.e = 0
            · rw [if_neg (fun h => h he), hok, if_pos rfl, if_neg hz]
            · rw [if_pos he]
          rw [hf]
          exact RetK.empty (WV.tup ⟨WV.agg (cmW (c := cm0) WL.sl0ro WL.sl0ro), WV.lf (WL.int rfl), trivial⟩)
    | cons a l =>
      conv => whnf
      refine CaseB.of_false (decide_eq_false (by omega)) ?_
      conv => whnf
      have hcs : (cvR b).1 = (a :: l) ∧ (cvR b).2 = q := by
        have e : cvR b = readsC n r1 := by unfold cvR hdR; rw [hrh]; exact hA
        rw [e]
        exact ⟨haf.symm, hbf.symm⟩
      have o1 := textR_ok hq 16
      have k1 := c145 q 16 hq
      have d1 : spR b = textR q 16 := by unfold spR; rw [hcs.2]
      obtain ⟨s1, hs1⟩ : ∃ s1, (textR q 16).1 = s1 := ⟨_, rfl⟩
      obtain ⟨q1, hq1⟩ : ∃ q1, (textR q 16).2 = q1 := ⟨_, rfl⟩
      rw [hs1, hq1] at k1
      rw [hq1] at o1
      have o2 := textR_ok o1 16
      have k2 := c145 q1 16 o1
      have d2 : nmR b = textR q1 16 := by unfold nmR; rw [d1, hq1]
      obtain ⟨s2, hs2⟩ : ∃ s2, (textR q1 16).1 = s2 := ⟨_, rfl⟩
      obtain ⟨q2, hq2⟩ : ∃ q2, (textR q1 16).2 = q2 := ⟨_, rfl⟩
      rw [hs2, hq2] at k2
      rw [hq2] at o2
      have o3 := tkR_ok 5 o2 3
      have d3 : tlR b = tkR 5 q2 3 := by unfold tlR; rw [d2, hq2]
      have o4 := allPc_ok o3
      have k4 := c180 (tkR 5 q2 3) o3
      have d4 : psR b = allPc (tkR 5 q2 3) := by unfold psR; rw [d3]
      obtain ⟨ps, hps⟩ : ∃ ps, keptP (allPc (tkR 5 q2 3)) = ps := ⟨_, rfl⟩
      obtain ⟨q4, hq4⟩ : ∃ q4, (allPc (tkR 5 q2 3)).2 = q4 := ⟨_, rfl⟩
      rw [hps, hq4] at k4
      rw [hq4] at o4
      refine CallK.mk' (.s (.lf (.str s1))) [some zU, some (obR q1), some (obU cH (vKl (a :: l)) .sl0), none] ((frR1 zU [some (obU cH (.own 3 0 3 0 (a :: l).length) .sl0), some ⟨23, [.recs 3 (a :: l).length (rowC (a :: l))]⟩] k1 ⟨trivial, trivial⟩ trivial).after (RetK.of ⟨rfl, zU_ws, rfl, obR_ws _, rfl, cmW (WL.lentC (ty := 23) rfl rfl rfl (fun _ _ _ _ => rfl) gone3) (freeL.wl (v := .sl0) trivial), trivial⟩ (by simp) (freeF.wv (v := .s (.lf (.str s1))) trivial))) ?_
      conv => whnf
      refine CallK.mk' _ _ (frR1 zU _ k2 ⟨trivial, trivial⟩ trivial) ?_
      conv => whnf
      refine CallK.mk' (.s (.lf (.own 4 0 3 0 3))) [some zU, some (obR q2), some (obU ⟨cH.cl, cH.sq, cH.kd, cH.id, cH.ep, (a :: l), s1, s2, cH.nu, cH.by', cH.tm, cH.ps⟩ (vKl (a :: l)) .sl0), none, some (rowsO (tailP 2) 3)] (c171d zU (obR q2) ⟨cH.cl, cH.sq, cH.kd, cH.id, cH.ep, (a :: l), s1, s2, cH.nu, cH.by', cH.tm, cH.ps⟩ (vKl (a :: l)) .sl0 (rowC_free (cs := (a :: l))) trivial [none]) ?_
      conv => whnf
      have h179 := c179td zU ⟨cH.cl, cH.sq, cH.kd, cH.id, cH.ep, (a :: l), s1, s2, cH.nu, cH.by', cH.tm, cH.ps⟩ (vKl (a :: l)) .sl0 (rowC_free (cs := (a :: l))) trivial q2 o2 [none, some (rowsO (tailP 2) 3)] 4 rfl (by decide)
      rw [tk5] at h179
      refine CallK.mk' (.tup []) [some zU, some (obR (tkR 5 q2 3)), some (obU ⟨cH.cl, cH.sq, cH.kd, cH.id, cH.ep, (a :: l), s1, s2, (tkC 5 cm0 q2 3).nu, (tkC 5 cm0 q2 3).by', (tkC 5 cm0 q2 3).tm, cH.ps⟩ (vKl (a :: l)) .sl0), none, some (rowsO (tailP 2) 3)] h179 ?_
      conv => whnf
      refine CallK.mk' _ _ (frR1 zU _ k4 trivial (rowP_free (ps := ps))) ?_
      conv => whnf
      have hcm : cmR b (cvR b).1 = ⟨cH.cl, cH.sq, cH.kd, cH.id, cH.ep, (a :: l), s1, s2, (tkC 5 cm0 q2 3).nu, (tkC 5 cm0 q2 3).by', (tkC 5 cm0 q2 3).tm, ps⟩ := by
        unfold cmR
        simp only [hcH, hcs.1, d1, d2, d4, hs1, hs2, hq2, hps]
      obtain ⟨cT, hcT⟩ : ∃ cT : CmS, cT = ⟨cH.cl, cH.sq, cH.kd, cH.id, cH.ep, (a :: l), s1, s2, (tkC 5 cm0 q2 3).nu, (tkC 5 cm0 q2 3).by', (tkC 5 cm0 q2 3).tm, ps⟩ := ⟨_, rfl⟩
      have hD : decM b = finM cT q4 := by unfold decM; rw [hcm, ← hcT, d4, hq4]
      rw [hD]
      have h112 := c112 cT
      rw [show vM cT = .s (.agg (segsM ⟨cH.cl, cH.sq, cH.kd, cH.id, cH.ep, (a :: l), s1, s2, (tkC 5 cm0 q2 3).nu, (tkC 5 cm0 q2 3).by', (tkC 5 cm0 q2 3).tm, ps⟩)) by rw [hcT]] at h112
      refine CallK.mk' _ _ (h112.free _ ⟨⟨trivial, trivial, trivial, trivial, trivial, rowC_free (cs := (a :: l)), trivial, trivial, trivial, trivial, trivial, rowP_free (ps := ps), trivial⟩, trivial⟩ trivial) ?_
      conv => whnf
      cases hok : okM cT with
      | false =>
        have e1 : checkM cT = 1 := by unfold checkM; rw [hok]; rfl
        rw [e1]
        refine CaseB.of_true rfl ?_
        conv => whnf
        refine CallK.mk' _ _ (frR1 zU _ (c146 q4 3) ⟨trivial, trivial⟩ trivial) ?_
        conv => whnf
        have o5 := failR_ok o4 (e := 3) (by decide) (by decide)
        refine CallK.mk' _ _ (frR1 zU _ (c85 (failR q4 3) o5) trivial trivial) ?_
        conv => whnf
        have hf : finM cT q4 = (cm0, endF (failR q4 3)) ∧ endF (failR q4 3) ≠ 0 := by
          unfold finM
          by_cases hz : q4.e = 0
          · rw [if_neg (fun h => h hz), hok, failR_new hz]
            exact ⟨rfl, by decide⟩
          · rw [if_pos hz, failR_err hz]
            exact ⟨rfl, by rw [endF_err o4 hz]; exact hz⟩
        rw [hf.1]
        refine CaseB.of_true (decide_eq_true hf.2) ?_
        conv => whnf
        exact RetK.empty (WV.tup ⟨WV.agg (cmW (c := cm0) WL.sl0ro WL.sl0ro), WV.lf (WL.int rfl), trivial⟩)
      | true =>
        have e1 : checkM cT = 0 := by unfold checkM; rw [hok]; rfl
        rw [e1]
        refine CaseB.of_false rfl ?_
        conv => whnf
        refine CallK.mk' _ _ (frR1 zU _ (c85 q4 o4) trivial trivial) ?_
        conv => whnf
        by_cases hz : endF q4 = 0
        · refine CaseB.of_false (decide_eq_false (fun h => h hz)) ?_
          conv => whnf
          have he : q4.e = 0 := by
            by_cases h : q4.e = 0
            · exact h
            · rw [endF_err o4 h] at hz; exact hz
          have hf : finM cT q4 = (cT, 0) := by unfold finM; rw [if_neg (fun h => h he), hok, if_pos rfl, if_pos hz]
          rw [hf, hcT]
          exact RetK.empty (WV.tup ⟨WV.agg (cmW (freeL.wl (rowC_free (cs := (a :: l)))) (freeL.wl (rowP_free (ps := ps)))), WV.lf (WL.int rfl), trivial⟩)
        · refine CaseB.of_true (decide_eq_true hz) ?_
          conv => whnf
          have hf : finM cT q4 = (cm0, endF q4) := by
            unfold finM
            by_cases he : q4.e = 0
            · rw [if_neg (fun h => h he), hok, if_pos rfl, if_neg hz]
            · rw [if_pos he]
          rw [hf]
          exact RetK.empty (WV.tup ⟨WV.agg (cmW (c := cm0) WL.sl0ro WL.sl0ro), WV.lf (WL.int rfl), trivial⟩)
  | succ m =>
    by_cases he : q.e = 0
    rotate_left
    · have hS := readsC_err (m + 1) he
      have haf : acc = (readsC n r1).1 := by rw [← ha, hS, List.append_nil]
      have hbf : q = (readsC n r1).2 := by rw [← hb', hS]
      cases acc with
      | nil =>
        conv => whnf
        refine CaseB.of_true (decide_eq_true (by omega)) ?_
        conv => whnf
        refine CallK.mk' _ _ (frR1 zU _ (c68 q) trivial trivial) ?_
        conv => whnf
        refine CaseB.of_false (decide_eq_false he) ?_
        conv => whnf
        have hcs : (cvR b).1 = [] ∧ (cvR b).2 = q := by
          have e : cvR b = readsC n r1 := by unfold cvR hdR; rw [hrh]; exact hA
          rw [e]
          exact ⟨haf.symm, hbf.symm⟩
        have o1 := textR_ok hq 16
        have k1 := c145 q 16 hq
        have d1 : spR b = textR q 16 := by unfold spR; rw [hcs.2]
        obtain ⟨s1, hs1⟩ : ∃ s1, (textR q 16).1 = s1 := ⟨_, rfl⟩
        obtain ⟨q1, hq1⟩ : ∃ q1, (textR q 16).2 = q1 := ⟨_, rfl⟩
        rw [hs1, hq1] at k1
        rw [hq1] at o1
        have o2 := textR_ok o1 16
        have k2 := c145 q1 16 o1
        have d2 : nmR b = textR q1 16 := by unfold nmR; rw [d1, hq1]
        obtain ⟨s2, hs2⟩ : ∃ s2, (textR q1 16).1 = s2 := ⟨_, rfl⟩
        obtain ⟨q2, hq2⟩ : ∃ q2, (textR q1 16).2 = q2 := ⟨_, rfl⟩
        rw [hs2, hq2] at k2
        rw [hq2] at o2
        have o3 := tkR_ok 5 o2 3
        have d3 : tlR b = tkR 5 q2 3 := by unfold tlR; rw [d2, hq2]
        have o4 := allPc_ok o3
        have k4 := c180 (tkR 5 q2 3) o3
        have d4 : psR b = allPc (tkR 5 q2 3) := by unfold psR; rw [d3]
        obtain ⟨ps, hps⟩ : ∃ ps, keptP (allPc (tkR 5 q2 3)) = ps := ⟨_, rfl⟩
        obtain ⟨q4, hq4⟩ : ∃ q4, (allPc (tkR 5 q2 3)).2 = q4 := ⟨_, rfl⟩
        rw [hps, hq4] at k4
        rw [hq4] at o4
        refine CallK.mk' (.s (.lf (.str s1))) [some zU, some (obR q1), some (obU cH (vKl []) .sl0)] ((frR1 zU [some (obU cH (.sl0) .sl0)] k1 ⟨trivial, trivial⟩ trivial).after (RetK.of ⟨rfl, zU_ws, rfl, obR_ws _, rfl, cmW (WL.sl0ro) (freeL.wl (v := .sl0) trivial), trivial⟩ (by simp) (freeF.wv (v := .s (.lf (.str s1))) trivial))) ?_
        conv => whnf
        refine CallK.mk' _ _ (frR1 zU _ k2 ⟨trivial, trivial⟩ trivial) ?_
        conv => whnf
        refine CallK.mk' (.s (.lf (.own 3 0 3 0 3))) [some zU, some (obR q2), some (obU ⟨cH.cl, cH.sq, cH.kd, cH.id, cH.ep, [], s1, s2, cH.nu, cH.by', cH.tm, cH.ps⟩ (vKl []) .sl0), some (rowsO (tailP 2) 3)] (c171d zU (obR q2) ⟨cH.cl, cH.sq, cH.kd, cH.id, cH.ep, [], s1, s2, cH.nu, cH.by', cH.tm, cH.ps⟩ (vKl []) .sl0 (rowC_free (cs := [])) trivial []) ?_
        conv => whnf
        have h179 := c179td zU ⟨cH.cl, cH.sq, cH.kd, cH.id, cH.ep, [], s1, s2, cH.nu, cH.by', cH.tm, cH.ps⟩ (vKl []) .sl0 (rowC_free (cs := [])) trivial q2 o2 [some (rowsO (tailP 2) 3)] 3 rfl (by decide)
        rw [tk5] at h179
        refine CallK.mk' (.tup []) [some zU, some (obR (tkR 5 q2 3)), some (obU ⟨cH.cl, cH.sq, cH.kd, cH.id, cH.ep, [], s1, s2, (tkC 5 cm0 q2 3).nu, (tkC 5 cm0 q2 3).by', (tkC 5 cm0 q2 3).tm, cH.ps⟩ (vKl []) .sl0), some (rowsO (tailP 2) 3)] h179 ?_
        conv => whnf
        refine CallK.mk' _ _ (frR1 zU _ k4 trivial (rowP_free (ps := ps))) ?_
        conv => whnf
        have hcm : cmR b (cvR b).1 = ⟨cH.cl, cH.sq, cH.kd, cH.id, cH.ep, [], s1, s2, (tkC 5 cm0 q2 3).nu, (tkC 5 cm0 q2 3).by', (tkC 5 cm0 q2 3).tm, ps⟩ := by
          unfold cmR
          simp only [hcH, hcs.1, d1, d2, d4, hs1, hs2, hq2, hps]
        obtain ⟨cT, hcT⟩ : ∃ cT : CmS, cT = ⟨cH.cl, cH.sq, cH.kd, cH.id, cH.ep, [], s1, s2, (tkC 5 cm0 q2 3).nu, (tkC 5 cm0 q2 3).by', (tkC 5 cm0 q2 3).tm, ps⟩ := ⟨_, rfl⟩
        have hD : decM b = finM cT q4 := by unfold decM; rw [hcm, ← hcT, d4, hq4]
        rw [hD]
        have h112 := c112 cT
        rw [show vM cT = .s (.agg (segsM ⟨cH.cl, cH.sq, cH.kd, cH.id, cH.ep, [], s1, s2, (tkC 5 cm0 q2 3).nu, (tkC 5 cm0 q2 3).by', (tkC 5 cm0 q2 3).tm, ps⟩)) by rw [hcT]] at h112
        refine CallK.mk' _ _ (h112.free _ ⟨⟨trivial, trivial, trivial, trivial, trivial, rowC_free (cs := []), trivial, trivial, trivial, trivial, trivial, rowP_free (ps := ps), trivial⟩, trivial⟩ trivial) ?_
        conv => whnf
        cases hok : okM cT with
        | false =>
          have e1 : checkM cT = 1 := by unfold checkM; rw [hok]; rfl
          rw [e1]
          refine CaseB.of_true rfl ?_
          conv => whnf
          refine CallK.mk' _ _ (frR1 zU _ (c146 q4 3) ⟨trivial, trivial⟩ trivial) ?_
          conv => whnf
          have o5 := failR_ok o4 (e := 3) (by decide) (by decide)
          refine CallK.mk' _ _ (frR1 zU _ (c85 (failR q4 3) o5) trivial trivial) ?_
          conv => whnf
          have hf : finM cT q4 = (cm0, endF (failR q4 3)) ∧ endF (failR q4 3) ≠ 0 := by
            unfold finM
            by_cases hz : q4.e = 0
            · rw [if_neg (fun h => h hz), hok, failR_new hz]
              exact ⟨rfl, by decide⟩
            · rw [if_pos hz, failR_err hz]
              exact ⟨rfl, by rw [endF_err o4 hz]; exact hz⟩
          rw [hf.1]
          refine CaseB.of_true (decide_eq_true hf.2) ?_
          conv => whnf
          exact RetK.empty (WV.tup ⟨WV.agg (cmW (c := cm0) WL.sl0ro WL.sl0ro), WV.lf (WL.int rfl), trivial⟩)
        | true =>
          have e1 : checkM cT = 0 := by unfold checkM; rw [hok]; rfl
          rw [e1]
          refine CaseB.of_false rfl ?_
          conv => whnf
          refine CallK.mk' _ _ (frR1 zU _ (c85 q4 o4) trivial trivial) ?_
          conv => whnf
          by_cases hz : endF q4 = 0
          · refine CaseB.of_false (decide_eq_false (fun h => h hz)) ?_
            conv => whnf
            have he : q4.e = 0 := by
              by_cases h : q4.e = 0
              · exact h
              · rw [endF_err o4 h] at hz; exact hz
            have hf : finM cT q4 = (cT, 0) := by unfold finM; rw [if_neg (fun h => h he), hok, if_pos rfl, if_pos hz]
            rw [hf, hcT]
            exact RetK.empty (WV.tup ⟨WV.agg (cmW (freeL.wl (rowC_free (cs := []))) (freeL.wl (rowP_free (ps := ps)))), WV.lf (WL.int rfl), trivial⟩)
          · refine CaseB.of_true (decide_eq_true hz) ?_
            conv => whnf
            have hf : finM cT q4 = (cm0, endF q4) := by
              unfold finM
              by_cases he : q4.e = 0
              · rw [if_neg (fun h => h he), hok, if_pos rfl, if_neg hz]
              · rw [if_pos he]
            rw [hf]
            exact RetK.empty (WV.tup ⟨WV.agg (cmW (c := cm0) WL.sl0ro WL.sl0ro), WV.lf (WL.int rfl), trivial⟩)
      | cons a l =>
        conv => whnf
        refine CaseB.of_true (decide_eq_true (by omega)) ?_
        conv => whnf
        refine CallK.mk' _ _ (frR1 zU _ (c68 q) trivial trivial) ?_
        conv => whnf
        refine CaseB.of_false (decide_eq_false he) ?_
        conv => whnf
        have hcs : (cvR b).1 = (a :: l) ∧ (cvR b).2 = q := by
          have e : cvR b = readsC n r1 := by unfold cvR hdR; rw [hrh]; exact hA
          rw [e]
          exact ⟨haf.symm, hbf.symm⟩
        have o1 := textR_ok hq 16
        have k1 := c145 q 16 hq
        have d1 : spR b = textR q 16 := by unfold spR; rw [hcs.2]
        obtain ⟨s1, hs1⟩ : ∃ s1, (textR q 16).1 = s1 := ⟨_, rfl⟩
        obtain ⟨q1, hq1⟩ : ∃ q1, (textR q 16).2 = q1 := ⟨_, rfl⟩
        rw [hs1, hq1] at k1
        rw [hq1] at o1
        have o2 := textR_ok o1 16
        have k2 := c145 q1 16 o1
        have d2 : nmR b = textR q1 16 := by unfold nmR; rw [d1, hq1]
        obtain ⟨s2, hs2⟩ : ∃ s2, (textR q1 16).1 = s2 := ⟨_, rfl⟩
        obtain ⟨q2, hq2⟩ : ∃ q2, (textR q1 16).2 = q2 := ⟨_, rfl⟩
        rw [hs2, hq2] at k2
        rw [hq2] at o2
        have o3 := tkR_ok 5 o2 3
        have d3 : tlR b = tkR 5 q2 3 := by unfold tlR; rw [d2, hq2]
        have o4 := allPc_ok o3
        have k4 := c180 (tkR 5 q2 3) o3
        have d4 : psR b = allPc (tkR 5 q2 3) := by unfold psR; rw [d3]
        obtain ⟨ps, hps⟩ : ∃ ps, keptP (allPc (tkR 5 q2 3)) = ps := ⟨_, rfl⟩
        obtain ⟨q4, hq4⟩ : ∃ q4, (allPc (tkR 5 q2 3)).2 = q4 := ⟨_, rfl⟩
        rw [hps, hq4] at k4
        rw [hq4] at o4
        refine CallK.mk' (.s (.lf (.str s1))) [some zU, some (obR q1), some (obU cH (vKl (a :: l)) .sl0), none] ((frR1 zU [some (obU cH (.own 3 0 3 0 (a :: l).length) .sl0), some ⟨23, [.recs 3 (a :: l).length (rowC (a :: l))]⟩] k1 ⟨trivial, trivial⟩ trivial).after (RetK.of ⟨rfl, zU_ws, rfl, obR_ws _, rfl, cmW (WL.lentC (ty := 23) rfl rfl rfl (fun _ _ _ _ => rfl) gone3) (freeL.wl (v := .sl0) trivial), trivial⟩ (by simp) (freeF.wv (v := .s (.lf (.str s1))) trivial))) ?_
        conv => whnf
        refine CallK.mk' _ _ (frR1 zU _ k2 ⟨trivial, trivial⟩ trivial) ?_
        conv => whnf
        refine CallK.mk' (.s (.lf (.own 4 0 3 0 3))) [some zU, some (obR q2), some (obU ⟨cH.cl, cH.sq, cH.kd, cH.id, cH.ep, (a :: l), s1, s2, cH.nu, cH.by', cH.tm, cH.ps⟩ (vKl (a :: l)) .sl0), none, some (rowsO (tailP 2) 3)] (c171d zU (obR q2) ⟨cH.cl, cH.sq, cH.kd, cH.id, cH.ep, (a :: l), s1, s2, cH.nu, cH.by', cH.tm, cH.ps⟩ (vKl (a :: l)) .sl0 (rowC_free (cs := (a :: l))) trivial [none]) ?_
        conv => whnf
        have h179 := c179td zU ⟨cH.cl, cH.sq, cH.kd, cH.id, cH.ep, (a :: l), s1, s2, cH.nu, cH.by', cH.tm, cH.ps⟩ (vKl (a :: l)) .sl0 (rowC_free (cs := (a :: l))) trivial q2 o2 [none, some (rowsO (tailP 2) 3)] 4 rfl (by decide)
        rw [tk5] at h179
        refine CallK.mk' (.tup []) [some zU, some (obR (tkR 5 q2 3)), some (obU ⟨cH.cl, cH.sq, cH.kd, cH.id, cH.ep, (a :: l), s1, s2, (tkC 5 cm0 q2 3).nu, (tkC 5 cm0 q2 3).by', (tkC 5 cm0 q2 3).tm, cH.ps⟩ (vKl (a :: l)) .sl0), none, some (rowsO (tailP 2) 3)] h179 ?_
        conv => whnf
        refine CallK.mk' _ _ (frR1 zU _ k4 trivial (rowP_free (ps := ps))) ?_
        conv => whnf
        have hcm : cmR b (cvR b).1 = ⟨cH.cl, cH.sq, cH.kd, cH.id, cH.ep, (a :: l), s1, s2, (tkC 5 cm0 q2 3).nu, (tkC 5 cm0 q2 3).by', (tkC 5 cm0 q2 3).tm, ps⟩ := by
          unfold cmR
          simp only [hcH, hcs.1, d1, d2, d4, hs1, hs2, hq2, hps]
        obtain ⟨cT, hcT⟩ : ∃ cT : CmS, cT = ⟨cH.cl, cH.sq, cH.kd, cH.id, cH.ep, (a :: l), s1, s2, (tkC 5 cm0 q2 3).nu, (tkC 5 cm0 q2 3).by', (tkC 5 cm0 q2 3).tm, ps⟩ := ⟨_, rfl⟩
        have hD : decM b = finM cT q4 := by unfold decM; rw [hcm, ← hcT, d4, hq4]
        rw [hD]
        have h112 := c112 cT
        rw [show vM cT = .s (.agg (segsM ⟨cH.cl, cH.sq, cH.kd, cH.id, cH.ep, (a :: l), s1, s2, (tkC 5 cm0 q2 3).nu, (tkC 5 cm0 q2 3).by', (tkC 5 cm0 q2 3).tm, ps⟩)) by rw [hcT]] at h112
        refine CallK.mk' _ _ (h112.free _ ⟨⟨trivial, trivial, trivial, trivial, trivial, rowC_free (cs := (a :: l)), trivial, trivial, trivial, trivial, trivial, rowP_free (ps := ps), trivial⟩, trivial⟩ trivial) ?_
        conv => whnf
        cases hok : okM cT with
        | false =>
          have e1 : checkM cT = 1 := by unfold checkM; rw [hok]; rfl
          rw [e1]
          refine CaseB.of_true rfl ?_
          conv => whnf
          refine CallK.mk' _ _ (frR1 zU _ (c146 q4 3) ⟨trivial, trivial⟩ trivial) ?_
          conv => whnf
          have o5 := failR_ok o4 (e := 3) (by decide) (by decide)
          refine CallK.mk' _ _ (frR1 zU _ (c85 (failR q4 3) o5) trivial trivial) ?_
          conv => whnf
          have hf : finM cT q4 = (cm0, endF (failR q4 3)) ∧ endF (failR q4 3) ≠ 0 := by
            unfold finM
            by_cases hz : q4.e = 0
            · rw [if_neg (fun h => h hz), hok, failR_new hz]
              exact ⟨rfl, by decide⟩
            · rw [if_pos hz, failR_err hz]
              exact ⟨rfl, by rw [endF_err o4 hz]; exact hz⟩
          rw [hf.1]
          refine CaseB.of_true (decide_eq_true hf.2) ?_
          conv => whnf
          exact RetK.empty (WV.tup ⟨WV.agg (cmW (c := cm0) WL.sl0ro WL.sl0ro), WV.lf (WL.int rfl), trivial⟩)
        | true =>
          have e1 : checkM cT = 0 := by unfold checkM; rw [hok]; rfl
          rw [e1]
          refine CaseB.of_false rfl ?_
          conv => whnf
          refine CallK.mk' _ _ (frR1 zU _ (c85 q4 o4) trivial trivial) ?_
          conv => whnf
          by_cases hz : endF q4 = 0
          · refine CaseB.of_false (decide_eq_false (fun h => h hz)) ?_
            conv => whnf
            have he : q4.e = 0 := by
              by_cases h : q4.e = 0
              · exact h
              · rw [endF_err o4 h] at hz; exact hz
            have hf : finM cT q4 = (cT, 0) := by unfold finM; rw [if_neg (fun h => h he), hok, if_pos rfl, if_pos hz]
            rw [hf, hcT]
            exact RetK.empty (WV.tup ⟨WV.agg (cmW (freeL.wl (rowC_free (cs := (a :: l)))) (freeL.wl (rowP_free (ps := ps)))), WV.lf (WL.int rfl), trivial⟩)
          · refine CaseB.of_true (decide_eq_true hz) ?_
            conv => whnf
            have hf : finM cT q4 = (cm0, endF q4) := by
              unfold finM
              by_cases he : q4.e = 0
              · rw [if_neg (fun h => h he), hok, if_pos rfl, if_neg hz]
              · rw [if_pos he]
            rw [hf]
            exact RetK.empty (WV.tup ⟨WV.agg (cmW (c := cm0) WL.sl0ro WL.sl0ro), WV.lf (WL.int rfl), trivial⟩)
    have hS : readsC (m + 1) q = ((readC q).1 :: (readsC m (readC q).2).1, (readsC m (readC q).2).2) := by conv => lhs; unfold readsC; rw [if_neg (fun h => h he)]
    rw [hS] at ha hb'
    have hq2 := readC_ok hq
    have h66 := c66 q hq
    obtain ⟨c, hc⟩ : ∃ c, (readC q).1 = c := ⟨_, rfl⟩
    obtain ⟨q2, hq2'⟩ : ∃ q2, (readC q).2 = q2 := ⟨_, rfl⟩
    rw [hc, hq2'] at ha h66
    rw [hq2'] at hb' hq2
    have ha' : acc ++ [c] ++ (readsC m q2).1 = (readsC n r1).1 := by rw [← ha]; simp
    cases acc with
    | nil =>
      conv => whnf
      refine CaseB.of_true (decide_eq_true (by omega)) ?_
      conv => whnf
      refine CallK.mk' _ _ (frR1 zU _ (c68 q) trivial trivial) ?_
      conv => whnf
      refine CaseB.of_true (decide_eq_true he) ?_
      conv => whnf
      refine DrawK.mk1 tok mixed [0, 1, 0, 4, 12, 31, 63, 127] [(2, 0, []), (3, 2, []), (4, 2, []), (0, 1, [0, 1, 2]), (1, 1, [0, 1, 2]), (5, 2, []), (6, 1, [0]), (7, 2, [])] (by kernel_rfl) ?_
      conv => whnf
      refine CallK.mk' _ [some zU, some (obR q2), some (obU cH .sl0 .sl0)] (frR1 zU _ h66 trivial ⟨trivial, trivial, trivial, trivial⟩) ?_
      conv => whnf
      refine Or.inr ?_
      conv => whnf
      repeat (refine And.intro rfl ?_; conv => whnf)
      refine And.intro (by show (0 + 1) * 32 ≤ _; omega) ?_
      conv => whnf
      repeat (refine And.intro rfl ?_; conv => whnf)
      refine ⟨(m, q2, [c]), ⟨hq2, ha', hb', by simp only [List.length_nil, List.length_cons] at hl ⊢; omega⟩, by show m < m + 1; omega, ?_⟩
      exact Weak.perm [0, 1, 2, 3] ⟨⟨rfl, zU_ws⟩, ⟨rfl, obR_ws _⟩, ⟨rfl, cmW (WL.own rfl rfl rfl rfl) (freeL.wl (v := .sl0) trivial)⟩, ⟨rfl, .recs rfl fun i hi j hj => by
          have hi : i < 0 + 1 := hi
          obtain rfl : i = 0 := by omega
          have : j = 0 ∨ j = 1 ∨ j = 2 := by have : j < 3 := hj; omega
          rcases this with rfl | rfl | rfl
          · exact plainL.wl (v := .int .i64 c.k) trivial
          · exact plainL.wl (v := .int .i64 c.n) trivial
          · exact plainL.wl (v := .str c.s) trivial, trivial⟩, trivial⟩ ⟨WV.lf (WL.int (by rw [wrap_i64 (by omega) (by omega)]; omega)), WV.lf (WL.ptr rfl rfl), WV.lf (WL.ptr rfl rfl), WV.lf (WL.int rfl), WV.lf (WL.ptr rfl rfl), trivial⟩ rfl (by show 4 ≤ 4; omega) rfl (by show 0 ≤ 4; omega)
    | cons a l =>
      conv => whnf
      refine CaseB.of_true (decide_eq_true (by omega)) ?_
      conv => whnf
      refine CallK.mk' _ _ (frR1 zU _ (c68 q) trivial trivial) ?_
      conv => whnf
      refine CaseB.of_true (decide_eq_true he) ?_
      conv => whnf
      refine DrawK.mk1 tok mixed [0, 1, 0, 4, 12, 31, 63, 127] [(2, 0, []), (3, 2, []), (4, 2, []), (0, 1, [0, 1, 2]), (1, 1, [0, 1, 2]), (5, 2, []), (6, 1, [0]), (7, 2, [])] (by kernel_rfl) ?_
      conv => whnf
      refine CallK.mk' _ [some zU, some (obR q2), some (obU cH (.own 3 0 3 0 (a :: l).length) .sl0), some ⟨23, [.recs 3 (a :: l).length (rowC (a :: l))]⟩] (frR1 zU _ h66 trivial ⟨trivial, trivial, trivial, trivial⟩) ?_
      conv => whnf
      refine Or.inr ?_
      conv => whnf
      repeat (refine And.intro rfl ?_; conv => whnf)
      refine And.intro (by omega) ?_
      conv => whnf
      refine And.intro ⟨rfl, by show ((a :: l).length + 1) * 32 ≤ _; omega⟩ ?_
      conv => whnf
      repeat (refine And.intro rfl ?_; conv => whnf)
      refine ⟨(m, q2, a :: l ++ [c]), ⟨hq2, ha', hb', by show (a :: l ++ [c]).length + m = n; rw [List.length_append]; simp only [List.length_cons, List.length_nil] at hl ⊢; omega⟩, by show m < m + 1; omega, ?_⟩
      have hlc : (a :: l).length + 1 = (a :: (l ++ [c])).length := by simp
      exact Weak.perm [0, 1, 2, 4] ⟨⟨rfl, zU_ws⟩, ⟨rfl, obR_ws _⟩, ⟨rfl, cmW (WL.own rfl rfl rfl hlc) (freeL.wl (v := .sl0) trivial)⟩, ⟨rfl, .recs hlc fun i hi j hj => wl_of_eq (rowC_snoc (a :: l) c i j hi hj) (rowC_wl hj), trivial⟩, trivial⟩ ⟨WV.lf (WL.int (by rw [wrap_i64 (by omega) (by omega)]; omega)), WV.lf (WL.ptr rfl rfl), WV.lf (WL.ptr rfl rfl), WV.lf (WL.int rfl), WV.lf (WL.ptr rfl rfl), trivial⟩ rfl (by show 4 ≤ 4; omega) rfl (by show 0 ≤ 4; omega)
end Go.Sym.Md

set_option linter.unusedVariables false
set_option linter.unusedSimpArgs false
set_option maxRecDepth 10000
namespace Go.Sym.Md
open Go Go.Sym

theorem frQ1 {f : FuncId} {l : List FV} {a b : Rd} {ret : FV} (z : OB) (T : Hp) (h : SCalls Proofs.Try.prog f (.s (.lf (.ptr 0 0)) :: l) [some (obQ a)] ret [some (obQ b)]) (hl : freeFs l) (hr : freeF ret) : SCalls Proofs.Try.prog f (.s (.lf (.ptr 1 0)) :: l) (some z :: some (obQ a) :: T) ret (some z :: some (obQ b) :: T) :=
  h.frame1 (H := some z :: some (obQ a) :: T) (nm := 1) (ob2 := obQ b) rfl rfl (obQ_ws _) ⟨WV.lf (WL.ptr rfl rfl), hl.wvs⟩ rfl (obQ_ws _) hr.wv
theorem tkR_s (off : Nat) (r : Rd) (k : Nat) : tkR off r (k + 1) = (numR (tkR off r k) (rhigh (off + k))).2 := rfl
theorem tkR_z (off : Nat) (r : Rd) : tkR off r 0 = r := rfl
theorem tk0 (r : Rd) : tkC 0 cm0 r 5 = ⟨(numR (tkR 0 r 0) 7).1, (numR (tkR 0 r 1) 2147483648).1, (numR (tkR 0 r 2) 14).1, (numR (tkR 0 r 3) 2147483648).1, (numR (tkR 0 r 4) 2147483648).1, [], [], [], 0, 0, 0, []⟩ := by
  simp only [tkC, setM, cm0, rhigh]
theorem tk5' (r : Rd) : (tkC 5 cm0 r 3).nu = (numR (tkR 5 r 0) 2147483648).1 ∧ (tkC 5 cm0 r 3).by' = (numR (tkR 5 r 1) 1099511627776).1 ∧ (tkC 5 cm0 r 3).tm = (numR (tkR 5 r 2) 1099511627776).1 := by
  simp only [tkC, setM, cm0, rhigh, and_self]
attribute [local irreducible] numF checkF hasF okC boundF numR textR readC okP tkR tkC

theorem finM_kept {b : List UInt8} (h : (psR b).2.e = 0 → (cvR b).2.e = 0) : decM b = finM (cmR b (keptC (cvR b))) (psR b).2 := by
  unfold decM finM
  by_cases he : (psR b).2.e = 0
  · have hk : keptC (cvR b) = (cvR b).1 := by unfold keptC; rw [if_neg (fun k => k (h he))]
    rw [hk]
  · rw [if_pos he, if_pos he]

set_option maxHeartbeats 8000000 in
/-- baileyref23.Decode -/
theorem c116 (b : List UInt8) (hb : b.length ≤ 2000) (hs : (psR b).2.e = 0 → (cvR b).2.e = 0) : SCalls Proofs.Try.prog 116 [.s (.lf (.rob false false b))] [] (.tup [.agg (segsM (decM b).1), .lf (.int .i64 (decM b).2)]) [] := by
  rw [finM_kept hs]
  have h0 : (⟨b, 0⟩ : Rd).ok := ⟨fun h => absurd rfl h, by show IntKind.i64.min ≤ 0; decide, by show (0 : Int) ≤ IntKind.i64.max; decide, by show b.length ≤ _; omega⟩
  refine SCalls.intro tok Proofs.Try.func116 ?_
  conv => whnf
  refine CallK.mk' (.s (.lf (.ptr 1 0))) [some zU, some (obQ ⟨b, 0⟩)] ((c65 b (by omega)).made [some zU] (cs := [.s (.lf (.rob false false b))]) (rc := .s (.lf (.ptr 1 0))) (Hn := [some (obQ ⟨b, 0⟩)]) ⟨freeF.wv trivial, trivial⟩ (WV.lf (WL.uptr rfl)) ⟨rfl, obQ_ws _, trivial⟩) ?_
  conv => whnf
  have w0 := numR_ok h0 7
  have k0 := c147 ⟨b, 0⟩ 7 h0
  obtain ⟨a0, ha0⟩ : ∃ a0, (numR ⟨b, 0⟩ 7).1 = a0 := ⟨_, rfl⟩
  obtain ⟨q1, hq1⟩ : ∃ q1, (numR ⟨b, 0⟩ 7).2 = q1 := ⟨_, rfl⟩
  rw [ha0, hq1] at k0
  rw [hq1] at w0
  refine CallK.mk' _ _ (frQ1 zU _ k0 ⟨trivial, trivial⟩ trivial) ?_
  conv => whnf
  have w1 := numR_ok w0 2147483648
  have k1 := c147 q1 2147483648 w0
  obtain ⟨a1, ha1⟩ : ∃ a1, (numR q1 2147483648).1 = a1 := ⟨_, rfl⟩
  obtain ⟨q2, hq2⟩ : ∃ q2, (numR q1 2147483648).2 = q2 := ⟨_, rfl⟩
  rw [ha1, hq2] at k1
  rw [hq2] at w1
  refine CallK.mk' _ _ (frQ1 zU _ k1 ⟨trivial, trivial⟩ trivial) ?_
  conv => whnf
  have w2 := numR_ok w1 14
  have k2 := c147 q2 14 w1
  obtain ⟨a2, ha2⟩ : ∃ a2, (numR q2 14).1 = a2 := ⟨_, rfl⟩
  obtain ⟨q3, hq3⟩ : ∃ q3, (numR q2 14).2 = q3 := ⟨_, rfl⟩
  rw [ha2, hq3] at k2
  rw [hq3] at w2
  refine CallK.mk' _ _ (frQ1 zU _ k2 ⟨trivial, trivial⟩ trivial) ?_
  conv => whnf
  have w3 := numR_ok w2 2147483648
  have k3 := c147 q3 2147483648 w2
  obtain ⟨a3, ha3⟩ : ∃ a3, (numR q3 2147483648).1 = a3 := ⟨_, rfl⟩
  obtain ⟨q4, hq4⟩ : ∃ q4, (numR q3 2147483648).2 = q4 := ⟨_, rfl⟩
  rw [ha3, hq4] at k3
  rw [hq4] at w3
  refine CallK.mk' _ _ (frQ1 zU _ k3 ⟨trivial, trivial⟩ trivial) ?_
  conv => whnf
  have w4 := numR_ok w3 2147483648
  have k4 := c147 q4 2147483648 w3
  obtain ⟨a4, ha4⟩ : ∃ a4, (numR q4 2147483648).1 = a4 := ⟨_, rfl⟩
  obtain ⟨q5, hq5⟩ : ∃ q5, (numR q4 2147483648).2 = q5 := ⟨_, rfl⟩
  rw [ha4, hq5] at k4
  rw [hq5] at w4
  refine CallK.mk' _ _ (frQ1 zU _ k4 ⟨trivial, trivial⟩ trivial) ?_
  conv => whnf
  have w5 := allC_ok w4
  have k5 := c141 q5 w4
  obtain ⟨cs, hcs⟩ : ∃ cs, keptC (allC q5) = cs := ⟨_, rfl⟩
  obtain ⟨q6, hq6⟩ : ∃ q6, (allC q5).2 = q6 := ⟨_, rfl⟩
  rw [hcs, hq6] at k5
  rw [hq6] at w5
  refine CallK.mk' _ _ (frQ1 zU _ k5 trivial (rowC_free (cs := cs))) ?_
  conv => whnf
  have w6 := textR_ok w5 16
  have k6 := c149 q6 16 w5
  obtain ⟨s1, hs1⟩ : ∃ s1, (textR q6 16).1 = s1 := ⟨_, rfl⟩
  obtain ⟨q7, hq7⟩ : ∃ q7, (textR q6 16).2 = q7 := ⟨_, rfl⟩
  rw [hs1, hq7] at k6
  rw [hq7] at w6
  refine CallK.mk' _ _ (frQ1 zU _ k6 ⟨trivial, trivial⟩ trivial) ?_
  conv => whnf
  have w7 := textR_ok w6 16
  have k7 := c149 q7 16 w6
  obtain ⟨s2, hs2⟩ : ∃ s2, (textR q7 16).1 = s2 := ⟨_, rfl⟩
  obtain ⟨q8, hq8⟩ : ∃ q8, (textR q7 16).2 = q8 := ⟨_, rfl⟩
  rw [hs2, hq8] at k7
  rw [hq8] at w7
  refine CallK.mk' _ _ (frQ1 zU _ k7 ⟨trivial, trivial⟩ trivial) ?_
  conv => whnf
  have w8 := numR_ok w7 2147483648
  have k8 := c147 q8 2147483648 w7
  obtain ⟨b0, hb0⟩ : ∃ b0, (numR q8 2147483648).1 = b0 := ⟨_, rfl⟩
  obtain ⟨q9, hq9⟩ : ∃ q9, (numR q8 2147483648).2 = q9 := ⟨_, rfl⟩
  rw [hb0, hq9] at k8
  rw [hq9] at w8
  refine CallK.mk' _ _ (frQ1 zU _ k8 ⟨trivial, trivial⟩ trivial) ?_
  conv => whnf
  have w9 := numR_ok w8 1099511627776
  have k9 := c147 q9 1099511627776 w8
  obtain ⟨b1, hb1⟩ : ∃ b1, (numR q9 1099511627776).1 = b1 := ⟨_, rfl⟩
  obtain ⟨q10, hq10⟩ : ∃ q10, (numR q9 1099511627776).2 = q10 := ⟨_, rfl⟩
  rw [hb1, hq10] at k9
  rw [hq10] at w9
  refine CallK.mk' _ _ (frQ1 zU _ k9 ⟨trivial, trivial⟩ trivial) ?_
  conv => whnf
  have w10 := numR_ok w9 1099511627776
  have k10 := c147 q10 1099511627776 w9
  obtain ⟨b2, hb2⟩ : ∃ b2, (numR q10 1099511627776).1 = b2 := ⟨_, rfl⟩
  obtain ⟨q11, hq11⟩ : ∃ q11, (numR q10 1099511627776).2 = q11 := ⟨_, rfl⟩
  rw [hb2, hq11] at k10
  rw [hq11] at w10
  refine CallK.mk' _ _ (frQ1 zU _ k10 ⟨trivial, trivial⟩ trivial) ?_
  conv => whnf
  have w11 := allPc_ok w10
  have k11 := c181 q11 w10
  obtain ⟨ps, hps⟩ : ∃ ps, keptP (allPc q11) = ps := ⟨_, rfl⟩
  obtain ⟨q12, hq12⟩ : ∃ q12, (allPc q11).2 = q12 := ⟨_, rfl⟩
  rw [hps, hq12] at k11
  rw [hq12] at w11
  refine CallK.mk' _ _ (frQ1 zU _ k11 trivial (rowP_free (ps := ps))) ?_
  conv => whnf
  have t1 : tkR 0 ⟨b, 0⟩ 1 = q1 := by rw [tkR_s, tkR_z]; exact hq1
  have t2 : tkR 0 ⟨b, 0⟩ 2 = q2 := by rw [tkR_s, t1]; exact hq2
  have t3 : tkR 0 ⟨b, 0⟩ 3 = q3 := by rw [tkR_s, t2]; exact hq3
  have t4 : tkR 0 ⟨b, 0⟩ 4 = q4 := by rw [tkR_s, t3]; exact hq4
  have t5 : tkR 0 ⟨b, 0⟩ 5 = q5 := by rw [tkR_s, t4]; exact hq5
  have d0 : cvR b = allC q5 := by unfold cvR hdR; rw [t5]
  have d1 : spR b = textR q6 16 := by unfold spR; rw [d0, hq6]
  have d2 : nmR b = textR q7 16 := by unfold nmR; rw [d1, hq7]
  have u1 : tkR 5 q8 1 = q9 := by rw [tkR_s, tkR_z]; exact hq9
  have u2 : tkR 5 q8 2 = q10 := by rw [tkR_s, u1]; exact hq10
  have u3 : tkR 5 q8 3 = q11 := by rw [tkR_s, u2]; exact hq11
  have d3 : tlR b = q11 := by unfold tlR; rw [d2, hq8, u3]
  have d4 : psR b = allPc q11 := by unfold psR; rw [d3]
  have hcm : cmR b (keptC (cvR b)) = ⟨a0, a1, a2, a3, a4, cs, s1, s2, b0, b1, b2, ps⟩ := by
    unfold cmR
    simp only [d0, d1, d2, d4, hcs, hs1, hs2, hq8, hps, tk0, (tk5' q8).1, (tk5' q8).2.1, (tk5' q8).2.2, tkR_z, t1, t2, t3, t4, u1, u2, ha0, ha1, ha2, ha3, ha4, hb0, hb1, hb2]
  obtain ⟨cT, hcT⟩ : ∃ cT : CmS, cT = ⟨a0, a1, a2, a3, a4, cs, s1, s2, b0, b1, b2, ps⟩ := ⟨_, rfl⟩
  rw [hcm, ← hcT, d4, hq12]
  refine CallK.mk' _ _ (frQ1 zU _ (c69 q12) trivial trivial) ?_
  conv => whnf
  have lcs : cs.length ≤ maxLen := by
    have h1 := numR_range w4 8
    have h2 := readsC_len (numR q5 8).1.toNat (numR q5 8).2
    have h3 : cs.length ≤ (allC q5).1.length := by rw [← hcs]; unfold keptC; split <;> simp
    unfold allC at h3
    have : maxLen = 9223372036854775807 := rfl
    omega
  have lps : ps.length ≤ maxLen := by
    have h1 := allPc_len w10
    have h3 : ps.length ≤ (allPc q11).1.length := by rw [← hps]; unfold keptP; split <;> simp
    have : maxLen = 9223372036854775807 := rfl
    omega
  by_cases he : q12.e = 0
  rotate_left
  · refine CaseB.of_false (decide_eq_false he) ?_
    conv => whnf
    refine CallK.mk' _ _ (frQ1 zU _ (c142 q12 w11) trivial trivial) ?_
    conv => whnf
    have hz : endF q12 ≠ 0 := by rw [endF_err w11 he]; exact he
    have hf : finM cT q12 = (cm0, endF q12) := by unfold finM; rw [if_pos he]
    rw [hf]
    refine CaseB.of_true (decide_eq_true hz) ?_
    conv => whnf
    exact RetK.empty (WV.tup ⟨WV.agg (cmW (c := cm0) WL.sl0ro WL.sl0ro), WV.lf (WL.int rfl), trivial⟩)
  refine CaseB.of_true (decide_eq_true he) ?_
  conv => whnf
  have h113 := c113 cT (by rw [hcT]; exact lcs) (by rw [hcT]; exact lps)
  rw [show vM cT = .s (.agg (segsM ⟨a0, a1, a2, a3, a4, cs, s1, s2, b0, b1, b2, ps⟩)) by rw [hcT]] at h113
  refine CallK.mk' _ _ (h113.free _ ⟨⟨trivial, trivial, trivial, trivial, trivial, rowC_free (cs := cs), trivial, trivial, trivial, trivial, trivial, rowP_free (ps := ps), trivial⟩, trivial⟩ trivial) ?_
  conv => whnf
  cases hok : okM cT with
  | false =>
    have e1 : checkM cT = 1 := by unfold checkM; rw [hok]; rfl
    rw [e1]
    refine CaseB.of_true rfl ?_
    conv => whnf
    refine CallK.mk' _ _ (frQ1 zU _ (c148 q12 w11 3) ⟨trivial, trivial⟩ trivial) ?_
    conv => whnf
    have o5 := failR_ok w11 (e := 3) (by decide) (by decide)
    refine CallK.mk' _ _ (frQ1 zU _ (c142 (failR q12 3) o5) trivial trivial) ?_
    conv => whnf
    have hf : finM cT q12 = (cm0, endF (failR q12 3)) ∧ endF (failR q12 3) ≠ 0 := by
      unfold finM
      rw [if_neg (fun h => h he), hok, failR_new he]
      exact ⟨rfl, by decide⟩
    rw [hf.1]
    refine CaseB.of_true (decide_eq_true hf.2) ?_
    conv => whnf
    exact RetK.empty (WV.tup ⟨WV.agg (cmW (c := cm0) WL.sl0ro WL.sl0ro), WV.lf (WL.int rfl), trivial⟩)
  | true =>
    have e1 : checkM cT = 0 := by unfold checkM; rw [hok]; rfl
    rw [e1]
    refine CaseB.of_false rfl ?_
    conv => whnf
    refine CallK.mk' _ _ (frQ1 zU _ (c142 q12 w11) trivial trivial) ?_
    conv => whnf
    by_cases hz : endF q12 = 0
    · refine CaseB.of_false (decide_eq_false (fun h => h hz)) ?_
      conv => whnf
      have hf : finM cT q12 = (cT, 0) := by unfold finM; rw [if_neg (fun h => h he), hok, if_pos rfl, if_pos hz]
      rw [hf, hcT]
      exact RetK.empty (WV.tup ⟨WV.agg (cmW (c := ⟨a0, a1, a2, a3, a4, cs, s1, s2, b0, b1, b2, ps⟩) (freeL.wl (rowC_free (cs := cs))) (freeL.wl (rowP_free (ps := ps)))), WV.lf (WL.int rfl), trivial⟩)
    · refine CaseB.of_true (decide_eq_true hz) ?_
      conv => whnf
      have hf : finM cT q12 = (cm0, endF q12) := by unfold finM; rw [if_neg (fun h => h he), hok, if_pos rfl, if_neg hz]
      rw [hf]
      exact RetK.empty (WV.tup ⟨WV.agg (cmW (c := cm0) WL.sl0ro WL.sl0ro), WV.lf (WL.int rfl), trivial⟩)
end Go.Sym.Md


set_option linter.unusedVariables false
set_option linter.unusedSimpArgs false
set_option maxRecDepth 10000
namespace Go.Sym.Md
open Go Go.Sym

/-! ### Errors stay -/
theorem numR_stay {r : Rd} {m : Int} (h : r.e ≠ 0) : numR r m = (0, r) := by unfold numR; rw [if_pos h]
theorem textR_stay {r : Rd} {m : Int} (h : r.e ≠ 0) : textR r m = ([], r) := by unfold textR; rw [numR_stay h, if_pos h]
theorem tkR_stay (off : Nat) {r : Rd} (h : r.e ≠ 0) : ∀ k, tkR off r k = r
  | 0 => rfl
  | k + 1 => by
    show (numR (tkR off r k) (rhigh (off + k))).2 = r
    rw [tkR_stay off h k, numR_stay h]
theorem psR_err {b : List UInt8} (h : (psR b).2.e = 0) : (cvR b).2.e = 0 := by
  by_cases he : (cvR b).2.e = 0
  · exact he
  · exfalso
    have h1 : (spR b).2 = (cvR b).2 := by unfold spR; rw [textR_stay he]
    have h2 : (nmR b).2 = (cvR b).2 := by unfold nmR; rw [h1, textR_stay he]
    have h3 : tlR b = (cvR b).2 := by unfold tlR; rw [h2, tkR_stay 5 he]
    have h4 : (psR b).2 = (cvR b).2 := by
      unfold psR allPc
      rw [h3, numR_stay he]
      rfl
    rw [h4] at h
    exact he h
theorem decM_len (b : List UInt8) : (decM b).1.cs.length ≤ maxLen ∧ (decM b).1.ps.length ≤ maxLen := by
  have hm : maxLen = 9223372036854775807 := rfl
  unfold decM finM
  split
  · exact ⟨by simp [cm0], by simp [cm0]⟩
  · split
    · rename_i hok
      obtain ⟨_, h2, _, _, _, h6, _⟩ := okM_facts hok
      split
      · exact ⟨by show (cmR b (cvR b).1).cs.length ≤ _; omega, by show (cmR b (cvR b).1).ps.length ≤ _; omega⟩
      · exact ⟨by simp [cm0], by simp [cm0]⟩
    · exact ⟨by simp [cm0], by simp [cm0]⟩
theorem encM_len {c : CmS} (h : okM c = true) : (encM c).length ≤ 2000 := by
  obtain ⟨h1, h2, h3, h4, h5, h6, h7⟩ := okM_facts h
  have hl5 := numsF_len [] (rv c) 5
  have hK0 := codeC_length c.cs c.cs.length (Nat.le_refl _)
  rw [List.take_length] at hK0
  have hs1 := textOk_len h4
  have hs2 := textOk_len h5
  have q1 := numF_length c.sp.length
  have q2 := sz_le c.sp.length
  have q3 := numF_length c.nm.length
  have q4 := sz_le c.nm.length
  have hB : (textsF (numsF [] (rv c) 5 ++ codeC c.cs) c).length ≤ 600 := by
    unfold textsF
    simp only [List.length_append, List.length_nil] at hl5 ⊢
    have : (codeC c.cs).length ≤ 410 := by unfold codeC; omega
    omega
  have hl6 := numsF_len (textsF (numsF [] (rv c) 5 ++ codeC c.cs) c) (fun k => rv c (5 + k)) 3
  have hP := putPs_len (numsF (textsF (numsF [] (rv c) 5 ++ codeC c.cs) c) (fun k => rv c (5 + k)) 3 ++ numZ c.ps.length) c.ps h7 c.ps.length (Nat.le_refl _)
  rw [List.take_length, List.length_append] at hP
  have hz := numZ_len c.ps.length
  unfold encM putPs
  omega
theorem encF_len (c : CmS) : (encF c).1.length ≤ maxLen := by
  have hm : maxLen = 9223372036854775807 := rfl
  unfold encF
  split
  · rename_i h
    have := encM_len h
    show (encM c).length ≤ _
    omega
  · simp
attribute [local irreducible] numF checkF hasF okC boundF numR textR readC okP tkR tkC decM encF checkM

set_option maxHeartbeats 8000000 in
/-- baileylaw23.CommandCodes -/
theorem c22 (c d : CmS) (b : List UInt8) (hcl : c.cs.length ≤ maxLen) (hpl : c.ps.length ≤ maxLen) (hdl : d.cs.length ≤ maxLen) (hbl : b.length ≤ maxLen) : SCalls Proofs.Try.prog 22 [vM c, vM d, .s (.lf (.rob false false b))] [] (.s (.lf .tt)) [] := by
  have hel := encF_len c
  obtain ⟨hdc, hdp⟩ := decM_len b
  refine SCalls.intro tok Proofs.Try.func22 ?_
  conv => whnf
  refine CallK.mk' _ _ ((c72 c hcl).free _ ⟨vM_free c, trivial⟩ trivial) ?_
  conv => whnf
  cases hf : fewM c with
  | false =>
    refine CaseB.of_true rfl ?_
    conv => whnf
    refine CallK.mk' _ _ (c51.free _ trivial trivial) ?_
    conv => whnf
    exact RetK.empty (okF.wv trivial)
  | true =>
  refine CaseB.of_false rfl ?_
  conv => whnf
  refine CallK.mk' _ _ ((c72 d hdl).free _ ⟨vM_free d, trivial⟩ trivial) ?_
  conv => whnf
  cases hf2 : fewM d with
  | false =>
    refine CaseB.of_true rfl ?_
    conv => whnf
    refine CallK.mk' _ _ (c51.free _ trivial trivial) ?_
    conv => whnf
    exact RetK.empty (okF.wv trivial)
  | true =>
  refine CaseB.of_false rfl ?_
  conv => whnf
  by_cases hb : 2000 < (b.length : Int)
  · refine CaseB.of_true (decide_eq_true hb) ?_
    conv => whnf
    refine CallK.mk' _ _ (c51.free _ trivial trivial) ?_
    conv => whnf
    exact RetK.empty (okF.wv trivial)
  refine CaseB.of_false (decide_eq_false hb) ?_
  conv => whnf
  refine CallK.mk' _ _ ((c110 c).free _ ⟨vM_free c, trivial⟩ ⟨trivial, trivial, trivial⟩) ?_
  conv => whnf
  refine CallK.mk' _ _ ((c111 c hcl hpl).free _ ⟨vM_free c, trivial⟩ ⟨trivial, trivial, trivial⟩) ?_
  conv => whnf
  refine DrawK.mk1 tok mixed [0, 0, 3, 7, 15, 15, 63, 127, 255, 511, 1023, 2047, 1023, 8191, 16383, 32767, 65535, 131071, 131071, 524287, 131071, 131071, 4194303, 8388607, 16777215] [(0, 0, []), (1, 0, []), (2, 0, []), (3, 0, []), (4, 0, []), (5, 0, []), (6, 2, []), (7, 0, []), (8, 0, []), (9, 0, []), (10, 1, [0]), (11, 2, []), (12, 1, [0, 1]), (13, 2, []), (14, 0, []), (15, 0, []), (16, 0, []), (17, 1, [0]), (18, 1, [0]), (19, 2, []), (20, 1, [0, 1]), (21, 1, [0, 1]), (22, 2, []), (23, 0, []), (24, 0, [])] (by kernel_rfl) ?_
  conv => whnf
  repeat (first
    | (refine CaseB.of_false (by simp) ?_; conv => whnf)
    | (refine CallK.mk' _ _ ((c57 (encF c).1 (encF c).1 hel).free _ ⟨trivial, trivial, trivial⟩ trivial) ?_; conv => whnf)
    | (refine CallK.mk' _ _ ((c112 c).free _ ⟨vM_free c, trivial⟩ trivial) ?_; conv => whnf)
    | (refine CallK.mk' _ _ ((c113 c hcl hpl).free _ ⟨vM_free c, trivial⟩ trivial) ?_; conv => whnf)
    | (refine CallK.mk' _ _ ((c114 c d hcl hpl).free _ ⟨vM_free c, vM_free d, trivial⟩ trivial) ?_; conv => whnf)
    | (refine CallK.mk' _ _ ((c55 c d hcl hpl).free _ ⟨vM_free c, vM_free d, trivial⟩ trivial) ?_; conv => whnf)
    | (refine And.intro rfl ?_; conv => whnf))
  refine CallK.mk' _ [some (obM c), some (obM d)] ((c115 b (by omega)).free _ ⟨trivial, trivial⟩ ⟨vM_free (decM b).1, trivial, trivial⟩) ?_
  conv => whnf
  refine CallK.mk' _ _ ((c116 b (by omega) psR_err).free _ ⟨trivial, trivial⟩ ⟨vM_free (decM b).1, trivial, trivial⟩) ?_
  conv => whnf
  refine CaseB.of_true (decide_eq_true rfl) ?_
  conv => whnf
  refine CallK.mk' _ _ ((c55 (decM b).1 (decM b).1 hdc hdp).free _ ⟨vM_free _, vM_free _, trivial⟩ trivial) ?_
  conv => whnf
  refine CaseB.of_true (decide_eq_true rfl) ?_
  conv => whnf
  refine CallK.mk' _ _ (c51.free _ trivial trivial) ?_
  conv => whnf
  exact RetK.empty (okF.wv trivial)
end Go.Sym.Md

set_option linter.unusedVariables false
set_option linter.unusedSimpArgs false
set_option maxRecDepth 10000
namespace Go.Sym.Md
open Go Go.Sym

/-! ### What was written is read again, and what was read was so written -/
theorem sz_lt {n : Nat} (hn : n < 9223372036854775808) : n < 128 ^ sz n := by
  unfold sz
  repeat' split
  all_goals (simp; omega)
theorem sz_ge {n : Nat} : sz n = 1 ∨ 128 ^ (sz n - 1) ≤ n := by
  unfold sz
  repeat' split
  all_goals first | (left; rfl) | (right; simp; omega)

theorem numF_at (n i : Nat) (t : List UInt8) (h : i < sz n) : (numF n ++ t).getD i 0 = gB n (sz n - 1 - i) := by
  rw [List.getD_eq_getElem?_getD, List.getElem?_append_left (by rw [numF_length]; exact h)]
  simp [numF, nF, h]

theorem gB_val (n i : Nat) : (gB n i).toNat % 128 = n / 128 ^ i % 128 ∧ (i ≠ 0 → 128 ≤ (gB n i).toNat ∧ ((gB n i).toNat = 128 → n / 128 ^ i % 128 = 0)) ∧ (i = 0 → (gB n i).toNat < 128) := by
  unfold gB
  by_cases h : i = 0
  · subst h
    rw [if_pos rfl, UInt8.toNat_ofNat']
    have : n % 128 % 2 ^ 8 = n % 128 := Nat.mod_eq_of_lt (by omega)
    rw [this, Nat.pow_zero, Nat.div_one]
    omega
  · rw [if_neg h, UInt8.toNat_ofNat']
    have : (n / 128 ^ i % 128 + 128) % 2 ^ 8 = n / 128 ^ i % 128 + 128 := Nat.mod_eq_of_lt (by omega)
    rw [this]
    omega

theorem valF_num (n : Nat) (t : List UInt8) (hn : n < 9223372036854775808) : ∀ i, i ≤ sz n → valF (numF n ++ t) i = n / 128 ^ (sz n - i) := by
  intro i hi
  induction i with
  | zero => rw [valF_zero, Nat.sub_zero, Nat.div_eq_of_lt (sz_lt hn)]
  | succ i ih =>
    rw [valF_succ _ _ (by rw [List.length_append, numF_length]; omega), ih (by omega), numF_at n i t (by omega), (gB_val n _).1]
    rw [show sz n - i = (sz n - (i + 1)) + 1 by omega, Nat.pow_succ, ← Nat.div_div_eq_div_mul, show sz n - 1 - i = sz n - (i + 1) by omega]
    omega

theorem wF_num (n : Nat) (t : List UInt8) (hn : n < 9223372036854775808) : ∀ d i, d = sz n - 1 - i → i < sz n → wF ((numF n ++ t).drop i) i = (sz n, 0) := by
  intro d
  have h9 := sz_le n
  induction d with
  | zero =>
    intro i hd hi
    have hb := gB_val n (sz n - 1 - i)
    have h0 : sz n - 1 - i = 0 := by omega
    rw [wF_step _ _ (by rw [List.length_append, numF_length]; omega), numF_at n i t hi, h0]
    rw [h0] at hb
    have := hb.2.2 rfl
    rw [if_neg (by omega), if_pos this]
    congr 1
    omega
  | succ d ih =>
    intro i hd hi
    have hb := gB_val n (sz n - 1 - i)
    have h1 := hb.2.1 (by omega)
    rw [wF_step _ _ (by rw [List.length_append, numF_length]; omega), numF_at n i t hi]
    have hne : ¬ ((i = 0 ∧ (gB n (sz n - 1 - i)).toNat = 128) ∨ (i = 8 ∧ 128 ≤ (gB n (sz n - 1 - i)).toNat)) := by
      rintro (⟨rfl, h⟩ | ⟨rfl, h⟩)
      · have hz := h1.2 h
        rw [Nat.sub_zero] at hz
        rcases sz_ge (n := n) with hs | hs
        · omega
        · have hlt := sz_lt hn
          rw [show sz n = (sz n - 1) + 1 by omega, Nat.pow_succ] at hlt
          have : 1 ≤ n / 128 ^ (sz n - 1) := (Nat.le_div_iff_mul_le (Nat.pow_pos (by omega))).2 (by omega)
          have : n / 128 ^ (sz n - 1) < 128 := (Nat.div_lt_iff_lt_mul (Nat.pow_pos (by omega))).2 (by omega)
          omega
      · omega
    rw [if_neg hne, if_neg (by omega)]
    exact ih (i + 1) (by omega) (by omega)

theorem numR_num (n : Nat) (t : List UInt8) (most : Int) (hn : n < 9223372036854775808) (hm : (n : Int) ≤ most) : numR ⟨numF n ++ t, 0⟩ most = ((n : Int), ⟨t, 0⟩) := by
  have h1 := sz_pos n
  have hw := wF_num n t hn (sz n - 1) 0 (by omega) (by omega)
  rw [List.drop_zero] at hw
  have hv := valF_num n t hn (sz n) (Nat.le_refl _)
  rw [Nat.sub_self, Nat.pow_zero, Nat.div_one] at hv
  unfold numR
  rw [if_neg (fun h => h rfl)]
  simp only [hw, hv]
  rw [if_neg (fun h => h rfl), if_neg (by omega), List.drop_left' (numF_length n)]

theorem textR_text (s t : List UInt8) (most : Int) (hn : s.length < 9223372036854775808) (hm : (s.length : Int) ≤ most) : textR ⟨numF s.length ++ s ++ t, 0⟩ most = (s, ⟨t, 0⟩) := by
  unfold textR
  rw [List.append_assoc, numR_num _ _ _ hn hm]
  simp

theorem wF_inv (l : List UInt8) (w : Nat) : ∀ d i, d = l.length - i → i ≤ l.length → i ≤ 8 → wF (l.drop i) i = (w, 0) → i < w ∧ w ≤ l.length ∧ w ≤ 9 ∧ (∀ j, i ≤ j → j + 1 < w → 128 ≤ (l.getD j 0).toNat) ∧ (l.getD (w - 1) 0).toNat < 128 ∧ (i = 0 → (l.getD 0 0).toNat ≠ 128) := by
  intro d
  induction d with
  | zero =>
    intro i hd hi h8 hw
    rw [show i = l.length by omega, List.drop_length] at hw
    simp [wF] at hw
  | succ d ih =>
    intro i hd hi h8 hw
    rw [wF_step l i (by omega)] at hw
    by_cases hc : (i = 0 ∧ (l.getD i 0).toNat = 128) ∨ (i = 8 ∧ 128 ≤ (l.getD i 0).toNat)
    · rw [if_pos hc] at hw; simp at hw
    · rw [if_neg hc] at hw
      by_cases hx : (l.getD i 0).toNat < 128
      · rw [if_pos hx] at hw
        simp only [Prod.mk.injEq, and_true] at hw
        subst hw
        refine ⟨by omega, by omega, by omega, fun j h1 h2 => by omega, by rw [Nat.add_sub_cancel]; exact hx, fun h => ?_⟩
        subst h; omega
      · rw [if_neg hx] at hw
        obtain ⟨g1, g2, g3, g4, g5, g6⟩ := ih (i + 1) (by omega) (by omega) (by omega) hw
        refine ⟨by omega, g2, g3, fun j h1 h2 => ?_, g5, fun h => ?_⟩
        · by_cases hj : j = i
          · subst hj; omega
          · exact g4 j (by omega) h2
        · subst h; omega

theorem valF_up (l : List UInt8) (w : Nat) (hw : w ≤ l.length) : ∀ d j, d = w - j → j ≤ w → valF l j = valF l w / 128 ^ (w - j) := by
  intro d
  induction d with
  | zero => intro j hd hj; rw [show j = w by omega, Nat.sub_self, Nat.pow_zero, Nat.div_one]
  | succ d ih =>
    intro j hd hj
    have := ih (j + 1) (by omega) (by omega)
    rw [valF_succ l j (by omega)] at this
    rw [show w - j = (w - (j + 1)) + 1 by omega, Nat.pow_succ, ← Nat.div_div_eq_div_mul, ← this]
    omega

theorem valF_first (l : List UInt8) : ∀ j, 1 ≤ j → j ≤ l.length → (l.getD 0 0).toNat % 128 * 128 ^ (j - 1) ≤ valF l j := by
  intro j hj hl
  induction j with
  | zero => omega
  | succ j ih =>
    rw [valF_succ l j (by omega)]
    by_cases h0 : j = 0
    · subst h0; simp
    · have := ih (by omega) (by omega)
      rw [show j + 1 - 1 = (j - 1) + 1 by omega, Nat.pow_succ, ← Nat.mul_assoc]
      omega

theorem wF_num_back (l : List UInt8) (w : Nat) (h : wF l 0 = (w, 0)) : valF l w < 9223372036854775808 ∧ l = numF (valF l w) ++ l.drop w := by
  obtain ⟨g1, g2, g3, g4, g5, g6⟩ := wF_inv l w l.length 0 (by omega) (by omega) (by omega) (by rw [List.drop_zero]; exact h)
  have hlt := valF_lt l w g2
  have hsm := valF_small l w g2 g3
  have hs : sz (valF l w) = w := by
    by_cases h1 : w = 1
    · subst h1
      rw [valF_succ l 0 (by omega), valF_zero]
      exact sz_small (by omega)
    · have hf := valF_first l w (by omega) g2
      have hx := g4 0 (by omega) (by omega)
      have hne := g6 rfl
      have hb : (l.getD 0 0).toNat < 256 := UInt8.toNat_lt _
      have : 128 ^ (w - 1) ≤ valF l w := by
        have h2 : 1 * 128 ^ (w - 1) ≤ (l.getD 0 0).toNat % 128 * 128 ^ (w - 1) := Nat.mul_le_mul_right _ (by omega)
        omega
      have := sz_of (n := valF l w) (k := w - 1) (by omega) (.inr this) (by rw [show w - 1 + 1 = w by omega]; exact hlt)
      omega
  refine ⟨hsm, ?_⟩
  have hlen : (numF (valF l w)).length = w := by rw [numF_length, hs]
  have key : numF (valF l w) = l.take w := by
    apply List.ext_getElem
    · rw [hlen, List.length_take]; omega
    · intro i h1 h2
      have hi : i < w := by omega
      have e1 : (numF (valF l w))[i] = gB (valF l w) (w - 1 - i) := by
        have := numF_at (valF l w) i [] (by omega)
        rw [List.append_nil, List.getD_eq_getElem?_getD, List.getElem?_eq_getElem h1, hs] at this
        simpa using this
      have e2 : (l.take w)[i] = l.getD i 0 := by
        rw [List.getElem_take, List.getD_eq_getElem?_getD, List.getElem?_eq_getElem (by omega)]
        rfl
      rw [e1, e2]
      have hu := valF_up l w g2 (w - (i + 1)) (i + 1) (by omega) (by omega)
      rw [valF_succ l i (by omega), show w - (i + 1) = w - 1 - i by omega] at hu
      have hb : (l.getD i 0).toNat < 256 := UInt8.toNat_lt _
      apply UInt8.toNat_inj.1
      have hg := gB_val (valF l w) (w - 1 - i)
      have hgb : (gB (valF l w) (w - 1 - i)).toNat < 256 := UInt8.toNat_lt _
      rw [← hu] at hg
      by_cases hl : w - 1 - i = 0
      · have h3 := hg.2.2 hl
        rw [show w - 1 = i by omega] at g5
        omega
      · have h3 := hg.2.1 hl
        have h4 := g4 i (by omega) (by omega)
        omega
  rw [key, List.take_append_drop]

theorem numR_back {l : List UInt8} {most z : Int} {t : List UInt8} (h : numR ⟨l, 0⟩ most = (z, ⟨t, 0⟩)) : 0 ≤ z ∧ z ≤ most ∧ z < 9223372036854775808 ∧ l = numF z.toNat ++ t := by
  unfold numR at h
  rw [if_neg (fun h => h rfl)] at h
  by_cases he : (wF l 0).2 = 0
  · rw [if_neg (fun h => h he)] at h
    obtain ⟨w, hw⟩ : ∃ w, wF l 0 = (w, 0) := ⟨(wF l 0).1, by rw [← he]⟩
    obtain ⟨h1, h2⟩ := wF_num_back l w hw
    simp only [hw] at h
    by_cases hm : most < (valF l w : Int)
    · rw [if_pos hm] at h; simp at h
    · rw [if_neg hm] at h
      simp only [Prod.mk.injEq, Rd.mk.injEq, and_true] at h
      obtain ⟨rfl, rfl⟩ := h
      rw [Int.toNat_natCast]
      exact ⟨by omega, by omega, by omega, h2⟩
  · rw [if_pos he] at h
    simp only [Prod.mk.injEq, Rd.mk.injEq] at h
    exact absurd h.2.2 he

theorem textR_back {l s t : List UInt8} {most : Int} (h : textR ⟨l, 0⟩ most = (s, ⟨t, 0⟩)) : (s.length : Int) ≤ most ∧ l = numF s.length ++ s ++ t := by
  unfold textR at h
  obtain ⟨p, hp⟩ : ∃ p, numR ⟨l, 0⟩ most = p := ⟨_, rfl⟩
  obtain ⟨z, r⟩ := p
  rw [hp] at h
  simp only [] at h
  by_cases he : r.e = 0
  · rw [if_neg (fun h => h he)] at h
    obtain ⟨rl, re⟩ := r
    simp only [] at he h
    subst he
    obtain ⟨h1, h2, h3, h4⟩ := numR_back hp
    by_cases hl : rl.length < z.toNat
    · rw [if_pos hl] at h; simp at h
    · rw [if_neg hl] at h
      simp only [Prod.mk.injEq, Rd.mk.injEq, and_true] at h
      obtain ⟨rfl, rfl⟩ := h
      have : (rl.take z.toNat).length = z.toNat := by rw [List.length_take]; omega
      rw [this, List.append_assoc, List.take_append_drop]
      exact ⟨by omega, h4⟩
  · rw [if_pos he] at h
    simp only [Prod.mk.injEq] at h
    rw [h.2] at he
    exact absurd rfl he
end Go.Sym.Md

set_option linter.unusedVariables false
set_option linter.unusedSimpArgs false
set_option maxRecDepth 10000
namespace Go.Sym.Md
open Go Go.Sym

/-- A caveat's bytes. -/
def bytesC (c : CV) : List UInt8 := if hasF c.k = 1 then numF c.k.toNat ++ numF c.s.length ++ c.s else numF c.k.toNat ++ numF c.n.toNat
def okV (c : CV) : Bool := okC c.k c.n c.s

theorem putC_bytes (b : List UInt8) (c : CV) (h : okV c = true) : putC b c = b ++ bytesC c := by
  unfold putC bytesC putF
  unfold okV at h
  rw [h, if_pos rfl]
  split <;> simp

theorem codeC_bytes : ∀ (cs : List CV) (b : List UInt8), (∀ c ∈ cs, okV c = true) → cs.foldl putC b = b ++ cs.flatMap bytesC
  | [], b, _ => by simp
  | c :: cs, b, h => by
    rw [List.foldl_cons, putC_bytes b c (h c (by simp)), codeC_bytes cs _ (fun c hc => h c (by simp [hc])), List.flatMap_cons, List.append_assoc]

theorem okC_cases {k n : Int} {s : List UInt8} (h : okC k n s = true) : 1 ≤ k ∧ k ≤ 6 ∧ ((k = 2 ∨ k = 3) ∧ n = 0 ∧ s.length ≤ 16 ∨ ¬ (k = 2 ∨ k = 3) ∧ s = [] ∧ 0 ≤ n ∧ n ≤ boundF k) := by
  obtain ⟨h1, h2, h3, h4, h5⟩ := okC_facts h
  refine ⟨h1, h2, ?_⟩
  by_cases hk : k = 2 ∨ k = 3
  · left
    unfold okC at h
    rw [if_pos ((hasF_one k).2 hk)] at h
    simp only [Bool.and_eq_true, decide_eq_true_eq] at h
    exact ⟨hk, h.2, h5⟩
  · right
    unfold okC at h
    have h2' := hasF_two (by omega) h2 (by omega) hk
    rw [if_neg (by omega), if_pos h2'] at h
    simp only [Bool.and_eq_true, decide_eq_true_eq] at h
    exact ⟨hk, h.1, h.2.1, h.2.2⟩

theorem readC_bytes (c : CV) (t : List UInt8) (h : okV c = true) : readC ⟨bytesC c ++ t, 0⟩ = (c, ⟨t, 0⟩) := by
  obtain ⟨k, n, s⟩ := c
  have h' : okC k n s = true := h
  obtain ⟨h1, h2, h3⟩ := okC_cases h'
  have hb : boundF k ≤ 1099511627776 := by unfold boundF; split <;> (try split) <;> omega
  have hk : ((k.toNat : Nat) : Int) = k := by omega
  unfold readC
  have e1 : ∀ u, numR ⟨numF k.toNat ++ u, 0⟩ 6 = (k, ⟨u, 0⟩) := fun u => by rw [numR_num _ _ _ (by omega) (by omega), hk]
  rcases h3 with ⟨hk2, rfl, hs⟩ | ⟨hk2, rfl, hn, hn'⟩
  · have eb : bytesC ⟨k, 0, s⟩ ++ t = numF k.toNat ++ (numF s.length ++ s ++ t) := by
      unfold bytesC; rw [if_pos ((hasF_one k).2 hk2)]; simp
    rw [eb, e1, if_neg (fun h => h rfl)]
    unfold bodyC
    rw [if_neg (by omega), if_pos hk2, textR_text s t 16 (by omega) (by omega), if_neg (fun h => h rfl)]
    simp only []
    rw [h', if_pos rfl]
  · have eb : bytesC ⟨k, n, []⟩ ++ t = numF k.toNat ++ (numF n.toNat ++ t) := by
      unfold bytesC; rw [if_neg (fun h => hk2 ((hasF_one k).1 h))]; simp
    rw [eb, e1, if_neg (fun h => h rfl)]
    unfold bodyC
    rw [if_neg (by omega), if_neg hk2, numR_num n.toNat t (boundF k) (by omega) (by omega), if_neg (fun h => h rfl)]
    simp only [show ((n.toNat : Nat) : Int) = n by omega]

theorem readC_back {l t : List UInt8} {c : CV} (h : readC ⟨l, 0⟩ = (c, ⟨t, 0⟩)) : okV c = true ∧ l = bytesC c ++ t := by
  unfold readC at h
  obtain ⟨p, hp⟩ : ∃ p, numR ⟨l, 0⟩ 6 = p := ⟨_, rfl⟩
  obtain ⟨k, r⟩ := p
  rw [hp] at h
  simp only [] at h
  by_cases he : r.e = 0
  · rw [if_neg (fun h => h he)] at h
    obtain ⟨rl, re⟩ := r
    simp only [] at he
    subst he
    obtain ⟨h1, h2, h3, h4⟩ := numR_back hp
    unfold bodyC at h
    by_cases hk0 : k = 0
    · rw [if_pos hk0] at h; simp at h
    · rw [if_neg hk0] at h
      by_cases hk2 : k = 2 ∨ k = 3
      · rw [if_pos hk2] at h
        obtain ⟨q, hq⟩ : ∃ q, textR ⟨rl, 0⟩ 16 = q := ⟨_, rfl⟩
        obtain ⟨s, r2⟩ := q
        rw [hq] at h
        simp only [] at h
        by_cases he2 : r2.e = 0
        · rw [if_neg (fun h => h he2)] at h
          cases ho : okC k 0 s with
          | false => rw [ho, if_neg (by simp)] at h; simp at h
          | true =>
            rw [ho, if_pos rfl] at h
            simp only [Prod.mk.injEq] at h
            obtain ⟨rfl, rfl⟩ := h
            obtain ⟨g1, g2⟩ := textR_back hq
            refine ⟨ho, ?_⟩
            unfold bytesC
            rw [if_pos ((hasF_one k).2 hk2), h4, g2]
            simp
        · rw [if_pos he2] at h
          simp only [Prod.mk.injEq] at h
          rw [h.2] at he2
          exact absurd rfl he2
      · rw [if_neg hk2] at h
        obtain ⟨q, hq⟩ : ∃ q, numR ⟨rl, 0⟩ (boundF k) = q := ⟨_, rfl⟩
        obtain ⟨n, r2⟩ := q
        rw [hq] at h
        simp only [] at h
        by_cases he2 : r2.e = 0
        · rw [if_neg (fun h => h he2)] at h
          simp only [Prod.mk.injEq] at h
          obtain ⟨rfl, rfl⟩ := h
          obtain ⟨g1, g2, g3, g4⟩ := numR_back hq
          refine ⟨okC_num (by omega) (by omega) hk0 hk2 g1 g2, ?_⟩
          unfold bytesC
          rw [if_neg (fun h => hk2 ((hasF_one k).1 h)), h4, g4]
          simp
        · rw [if_pos he2] at h
          simp only [Prod.mk.injEq] at h
          rw [h.2] at he2
          exact absurd rfl he2
  · rw [if_pos he] at h
    simp only [Prod.mk.injEq] at h
    rw [h.2] at he
    exact absurd rfl he

theorem readsC_bytes : ∀ (cs : List CV) (t : List UInt8), (∀ c ∈ cs, okV c = true) → readsC cs.length ⟨cs.flatMap bytesC ++ t, 0⟩ = (cs, ⟨t, 0⟩)
  | [], t, _ => by simp [readsC]
  | c :: cs, t, h => by
    rw [List.length_cons, readsC, if_neg (fun h => h rfl), List.flatMap_cons, List.append_assoc, readC_bytes c _ (h c (by simp))]
    simp only []
    rw [readsC_bytes cs t (fun c hc => h c (by simp [hc]))]

theorem readsC_back : ∀ (n : Nat) {l t : List UInt8} {cs : List CV}, readsC n ⟨l, 0⟩ = (cs, ⟨t, 0⟩) → cs.length = n ∧ (∀ c ∈ cs, okV c = true) ∧ l = cs.flatMap bytesC ++ t
  | 0, l, t, cs, h => by
    simp only [readsC, Prod.mk.injEq, Rd.mk.injEq, and_true] at h
    obtain ⟨rfl, rfl⟩ := h
    simp
  | n + 1, l, t, cs, h => by
    rw [readsC, if_neg (fun h => h rfl)] at h
    obtain ⟨p, hp⟩ : ∃ p, readC ⟨l, 0⟩ = p := ⟨_, rfl⟩
    obtain ⟨c, r⟩ := p
    rw [hp] at h
    simp only [] at h
    obtain ⟨q, hq⟩ : ∃ q, readsC n r = q := ⟨_, rfl⟩
    obtain ⟨ds, r2⟩ := q
    rw [hq] at h
    simp only [Prod.mk.injEq] at h
    obtain ⟨rfl, rfl⟩ := h
    have he : r.e = 0 := by
      by_cases h : r.e = 0
      · exact h
      · rw [readsC_err n h] at hq
        simp only [Prod.mk.injEq] at hq
        rw [hq.2] at h
        exact absurd rfl h
    obtain ⟨rl, re⟩ := r
    simp only [] at he
    subst he
    obtain ⟨g1, g2⟩ := readC_back hp
    obtain ⟨k1, k2, k3⟩ := readsC_back n hq
    refine ⟨by simp [k1], fun x hx => ?_, ?_⟩
    · rcases List.mem_cons.1 hx with rfl | hx
      · exact g1
      · exact k2 x hx
    · rw [g2, k3, List.flatMap_cons, List.append_assoc]

theorem codeC_all (cs : List CV) (h : ∀ c ∈ cs, okV c = true) : codeC cs = numF cs.length ++ cs.flatMap bytesC := by
  unfold codeC; exact codeC_bytes cs _ h

/-- What was written is read. -/
theorem parseC_code (cs : List CV) (hl : cs.length ≤ 8) (h : ∀ c ∈ cs, okV c = true) : parseC (codeC cs) = (cs, 0) := by
  have e : allC ⟨codeC cs, 0⟩ = (cs, ⟨[], 0⟩) := by
    unfold allC
    rw [codeC_all cs h, numR_num cs.length _ 8 (by omega) (by omega)]
    simp only [Int.toNat_natCast]
    have := readsC_bytes cs [] h
    rw [List.append_nil] at this
    exact this
  unfold parseC
  rw [e]
  rfl

/-- What was read was so written. -/
theorem codeC_parse {b : List UInt8} {P : List CV} (hb : b.length ≤ 140737488355328) (h : parseC b = (P, 0)) : codeC P = b := by
  have h0 : (⟨b, 0⟩ : Rd).ok := ⟨fun h => absurd rfl h, by show IntKind.i64.min ≤ 0; decide, by show (0 : Int) ≤ IntKind.i64.max; decide, hb⟩
  have hok := allC_ok h0
  unfold parseC at h
  obtain ⟨p, hp⟩ : ∃ p, allC ⟨b, 0⟩ = p := ⟨_, rfl⟩
  obtain ⟨ds, r⟩ := p
  rw [hp] at h hok
  simp only [] at h hok
  by_cases hz : endF r = 0
  · rw [if_pos hz] at h
    simp only [Prod.mk.injEq, and_true] at h
    subst h
    have he : r.e = 0 := by
      by_cases h : r.e = 0
      · exact h
      · rw [endF_err hok h] at hz; exact absurd hz h
    obtain ⟨rl, re⟩ := r
    simp only [] at he
    subst he
    have hnil : rl = [] := by
      unfold endF at hz
      by_cases hl : 0 < rl.length
      · rw [if_pos hl] at hz; simp at hz
      · exact List.length_eq_zero_iff.1 (by omega)
    subst hnil
    unfold allC at hp
    obtain ⟨q, hq⟩ : ∃ q, numR ⟨b, 0⟩ 8 = q := ⟨_, rfl⟩
    obtain ⟨n, r1⟩ := q
    rw [hq] at hp
    simp only [] at hp
    have he1 : r1.e = 0 := by
      by_cases h : r1.e = 0
      · exact h
      · rw [readsC_err _ h] at hp
        simp only [Prod.mk.injEq] at hp
        rw [hp.2] at h
        exact absurd rfl h
    obtain ⟨r1l, r1e⟩ := r1
    simp only [] at he1
    subst he1
    obtain ⟨g1, g2, g3, g4⟩ := numR_back hq
    obtain ⟨k1, k2, k3⟩ := readsC_back _ hp
    rw [codeC_all ds k2, k1, g4, k3, List.append_nil]
  · rw [if_neg hz] at h
    simp only [Prod.mk.injEq] at h
    exact absurd h.2 hz
end Go.Sym.Md

