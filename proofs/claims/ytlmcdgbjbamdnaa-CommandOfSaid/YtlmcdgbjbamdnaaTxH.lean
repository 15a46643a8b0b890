/- Contracts of the program's functions, proved by the framework (text TxH), without conditions but those that each theorem states. -/
import Derived.Test.YtlmcdgbjbamdnaaTxG
set_option linter.unusedVariables false
set_option linter.unusedSimpArgs false
set_option maxRecDepth 10000
namespace Go.Sym.Md
open Go Go.Sym

abbrev zM : OB := ⟨60, (tget Γ 60).zero⟩
abbrev ukC (n : Nat) : OB := ⟨23, [.recs 3 n fun _ _ => .unk]⟩
abbrev ukP (n : Nat) : OB := ⟨58, [.recs 2 n fun _ _ => .unk]⟩
theorem rowC_leaf {cs : List CV} {i j : Nat} (hj : j < 3) : leafy (rowC cs i j) = true := by
  have : j = 0 ∨ j = 1 ∨ j = 2 := by omega
  rcases this with rfl | rfl | rfl <;> rfl
theorem rowP_leaf {ps : List PcV} {i j : Nat} (hj : j < 2) : leafy (rowP ps i j) = true := by
  have : j = 0 ∨ j = 1 := by omega
  rcases this with rfl | rfl <;> rfl
theorem upd_leaf {v u : LV} (hv : leafy v = true) (hu : leafy u = true) {i i' j j' : Nat} : leafy (match Nat.beq j' j with | true => (match decide (i' = i) with | true => v | false => u) | false => u) = true := by
  split
  · split <;> assumption
  · exact hu
theorem sl0_wl {D : Rel} : WL D .sl0 .sl0 := fun _ _ _ _ _ h => h
set_option maxHeartbeats 4000000 in
/-- baileylaw23.CommandOf, caveats, pieces -/
theorem c9tt (r : RqS) (hcl : r.tk.cs.length ≤ maxLen) (hpl : r.ps.length ≤ maxLen) : SCalls Proofs.Try.prog 9 [vRq r (rowK r.tk.cs) (rowQ r.ps)] [] (.s (.lf .tt)) [] := by
  have h51 := c51.free [some (obRq r (rowK r.tk.cs) (rowQ r.ps))] trivial trivial
  refine SCalls.intro tok Proofs.Try.func9 ?_
  conv => whnf
  by_cases h20 : 20 < ((r.tk.cs.length : Nat) : Int)
  · refine CaseB.of_true (decide_eq_true h20) ?_
    conv => whnf
    refine CallK.mk' _ _ h51 ?_
    conv => whnf
    exact RetK.empty (okF.wv trivial)
  refine CaseB.of_false (decide_eq_false h20) ?_
  conv => whnf
  by_cases h21 : 20 < ((r.ps.length : Nat) : Int)
  · refine CaseB.of_true (decide_eq_true h21) ?_
    conv => whnf
    refine CallK.mk' _ _ h51 ?_
    conv => whnf
    exact RetK.empty (okF.wv trivial)
  refine CaseB.of_false (decide_eq_false h21) ?_
  conv => whnf
  have hc : r.tk.cs.length ≤ 1000000 := by omega
  have hp : r.ps.length ≤ 1000000 := by omega
  refine DrawK.mk1 tok mixed [0, 1, 3, 7, 0, 16, 63, 127, 255] [(0, 1, [0]), (1, 1, [0]), (2, 1, [0]), (3, 2, []), (4, 1, [0, 1]), (5, 1, [0, 1]), (6, 2, []), (7, 0, []), (8, 0, [])] (by kernel_rfl) ?_
  conv => whnf
  refine CallK.mk' _ _ ((c39k r.tk.cs hc).free _ ⟨rowK_free, trivial⟩ rowK_free) ?_
  conv => whnf
  repeat (refine And.intro rfl ?_; conv => whnf)
  refine CallK.mk' _ _ ((c52f r.ps hp).free _ ⟨rowQ_free, trivial⟩ rowQ_free) ?_
  conv => whnf
  refine DrawK.join [(1, .s (.lf (.ptr 0 0))), (3, .s (.lf (rowK r.tk.cs))), (4, .s (.lf (rowQ r.ps))), (5, .s (.lf (.ptr 1 0))), (6, .s (.lf (.ptr 2 0)))] [some (obRq r (rowK r.tk.cs) (rowQ r.ps)), some ⟨60, segsMu (cmdOf r) (.own 3 0 3 0 r.tk.cs.length) (.own 4 0 2 0 r.ps.length)⟩, some (obM (cmdOf r)), some (blC r.tk.cs), some (blP r.ps)] ?_ ?_
  · refine DrawK.mkL tok mixed [0, 1, 0, 7, 0, 0, 63, 127] [1, 3, 4, 5, 6, 7] [
      ([0, 1, 0, 7, 15, 31, 63, 127], [(0, 1, [0]), (1, 2, []), (2, 1, [0, 1]), (3, 2, []), (4, 2, []), (5, 2, []), (6, 2, []), (7, 2, [])]),
      ([0, 1, 0, 7, 47, 15, 63, 127], [(0, 1, [0]), (1, 2, []), (2, 1, [0, 1]), (3, 2, []), (5, 2, []), (4, 2, []), (6, 2, []), (7, 2, [])]),
      ([0, 1, 0, 23, 3, 31, 63, 127], [(0, 1, [0]), (1, 2, []), (4, 2, []), (2, 1, [0, 1, 2]), (3, 2, []), (5, 2, []), (6, 2, []), (7, 2, [])]),
      ([0, 1, 0, 55, 3, 19, 63, 127], [(0, 1, [0]), (1, 2, []), (4, 2, []), (5, 2, []), (2, 1, [0, 1, 2, 3]), (3, 2, []), (6, 2, []), (7, 2, [])]),
      ([0, 1, 0, 39, 47, 3, 63, 127], [(0, 1, [0]), (1, 2, []), (5, 2, []), (2, 1, [0, 1, 2]), (3, 2, []), (4, 2, []), (6, 2, []), (7, 2, [])]),
      ([0, 1, 0, 55, 35, 3, 63, 127], [(0, 1, [0]), (1, 2, []), (5, 2, []), (4, 2, []), (2, 1, [0, 1, 2, 3]), (3, 2, []), (6, 2, []), (7, 2, [])]),
      ([0, 17, 0, 23, 0, 31, 63, 127], [(4, 2, []), (0, 1, [0, 1]), (1, 2, []), (2, 1, [0, 1, 2]), (3, 2, []), (5, 2, []), (6, 2, []), (7, 2, [])]),
      ([0, 17, 0, 55, 0, 19, 63, 127], [(4, 2, []), (0, 1, [0, 1]), (1, 2, []), (5, 2, []), (2, 1, [0, 1, 2, 3]), (3, 2, []), (6, 2, []), (7, 2, [])]),
      ([0, 49, 0, 55, 0, 16, 63, 127], [(4, 2, []), (5, 2, []), (0, 1, [0, 1, 2]), (1, 2, []), (2, 1, [0, 1, 2, 3]), (3, 2, []), (6, 2, []), (7, 2, [])]),
      ([0, 33, 0, 39, 47, 0, 63, 127], [(5, 2, []), (0, 1, [0, 1]), (1, 2, []), (2, 1, [0, 1, 2]), (3, 2, []), (4, 2, []), (6, 2, []), (7, 2, [])]),
      ([0, 33, 0, 55, 35, 0, 63, 127], [(5, 2, []), (0, 1, [0, 1]), (1, 2, []), (4, 2, []), (2, 1, [0, 1, 2, 3]), (3, 2, []), (6, 2, []), (7, 2, [])]),
      ([0, 49, 0, 55, 32, 0, 63, 127], [(5, 2, []), (4, 2, []), (0, 1, [0, 1, 2]), (1, 2, []), (2, 1, [0, 1, 2, 3]), (3, 2, []), (6, 2, []), (7, 2, [])])] (by kernel_rfl) ?_
    refine ⟨?_, ?_, ?_, ?_, ?_, ?_, ?_, ?_, ?_, ?_, ?_, ?_, trivial⟩
    · conv => whnf
      repeat (refine And.intro rfl ?_; conv => whnf)
      refine CallK.mk' (.s (.agg (segsMu (cmdOf r) (.own 1 0 3 0 r.tk.cs.length) (.own 2 0 2 0 r.ps.length)))) [some (obRq r (rowK r.tk.cs) (rowQ r.ps)), some (blC r.tk.cs), some (blP r.ps)] ((c53tt r hc hp).made [some (obRq r (rowK r.tk.cs) (rowQ r.ps))] (rc := .s (.agg (segsMu (cmdOf r) (.own 1 0 3 0 r.tk.cs.length) (.own 2 0 2 0 r.ps.length)))) (cs := [vRq r (rowK r.tk.cs) (rowQ r.ps)]) (Hn := [some (blC r.tk.cs), some (blP r.ps)]) ⟨WV.agg (rqW (rowK_wl) (rowQ_wl)), trivial⟩ (WV.agg (cmW (WL.uown (by exact rfl) rfl rfl) (WL.uown (by exact rfl) rfl rfl))) ⟨rfl, ⟨.recs rfl fun i hi j hj => rowC_wl hj, trivial⟩, rfl, ⟨.recs rfl fun i hi j hj => rowP_wl hj, trivial⟩, trivial⟩) ?_
      conv => whnf
      repeat (refine And.intro rfl ?_; conv => whnf)
      refine CallK.mk' (vM (cmdOf r)) [some (obRq r (rowK r.tk.cs) (rowQ r.ps)), some (blC r.tk.cs), some (blP r.ps)] ((c54 r hc hp).pure _ ⟨WV.agg (rqW (rowK_vR) (rowQ_vQ)), trivial⟩ (freeF.wv (vM_free (cmdOf r)))) ?_
      conv => whnf
      repeat (refine And.intro rfl ?_; conv => whnf)
      exact Weak.perm [0, 3, 4, 1, 2] ⟨⟨rfl, (rqW (rowK_wl) (rowQ_wl))⟩, ⟨rfl, (cmW (WL.own rfl rfl rfl rfl) (WL.own rfl rfl rfl rfl))⟩, ⟨rfl, obM_ws _⟩, ⟨rfl, ⟨.recs rfl fun i hi j hj => rowC_wl hj, trivial⟩⟩, ⟨rfl, ⟨.recs rfl fun i hi j hj => rowP_wl hj, trivial⟩⟩, trivial⟩ ⟨WV.lf (WL.ptr rfl rfl), WV.lf (rowK_wl), WV.lf (rowQ_wl), WV.lf (WL.ptr rfl rfl), WV.lf (WL.ptr rfl rfl), trivial⟩ rfl (by simp) rfl (by simp)
    · conv => whnf
      repeat (refine And.intro rfl ?_; conv => whnf)
      refine CallK.mk' (.s (.agg (segsMu (cmdOf r) (.own 1 0 3 0 r.tk.cs.length) (.own 2 0 2 0 r.ps.length)))) [some (obRq r (rowK r.tk.cs) (rowQ r.ps)), some (blC r.tk.cs), some (blP r.ps)] ((c53tt r hc hp).made [some (obRq r (rowK r.tk.cs) (rowQ r.ps))] (rc := .s (.agg (segsMu (cmdOf r) (.own 1 0 3 0 r.tk.cs.length) (.own 2 0 2 0 r.ps.length)))) (cs := [vRq r (rowK r.tk.cs) (rowQ r.ps)]) (Hn := [some (blC r.tk.cs), some (blP r.ps)]) ⟨WV.agg (rqW (rowK_wl) (rowQ_wl)), trivial⟩ (WV.agg (cmW (WL.uown (by exact rfl) rfl rfl) (WL.uown (by exact rfl) rfl rfl))) ⟨rfl, ⟨.recs rfl fun i hi j hj => rowC_wl hj, trivial⟩, rfl, ⟨.recs rfl fun i hi j hj => rowP_wl hj, trivial⟩, trivial⟩) ?_
      conv => whnf
      repeat (refine And.intro rfl ?_; conv => whnf)
      refine CallK.mk' (vM (cmdOf r)) [some (obRq r (rowK r.tk.cs) (rowQ r.ps)), some (blC r.tk.cs), some (blP r.ps)] ((c54 r hc hp).pure _ ⟨WV.agg (rqW (rowK_vR) (rowQ_vQ)), trivial⟩ (freeF.wv (vM_free (cmdOf r)))) ?_
      conv => whnf
      repeat (refine And.intro rfl ?_; conv => whnf)
      exact Weak.perm [0, 4, 3, 1, 2] ⟨⟨rfl, (rqW (rowK_wl) (rowQ_wl))⟩, ⟨rfl, (cmW (WL.own rfl rfl rfl rfl) (WL.own rfl rfl rfl rfl))⟩, ⟨rfl, obM_ws _⟩, ⟨rfl, ⟨.recs rfl fun i hi j hj => rowC_wl hj, trivial⟩⟩, ⟨rfl, ⟨.recs rfl fun i hi j hj => rowP_wl hj, trivial⟩⟩, trivial⟩ ⟨WV.lf (WL.ptr rfl rfl), WV.lf (rowK_wl), WV.lf (rowQ_wl), WV.lf (WL.ptr rfl rfl), WV.lf (WL.ptr rfl rfl), trivial⟩ rfl (by simp) rfl (by simp)
    · conv => whnf
      repeat (refine And.intro rfl ?_; conv => whnf)
      refine CallK.mk' (.s (.agg (segsMu (cmdOf r) (.own 1 0 3 0 r.tk.cs.length) (.own 2 0 2 0 r.ps.length)))) [some (obRq r (rowK r.tk.cs) (rowQ r.ps)), some (blC r.tk.cs), some (blP r.ps)] ((c53tt r hc hp).made [some (obRq r (rowK r.tk.cs) (rowQ r.ps))] (rc := .s (.agg (segsMu (cmdOf r) (.own 1 0 3 0 r.tk.cs.length) (.own 2 0 2 0 r.ps.length)))) (cs := [vRq r (rowK r.tk.cs) (rowQ r.ps)]) (Hn := [some (blC r.tk.cs), some (blP r.ps)]) ⟨WV.agg (rqW (rowK_wl) (rowQ_wl)), trivial⟩ (WV.agg (cmW (WL.uown (by exact rfl) rfl rfl) (WL.uown (by exact rfl) rfl rfl))) ⟨rfl, ⟨.recs rfl fun i hi j hj => rowC_wl hj, trivial⟩, rfl, ⟨.recs rfl fun i hi j hj => rowP_wl hj, trivial⟩, trivial⟩) ?_
      conv => whnf
      repeat (refine And.intro rfl ?_; conv => whnf)
      refine CallK.mk' (vM (cmdOf r)) [some (obRq r (rowK r.tk.cs) (rowQ r.ps)), some (blC r.tk.cs), some (blP r.ps), some zM] ((c54 r hc hp).pure _ ⟨WV.agg (rqW (rowK_vR) (rowQ_vQ)), trivial⟩ (freeF.wv (vM_free (cmdOf r)))) ?_
      conv => whnf
      repeat (refine And.intro rfl ?_; conv => whnf)
      exact Weak.perm [0, 3, 4, 1, 2] ⟨⟨rfl, (rqW (rowK_wl) (rowQ_wl))⟩, ⟨rfl, (cmW (WL.own rfl rfl rfl rfl) (WL.own rfl rfl rfl rfl))⟩, ⟨rfl, obM_ws _⟩, ⟨rfl, ⟨.recs rfl fun i hi j hj => rowC_wl hj, trivial⟩⟩, ⟨rfl, ⟨.recs rfl fun i hi j hj => rowP_wl hj, trivial⟩⟩, trivial⟩ ⟨WV.lf (WL.ptr rfl rfl), WV.lf (rowK_wl), WV.lf (rowQ_wl), WV.lf (WL.ptr rfl rfl), WV.lf (WL.ptr rfl rfl), trivial⟩ rfl (by simp) rfl (by simp)
    · conv => whnf
      repeat (refine And.intro rfl ?_; conv => whnf)
      refine CallK.mk' (.s (.agg (segsMu (cmdOf r) (.own 1 0 3 0 r.tk.cs.length) (.own 2 0 2 0 r.ps.length)))) [some (obRq r (rowK r.tk.cs) (rowQ r.ps)), some (blC r.tk.cs), some (blP r.ps)] ((c53tt r hc hp).made [some (obRq r (rowK r.tk.cs) (rowQ r.ps))] (rc := .s (.agg (segsMu (cmdOf r) (.own 1 0 3 0 r.tk.cs.length) (.own 2 0 2 0 r.ps.length)))) (cs := [vRq r (rowK r.tk.cs) (rowQ r.ps)]) (Hn := [some (blC r.tk.cs), some (blP r.ps)]) ⟨WV.agg (rqW (rowK_wl) (rowQ_wl)), trivial⟩ (WV.agg (cmW (WL.uown (by exact rfl) rfl rfl) (WL.uown (by exact rfl) rfl rfl))) ⟨rfl, ⟨.recs rfl fun i hi j hj => rowC_wl hj, trivial⟩, rfl, ⟨.recs rfl fun i hi j hj => rowP_wl hj, trivial⟩, trivial⟩) ?_
      conv => whnf
      repeat (refine And.intro rfl ?_; conv => whnf)
      refine CallK.mk' (vM (cmdOf r)) [some (obRq r (rowK r.tk.cs) (rowQ r.ps)), some (blC r.tk.cs), some (blP r.ps), some zM, some zM] ((c54 r hc hp).pure _ ⟨WV.agg (rqW (rowK_vR) (rowQ_vQ)), trivial⟩ (freeF.wv (vM_free (cmdOf r)))) ?_
      conv => whnf
      repeat (refine And.intro rfl ?_; conv => whnf)
      exact Weak.perm [0, 3, 4, 1, 2] ⟨⟨rfl, (rqW (rowK_wl) (rowQ_wl))⟩, ⟨rfl, (cmW (WL.own rfl rfl rfl rfl) (WL.own rfl rfl rfl rfl))⟩, ⟨rfl, obM_ws _⟩, ⟨rfl, ⟨.recs rfl fun i hi j hj => rowC_wl hj, trivial⟩⟩, ⟨rfl, ⟨.recs rfl fun i hi j hj => rowP_wl hj, trivial⟩⟩, trivial⟩ ⟨WV.lf (WL.ptr rfl rfl), WV.lf (rowK_wl), WV.lf (rowQ_wl), WV.lf (WL.ptr rfl rfl), WV.lf (WL.ptr rfl rfl), trivial⟩ rfl (by simp) rfl (by simp)
    · conv => whnf
      repeat (refine And.intro rfl ?_; conv => whnf)
      refine CallK.mk' (.s (.agg (segsMu (cmdOf r) (.own 1 0 3 0 r.tk.cs.length) (.own 2 0 2 0 r.ps.length)))) [some (obRq r (rowK r.tk.cs) (rowQ r.ps)), some (blC r.tk.cs), some (blP r.ps)] ((c53tt r hc hp).made [some (obRq r (rowK r.tk.cs) (rowQ r.ps))] (rc := .s (.agg (segsMu (cmdOf r) (.own 1 0 3 0 r.tk.cs.length) (.own 2 0 2 0 r.ps.length)))) (cs := [vRq r (rowK r.tk.cs) (rowQ r.ps)]) (Hn := [some (blC r.tk.cs), some (blP r.ps)]) ⟨WV.agg (rqW (rowK_wl) (rowQ_wl)), trivial⟩ (WV.agg (cmW (WL.uown (by exact rfl) rfl rfl) (WL.uown (by exact rfl) rfl rfl))) ⟨rfl, ⟨.recs rfl fun i hi j hj => rowC_wl hj, trivial⟩, rfl, ⟨.recs rfl fun i hi j hj => rowP_wl hj, trivial⟩, trivial⟩) ?_
      conv => whnf
      repeat (refine And.intro rfl ?_; conv => whnf)
      refine CallK.mk' (vM (cmdOf r)) [some (obRq r (rowK r.tk.cs) (rowQ r.ps)), some (blC r.tk.cs), some (blP r.ps), some zM] ((c54 r hc hp).pure _ ⟨WV.agg (rqW (rowK_vR) (rowQ_vQ)), trivial⟩ (freeF.wv (vM_free (cmdOf r)))) ?_
      conv => whnf
      repeat (refine And.intro rfl ?_; conv => whnf)
      exact Weak.perm [0, 4, 3, 1, 2] ⟨⟨rfl, (rqW (rowK_wl) (rowQ_wl))⟩, ⟨rfl, (cmW (WL.own rfl rfl rfl rfl) (WL.own rfl rfl rfl rfl))⟩, ⟨rfl, obM_ws _⟩, ⟨rfl, ⟨.recs rfl fun i hi j hj => rowC_wl hj, trivial⟩⟩, ⟨rfl, ⟨.recs rfl fun i hi j hj => rowP_wl hj, trivial⟩⟩, trivial⟩ ⟨WV.lf (WL.ptr rfl rfl), WV.lf (rowK_wl), WV.lf (rowQ_wl), WV.lf (WL.ptr rfl rfl), WV.lf (WL.ptr rfl rfl), trivial⟩ rfl (by simp) rfl (by simp)
    · conv => whnf
      repeat (refine And.intro rfl ?_; conv => whnf)
      refine CallK.mk' (.s (.agg (segsMu (cmdOf r) (.own 1 0 3 0 r.tk.cs.length) (.own 2 0 2 0 r.ps.length)))) [some (obRq r (rowK r.tk.cs) (rowQ r.ps)), some (blC r.tk.cs), some (blP r.ps)] ((c53tt r hc hp).made [some (obRq r (rowK r.tk.cs) (rowQ r.ps))] (rc := .s (.agg (segsMu (cmdOf r) (.own 1 0 3 0 r.tk.cs.length) (.own 2 0 2 0 r.ps.length)))) (cs := [vRq r (rowK r.tk.cs) (rowQ r.ps)]) (Hn := [some (blC r.tk.cs), some (blP r.ps)]) ⟨WV.agg (rqW (rowK_wl) (rowQ_wl)), trivial⟩ (WV.agg (cmW (WL.uown (by exact rfl) rfl rfl) (WL.uown (by exact rfl) rfl rfl))) ⟨rfl, ⟨.recs rfl fun i hi j hj => rowC_wl hj, trivial⟩, rfl, ⟨.recs rfl fun i hi j hj => rowP_wl hj, trivial⟩, trivial⟩) ?_
      conv => whnf
      repeat (refine And.intro rfl ?_; conv => whnf)
      refine CallK.mk' (vM (cmdOf r)) [some (obRq r (rowK r.tk.cs) (rowQ r.ps)), some (blC r.tk.cs), some (blP r.ps), some zM, some zM] ((c54 r hc hp).pure _ ⟨WV.agg (rqW (rowK_vR) (rowQ_vQ)), trivial⟩ (freeF.wv (vM_free (cmdOf r)))) ?_
      conv => whnf
      repeat (refine And.intro rfl ?_; conv => whnf)
      exact Weak.perm [0, 4, 3, 1, 2] ⟨⟨rfl, (rqW (rowK_wl) (rowQ_wl))⟩, ⟨rfl, (cmW (WL.own rfl rfl rfl rfl) (WL.own rfl rfl rfl rfl))⟩, ⟨rfl, obM_ws _⟩, ⟨rfl, ⟨.recs rfl fun i hi j hj => rowC_wl hj, trivial⟩⟩, ⟨rfl, ⟨.recs rfl fun i hi j hj => rowP_wl hj, trivial⟩⟩, trivial⟩ ⟨WV.lf (WL.ptr rfl rfl), WV.lf (rowK_wl), WV.lf (rowQ_wl), WV.lf (WL.ptr rfl rfl), WV.lf (WL.ptr rfl rfl), trivial⟩ rfl (by simp) rfl (by simp)
    · conv => whnf
      repeat (refine And.intro rfl ?_; conv => whnf)
      refine CallK.mk' (.s (.agg (segsMu (cmdOf r) (.own 2 0 3 0 r.tk.cs.length) (.own 3 0 2 0 r.ps.length)))) [some (obRq r (rowK r.tk.cs) (rowQ r.ps)), some zM, some (blC r.tk.cs), some (blP r.ps)] ((c53tt r hc hp).made [some (obRq r (rowK r.tk.cs) (rowQ r.ps)), some zM] (rc := .s (.agg (segsMu (cmdOf r) (.own 2 0 3 0 r.tk.cs.length) (.own 3 0 2 0 r.ps.length)))) (cs := [vRq r (rowK r.tk.cs) (rowQ r.ps)]) (Hn := [some (blC r.tk.cs), some (blP r.ps)]) ⟨WV.agg (rqW (rowK_wl) (rowQ_wl)), trivial⟩ (WV.agg (cmW (WL.uown (by exact rfl) rfl rfl) (WL.uown (by exact rfl) rfl rfl))) ⟨rfl, ⟨.recs rfl fun i hi j hj => rowC_wl hj, trivial⟩, rfl, ⟨.recs rfl fun i hi j hj => rowP_wl hj, trivial⟩, trivial⟩) ?_
      conv => whnf
      repeat (refine And.intro rfl ?_; conv => whnf)
      refine CallK.mk' (vM (cmdOf r)) [some (obRq r (rowK r.tk.cs) (rowQ r.ps)), some zM, some (blC r.tk.cs), some (blP r.ps)] ((c54 r hc hp).pure _ ⟨WV.agg (rqW (rowK_vR) (rowQ_vQ)), trivial⟩ (freeF.wv (vM_free (cmdOf r)))) ?_
      conv => whnf
      repeat (refine And.intro rfl ?_; conv => whnf)
      exact Weak.perm [0, 1, 4, 2, 3] ⟨⟨rfl, (rqW (rowK_wl) (rowQ_wl))⟩, ⟨rfl, (cmW (WL.own rfl rfl rfl rfl) (WL.own rfl rfl rfl rfl))⟩, ⟨rfl, obM_ws _⟩, ⟨rfl, ⟨.recs rfl fun i hi j hj => rowC_wl hj, trivial⟩⟩, ⟨rfl, ⟨.recs rfl fun i hi j hj => rowP_wl hj, trivial⟩⟩, trivial⟩ ⟨WV.lf (WL.ptr rfl rfl), WV.lf (rowK_wl), WV.lf (rowQ_wl), WV.lf (WL.ptr rfl rfl), WV.lf (WL.ptr rfl rfl), trivial⟩ rfl (by simp) rfl (by simp)
    · conv => whnf
      repeat (refine And.intro rfl ?_; conv => whnf)
      refine CallK.mk' (.s (.agg (segsMu (cmdOf r) (.own 2 0 3 0 r.tk.cs.length) (.own 3 0 2 0 r.ps.length)))) [some (obRq r (rowK r.tk.cs) (rowQ r.ps)), some zM, some (blC r.tk.cs), some (blP r.ps)] ((c53tt r hc hp).made [some (obRq r (rowK r.tk.cs) (rowQ r.ps)), some zM] (rc := .s (.agg (segsMu (cmdOf r) (.own 2 0 3 0 r.tk.cs.length) (.own 3 0 2 0 r.ps.length)))) (cs := [vRq r (rowK r.tk.cs) (rowQ r.ps)]) (Hn := [some (blC r.tk.cs), some (blP r.ps)]) ⟨WV.agg (rqW (rowK_wl) (rowQ_wl)), trivial⟩ (WV.agg (cmW (WL.uown (by exact rfl) rfl rfl) (WL.uown (by exact rfl) rfl rfl))) ⟨rfl, ⟨.recs rfl fun i hi j hj => rowC_wl hj, trivial⟩, rfl, ⟨.recs rfl fun i hi j hj => rowP_wl hj, trivial⟩, trivial⟩) ?_
      conv => whnf
      repeat (refine And.intro rfl ?_; conv => whnf)
      refine CallK.mk' (vM (cmdOf r)) [some (obRq r (rowK r.tk.cs) (rowQ r.ps)), some zM, some (blC r.tk.cs), some (blP r.ps), some zM] ((c54 r hc hp).pure _ ⟨WV.agg (rqW (rowK_vR) (rowQ_vQ)), trivial⟩ (freeF.wv (vM_free (cmdOf r)))) ?_
      conv => whnf
      repeat (refine And.intro rfl ?_; conv => whnf)
      exact Weak.perm [0, 1, 4, 2, 3] ⟨⟨rfl, (rqW (rowK_wl) (rowQ_wl))⟩, ⟨rfl, (cmW (WL.own rfl rfl rfl rfl) (WL.own rfl rfl rfl rfl))⟩, ⟨rfl, obM_ws _⟩, ⟨rfl, ⟨.recs rfl fun i hi j hj => rowC_wl hj, trivial⟩⟩, ⟨rfl, ⟨.recs rfl fun i hi j hj => rowP_wl hj, trivial⟩⟩, trivial⟩ ⟨WV.lf (WL.ptr rfl rfl), WV.lf (rowK_wl), WV.lf (rowQ_wl), WV.lf (WL.ptr rfl rfl), WV.lf (WL.ptr rfl rfl), trivial⟩ rfl (by simp) rfl (by simp)
    · conv => whnf
      repeat (refine And.intro rfl ?_; conv => whnf)
      refine CallK.mk' (.s (.agg (segsMu (cmdOf r) (.own 3 0 3 0 r.tk.cs.length) (.own 4 0 2 0 r.ps.length)))) [some (obRq r (rowK r.tk.cs) (rowQ r.ps)), some zM, some zM, some (blC r.tk.cs), some (blP r.ps)] ((c53tt r hc hp).made [some (obRq r (rowK r.tk.cs) (rowQ r.ps)), some zM, some zM] (rc := .s (.agg (segsMu (cmdOf r) (.own 3 0 3 0 r.tk.cs.length) (.own 4 0 2 0 r.ps.length)))) (cs := [vRq r (rowK r.tk.cs) (rowQ r.ps)]) (Hn := [some (blC r.tk.cs), some (blP r.ps)]) ⟨WV.agg (rqW (rowK_wl) (rowQ_wl)), trivial⟩ (WV.agg (cmW (WL.uown (by exact rfl) rfl rfl) (WL.uown (by exact rfl) rfl rfl))) ⟨rfl, ⟨.recs rfl fun i hi j hj => rowC_wl hj, trivial⟩, rfl, ⟨.recs rfl fun i hi j hj => rowP_wl hj, trivial⟩, trivial⟩) ?_
      conv => whnf
      repeat (refine And.intro rfl ?_; conv => whnf)
      refine CallK.mk' (vM (cmdOf r)) [some (obRq r (rowK r.tk.cs) (rowQ r.ps)), some zM, some zM, some (blC r.tk.cs), some (blP r.ps)] ((c54 r hc hp).pure _ ⟨WV.agg (rqW (rowK_vR) (rowQ_vQ)), trivial⟩ (freeF.wv (vM_free (cmdOf r)))) ?_
      conv => whnf
      repeat (refine And.intro rfl ?_; conv => whnf)
      exact Weak.perm [0, 1, 2, 3, 4] ⟨⟨rfl, (rqW (rowK_wl) (rowQ_wl))⟩, ⟨rfl, (cmW (WL.own rfl rfl rfl rfl) (WL.own rfl rfl rfl rfl))⟩, ⟨rfl, obM_ws _⟩, ⟨rfl, ⟨.recs rfl fun i hi j hj => rowC_wl hj, trivial⟩⟩, ⟨rfl, ⟨.recs rfl fun i hi j hj => rowP_wl hj, trivial⟩⟩, trivial⟩ ⟨WV.lf (WL.ptr rfl rfl), WV.lf (rowK_wl), WV.lf (rowQ_wl), WV.lf (WL.ptr rfl rfl), WV.lf (WL.ptr rfl rfl), trivial⟩ rfl (by simp) rfl (by simp)
    · conv => whnf
      repeat (refine And.intro rfl ?_; conv => whnf)
      refine CallK.mk' (.s (.agg (segsMu (cmdOf r) (.own 2 0 3 0 r.tk.cs.length) (.own 3 0 2 0 r.ps.length)))) [some (obRq r (rowK r.tk.cs) (rowQ r.ps)), some zM, some (blC r.tk.cs), some (blP r.ps)] ((c53tt r hc hp).made [some (obRq r (rowK r.tk.cs) (rowQ r.ps)), some zM] (rc := .s (.agg (segsMu (cmdOf r) (.own 2 0 3 0 r.tk.cs.length) (.own 3 0 2 0 r.ps.length)))) (cs := [vRq r (rowK r.tk.cs) (rowQ r.ps)]) (Hn := [some (blC r.tk.cs), some (blP r.ps)]) ⟨WV.agg (rqW (rowK_wl) (rowQ_wl)), trivial⟩ (WV.agg (cmW (WL.uown (by exact rfl) rfl rfl) (WL.uown (by exact rfl) rfl rfl))) ⟨rfl, ⟨.recs rfl fun i hi j hj => rowC_wl hj, trivial⟩, rfl, ⟨.recs rfl fun i hi j hj => rowP_wl hj, trivial⟩, trivial⟩) ?_
      conv => whnf
      repeat (refine And.intro rfl ?_; conv => whnf)
      refine CallK.mk' (vM (cmdOf r)) [some (obRq r (rowK r.tk.cs) (rowQ r.ps)), some zM, some (blC r.tk.cs), some (blP r.ps)] ((c54 r hc hp).pure _ ⟨WV.agg (rqW (rowK_vR) (rowQ_vQ)), trivial⟩ (freeF.wv (vM_free (cmdOf r)))) ?_
      conv => whnf
      repeat (refine And.intro rfl ?_; conv => whnf)
      exact Weak.perm [0, 4, 1, 2, 3] ⟨⟨rfl, (rqW (rowK_wl) (rowQ_wl))⟩, ⟨rfl, (cmW (WL.own rfl rfl rfl rfl) (WL.own rfl rfl rfl rfl))⟩, ⟨rfl, obM_ws _⟩, ⟨rfl, ⟨.recs rfl fun i hi j hj => rowC_wl hj, trivial⟩⟩, ⟨rfl, ⟨.recs rfl fun i hi j hj => rowP_wl hj, trivial⟩⟩, trivial⟩ ⟨WV.lf (WL.ptr rfl rfl), WV.lf (rowK_wl), WV.lf (rowQ_wl), WV.lf (WL.ptr rfl rfl), WV.lf (WL.ptr rfl rfl), trivial⟩ rfl (by simp) rfl (by simp)
    · conv => whnf
      repeat (refine And.intro rfl ?_; conv => whnf)
      refine CallK.mk' (.s (.agg (segsMu (cmdOf r) (.own 2 0 3 0 r.tk.cs.length) (.own 3 0 2 0 r.ps.length)))) [some (obRq r (rowK r.tk.cs) (rowQ r.ps)), some zM, some (blC r.tk.cs), some (blP r.ps)] ((c53tt r hc hp).made [some (obRq r (rowK r.tk.cs) (rowQ r.ps)), some zM] (rc := .s (.agg (segsMu (cmdOf r) (.own 2 0 3 0 r.tk.cs.length) (.own 3 0 2 0 r.ps.length)))) (cs := [vRq r (rowK r.tk.cs) (rowQ r.ps)]) (Hn := [some (blC r.tk.cs), some (blP r.ps)]) ⟨WV.agg (rqW (rowK_wl) (rowQ_wl)), trivial⟩ (WV.agg (cmW (WL.uown (by exact rfl) rfl rfl) (WL.uown (by exact rfl) rfl rfl))) ⟨rfl, ⟨.recs rfl fun i hi j hj => rowC_wl hj, trivial⟩, rfl, ⟨.recs rfl fun i hi j hj => rowP_wl hj, trivial⟩, trivial⟩) ?_
      conv => whnf
      repeat (refine And.intro rfl ?_; conv => whnf)
      refine CallK.mk' (vM (cmdOf r)) [some (obRq r (rowK r.tk.cs) (rowQ r.ps)), some zM, some (blC r.tk.cs), some (blP r.ps), some zM] ((c54 r hc hp).pure _ ⟨WV.agg (rqW (rowK_vR) (rowQ_vQ)), trivial⟩ (freeF.wv (vM_free (cmdOf r)))) ?_
      conv => whnf
      repeat (refine And.intro rfl ?_; conv => whnf)
      exact Weak.perm [0, 4, 1, 2, 3] ⟨⟨rfl, (rqW (rowK_wl) (rowQ_wl))⟩, ⟨rfl, (cmW (WL.own rfl rfl rfl rfl) (WL.own rfl rfl rfl rfl))⟩, ⟨rfl, obM_ws _⟩, ⟨rfl, ⟨.recs rfl fun i hi j hj => rowC_wl hj, trivial⟩⟩, ⟨rfl, ⟨.recs rfl fun i hi j hj => rowP_wl hj, trivial⟩⟩, trivial⟩ ⟨WV.lf (WL.ptr rfl rfl), WV.lf (rowK_wl), WV.lf (rowQ_wl), WV.lf (WL.ptr rfl rfl), WV.lf (WL.ptr rfl rfl), trivial⟩ rfl (by simp) rfl (by simp)
    · conv => whnf
      repeat (refine And.intro rfl ?_; conv => whnf)
      refine CallK.mk' (.s (.agg (segsMu (cmdOf r) (.own 3 0 3 0 r.tk.cs.length) (.own 4 0 2 0 r.ps.length)))) [some (obRq r (rowK r.tk.cs) (rowQ r.ps)), some zM, some zM, some (blC r.tk.cs), some (blP r.ps)] ((c53tt r hc hp).made [some (obRq r (rowK r.tk.cs) (rowQ r.ps)), some zM, some zM] (rc := .s (.agg (segsMu (cmdOf r) (.own 3 0 3 0 r.tk.cs.length) (.own 4 0 2 0 r.ps.length)))) (cs := [vRq r (rowK r.tk.cs) (rowQ r.ps)]) (Hn := [some (blC r.tk.cs), some (blP r.ps)]) ⟨WV.agg (rqW (rowK_wl) (rowQ_wl)), trivial⟩ (WV.agg (cmW (WL.uown (by exact rfl) rfl rfl) (WL.uown (by exact rfl) rfl rfl))) ⟨rfl, ⟨.recs rfl fun i hi j hj => rowC_wl hj, trivial⟩, rfl, ⟨.recs rfl fun i hi j hj => rowP_wl hj, trivial⟩, trivial⟩) ?_
      conv => whnf
      repeat (refine And.intro rfl ?_; conv => whnf)
      refine CallK.mk' (vM (cmdOf r)) [some (obRq r (rowK r.tk.cs) (rowQ r.ps)), some zM, some zM, some (blC r.tk.cs), some (blP r.ps)] ((c54 r hc hp).pure _ ⟨WV.agg (rqW (rowK_vR) (rowQ_vQ)), trivial⟩ (freeF.wv (vM_free (cmdOf r)))) ?_
      conv => whnf
      repeat (refine And.intro rfl ?_; conv => whnf)
      exact Weak.perm [0, 2, 1, 3, 4] ⟨⟨rfl, (rqW (rowK_wl) (rowQ_wl))⟩, ⟨rfl, (cmW (WL.own rfl rfl rfl rfl) (WL.own rfl rfl rfl rfl))⟩, ⟨rfl, obM_ws _⟩, ⟨rfl, ⟨.recs rfl fun i hi j hj => rowC_wl hj, trivial⟩⟩, ⟨rfl, ⟨.recs rfl fun i hi j hj => rowP_wl hj, trivial⟩⟩, trivial⟩ ⟨WV.lf (WL.ptr rfl rfl), WV.lf (rowK_wl), WV.lf (rowQ_wl), WV.lf (WL.ptr rfl rfl), WV.lf (WL.ptr rfl rfl), trivial⟩ rfl (by simp) rfl (by simp)
  conv => whnf
  refine CallK.mk' _ _ ((c55 (cmdOf r) (cmdOf r) hcl hpl).lend (cs := [.s (.agg (segsMu (cmdOf r) (.own 3 0 3 0 r.tk.cs.length) (.own 4 0 2 0 r.ps.length))), vM (cmdOf r)]) (fun _ => False) _ ⟨WV.agg (cmW (WL.lentC (ty := 23) rfl rfl rfl (fun _ _ _ _ => rfl) (gone_none fun h => h)) (lentP (ty := 58) rfl rfl rfl (fun _ _ _ _ => rfl) (gone_none fun h => h))), freeF.wv (vM_free (cmdOf r)), trivial⟩ (plainF.wv trivial)) ?_
  conv => whnf
  refine LoopK.mk1 (fun i : Nat => [(39, vI i), (38, vI r.tk.cs.length), (1, .s (.lf (.ptr 0 0))), (3, .s (.lf (rowK r.tk.cs))), (4, .s (.lf (rowQ r.ps))), (5, .s (.lf (.ptr 1 0))), (7, .s (.lf (.bool (decide (cmdOf r = cmdOf r)))))]) (fun _ => [some (obRq r (rowK r.tk.cs) (rowQ r.ps)), some ⟨60, segsMu (cmdOf r) (.own 3 0 3 0 r.tk.cs.length) (.own 4 0 2 0 r.ps.length)⟩, some (obM (cmdOf r)), some (ukC r.tk.cs.length), some (blP r.ps)]) (fun i => i ≤ r.tk.cs.length) (fun i => r.tk.cs.length - i) 0 (by omega) (Weak.of ⟨rfl, (rqW (rowK_wl) (rowQ_wl)), rfl, (cmW (WL.own rfl rfl rfl rfl) (WL.own rfl rfl rfl rfl)), rfl, obM_ws _, rfl, ⟨.recs rfl fun i hi j hj => WL.unk (rowC_leaf hj), trivial⟩, rfl, ⟨.recs rfl fun i hi j hj => rowP_wl hj, trivial⟩, trivial⟩ (by simp) ⟨okF.wv trivial, okF.wv trivial, WV.lf (WL.ptr rfl rfl), WV.lf (rowK_wl), WV.lf (rowQ_wl), WV.lf (WL.ptr rfl rfl), WV.lf (WL.bool rfl), trivial⟩) ?_
  intro i hi
  conv => whnf
  by_cases hi' : i < r.tk.cs.length
  · refine CaseB.of_true (decide_eq_true (by omega)) ?_
    conv => whnf
    refine And.intro (by omega) ?_
    conv => whnf
    refine And.intro (by omega) ?_
    conv => whnf
    exact ⟨i + 1, by omega, by show r.tk.cs.length - (i + 1) < r.tk.cs.length - i; omega, Weak.of ⟨rfl, (rqW (rowK_wl) (rowQ_wl)), rfl, (cmW (WL.own rfl rfl rfl rfl) (WL.own rfl rfl rfl rfl)), rfl, obM_ws _, rfl, ⟨.recs rfl fun i hi j hj => WL.unk (upd_leaf rfl rfl), trivial⟩, rfl, ⟨.recs rfl fun i hi j hj => rowP_wl hj, trivial⟩, trivial⟩ (by simp) ⟨WV.lf (WL.int (by rw [wrap_i64 (by omega) (by omega)]; omega)), okF.wv trivial, WV.lf (WL.ptr rfl rfl), WV.lf (rowK_wl), WV.lf (rowQ_wl), WV.lf (WL.ptr rfl rfl), WV.lf (WL.bool rfl), trivial⟩⟩
  refine CaseB.of_false (decide_eq_false (by omega)) ?_
  conv => whnf
  refine LoopK.mk1 (fun i : Nat => [(51, vI i), (50, vI r.ps.length), (1, .s (.lf (.ptr 0 0))), (3, .s (.lf (rowK r.tk.cs))), (4, .s (.lf (rowQ r.ps))), (5, .s (.lf (.ptr 1 0))), (7, .s (.lf (.bool (decide (cmdOf r = cmdOf r)))))]) (fun _ => [some (obRq r (rowK r.tk.cs) (rowQ r.ps)), some ⟨60, segsMu (cmdOf r) (.own 3 0 3 0 r.tk.cs.length) (.own 4 0 2 0 r.ps.length)⟩, some (obM (cmdOf r)), some (ukC r.tk.cs.length), some (ukP r.ps.length)]) (fun i => i ≤ r.ps.length) (fun i => r.ps.length - i) 0 (by omega) (Weak.of ⟨rfl, (rqW (rowK_wl) (rowQ_wl)), rfl, (cmW (WL.own rfl rfl rfl rfl) (WL.own rfl rfl rfl rfl)), rfl, obM_ws _, rfl, ⟨.recs rfl fun i hi j hj => WL.unk rfl, trivial⟩, rfl, ⟨.recs rfl fun i hi j hj => WL.unk (rowP_leaf hj), trivial⟩, trivial⟩ (by simp) ⟨okF.wv trivial, okF.wv trivial, WV.lf (WL.ptr rfl rfl), WV.lf (rowK_wl), WV.lf (rowQ_wl), WV.lf (WL.ptr rfl rfl), WV.lf (WL.bool rfl), trivial⟩) ?_
  intro i hi
  conv => whnf
  by_cases hi' : i < r.ps.length
  · refine CaseB.of_true (decide_eq_true (by omega)) ?_
    conv => whnf
    refine And.intro (by omega) ?_
    conv => whnf
    refine And.intro (by omega) ?_
    conv => whnf
    exact ⟨i + 1, by omega, by show r.ps.length - (i + 1) < r.ps.length - i; omega, Weak.of ⟨rfl, (rqW (rowK_wl) (rowQ_wl)), rfl, (cmW (WL.own rfl rfl rfl rfl) (WL.own rfl rfl rfl rfl)), rfl, obM_ws _, rfl, ⟨.recs rfl fun i hi j hj => WL.unk rfl, trivial⟩, rfl, ⟨.recs rfl fun i hi j hj => WL.unk (upd_leaf rfl rfl), trivial⟩, trivial⟩ (by simp) ⟨WV.lf (WL.int (by rw [wrap_i64 (by omega) (by omega)]; omega)), okF.wv trivial, WV.lf (WL.ptr rfl rfl), WV.lf (rowK_wl), WV.lf (rowQ_wl), WV.lf (WL.ptr rfl rfl), WV.lf (WL.bool rfl), trivial⟩⟩
  refine CaseB.of_false (decide_eq_false (by omega)) ?_
  conv => whnf
  refine CaseB.of_true (decide_eq_true rfl) ?_
  conv => whnf
  refine CallK.mk' _ _ ((c32 r.tk.cs r.tk.cs hcl).pure _ ⟨WV.lf (rowK_vR), WV.lf (rowK_vR), trivial⟩ (freeF.wv (v := .s (.lf (.bool _))) trivial)) ?_
  conv => whnf
  refine CaseB.of_true (decide_eq_true rfl) ?_
  conv => whnf
  refine CallK.mk' _ _ ((c56 r.ps r.ps hpl).pure _ ⟨WV.lf (rowQ_vQ), WV.lf (rowQ_vQ), trivial⟩ (freeF.wv (v := .s (.lf (.bool _))) trivial)) ?_
  conv => whnf
  refine CaseB.of_true (decide_eq_true rfl) ?_
  conv => whnf
  refine CallK.mk' _ _ (c51.free _ trivial trivial) ?_
  conv => whnf
  exact RetK.empty (okF.wv trivial)


set_option maxHeartbeats 4000000 in
/-- baileylaw23.CommandOf, caveats, no pieces -/
theorem c9tn (r : RqS) (hcl : r.tk.cs.length ≤ maxLen) (hpl : r.ps.length ≤ maxLen) (hpn : r.ps = []) : SCalls Proofs.Try.prog 9 [vRq r (rowK r.tk.cs) (.sl0)] [] (.s (.lf .tt)) [] := by
  have h51 := c51.free [some (obRq r (rowK r.tk.cs) (.sl0))] trivial trivial
  refine SCalls.intro tok Proofs.Try.func9 ?_
  conv => whnf
  by_cases h20 : 20 < ((r.tk.cs.length : Nat) : Int)
  · refine CaseB.of_true (decide_eq_true h20) ?_
    conv => whnf
    refine CallK.mk' _ _ h51 ?_
    conv => whnf
    exact RetK.empty (okF.wv trivial)
  refine CaseB.of_false (decide_eq_false h20) ?_
  conv => whnf
  refine CaseB.of_false rfl ?_
  conv => whnf
  have hc : r.tk.cs.length ≤ 1000000 := by omega
  have hp : r.ps.length ≤ 1000000 := by rw [hpn]; decide
  refine DrawK.mk1 tok mixed [0, 1, 3, 7, 0, 16, 63, 127, 255] [(0, 1, [0]), (1, 1, [0]), (2, 1, [0]), (3, 2, []), (4, 1, [0, 1]), (5, 1, [0, 1]), (6, 2, []), (7, 0, []), (8, 0, [])] (by kernel_rfl) ?_
  conv => whnf
  refine CallK.mk' _ _ ((c39k r.tk.cs hc).free _ ⟨rowK_free, trivial⟩ rowK_free) ?_
  conv => whnf
  repeat (refine And.intro rfl ?_; conv => whnf)
  refine CallK.mk' _ _ (c52n.free _ ⟨trivial, trivial⟩ trivial) ?_
  conv => whnf
  refine DrawK.join [(1, .s (.lf (.ptr 0 0))), (3, .s (.lf (rowK r.tk.cs))), (4, .s (.lf (.sl0))), (5, .s (.lf (.ptr 1 0))), (6, .s (.lf (.ptr 2 0)))] [some (obRq r (rowK r.tk.cs) (.sl0)), some ⟨60, segsMu (cmdOf r) (.own 3 0 3 0 r.tk.cs.length) (.sl0)⟩, some (obM (cmdOf r)), some (blC r.tk.cs)] ?_ ?_
  · refine DrawK.mkL tok mixed [0, 1, 0, 7, 0, 0, 63, 127] [1, 3, 4, 5, 6, 7] [
      ([0, 1, 0, 7, 15, 31, 63, 127], [(0, 1, [0]), (1, 2, []), (2, 1, [0, 1]), (3, 2, []), (4, 2, []), (5, 2, []), (6, 2, []), (7, 2, [])]),
      ([0, 1, 0, 7, 47, 15, 63, 127], [(0, 1, [0]), (1, 2, []), (2, 1, [0, 1]), (3, 2, []), (5, 2, []), (4, 2, []), (6, 2, []), (7, 2, [])]),
      ([0, 1, 0, 23, 3, 31, 63, 127], [(0, 1, [0]), (1, 2, []), (4, 2, []), (2, 1, [0, 1, 2]), (3, 2, []), (5, 2, []), (6, 2, []), (7, 2, [])]),
      ([0, 1, 0, 55, 3, 19, 63, 127], [(0, 1, [0]), (1, 2, []), (4, 2, []), (5, 2, []), (2, 1, [0, 1, 2, 3]), (3, 2, []), (6, 2, []), (7, 2, [])]),
      ([0, 1, 0, 39, 47, 3, 63, 127], [(0, 1, [0]), (1, 2, []), (5, 2, []), (2, 1, [0, 1, 2]), (3, 2, []), (4, 2, []), (6, 2, []), (7, 2, [])]),
      ([0, 1, 0, 55, 35, 3, 63, 127], [(0, 1, [0]), (1, 2, []), (5, 2, []), (4, 2, []), (2, 1, [0, 1, 2, 3]), (3, 2, []), (6, 2, []), (7, 2, [])]),
      ([0, 17, 0, 23, 0, 31, 63, 127], [(4, 2, []), (0, 1, [0, 1]), (1, 2, []), (2, 1, [0, 1, 2]), (3, 2, []), (5, 2, []), (6, 2, []), (7, 2, [])]),
      ([0, 17, 0, 55, 0, 19, 63, 127], [(4, 2, []), (0, 1, [0, 1]), (1, 2, []), (5, 2, []), (2, 1, [0, 1, 2, 3]), (3, 2, []), (6, 2, []), (7, 2, [])]),
      ([0, 49, 0, 55, 0, 16, 63, 127], [(4, 2, []), (5, 2, []), (0, 1, [0, 1, 2]), (1, 2, []), (2, 1, [0, 1, 2, 3]), (3, 2, []), (6, 2, []), (7, 2, [])]),
      ([0, 33, 0, 39, 47, 0, 63, 127], [(5, 2, []), (0, 1, [0, 1]), (1, 2, []), (2, 1, [0, 1, 2]), (3, 2, []), (4, 2, []), (6, 2, []), (7, 2, [])]),
      ([0, 33, 0, 55, 35, 0, 63, 127], [(5, 2, []), (0, 1, [0, 1]), (1, 2, []), (4, 2, []), (2, 1, [0, 1, 2, 3]), (3, 2, []), (6, 2, []), (7, 2, [])]),
      ([0, 49, 0, 55, 32, 0, 63, 127], [(5, 2, []), (4, 2, []), (0, 1, [0, 1, 2]), (1, 2, []), (2, 1, [0, 1, 2, 3]), (3, 2, []), (6, 2, []), (7, 2, [])])] (by kernel_rfl) ?_
    refine ⟨?_, ?_, ?_, ?_, ?_, ?_, ?_, ?_, ?_, ?_, ?_, ?_, trivial⟩
    · conv => whnf
      repeat (refine And.intro rfl ?_; conv => whnf)
      refine CallK.mk' (.s (.agg (segsMu (cmdOf r) (.own 1 0 3 0 r.tk.cs.length) (.sl0)))) [some (obRq r (rowK r.tk.cs) (.sl0)), some (blC r.tk.cs)] ((c53tn r hc hp).made [some (obRq r (rowK r.tk.cs) (.sl0))] (rc := .s (.agg (segsMu (cmdOf r) (.own 1 0 3 0 r.tk.cs.length) (.sl0)))) (cs := [vRq r (rowK r.tk.cs) (.sl0)]) (Hn := [some (blC r.tk.cs)]) ⟨WV.agg (rqW (rowK_wl) (freeL.wl (v := .sl0) trivial)), trivial⟩ (WV.agg (cmW (WL.uown (by exact rfl) rfl rfl) (sl0_wl))) ⟨rfl, ⟨.recs rfl fun i hi j hj => rowC_wl hj, trivial⟩, trivial⟩) ?_
      conv => whnf
      repeat (refine And.intro rfl ?_; conv => whnf)
      refine CallK.mk' (vM (cmdOf r)) [some (obRq r (rowK r.tk.cs) (.sl0)), some (blC r.tk.cs)] ((c54 r hc hp).pure _ ⟨WV.agg (rqW (rowK_vR) ((by rw [hpn]; exact WL.sl0ro))), trivial⟩ (freeF.wv (vM_free (cmdOf r)))) ?_
      conv => whnf
      repeat (refine And.intro rfl ?_; conv => whnf)
      exact Weak.perm [0, 2, 3, 1] ⟨⟨rfl, (rqW (rowK_wl) (freeL.wl (v := .sl0) trivial))⟩, ⟨rfl, (cmW (WL.own rfl rfl rfl rfl) (sl0_wl))⟩, ⟨rfl, obM_ws _⟩, ⟨rfl, ⟨.recs rfl fun i hi j hj => rowC_wl hj, trivial⟩⟩, trivial⟩ ⟨WV.lf (WL.ptr rfl rfl), WV.lf (rowK_wl), WV.lf (freeL.wl (v := .sl0) trivial), WV.lf (WL.ptr rfl rfl), WV.lf (WL.ptr rfl rfl), trivial⟩ rfl (by simp) rfl (by simp)
    · conv => whnf
      repeat (refine And.intro rfl ?_; conv => whnf)
      refine CallK.mk' (.s (.agg (segsMu (cmdOf r) (.own 1 0 3 0 r.tk.cs.length) (.sl0)))) [some (obRq r (rowK r.tk.cs) (.sl0)), some (blC r.tk.cs)] ((c53tn r hc hp).made [some (obRq r (rowK r.tk.cs) (.sl0))] (rc := .s (.agg (segsMu (cmdOf r) (.own 1 0 3 0 r.tk.cs.length) (.sl0)))) (cs := [vRq r (rowK r.tk.cs) (.sl0)]) (Hn := [some (blC r.tk.cs)]) ⟨WV.agg (rqW (rowK_wl) (freeL.wl (v := .sl0) trivial)), trivial⟩ (WV.agg (cmW (WL.uown (by exact rfl) rfl rfl) (sl0_wl))) ⟨rfl, ⟨.recs rfl fun i hi j hj => rowC_wl hj, trivial⟩, trivial⟩) ?_
      conv => whnf
      repeat (refine And.intro rfl ?_; conv => whnf)
      refine CallK.mk' (vM (cmdOf r)) [some (obRq r (rowK r.tk.cs) (.sl0)), some (blC r.tk.cs)] ((c54 r hc hp).pure _ ⟨WV.agg (rqW (rowK_vR) ((by rw [hpn]; exact WL.sl0ro))), trivial⟩ (freeF.wv (vM_free (cmdOf r)))) ?_
      conv => whnf
      repeat (refine And.intro rfl ?_; conv => whnf)
      exact Weak.perm [0, 3, 2, 1] ⟨⟨rfl, (rqW (rowK_wl) (freeL.wl (v := .sl0) trivial))⟩, ⟨rfl, (cmW (WL.own rfl rfl rfl rfl) (sl0_wl))⟩, ⟨rfl, obM_ws _⟩, ⟨rfl, ⟨.recs rfl fun i hi j hj => rowC_wl hj, trivial⟩⟩, trivial⟩ ⟨WV.lf (WL.ptr rfl rfl), WV.lf (rowK_wl), WV.lf (freeL.wl (v := .sl0) trivial), WV.lf (WL.ptr rfl rfl), WV.lf (WL.ptr rfl rfl), trivial⟩ rfl (by simp) rfl (by simp)
    · conv => whnf
      repeat (refine And.intro rfl ?_; conv => whnf)
      refine CallK.mk' (.s (.agg (segsMu (cmdOf r) (.own 1 0 3 0 r.tk.cs.length) (.sl0)))) [some (obRq r (rowK r.tk.cs) (.sl0)), some (blC r.tk.cs)] ((c53tn r hc hp).made [some (obRq r (rowK r.tk.cs) (.sl0))] (rc := .s (.agg (segsMu (cmdOf r) (.own 1 0 3 0 r.tk.cs.length) (.sl0)))) (cs := [vRq r (rowK r.tk.cs) (.sl0)]) (Hn := [some (blC r.tk.cs)]) ⟨WV.agg (rqW (rowK_wl) (freeL.wl (v := .sl0) trivial)), trivial⟩ (WV.agg (cmW (WL.uown (by exact rfl) rfl rfl) (sl0_wl))) ⟨rfl, ⟨.recs rfl fun i hi j hj => rowC_wl hj, trivial⟩, trivial⟩) ?_
      conv => whnf
      repeat (refine And.intro rfl ?_; conv => whnf)
      refine CallK.mk' (vM (cmdOf r)) [some (obRq r (rowK r.tk.cs) (.sl0)), some (blC r.tk.cs), some zM] ((c54 r hc hp).pure _ ⟨WV.agg (rqW (rowK_vR) ((by rw [hpn]; exact WL.sl0ro))), trivial⟩ (freeF.wv (vM_free (cmdOf r)))) ?_
      conv => whnf
      repeat (refine And.intro rfl ?_; conv => whnf)
      exact Weak.perm [0, 2, 3, 1] ⟨⟨rfl, (rqW (rowK_wl) (freeL.wl (v := .sl0) trivial))⟩, ⟨rfl, (cmW (WL.own rfl rfl rfl rfl) (sl0_wl))⟩, ⟨rfl, obM_ws _⟩, ⟨rfl, ⟨.recs rfl fun i hi j hj => rowC_wl hj, trivial⟩⟩, trivial⟩ ⟨WV.lf (WL.ptr rfl rfl), WV.lf (rowK_wl), WV.lf (freeL.wl (v := .sl0) trivial), WV.lf (WL.ptr rfl rfl), WV.lf (WL.ptr rfl rfl), trivial⟩ rfl (by simp) rfl (by simp)
    · conv => whnf
      repeat (refine And.intro rfl ?_; conv => whnf)
      refine CallK.mk' (.s (.agg (segsMu (cmdOf r) (.own 1 0 3 0 r.tk.cs.length) (.sl0)))) [some (obRq r (rowK r.tk.cs) (.sl0)), some (blC r.tk.cs)] ((c53tn r hc hp).made [some (obRq r (rowK r.tk.cs) (.sl0))] (rc := .s (.agg (segsMu (cmdOf r) (.own 1 0 3 0 r.tk.cs.length) (.sl0)))) (cs := [vRq r (rowK r.tk.cs) (.sl0)]) (Hn := [some (blC r.tk.cs)]) ⟨WV.agg (rqW (rowK_wl) (freeL.wl (v := .sl0) trivial)), trivial⟩ (WV.agg (cmW (WL.uown (by exact rfl) rfl rfl) (sl0_wl))) ⟨rfl, ⟨.recs rfl fun i hi j hj => rowC_wl hj, trivial⟩, trivial⟩) ?_
      conv => whnf
      repeat (refine And.intro rfl ?_; conv => whnf)
      refine CallK.mk' (vM (cmdOf r)) [some (obRq r (rowK r.tk.cs) (.sl0)), some (blC r.tk.cs), some zM, some zM] ((c54 r hc hp).pure _ ⟨WV.agg (rqW (rowK_vR) ((by rw [hpn]; exact WL.sl0ro))), trivial⟩ (freeF.wv (vM_free (cmdOf r)))) ?_
      conv => whnf
      repeat (refine And.intro rfl ?_; conv => whnf)
      exact Weak.perm [0, 2, 3, 1] ⟨⟨rfl, (rqW (rowK_wl) (freeL.wl (v := .sl0) trivial))⟩, ⟨rfl, (cmW (WL.own rfl rfl rfl rfl) (sl0_wl))⟩, ⟨rfl, obM_ws _⟩, ⟨rfl, ⟨.recs rfl fun i hi j hj => rowC_wl hj, trivial⟩⟩, trivial⟩ ⟨WV.lf (WL.ptr rfl rfl), WV.lf (rowK_wl), WV.lf (freeL.wl (v := .sl0) trivial), WV.lf (WL.ptr rfl rfl), WV.lf (WL.ptr rfl rfl), trivial⟩ rfl (by simp) rfl (by simp)
    · conv => whnf
      repeat (refine And.intro rfl ?_; conv => whnf)
      refine CallK.mk' (.s (.agg (segsMu (cmdOf r) (.own 1 0 3 0 r.tk.cs.length) (.sl0)))) [some (obRq r (rowK r.tk.cs) (.sl0)), some (blC r.tk.cs)] ((c53tn r hc hp).made [some (obRq r (rowK r.tk.cs) (.sl0))] (rc := .s (.agg (segsMu (cmdOf r) (.own 1 0 3 0 r.tk.cs.length) (.sl0)))) (cs := [vRq r (rowK r.tk.cs) (.sl0)]) (Hn := [some (blC r.tk.cs)]) ⟨WV.agg (rqW (rowK_wl) (freeL.wl (v := .sl0) trivial)), trivial⟩ (WV.agg (cmW (WL.uown (by exact rfl) rfl rfl) (sl0_wl))) ⟨rfl, ⟨.recs rfl fun i hi j hj => rowC_wl hj, trivial⟩, trivial⟩) ?_
      conv => whnf
      repeat (refine And.intro rfl ?_; conv => whnf)
      refine CallK.mk' (vM (cmdOf r)) [some (obRq r (rowK r.tk.cs) (.sl0)), some (blC r.tk.cs), some zM] ((c54 r hc hp).pure _ ⟨WV.agg (rqW (rowK_vR) ((by rw [hpn]; exact WL.sl0ro))), trivial⟩ (freeF.wv (vM_free (cmdOf r)))) ?_
      conv => whnf
      repeat (refine And.intro rfl ?_; conv => whnf)
      exact Weak.perm [0, 3, 2, 1] ⟨⟨rfl, (rqW (rowK_wl) (freeL.wl (v := .sl0) trivial))⟩, ⟨rfl, (cmW (WL.own rfl rfl rfl rfl) (sl0_wl))⟩, ⟨rfl, obM_ws _⟩, ⟨rfl, ⟨.recs rfl fun i hi j hj => rowC_wl hj, trivial⟩⟩, trivial⟩ ⟨WV.lf (WL.ptr rfl rfl), WV.lf (rowK_wl), WV.lf (freeL.wl (v := .sl0) trivial), WV.lf (WL.ptr rfl rfl), WV.lf (WL.ptr rfl rfl), trivial⟩ rfl (by simp) rfl (by simp)
    · conv => whnf
      repeat (refine And.intro rfl ?_; conv => whnf)
      refine CallK.mk' (.s (.agg (segsMu (cmdOf r) (.own 1 0 3 0 r.tk.cs.length) (.sl0)))) [some (obRq r (rowK r.tk.cs) (.sl0)), some (blC r.tk.cs)] ((c53tn r hc hp).made [some (obRq r (rowK r.tk.cs) (.sl0))] (rc := .s (.agg (segsMu (cmdOf r) (.own 1 0 3 0 r.tk.cs.length) (.sl0)))) (cs := [vRq r (rowK r.tk.cs) (.sl0)]) (Hn := [some (blC r.tk.cs)]) ⟨WV.agg (rqW (rowK_wl) (freeL.wl (v := .sl0) trivial)), trivial⟩ (WV.agg (cmW (WL.uown (by exact rfl) rfl rfl) (sl0_wl))) ⟨rfl, ⟨.recs rfl fun i hi j hj => rowC_wl hj, trivial⟩, trivial⟩) ?_
      conv => whnf
      repeat (refine And.intro rfl ?_; conv => whnf)
      refine CallK.mk' (vM (cmdOf r)) [some (obRq r (rowK r.tk.cs) (.sl0)), some (blC r.tk.cs), some zM, some zM] ((c54 r hc hp).pure _ ⟨WV.agg (rqW (rowK_vR) ((by rw [hpn]; exact WL.sl0ro))), trivial⟩ (freeF.wv (vM_free (cmdOf r)))) ?_
      conv => whnf
      repeat (refine And.intro rfl ?_; conv => whnf)
      exact Weak.perm [0, 3, 2, 1] ⟨⟨rfl, (rqW (rowK_wl) (freeL.wl (v := .sl0) trivial))⟩, ⟨rfl, (cmW (WL.own rfl rfl rfl rfl) (sl0_wl))⟩, ⟨rfl, obM_ws _⟩, ⟨rfl, ⟨.recs rfl fun i hi j hj => rowC_wl hj, trivial⟩⟩, trivial⟩ ⟨WV.lf (WL.ptr rfl rfl), WV.lf (rowK_wl), WV.lf (freeL.wl (v := .sl0) trivial), WV.lf (WL.ptr rfl rfl), WV.lf (WL.ptr rfl rfl), trivial⟩ rfl (by simp) rfl (by simp)
    · conv => whnf
      repeat (refine And.intro rfl ?_; conv => whnf)
      refine CallK.mk' (.s (.agg (segsMu (cmdOf r) (.own 2 0 3 0 r.tk.cs.length) (.sl0)))) [some (obRq r (rowK r.tk.cs) (.sl0)), some zM, some (blC r.tk.cs)] ((c53tn r hc hp).made [some (obRq r (rowK r.tk.cs) (.sl0)), some zM] (rc := .s (.agg (segsMu (cmdOf r) (.own 2 0 3 0 r.tk.cs.length) (.sl0)))) (cs := [vRq r (rowK r.tk.cs) (.sl0)]) (Hn := [some (blC r.tk.cs)]) ⟨WV.agg (rqW (rowK_wl) (freeL.wl (v := .sl0) trivial)), trivial⟩ (WV.agg (cmW (WL.uown (by exact rfl) rfl rfl) (sl0_wl))) ⟨rfl, ⟨.recs rfl fun i hi j hj => rowC_wl hj, trivial⟩, trivial⟩) ?_
      conv => whnf
      repeat (refine And.intro rfl ?_; conv => whnf)
      refine CallK.mk' (vM (cmdOf r)) [some (obRq r (rowK r.tk.cs) (.sl0)), some zM, some (blC r.tk.cs)] ((c54 r hc hp).pure _ ⟨WV.agg (rqW (rowK_vR) ((by rw [hpn]; exact WL.sl0ro))), trivial⟩ (freeF.wv (vM_free (cmdOf r)))) ?_
      conv => whnf
      repeat (refine And.intro rfl ?_; conv => whnf)
      exact Weak.perm [0, 1, 3, 2] ⟨⟨rfl, (rqW (rowK_wl) (freeL.wl (v := .sl0) trivial))⟩, ⟨rfl, (cmW (WL.own rfl rfl rfl rfl) (sl0_wl))⟩, ⟨rfl, obM_ws _⟩, ⟨rfl, ⟨.recs rfl fun i hi j hj => rowC_wl hj, trivial⟩⟩, trivial⟩ ⟨WV.lf (WL.ptr rfl rfl), WV.lf (rowK_wl), WV.lf (freeL.wl (v := .sl0) trivial), WV.lf (WL.ptr rfl rfl), WV.lf (WL.ptr rfl rfl), trivial⟩ rfl (by simp) rfl (by simp)
    · conv => whnf
      repeat (refine And.intro rfl ?_; conv => whnf)
      refine CallK.mk' (.s (.agg (segsMu (cmdOf r) (.own 2 0 3 0 r.tk.cs.length) (.sl0)))) [some (obRq r (rowK r.tk.cs) (.sl0)), some zM, some (blC r.tk.cs)] ((c53tn r hc hp).made [some (obRq r (rowK r.tk.cs) (.sl0)), some zM] (rc := .s (.agg (segsMu (cmdOf r) (.own 2 0 3 0 r.tk.cs.length) (.sl0)))) (cs := [vRq r (rowK r.tk.cs) (.sl0)]) (Hn := [some (blC r.tk.cs)]) ⟨WV.agg (rqW (rowK_wl) (freeL.wl (v := .sl0) trivial)), trivial⟩ (WV.agg (cmW (WL.uown (by exact rfl) rfl rfl) (sl0_wl))) ⟨rfl, ⟨.recs rfl fun i hi j hj => rowC_wl hj, trivial⟩, trivial⟩) ?_
      conv => whnf
      repeat (refine And.intro rfl ?_; conv => whnf)
      refine CallK.mk' (vM (cmdOf r)) [some (obRq r (rowK r.tk.cs) (.sl0)), some zM, some (blC r.tk.cs), some zM] ((c54 r hc hp).pure _ ⟨WV.agg (rqW (rowK_vR) ((by rw [hpn]; exact WL.sl0ro))), trivial⟩ (freeF.wv (vM_free (cmdOf r)))) ?_
      conv => whnf
      repeat (refine And.intro rfl ?_; conv => whnf)
      exact Weak.perm [0, 1, 3, 2] ⟨⟨rfl, (rqW (rowK_wl) (freeL.wl (v := .sl0) trivial))⟩, ⟨rfl, (cmW (WL.own rfl rfl rfl rfl) (sl0_wl))⟩, ⟨rfl, obM_ws _⟩, ⟨rfl, ⟨.recs rfl fun i hi j hj => rowC_wl hj, trivial⟩⟩, trivial⟩ ⟨WV.lf (WL.ptr rfl rfl), WV.lf (rowK_wl), WV.lf (freeL.wl (v := .sl0) trivial), WV.lf (WL.ptr rfl rfl), WV.lf (WL.ptr rfl rfl), trivial⟩ rfl (by simp) rfl (by simp)
    · conv => whnf
      repeat (refine And.intro rfl ?_; conv => whnf)
      refine CallK.mk' (.s (.agg (segsMu (cmdOf r) (.own 3 0 3 0 r.tk.cs.length) (.sl0)))) [some (obRq r (rowK r.tk.cs) (.sl0)), some zM, some zM, some (blC r.tk.cs)] ((c53tn r hc hp).made [some (obRq r (rowK r.tk.cs) (.sl0)), some zM, some zM] (rc := .s (.agg (segsMu (cmdOf r) (.own 3 0 3 0 r.tk.cs.length) (.sl0)))) (cs := [vRq r (rowK r.tk.cs) (.sl0)]) (Hn := [some (blC r.tk.cs)]) ⟨WV.agg (rqW (rowK_wl) (freeL.wl (v := .sl0) trivial)), trivial⟩ (WV.agg (cmW (WL.uown (by exact rfl) rfl rfl) (sl0_wl))) ⟨rfl, ⟨.recs rfl fun i hi j hj => rowC_wl hj, trivial⟩, trivial⟩) ?_
      conv => whnf
      repeat (refine And.intro rfl ?_; conv => whnf)
      refine CallK.mk' (vM (cmdOf r)) [some (obRq r (rowK r.tk.cs) (.sl0)), some zM, some zM, some (blC r.tk.cs)] ((c54 r hc hp).pure _ ⟨WV.agg (rqW (rowK_vR) ((by rw [hpn]; exact WL.sl0ro))), trivial⟩ (freeF.wv (vM_free (cmdOf r)))) ?_
      conv => whnf
      repeat (refine And.intro rfl ?_; conv => whnf)
      exact Weak.perm [0, 1, 2, 3] ⟨⟨rfl, (rqW (rowK_wl) (freeL.wl (v := .sl0) trivial))⟩, ⟨rfl, (cmW (WL.own rfl rfl rfl rfl) (sl0_wl))⟩, ⟨rfl, obM_ws _⟩, ⟨rfl, ⟨.recs rfl fun i hi j hj => rowC_wl hj, trivial⟩⟩, trivial⟩ ⟨WV.lf (WL.ptr rfl rfl), WV.lf (rowK_wl), WV.lf (freeL.wl (v := .sl0) trivial), WV.lf (WL.ptr rfl rfl), WV.lf (WL.ptr rfl rfl), trivial⟩ rfl (by simp) rfl (by simp)
    · conv => whnf
      repeat (refine And.intro rfl ?_; conv => whnf)
      refine CallK.mk' (.s (.agg (segsMu (cmdOf r) (.own 2 0 3 0 r.tk.cs.length) (.sl0)))) [some (obRq r (rowK r.tk.cs) (.sl0)), some zM, some (blC r.tk.cs)] ((c53tn r hc hp).made [some (obRq r (rowK r.tk.cs) (.sl0)), some zM] (rc := .s (.agg (segsMu (cmdOf r) (.own 2 0 3 0 r.tk.cs.length) (.sl0)))) (cs := [vRq r (rowK r.tk.cs) (.sl0)]) (Hn := [some (blC r.tk.cs)]) ⟨WV.agg (rqW (rowK_wl) (freeL.wl (v := .sl0) trivial)), trivial⟩ (WV.agg (cmW (WL.uown (by exact rfl) rfl rfl) (sl0_wl))) ⟨rfl, ⟨.recs rfl fun i hi j hj => rowC_wl hj, trivial⟩, trivial⟩) ?_
      conv => whnf
      repeat (refine And.intro rfl ?_; conv => whnf)
      refine CallK.mk' (vM (cmdOf r)) [some (obRq r (rowK r.tk.cs) (.sl0)), some zM, some (blC r.tk.cs)] ((c54 r hc hp).pure _ ⟨WV.agg (rqW (rowK_vR) ((by rw [hpn]; exact WL.sl0ro))), trivial⟩ (freeF.wv (vM_free (cmdOf r)))) ?_
      conv => whnf
      repeat (refine And.intro rfl ?_; conv => whnf)
      exact Weak.perm [0, 3, 1, 2] ⟨⟨rfl, (rqW (rowK_wl) (freeL.wl (v := .sl0) trivial))⟩, ⟨rfl, (cmW (WL.own rfl rfl rfl rfl) (sl0_wl))⟩, ⟨rfl, obM_ws _⟩, ⟨rfl, ⟨.recs rfl fun i hi j hj => rowC_wl hj, trivial⟩⟩, trivial⟩ ⟨WV.lf (WL.ptr rfl rfl), WV.lf (rowK_wl), WV.lf (freeL.wl (v := .sl0) trivial), WV.lf (WL.ptr rfl rfl), WV.lf (WL.ptr rfl rfl), trivial⟩ rfl (by simp) rfl (by simp)
    · conv => whnf
      repeat (refine And.intro rfl ?_; conv => whnf)
      refine CallK.mk' (.s (.agg (segsMu (cmdOf r) (.own 2 0 3 0 r.tk.cs.length) (.sl0)))) [some (obRq r (rowK r.tk.cs) (.sl0)), some zM, some (blC r.tk.cs)] ((c53tn r hc hp).made [some (obRq r (rowK r.tk.cs) (.sl0)), some zM] (rc := .s (.agg (segsMu (cmdOf r) (.own 2 0 3 0 r.tk.cs.length) (.sl0)))) (cs := [vRq r (rowK r.tk.cs) (.sl0)]) (Hn := [some (blC r.tk.cs)]) ⟨WV.agg (rqW (rowK_wl) (freeL.wl (v := .sl0) trivial)), trivial⟩ (WV.agg (cmW (WL.uown (by exact rfl) rfl rfl) (sl0_wl))) ⟨rfl, ⟨.recs rfl fun i hi j hj => rowC_wl hj, trivial⟩, trivial⟩) ?_
      conv => whnf
      repeat (refine And.intro rfl ?_; conv => whnf)
      refine CallK.mk' (vM (cmdOf r)) [some (obRq r (rowK r.tk.cs) (.sl0)), some zM, some (blC r.tk.cs), some zM] ((c54 r hc hp).pure _ ⟨WV.agg (rqW (rowK_vR) ((by rw [hpn]; exact WL.sl0ro))), trivial⟩ (freeF.wv (vM_free (cmdOf r)))) ?_
      conv => whnf
      repeat (refine And.intro rfl ?_; conv => whnf)
      exact Weak.perm [0, 3, 1, 2] ⟨⟨rfl, (rqW (rowK_wl) (freeL.wl (v := .sl0) trivial))⟩, ⟨rfl, (cmW (WL.own rfl rfl rfl rfl) (sl0_wl))⟩, ⟨rfl, obM_ws _⟩, ⟨rfl, ⟨.recs rfl fun i hi j hj => rowC_wl hj, trivial⟩⟩, trivial⟩ ⟨WV.lf (WL.ptr rfl rfl), WV.lf (rowK_wl), WV.lf (freeL.wl (v := .sl0) trivial), WV.lf (WL.ptr rfl rfl), WV.lf (WL.ptr rfl rfl), trivial⟩ rfl (by simp) rfl (by simp)
    · conv => whnf
      repeat (refine And.intro rfl ?_; conv => whnf)
      refine CallK.mk' (.s (.agg (segsMu (cmdOf r) (.own 3 0 3 0 r.tk.cs.length) (.sl0)))) [some (obRq r (rowK r.tk.cs) (.sl0)), some zM, some zM, some (blC r.tk.cs)] ((c53tn r hc hp).made [some (obRq r (rowK r.tk.cs) (.sl0)), some zM, some zM] (rc := .s (.agg (segsMu (cmdOf r) (.own 3 0 3 0 r.tk.cs.length) (.sl0)))) (cs := [vRq r (rowK r.tk.cs) (.sl0)]) (Hn := [some (blC r.tk.cs)]) ⟨WV.agg (rqW (rowK_wl) (freeL.wl (v := .sl0) trivial)), trivial⟩ (WV.agg (cmW (WL.uown (by exact rfl) rfl rfl) (sl0_wl))) ⟨rfl, ⟨.recs rfl fun i hi j hj => rowC_wl hj, trivial⟩, trivial⟩) ?_
      conv => whnf
      repeat (refine And.intro rfl ?_; conv => whnf)
      refine CallK.mk' (vM (cmdOf r)) [some (obRq r (rowK r.tk.cs) (.sl0)), some zM, some zM, some (blC r.tk.cs)] ((c54 r hc hp).pure _ ⟨WV.agg (rqW (rowK_vR) ((by rw [hpn]; exact WL.sl0ro))), trivial⟩ (freeF.wv (vM_free (cmdOf r)))) ?_
      conv => whnf
      repeat (refine And.intro rfl ?_; conv => whnf)
      exact Weak.perm [0, 2, 1, 3] ⟨⟨rfl, (rqW (rowK_wl) (freeL.wl (v := .sl0) trivial))⟩, ⟨rfl, (cmW (WL.own rfl rfl rfl rfl) (sl0_wl))⟩, ⟨rfl, obM_ws _⟩, ⟨rfl, ⟨.recs rfl fun i hi j hj => rowC_wl hj, trivial⟩⟩, trivial⟩ ⟨WV.lf (WL.ptr rfl rfl), WV.lf (rowK_wl), WV.lf (freeL.wl (v := .sl0) trivial), WV.lf (WL.ptr rfl rfl), WV.lf (WL.ptr rfl rfl), trivial⟩ rfl (by simp) rfl (by simp)
  conv => whnf
  refine CallK.mk' _ _ ((c55 (cmdOf r) (cmdOf r) hcl hpl).lend (cs := [.s (.agg (segsMu (cmdOf r) (.own 3 0 3 0 r.tk.cs.length) (.sl0))), vM (cmdOf r)]) (fun _ => False) _ ⟨WV.agg (cmW (WL.lentC (ty := 23) rfl rfl rfl (fun _ _ _ _ => rfl) (gone_none fun h => h)) (by show WL _ _ (vQl r.ps); rw [hpn]; exact WL.sl0ro)), freeF.wv (vM_free (cmdOf r)), trivial⟩ (plainF.wv trivial)) ?_
  conv => whnf
  refine LoopK.mk1 (fun i : Nat => [(39, vI i), (38, vI r.tk.cs.length), (1, .s (.lf (.ptr 0 0))), (3, .s (.lf (rowK r.tk.cs))), (4, .s (.lf (.sl0))), (5, .s (.lf (.ptr 1 0))), (7, .s (.lf (.bool (decide (cmdOf r = cmdOf r)))))]) (fun _ => [some (obRq r (rowK r.tk.cs) (.sl0)), some ⟨60, segsMu (cmdOf r) (.own 3 0 3 0 r.tk.cs.length) (.sl0)⟩, some (obM (cmdOf r)), some (ukC r.tk.cs.length)]) (fun i => i ≤ r.tk.cs.length) (fun i => r.tk.cs.length - i) 0 (by omega) (Weak.of ⟨rfl, (rqW (rowK_wl) (freeL.wl (v := .sl0) trivial)), rfl, (cmW (WL.own rfl rfl rfl rfl) (sl0_wl)), rfl, obM_ws _, rfl, ⟨.recs rfl fun i hi j hj => WL.unk (rowC_leaf hj), trivial⟩, trivial⟩ (by simp) ⟨okF.wv trivial, okF.wv trivial, WV.lf (WL.ptr rfl rfl), WV.lf (rowK_wl), WV.lf (freeL.wl (v := .sl0) trivial), WV.lf (WL.ptr rfl rfl), WV.lf (WL.bool rfl), trivial⟩) ?_
  intro i hi
  conv => whnf
  by_cases hi' : i < r.tk.cs.length
  · refine CaseB.of_true (decide_eq_true (by omega)) ?_
    conv => whnf
    refine And.intro (by omega) ?_
    conv => whnf
    refine And.intro (by omega) ?_
    conv => whnf
    exact ⟨i + 1, by omega, by show r.tk.cs.length - (i + 1) < r.tk.cs.length - i; omega, Weak.of ⟨rfl, (rqW (rowK_wl) (freeL.wl (v := .sl0) trivial)), rfl, (cmW (WL.own rfl rfl rfl rfl) (sl0_wl)), rfl, obM_ws _, rfl, ⟨.recs rfl fun i hi j hj => WL.unk (upd_leaf rfl rfl), trivial⟩, trivial⟩ (by simp) ⟨WV.lf (WL.int (by rw [wrap_i64 (by omega) (by omega)]; omega)), okF.wv trivial, WV.lf (WL.ptr rfl rfl), WV.lf (rowK_wl), WV.lf (freeL.wl (v := .sl0) trivial), WV.lf (WL.ptr rfl rfl), WV.lf (WL.bool rfl), trivial⟩⟩
  refine CaseB.of_false (decide_eq_false (by omega)) ?_
  conv => whnf
  refine LoopK.mk1 (fun _ : Nat => [(51, vI 0), (50, vI 0), (1, .s (.lf (.ptr 0 0))), (3, .s (.lf (rowK r.tk.cs))), (4, .s (.lf (.sl0))), (5, .s (.lf (.ptr 1 0))), (7, .s (.lf (.bool (decide (cmdOf r = cmdOf r)))))]) (fun _ => [some (obRq r (rowK r.tk.cs) (.sl0)), some ⟨60, segsMu (cmdOf r) (.own 3 0 3 0 r.tk.cs.length) (.sl0)⟩, some (obM (cmdOf r)), some (ukC r.tk.cs.length)]) (fun _ => True) (fun _ => 0) 0 trivial (Weak.of ⟨rfl, (rqW (rowK_wl) (freeL.wl (v := .sl0) trivial)), rfl, (cmW (WL.own rfl rfl rfl rfl) (sl0_wl)), rfl, obM_ws _, rfl, ⟨.recs rfl fun i hi j hj => WL.unk rfl, trivial⟩, trivial⟩ (by simp) ⟨okF.wv trivial, okF.wv trivial, WV.lf (WL.ptr rfl rfl), WV.lf (rowK_wl), WV.lf (freeL.wl (v := .sl0) trivial), WV.lf (WL.ptr rfl rfl), WV.lf (WL.bool rfl), trivial⟩) ?_
  intro x _
  conv => whnf
  refine CaseB.of_false rfl ?_
  conv => whnf
  refine CaseB.of_true (decide_eq_true rfl) ?_
  conv => whnf
  refine CallK.mk' _ _ ((c32 r.tk.cs r.tk.cs hcl).pure _ ⟨WV.lf (rowK_vR), WV.lf (rowK_vR), trivial⟩ (freeF.wv (v := .s (.lf (.bool _))) trivial)) ?_
  conv => whnf
  refine CaseB.of_true (decide_eq_true rfl) ?_
  conv => whnf
  refine CallK.mk' _ _ ((c56 [] [] (by decide)).pure _ ⟨WV.lf (WL.sl0ro), WV.lf (WL.sl0ro), trivial⟩ (freeF.wv (v := .s (.lf (.bool _))) trivial)) ?_
  conv => whnf
  refine CaseB.of_true (decide_eq_true rfl) ?_
  conv => whnf
  refine CallK.mk' _ _ (c51.free _ trivial trivial) ?_
  conv => whnf
  exact RetK.empty (okF.wv trivial)


set_option maxHeartbeats 4000000 in
/-- baileylaw23.CommandOf, no caveats, pieces -/
theorem c9nt (r : RqS) (hcl : r.tk.cs.length ≤ maxLen) (hpl : r.ps.length ≤ maxLen) (hcn : r.tk.cs = []) : SCalls Proofs.Try.prog 9 [vRq r (.sl0) (rowQ r.ps)] [] (.s (.lf .tt)) [] := by
  have h51 := c51.free [some (obRq r (.sl0) (rowQ r.ps))] trivial trivial
  refine SCalls.intro tok Proofs.Try.func9 ?_
  conv => whnf
  refine CaseB.of_false rfl ?_
  conv => whnf
  by_cases h21 : 20 < ((r.ps.length : Nat) : Int)
  · refine CaseB.of_true (decide_eq_true h21) ?_
    conv => whnf
    refine CallK.mk' _ _ h51 ?_
    conv => whnf
    exact RetK.empty (okF.wv trivial)
  refine CaseB.of_false (decide_eq_false h21) ?_
  conv => whnf
  have hc : r.tk.cs.length ≤ 1000000 := by rw [hcn]; decide
  have hp : r.ps.length ≤ 1000000 := by omega
  refine DrawK.mk1 tok mixed [0, 1, 3, 7, 0, 16, 63, 127, 255] [(0, 1, [0]), (1, 1, [0]), (2, 1, [0]), (3, 2, []), (4, 1, [0, 1]), (5, 1, [0, 1]), (6, 2, []), (7, 0, []), (8, 0, [])] (by kernel_rfl) ?_
  conv => whnf
  refine CallK.mk' _ _ (c39n.free _ ⟨trivial, trivial⟩ trivial) ?_
  conv => whnf
  repeat (refine And.intro rfl ?_; conv => whnf)
  refine CallK.mk' _ _ ((c52f r.ps hp).free _ ⟨rowQ_free, trivial⟩ rowQ_free) ?_
  conv => whnf
  refine DrawK.join [(1, .s (.lf (.ptr 0 0))), (3, .s (.lf (.sl0))), (4, .s (.lf (rowQ r.ps))), (5, .s (.lf (.ptr 1 0))), (6, .s (.lf (.ptr 2 0)))] [some (obRq r (.sl0) (rowQ r.ps)), some ⟨60, segsMu (cmdOf r) (.sl0) (.own 3 0 2 0 r.ps.length)⟩, some (obM (cmdOf r)), some (blP r.ps)] ?_ ?_
  · refine DrawK.mkL tok mixed [0, 1, 0, 7, 0, 0, 63, 127] [1, 3, 4, 5, 6, 7] [
      ([0, 1, 0, 7, 15, 31, 63, 127], [(0, 1, [0]), (1, 2, []), (2, 1, [0, 1]), (3, 2, []), (4, 2, []), (5, 2, []), (6, 2, []), (7, 2, [])]),
      ([0, 1, 0, 7, 47, 15, 63, 127], [(0, 1, [0]), (1, 2, []), (2, 1, [0, 1]), (3, 2, []), (5, 2, []), (4, 2, []), (6, 2, []), (7, 2, [])]),
      ([0, 1, 0, 23, 3, 31, 63, 127], [(0, 1, [0]), (1, 2, []), (4, 2, []), (2, 1, [0, 1, 2]), (3, 2, []), (5, 2, []), (6, 2, []), (7, 2, [])]),
      ([0, 1, 0, 55, 3, 19, 63, 127], [(0, 1, [0]), (1, 2, []), (4, 2, []), (5, 2, []), (2, 1, [0, 1, 2, 3]), (3, 2, []), (6, 2, []), (7, 2, [])]),
      ([0, 1, 0, 39, 47, 3, 63, 127], [(0, 1, [0]), (1, 2, []), (5, 2, []), (2, 1, [0, 1, 2]), (3, 2, []), (4, 2, []), (6, 2, []), (7, 2, [])]),
      ([0, 1, 0, 55, 35, 3, 63, 127], [(0, 1, [0]), (1, 2, []), (5, 2, []), (4, 2, []), (2, 1, [0, 1, 2, 3]), (3, 2, []), (6, 2, []), (7, 2, [])]),
      ([0, 17, 0, 23, 0, 31, 63, 127], [(4, 2, []), (0, 1, [0, 1]), (1, 2, []), (2, 1, [0, 1, 2]), (3, 2, []), (5, 2, []), (6, 2, []), (7, 2, [])]),
      ([0, 17, 0, 55, 0, 19, 63, 127], [(4, 2, []), (0, 1, [0, 1]), (1, 2, []), (5, 2, []), (2, 1, [0, 1, 2, 3]), (3, 2, []), (6, 2, []), (7, 2, [])]),
      ([0, 49, 0, 55, 0, 16, 63, 127], [(4, 2, []), (5, 2, []), (0, 1, [0, 1, 2]), (1, 2, []), (2, 1, [0, 1, 2, 3]), (3, 2, []), (6, 2, []), (7, 2, [])]),
      ([0, 33, 0, 39, 47, 0, 63, 127], [(5, 2, []), (0, 1, [0, 1]), (1, 2, []), (2, 1, [0, 1, 2]), (3, 2, []), (4, 2, []), (6, 2, []), (7, 2, [])]),
      ([0, 33, 0, 55, 35, 0, 63, 127], [(5, 2, []), (0, 1, [0, 1]), (1, 2, []), (4, 2, []), (2, 1, [0, 1, 2, 3]), (3, 2, []), (6, 2, []), (7, 2, [])]),
      ([0, 49, 0, 55, 32, 0, 63, 127], [(5, 2, []), (4, 2, []), (0, 1, [0, 1, 2]), (1, 2, []), (2, 1, [0, 1, 2, 3]), (3, 2, []), (6, 2, []), (7, 2, [])])] (by kernel_rfl) ?_
    refine ⟨?_, ?_, ?_, ?_, ?_, ?_, ?_, ?_, ?_, ?_, ?_, ?_, trivial⟩
    · conv => whnf
      repeat (refine And.intro rfl ?_; conv => whnf)
      refine CallK.mk' (.s (.agg (segsMu (cmdOf r) (.sl0) (.own 1 0 2 0 r.ps.length)))) [some (obRq r (.sl0) (rowQ r.ps)), some (blP r.ps)] ((c53nt r hc hp).made [some (obRq r (.sl0) (rowQ r.ps))] (rc := .s (.agg (segsMu (cmdOf r) (.sl0) (.own 1 0 2 0 r.ps.length)))) (cs := [vRq r (.sl0) (rowQ r.ps)]) (Hn := [some (blP r.ps)]) ⟨WV.agg (rqW (freeL.wl (v := .sl0) trivial) (rowQ_wl)), trivial⟩ (WV.agg (cmW (sl0_wl) (WL.uown (by exact rfl) rfl rfl))) ⟨rfl, ⟨.recs rfl fun i hi j hj => rowP_wl hj, trivial⟩, trivial⟩) ?_
      conv => whnf
      repeat (refine And.intro rfl ?_; conv => whnf)
      refine CallK.mk' (vM (cmdOf r)) [some (obRq r (.sl0) (rowQ r.ps)), some (blP r.ps)] ((c54 r hc hp).pure _ ⟨WV.agg (rqW ((by rw [hcn]; exact WL.sl0ro)) (rowQ_vQ)), trivial⟩ (freeF.wv (vM_free (cmdOf r)))) ?_
      conv => whnf
      repeat (refine And.intro rfl ?_; conv => whnf)
      exact Weak.perm [0, 2, 3, 1] ⟨⟨rfl, (rqW (freeL.wl (v := .sl0) trivial) (rowQ_wl))⟩, ⟨rfl, (cmW (sl0_wl) (WL.own rfl rfl rfl rfl))⟩, ⟨rfl, obM_ws _⟩, ⟨rfl, ⟨.recs rfl fun i hi j hj => rowP_wl hj, trivial⟩⟩, trivial⟩ ⟨WV.lf (WL.ptr rfl rfl), WV.lf (freeL.wl (v := .sl0) trivial), WV.lf (rowQ_wl), WV.lf (WL.ptr rfl rfl), WV.lf (WL.ptr rfl rfl), trivial⟩ rfl (by simp) rfl (by simp)
    · conv => whnf
      repeat (refine And.intro rfl ?_; conv => whnf)
      refine CallK.mk' (.s (.agg (segsMu (cmdOf r) (.sl0) (.own 1 0 2 0 r.ps.length)))) [some (obRq r (.sl0) (rowQ r.ps)), some (blP r.ps)] ((c53nt r hc hp).made [some (obRq r (.sl0) (rowQ r.ps))] (rc := .s (.agg (segsMu (cmdOf r) (.sl0) (.own 1 0 2 0 r.ps.length)))) (cs := [vRq r (.sl0) (rowQ r.ps)]) (Hn := [some (blP r.ps)]) ⟨WV.agg (rqW (freeL.wl (v := .sl0) trivial) (rowQ_wl)), trivial⟩ (WV.agg (cmW (sl0_wl) (WL.uown (by exact rfl) rfl rfl))) ⟨rfl, ⟨.recs rfl fun i hi j hj => rowP_wl hj, trivial⟩, trivial⟩) ?_
      conv => whnf
      repeat (refine And.intro rfl ?_; conv => whnf)
      refine CallK.mk' (vM (cmdOf r)) [some (obRq r (.sl0) (rowQ r.ps)), some (blP r.ps)] ((c54 r hc hp).pure _ ⟨WV.agg (rqW ((by rw [hcn]; exact WL.sl0ro)) (rowQ_vQ)), trivial⟩ (freeF.wv (vM_free (cmdOf r)))) ?_
      conv => whnf
      repeat (refine And.intro rfl ?_; conv => whnf)
      exact Weak.perm [0, 3, 2, 1] ⟨⟨rfl, (rqW (freeL.wl (v := .sl0) trivial) (rowQ_wl))⟩, ⟨rfl, (cmW (sl0_wl) (WL.own rfl rfl rfl rfl))⟩, ⟨rfl, obM_ws _⟩, ⟨rfl, ⟨.recs rfl fun i hi j hj => rowP_wl hj, trivial⟩⟩, trivial⟩ ⟨WV.lf (WL.ptr rfl rfl), WV.lf (freeL.wl (v := .sl0) trivial), WV.lf (rowQ_wl), WV.lf (WL.ptr rfl rfl), WV.lf (WL.ptr rfl rfl), trivial⟩ rfl (by simp) rfl (by simp)
    · conv => whnf
      repeat (refine And.intro rfl ?_; conv => whnf)
      refine CallK.mk' (.s (.agg (segsMu (cmdOf r) (.sl0) (.own 1 0 2 0 r.ps.length)))) [some (obRq r (.sl0) (rowQ r.ps)), some (blP r.ps)] ((c53nt r hc hp).made [some (obRq r (.sl0) (rowQ r.ps))] (rc := .s (.agg (segsMu (cmdOf r) (.sl0) (.own 1 0 2 0 r.ps.length)))) (cs := [vRq r (.sl0) (rowQ r.ps)]) (Hn := [some (blP r.ps)]) ⟨WV.agg (rqW (freeL.wl (v := .sl0) trivial) (rowQ_wl)), trivial⟩ (WV.agg (cmW (sl0_wl) (WL.uown (by exact rfl) rfl rfl))) ⟨rfl, ⟨.recs rfl fun i hi j hj => rowP_wl hj, trivial⟩, trivial⟩) ?_
      conv => whnf
      repeat (refine And.intro rfl ?_; conv => whnf)
      refine CallK.mk' (vM (cmdOf r)) [some (obRq r (.sl0) (rowQ r.ps)), some (blP r.ps), some zM] ((c54 r hc hp).pure _ ⟨WV.agg (rqW ((by rw [hcn]; exact WL.sl0ro)) (rowQ_vQ)), trivial⟩ (freeF.wv (vM_free (cmdOf r)))) ?_
      conv => whnf
      repeat (refine And.intro rfl ?_; conv => whnf)
      exact Weak.perm [0, 2, 3, 1] ⟨⟨rfl, (rqW (freeL.wl (v := .sl0) trivial) (rowQ_wl))⟩, ⟨rfl, (cmW (sl0_wl) (WL.own rfl rfl rfl rfl))⟩, ⟨rfl, obM_ws _⟩, ⟨rfl, ⟨.recs rfl fun i hi j hj => rowP_wl hj, trivial⟩⟩, trivial⟩ ⟨WV.lf (WL.ptr rfl rfl), WV.lf (freeL.wl (v := .sl0) trivial), WV.lf (rowQ_wl), WV.lf (WL.ptr rfl rfl), WV.lf (WL.ptr rfl rfl), trivial⟩ rfl (by simp) rfl (by simp)
    · conv => whnf
      repeat (refine And.intro rfl ?_; conv => whnf)
      refine CallK.mk' (.s (.agg (segsMu (cmdOf r) (.sl0) (.own 1 0 2 0 r.ps.length)))) [some (obRq r (.sl0) (rowQ r.ps)), some (blP r.ps)] ((c53nt r hc hp).made [some (obRq r (.sl0) (rowQ r.ps))] (rc := .s (.agg (segsMu (cmdOf r) (.sl0) (.own 1 0 2 0 r.ps.length)))) (cs := [vRq r (.sl0) (rowQ r.ps)]) (Hn := [some (blP r.ps)]) ⟨WV.agg (rqW (freeL.wl (v := .sl0) trivial) (rowQ_wl)), trivial⟩ (WV.agg (cmW (sl0_wl) (WL.uown (by exact rfl) rfl rfl))) ⟨rfl, ⟨.recs rfl fun i hi j hj => rowP_wl hj, trivial⟩, trivial⟩) ?_
      conv => whnf
      repeat (refine And.intro rfl ?_; conv => whnf)
      refine CallK.mk' (vM (cmdOf r)) [some (obRq r (.sl0) (rowQ r.ps)), some (blP r.ps), some zM, some zM] ((c54 r hc hp).pure _ ⟨WV.agg (rqW ((by rw [hcn]; exact WL.sl0ro)) (rowQ_vQ)), trivial⟩ (freeF.wv (vM_free (cmdOf r)))) ?_
      conv => whnf
      repeat (refine And.intro rfl ?_; conv => whnf)
      exact Weak.perm [0, 2, 3, 1] ⟨⟨rfl, (rqW (freeL.wl (v := .sl0) trivial) (rowQ_wl))⟩, ⟨rfl, (cmW (sl0_wl) (WL.own rfl rfl rfl rfl))⟩, ⟨rfl, obM_ws _⟩, ⟨rfl, ⟨.recs rfl fun i hi j hj => rowP_wl hj, trivial⟩⟩, trivial⟩ ⟨WV.lf (WL.ptr rfl rfl), WV.lf (freeL.wl (v := .sl0) trivial), WV.lf (rowQ_wl), WV.lf (WL.ptr rfl rfl), WV.lf (WL.ptr rfl rfl), trivial⟩ rfl (by simp) rfl (by simp)
    · conv => whnf
      repeat (refine And.intro rfl ?_; conv => whnf)
      refine CallK.mk' (.s (.agg (segsMu (cmdOf r) (.sl0) (.own 1 0 2 0 r.ps.length)))) [some (obRq r (.sl0) (rowQ r.ps)), some (blP r.ps)] ((c53nt r hc hp).made [some (obRq r (.sl0) (rowQ r.ps))] (rc := .s (.agg (segsMu (cmdOf r) (.sl0) (.own 1 0 2 0 r.ps.length)))) (cs := [vRq r (.sl0) (rowQ r.ps)]) (Hn := [some (blP r.ps)]) ⟨WV.agg (rqW (freeL.wl (v := .sl0) trivial) (rowQ_wl)), trivial⟩ (WV.agg (cmW (sl0_wl) (WL.uown (by exact rfl) rfl rfl))) ⟨rfl, ⟨.recs rfl fun i hi j hj => rowP_wl hj, trivial⟩, trivial⟩) ?_
      conv => whnf
      repeat (refine And.intro rfl ?_; conv => whnf)
      refine CallK.mk' (vM (cmdOf r)) [some (obRq r (.sl0) (rowQ r.ps)), some (blP r.ps), some zM] ((c54 r hc hp).pure _ ⟨WV.agg (rqW ((by rw [hcn]; exact WL.sl0ro)) (rowQ_vQ)), trivial⟩ (freeF.wv (vM_free (cmdOf r)))) ?_
      conv => whnf
      repeat (refine And.intro rfl ?_; conv => whnf)
      exact Weak.perm [0, 3, 2, 1] ⟨⟨rfl, (rqW (freeL.wl (v := .sl0) trivial) (rowQ_wl))⟩, ⟨rfl, (cmW (sl0_wl) (WL.own rfl rfl rfl rfl))⟩, ⟨rfl, obM_ws _⟩, ⟨rfl, ⟨.recs rfl fun i hi j hj => rowP_wl hj, trivial⟩⟩, trivial⟩ ⟨WV.lf (WL.ptr rfl rfl), WV.lf (freeL.wl (v := .sl0) trivial), WV.lf (rowQ_wl), WV.lf (WL.ptr rfl rfl), WV.lf (WL.ptr rfl rfl), trivial⟩ rfl (by simp) rfl (by simp)
    · conv => whnf
      repeat (refine And.intro rfl ?_; conv => whnf)
      refine CallK.mk' (.s (.agg (segsMu (cmdOf r) (.sl0) (.own 1 0 2 0 r.ps.length)))) [some (obRq r (.sl0) (rowQ r.ps)), some (blP r.ps)] ((c53nt r hc hp).made [some (obRq r (.sl0) (rowQ r.ps))] (rc := .s (.agg (segsMu (cmdOf r) (.sl0) (.own 1 0 2 0 r.ps.length)))) (cs := [vRq r (.sl0) (rowQ r.ps)]) (Hn := [some (blP r.ps)]) ⟨WV.agg (rqW (freeL.wl (v := .sl0) trivial) (rowQ_wl)), trivial⟩ (WV.agg (cmW (sl0_wl) (WL.uown (by exact rfl) rfl rfl))) ⟨rfl, ⟨.recs rfl fun i hi j hj => rowP_wl hj, trivial⟩, trivial⟩) ?_
      conv => whnf
      repeat (refine And.intro rfl ?_; conv => whnf)
      refine CallK.mk' (vM (cmdOf r)) [some (obRq r (.sl0) (rowQ r.ps)), some (blP r.ps), some zM, some zM] ((c54 r hc hp).pure _ ⟨WV.agg (rqW ((by rw [hcn]; exact WL.sl0ro)) (rowQ_vQ)), trivial⟩ (freeF.wv (vM_free (cmdOf r)))) ?_
      conv => whnf
      repeat (refine And.intro rfl ?_; conv => whnf)
      exact Weak.perm [0, 3, 2, 1] ⟨⟨rfl, (rqW (freeL.wl (v := .sl0) trivial) (rowQ_wl))⟩, ⟨rfl, (cmW (sl0_wl) (WL.own rfl rfl rfl rfl))⟩, ⟨rfl, obM_ws _⟩, ⟨rfl, ⟨.recs rfl fun i hi j hj => rowP_wl hj, trivial⟩⟩, trivial⟩ ⟨WV.lf (WL.ptr rfl rfl), WV.lf (freeL.wl (v := .sl0) trivial), WV.lf (rowQ_wl), WV.lf (WL.ptr rfl rfl), WV.lf (WL.ptr rfl rfl), trivial⟩ rfl (by simp) rfl (by simp)
    · conv => whnf
      repeat (refine And.intro rfl ?_; conv => whnf)
      refine CallK.mk' (.s (.agg (segsMu (cmdOf r) (.sl0) (.own 2 0 2 0 r.ps.length)))) [some (obRq r (.sl0) (rowQ r.ps)), some zM, some (blP r.ps)] ((c53nt r hc hp).made [some (obRq r (.sl0) (rowQ r.ps)), some zM] (rc := .s (.agg (segsMu (cmdOf r) (.sl0) (.own 2 0 2 0 r.ps.length)))) (cs := [vRq r (.sl0) (rowQ r.ps)]) (Hn := [some (blP r.ps)]) ⟨WV.agg (rqW (freeL.wl (v := .sl0) trivial) (rowQ_wl)), trivial⟩ (WV.agg (cmW (sl0_wl) (WL.uown (by exact rfl) rfl rfl))) ⟨rfl, ⟨.recs rfl fun i hi j hj => rowP_wl hj, trivial⟩, trivial⟩) ?_
      conv => whnf
      repeat (refine And.intro rfl ?_; conv => whnf)
      refine CallK.mk' (vM (cmdOf r)) [some (obRq r (.sl0) (rowQ r.ps)), some zM, some (blP r.ps)] ((c54 r hc hp).pure _ ⟨WV.agg (rqW ((by rw [hcn]; exact WL.sl0ro)) (rowQ_vQ)), trivial⟩ (freeF.wv (vM_free (cmdOf r)))) ?_
      conv => whnf
      repeat (refine And.intro rfl ?_; conv => whnf)
      exact Weak.perm [0, 1, 3, 2] ⟨⟨rfl, (rqW (freeL.wl (v := .sl0) trivial) (rowQ_wl))⟩, ⟨rfl, (cmW (sl0_wl) (WL.own rfl rfl rfl rfl))⟩, ⟨rfl, obM_ws _⟩, ⟨rfl, ⟨.recs rfl fun i hi j hj => rowP_wl hj, trivial⟩⟩, trivial⟩ ⟨WV.lf (WL.ptr rfl rfl), WV.lf (freeL.wl (v := .sl0) trivial), WV.lf (rowQ_wl), WV.lf (WL.ptr rfl rfl), WV.lf (WL.ptr rfl rfl), trivial⟩ rfl (by simp) rfl (by simp)
    · conv => whnf
      repeat (refine And.intro rfl ?_; conv => whnf)
      refine CallK.mk' (.s (.agg (segsMu (cmdOf r) (.sl0) (.own 2 0 2 0 r.ps.length)))) [some (obRq r (.sl0) (rowQ r.ps)), some zM, some (blP r.ps)] ((c53nt r hc hp).made [some (obRq r (.sl0) (rowQ r.ps)), some zM] (rc := .s (.agg (segsMu (cmdOf r) (.sl0) (.own 2 0 2 0 r.ps.length)))) (cs := [vRq r (.sl0) (rowQ r.ps)]) (Hn := [some (blP r.ps)]) ⟨WV.agg (rqW (freeL.wl (v := .sl0) trivial) (rowQ_wl)), trivial⟩ (WV.agg (cmW (sl0_wl) (WL.uown (by exact rfl) rfl rfl))) ⟨rfl, ⟨.recs rfl fun i hi j hj => rowP_wl hj, trivial⟩, trivial⟩) ?_
      conv => whnf
      repeat (refine And.intro rfl ?_; conv => whnf)
      refine CallK.mk' (vM (cmdOf r)) [some (obRq r (.sl0) (rowQ r.ps)), some zM, some (blP r.ps), some zM] ((c54 r hc hp).pure _ ⟨WV.agg (rqW ((by rw [hcn]; exact WL.sl0ro)) (rowQ_vQ)), trivial⟩ (freeF.wv (vM_free (cmdOf r)))) ?_
      conv => whnf
      repeat (refine And.intro rfl ?_; conv => whnf)
      exact Weak.perm [0, 1, 3, 2] ⟨⟨rfl, (rqW (freeL.wl (v := .sl0) trivial) (rowQ_wl))⟩, ⟨rfl, (cmW (sl0_wl) (WL.own rfl rfl rfl rfl))⟩, ⟨rfl, obM_ws _⟩, ⟨rfl, ⟨.recs rfl fun i hi j hj => rowP_wl hj, trivial⟩⟩, trivial⟩ ⟨WV.lf (WL.ptr rfl rfl), WV.lf (freeL.wl (v := .sl0) trivial), WV.lf (rowQ_wl), WV.lf (WL.ptr rfl rfl), WV.lf (WL.ptr rfl rfl), trivial⟩ rfl (by simp) rfl (by simp)
    · conv => whnf
      repeat (refine And.intro rfl ?_; conv => whnf)
      refine CallK.mk' (.s (.agg (segsMu (cmdOf r) (.sl0) (.own 3 0 2 0 r.ps.length)))) [some (obRq r (.sl0) (rowQ r.ps)), some zM, some zM, some (blP r.ps)] ((c53nt r hc hp).made [some (obRq r (.sl0) (rowQ r.ps)), some zM, some zM] (rc := .s (.agg (segsMu (cmdOf r) (.sl0) (.own 3 0 2 0 r.ps.length)))) (cs := [vRq r (.sl0) (rowQ r.ps)]) (Hn := [some (blP r.ps)]) ⟨WV.agg (rqW (freeL.wl (v := .sl0) trivial) (rowQ_wl)), trivial⟩ (WV.agg (cmW (sl0_wl) (WL.uown (by exact rfl) rfl rfl))) ⟨rfl, ⟨.recs rfl fun i hi j hj => rowP_wl hj, trivial⟩, trivial⟩) ?_
      conv => whnf
      repeat (refine And.intro rfl ?_; conv => whnf)
      refine CallK.mk' (vM (cmdOf r)) [some (obRq r (.sl0) (rowQ r.ps)), some zM, some zM, some (blP r.ps)] ((c54 r hc hp).pure _ ⟨WV.agg (rqW ((by rw [hcn]; exact WL.sl0ro)) (rowQ_vQ)), trivial⟩ (freeF.wv (vM_free (cmdOf r)))) ?_
      conv => whnf
      repeat (refine And.intro rfl ?_; conv => whnf)
      exact Weak.perm [0, 1, 2, 3] ⟨⟨rfl, (rqW (freeL.wl (v := .sl0) trivial) (rowQ_wl))⟩, ⟨rfl, (cmW (sl0_wl) (WL.own rfl rfl rfl rfl))⟩, ⟨rfl, obM_ws _⟩, ⟨rfl, ⟨.recs rfl fun i hi j hj => rowP_wl hj, trivial⟩⟩, trivial⟩ ⟨WV.lf (WL.ptr rfl rfl), WV.lf (freeL.wl (v := .sl0) trivial), WV.lf (rowQ_wl), WV.lf (WL.ptr rfl rfl), WV.lf (WL.ptr rfl rfl), trivial⟩ rfl (by simp) rfl (by simp)
    · conv => whnf
      repeat (refine And.intro rfl ?_; conv => whnf)
      refine CallK.mk' (.s (.agg (segsMu (cmdOf r) (.sl0) (.own 2 0 2 0 r.ps.length)))) [some (obRq r (.sl0) (rowQ r.ps)), some zM, some (blP r.ps)] ((c53nt r hc hp).made [some (obRq r (.sl0) (rowQ r.ps)), some zM] (rc := .s (.agg (segsMu (cmdOf r) (.sl0) (.own 2 0 2 0 r.ps.length)))) (cs := [vRq r (.sl0) (rowQ r.ps)]) (Hn := [some (blP r.ps)]) ⟨WV.agg (rqW (freeL.wl (v := .sl0) trivial) (rowQ_wl)), trivial⟩ (WV.agg (cmW (sl0_wl) (WL.uown (by exact rfl) rfl rfl))) ⟨rfl, ⟨.recs rfl fun i hi j hj => rowP_wl hj, trivial⟩, trivial⟩) ?_
      conv => whnf
      repeat (refine And.intro rfl ?_; conv => whnf)
      refine CallK.mk' (vM (cmdOf r)) [some (obRq r (.sl0) (rowQ r.ps)), some zM, some (blP r.ps)] ((c54 r hc hp).pure _ ⟨WV.agg (rqW ((by rw [hcn]; exact WL.sl0ro)) (rowQ_vQ)), trivial⟩ (freeF.wv (vM_free (cmdOf r)))) ?_
      conv => whnf
      repeat (refine And.intro rfl ?_; conv => whnf)
      exact Weak.perm [0, 3, 1, 2] ⟨⟨rfl, (rqW (freeL.wl (v := .sl0) trivial) (rowQ_wl))⟩, ⟨rfl, (cmW (sl0_wl) (WL.own rfl rfl rfl rfl))⟩, ⟨rfl, obM_ws _⟩, ⟨rfl, ⟨.recs rfl fun i hi j hj => rowP_wl hj, trivial⟩⟩, trivial⟩ ⟨WV.lf (WL.ptr rfl rfl), WV.lf (freeL.wl (v := .sl0) trivial), WV.lf (rowQ_wl), WV.lf (WL.ptr rfl rfl), WV.lf (WL.ptr rfl rfl), trivial⟩ rfl (by simp) rfl (by simp)
    · conv => whnf
      repeat (refine And.intro rfl ?_; conv => whnf)
      refine CallK.mk' (.s (.agg (segsMu (cmdOf r) (.sl0) (.own 2 0 2 0 r.ps.length)))) [some (obRq r (.sl0) (rowQ r.ps)), some zM, some (blP r.ps)] ((c53nt r hc hp).made [some (obRq r (.sl0) (rowQ r.ps)), some zM] (rc := .s (.agg (segsMu (cmdOf r) (.sl0) (.own 2 0 2 0 r.ps.length)))) (cs := [vRq r (.sl0) (rowQ r.ps)]) (Hn := [some (blP r.ps)]) ⟨WV.agg (rqW (freeL.wl (v := .sl0) trivial) (rowQ_wl)), trivial⟩ (WV.agg (cmW (sl0_wl) (WL.uown (by exact rfl) rfl rfl))) ⟨rfl, ⟨.recs rfl fun i hi j hj => rowP_wl hj, trivial⟩, trivial⟩) ?_
      conv => whnf
      repeat (refine And.intro rfl ?_; conv => whnf)
      refine CallK.mk' (vM (cmdOf r)) [some (obRq r (.sl0) (rowQ r.ps)), some zM, some (blP r.ps), some zM] ((c54 r hc hp).pure _ ⟨WV.agg (rqW ((by rw [hcn]; exact WL.sl0ro)) (rowQ_vQ)), trivial⟩ (freeF.wv (vM_free (cmdOf r)))) ?_
      conv => whnf
      repeat (refine And.intro rfl ?_; conv => whnf)
      exact Weak.perm [0, 3, 1, 2] ⟨⟨rfl, (rqW (freeL.wl (v := .sl0) trivial) (rowQ_wl))⟩, ⟨rfl, (cmW (sl0_wl) (WL.own rfl rfl rfl rfl))⟩, ⟨rfl, obM_ws _⟩, ⟨rfl, ⟨.recs rfl fun i hi j hj => rowP_wl hj, trivial⟩⟩, trivial⟩ ⟨WV.lf (WL.ptr rfl rfl), WV.lf (freeL.wl (v := .sl0) trivial), WV.lf (rowQ_wl), WV.lf (WL.ptr rfl rfl), WV.lf (WL.ptr rfl rfl), trivial⟩ rfl (by simp) rfl (by simp)
    · conv => whnf
      repeat (refine And.intro rfl ?_; conv => whnf)
      refine CallK.mk' (.s (.agg (segsMu (cmdOf r) (.sl0) (.own 3 0 2 0 r.ps.length)))) [some (obRq r (.sl0) (rowQ r.ps)), some zM, some zM, some (blP r.ps)] ((c53nt r hc hp).made [some (obRq r (.sl0) (rowQ r.ps)), some zM, some zM] (rc := .s (.agg (segsMu (cmdOf r) (.sl0) (.own 3 0 2 0 r.ps.length)))) (cs := [vRq r (.sl0) (rowQ r.ps)]) (Hn := [some (blP r.ps)]) ⟨WV.agg (rqW (freeL.wl (v := .sl0) trivial) (rowQ_wl)), trivial⟩ (WV.agg (cmW (sl0_wl) (WL.uown (by exact rfl) rfl rfl))) ⟨rfl, ⟨.recs rfl fun i hi j hj => rowP_wl hj, trivial⟩, trivial⟩) ?_
      conv => whnf
      repeat (refine And.intro rfl ?_; conv => whnf)
      refine CallK.mk' (vM (cmdOf r)) [some (obRq r (.sl0) (rowQ r.ps)), some zM, some zM, some (blP r.ps)] ((c54 r hc hp).pure _ ⟨WV.agg (rqW ((by rw [hcn]; exact WL.sl0ro)) (rowQ_vQ)), trivial⟩ (freeF.wv (vM_free (cmdOf r)))) ?_
      conv => whnf
      repeat (refine And.intro rfl ?_; conv => whnf)
      exact Weak.perm [0, 2, 1, 3] ⟨⟨rfl, (rqW (freeL.wl (v := .sl0) trivial) (rowQ_wl))⟩, ⟨rfl, (cmW (sl0_wl) (WL.own rfl rfl rfl rfl))⟩, ⟨rfl, obM_ws _⟩, ⟨rfl, ⟨.recs rfl fun i hi j hj => rowP_wl hj, trivial⟩⟩, trivial⟩ ⟨WV.lf (WL.ptr rfl rfl), WV.lf (freeL.wl (v := .sl0) trivial), WV.lf (rowQ_wl), WV.lf (WL.ptr rfl rfl), WV.lf (WL.ptr rfl rfl), trivial⟩ rfl (by simp) rfl (by simp)
  conv => whnf
  refine CallK.mk' _ _ ((c55 (cmdOf r) (cmdOf r) hcl hpl).lend (cs := [.s (.agg (segsMu (cmdOf r) (.sl0) (.own 3 0 2 0 r.ps.length))), vM (cmdOf r)]) (fun _ => False) _ ⟨WV.agg (cmW (by show WL _ _ (vKl r.tk.cs); rw [hcn]; exact WL.sl0ro) (lentP (ty := 58) rfl rfl rfl (fun _ _ _ _ => rfl) (gone_none fun h => h))), freeF.wv (vM_free (cmdOf r)), trivial⟩ (plainF.wv trivial)) ?_
  conv => whnf
  refine LoopK.mk1 (fun _ : Nat => [(39, vI 0), (38, vI 0), (1, .s (.lf (.ptr 0 0))), (3, .s (.lf (.sl0))), (4, .s (.lf (rowQ r.ps))), (5, .s (.lf (.ptr 1 0))), (7, .s (.lf (.bool (decide (cmdOf r = cmdOf r)))))]) (fun _ => [some (obRq r (.sl0) (rowQ r.ps)), some ⟨60, segsMu (cmdOf r) (.sl0) (.own 3 0 2 0 r.ps.length)⟩, some (obM (cmdOf r)), some (blP r.ps)]) (fun _ => True) (fun _ => 0) 0 trivial (Weak.of ⟨rfl, (rqW (freeL.wl (v := .sl0) trivial) (rowQ_wl)), rfl, (cmW (sl0_wl) (WL.own rfl rfl rfl rfl)), rfl, obM_ws _, rfl, ⟨.recs rfl fun i hi j hj => rowP_wl hj, trivial⟩, trivial⟩ (by simp) ⟨okF.wv trivial, okF.wv trivial, WV.lf (WL.ptr rfl rfl), WV.lf (freeL.wl (v := .sl0) trivial), WV.lf (rowQ_wl), WV.lf (WL.ptr rfl rfl), WV.lf (WL.bool rfl), trivial⟩) ?_
  intro x _
  conv => whnf
  refine CaseB.of_false rfl ?_
  conv => whnf
  refine LoopK.mk1 (fun i : Nat => [(51, vI i), (50, vI r.ps.length), (1, .s (.lf (.ptr 0 0))), (3, .s (.lf (.sl0))), (4, .s (.lf (rowQ r.ps))), (5, .s (.lf (.ptr 1 0))), (7, .s (.lf (.bool (decide (cmdOf r = cmdOf r)))))]) (fun _ => [some (obRq r (.sl0) (rowQ r.ps)), some ⟨60, segsMu (cmdOf r) (.sl0) (.own 3 0 2 0 r.ps.length)⟩, some (obM (cmdOf r)), some (ukP r.ps.length)]) (fun i => i ≤ r.ps.length) (fun i => r.ps.length - i) 0 (by omega) (Weak.of ⟨rfl, (rqW (freeL.wl (v := .sl0) trivial) (rowQ_wl)), rfl, (cmW (sl0_wl) (WL.own rfl rfl rfl rfl)), rfl, obM_ws _, rfl, ⟨.recs rfl fun i hi j hj => WL.unk (rowP_leaf hj), trivial⟩, trivial⟩ (by simp) ⟨okF.wv trivial, okF.wv trivial, WV.lf (WL.ptr rfl rfl), WV.lf (freeL.wl (v := .sl0) trivial), WV.lf (rowQ_wl), WV.lf (WL.ptr rfl rfl), WV.lf (WL.bool rfl), trivial⟩) ?_
  intro i hi
  conv => whnf
  by_cases hi' : i < r.ps.length
  · refine CaseB.of_true (decide_eq_true (by omega)) ?_
    conv => whnf
    refine And.intro (by omega) ?_
    conv => whnf
    refine And.intro (by omega) ?_
    conv => whnf
    exact ⟨i + 1, by omega, by show r.ps.length - (i + 1) < r.ps.length - i; omega, Weak.of ⟨rfl, (rqW (freeL.wl (v := .sl0) trivial) (rowQ_wl)), rfl, (cmW (sl0_wl) (WL.own rfl rfl rfl rfl)), rfl, obM_ws _, rfl, ⟨.recs rfl fun i hi j hj => WL.unk (upd_leaf rfl rfl), trivial⟩, trivial⟩ (by simp) ⟨WV.lf (WL.int (by rw [wrap_i64 (by omega) (by omega)]; omega)), okF.wv trivial, WV.lf (WL.ptr rfl rfl), WV.lf (freeL.wl (v := .sl0) trivial), WV.lf (rowQ_wl), WV.lf (WL.ptr rfl rfl), WV.lf (WL.bool rfl), trivial⟩⟩
  refine CaseB.of_false (decide_eq_false (by omega)) ?_
  conv => whnf
  refine CaseB.of_true (decide_eq_true rfl) ?_
  conv => whnf
  refine CallK.mk' _ _ ((c32 [] [] (by decide)).pure _ ⟨WV.lf (WL.sl0ro), WV.lf (WL.sl0ro), trivial⟩ (freeF.wv (v := .s (.lf (.bool _))) trivial)) ?_
  conv => whnf
  refine CaseB.of_true (decide_eq_true rfl) ?_
  conv => whnf
  refine CallK.mk' _ _ ((c56 r.ps r.ps hpl).pure _ ⟨WV.lf (rowQ_vQ), WV.lf (rowQ_vQ), trivial⟩ (freeF.wv (v := .s (.lf (.bool _))) trivial)) ?_
  conv => whnf
  refine CaseB.of_true (decide_eq_true rfl) ?_
  conv => whnf
  refine CallK.mk' _ _ (c51.free _ trivial trivial) ?_
  conv => whnf
  exact RetK.empty (okF.wv trivial)


set_option maxHeartbeats 4000000 in
/-- baileylaw23.CommandOf, no caveats, no pieces -/
theorem c9nn (r : RqS) (hcl : r.tk.cs.length ≤ maxLen) (hpl : r.ps.length ≤ maxLen) (hcn : r.tk.cs = []) (hpn : r.ps = []) : SCalls Proofs.Try.prog 9 [vRq r (.sl0) (.sl0)] [] (.s (.lf .tt)) [] := by
  have h51 := c51.free [some (obRq r (.sl0) (.sl0))] trivial trivial
  refine SCalls.intro tok Proofs.Try.func9 ?_
  conv => whnf
  refine CaseB.of_false rfl ?_
  conv => whnf
  refine CaseB.of_false rfl ?_
  conv => whnf
  have hc : r.tk.cs.length ≤ 1000000 := by rw [hcn]; decide
  have hp : r.ps.length ≤ 1000000 := by rw [hpn]; decide
  refine DrawK.mk1 tok mixed [0, 1, 3, 7, 0, 16, 63, 127, 255] [(0, 1, [0]), (1, 1, [0]), (2, 1, [0]), (3, 2, []), (4, 1, [0, 1]), (5, 1, [0, 1]), (6, 2, []), (7, 0, []), (8, 0, [])] (by kernel_rfl) ?_
  conv => whnf
  refine CallK.mk' _ _ (c39n.free _ ⟨trivial, trivial⟩ trivial) ?_
  conv => whnf
  repeat (refine And.intro rfl ?_; conv => whnf)
  refine CallK.mk' _ _ (c52n.free _ ⟨trivial, trivial⟩ trivial) ?_
  conv => whnf
  refine DrawK.join [(1, .s (.lf (.ptr 0 0))), (3, .s (.lf (.sl0))), (4, .s (.lf (.sl0))), (5, .s (.lf (.ptr 1 0))), (6, .s (.lf (.ptr 2 0)))] [some (obRq r (.sl0) (.sl0)), some ⟨60, segsMu (cmdOf r) (.sl0) (.sl0)⟩, some (obM (cmdOf r))] ?_ ?_
  · refine DrawK.mkL tok mixed [0, 1, 0, 7, 0, 0, 63, 127] [1, 3, 4, 5, 6, 7] [
      ([0, 1, 0, 7, 15, 31, 63, 127], [(0, 1, [0]), (1, 2, []), (2, 1, [0, 1]), (3, 2, []), (4, 2, []), (5, 2, []), (6, 2, []), (7, 2, [])]),
      ([0, 1, 0, 7, 47, 15, 63, 127], [(0, 1, [0]), (1, 2, []), (2, 1, [0, 1]), (3, 2, []), (5, 2, []), (4, 2, []), (6, 2, []), (7, 2, [])]),
      ([0, 1, 0, 23, 3, 31, 63, 127], [(0, 1, [0]), (1, 2, []), (4, 2, []), (2, 1, [0, 1, 2]), (3, 2, []), (5, 2, []), (6, 2, []), (7, 2, [])]),
      ([0, 1, 0, 55, 3, 19, 63, 127], [(0, 1, [0]), (1, 2, []), (4, 2, []), (5, 2, []), (2, 1, [0, 1, 2, 3]), (3, 2, []), (6, 2, []), (7, 2, [])]),
      ([0, 1, 0, 39, 47, 3, 63, 127], [(0, 1, [0]), (1, 2, []), (5, 2, []), (2, 1, [0, 1, 2]), (3, 2, []), (4, 2, []), (6, 2, []), (7, 2, [])]),
      ([0, 1, 0, 55, 35, 3, 63, 127], [(0, 1, [0]), (1, 2, []), (5, 2, []), (4, 2, []), (2, 1, [0, 1, 2, 3]), (3, 2, []), (6, 2, []), (7, 2, [])]),
      ([0, 17, 0, 23, 0, 31, 63, 127], [(4, 2, []), (0, 1, [0, 1]), (1, 2, []), (2, 1, [0, 1, 2]), (3, 2, []), (5, 2, []), (6, 2, []), (7, 2, [])]),
      ([0, 17, 0, 55, 0, 19, 63, 127], [(4, 2, []), (0, 1, [0, 1]), (1, 2, []), (5, 2, []), (2, 1, [0, 1, 2, 3]), (3, 2, []), (6, 2, []), (7, 2, [])]),
      ([0, 49, 0, 55, 0, 16, 63, 127], [(4, 2, []), (5, 2, []), (0, 1, [0, 1, 2]), (1, 2, []), (2, 1, [0, 1, 2, 3]), (3, 2, []), (6, 2, []), (7, 2, [])]),
      ([0, 33, 0, 39, 47, 0, 63, 127], [(5, 2, []), (0, 1, [0, 1]), (1, 2, []), (2, 1, [0, 1, 2]), (3, 2, []), (4, 2, []), (6, 2, []), (7, 2, [])]),
      ([0, 33, 0, 55, 35, 0, 63, 127], [(5, 2, []), (0, 1, [0, 1]), (1, 2, []), (4, 2, []), (2, 1, [0, 1, 2, 3]), (3, 2, []), (6, 2, []), (7, 2, [])]),
      ([0, 49, 0, 55, 32, 0, 63, 127], [(5, 2, []), (4, 2, []), (0, 1, [0, 1, 2]), (1, 2, []), (2, 1, [0, 1, 2, 3]), (3, 2, []), (6, 2, []), (7, 2, [])])] (by kernel_rfl) ?_
    refine ⟨?_, ?_, ?_, ?_, ?_, ?_, ?_, ?_, ?_, ?_, ?_, ?_, trivial⟩
    · conv => whnf
      repeat (refine And.intro rfl ?_; conv => whnf)
      refine CallK.mk' _ [some (obRq r (.sl0) (.sl0))] ((c53nn r hc hp).free _ ⟨⟨trivial, trivial, trivial, trivial, trivial, trivial, trivial, trivial, trivial, trivial, trivial, trivial, trivial, trivial, trivial, trivial, trivial, trivial⟩, trivial⟩ ⟨trivial, trivial, trivial, trivial, trivial, trivial, trivial, trivial, trivial, trivial, trivial, trivial, trivial⟩) ?_
      conv => whnf
      repeat (refine And.intro rfl ?_; conv => whnf)
      refine CallK.mk' (vM (cmdOf r)) [some (obRq r (.sl0) (.sl0))] ((c54 r hc hp).pure _ ⟨WV.agg (rqW ((by rw [hcn]; exact WL.sl0ro)) ((by rw [hpn]; exact WL.sl0ro))), trivial⟩ (freeF.wv (vM_free (cmdOf r)))) ?_
      conv => whnf
      repeat (refine And.intro rfl ?_; conv => whnf)
      exact Weak.perm [0, 1, 2] ⟨⟨rfl, (rqW (freeL.wl (v := .sl0) trivial) (freeL.wl (v := .sl0) trivial))⟩, ⟨rfl, (cmW (sl0_wl) (sl0_wl))⟩, ⟨rfl, obM_ws _⟩, trivial⟩ ⟨WV.lf (WL.ptr rfl rfl), WV.lf (freeL.wl (v := .sl0) trivial), WV.lf (freeL.wl (v := .sl0) trivial), WV.lf (WL.ptr rfl rfl), WV.lf (WL.ptr rfl rfl), trivial⟩ rfl (by simp) rfl (by simp)
    · conv => whnf
      repeat (refine And.intro rfl ?_; conv => whnf)
      refine CallK.mk' _ [some (obRq r (.sl0) (.sl0))] ((c53nn r hc hp).free _ ⟨⟨trivial, trivial, trivial, trivial, trivial, trivial, trivial, trivial, trivial, trivial, trivial, trivial, trivial, trivial, trivial, trivial, trivial, trivial⟩, trivial⟩ ⟨trivial, trivial, trivial, trivial, trivial, trivial, trivial, trivial, trivial, trivial, trivial, trivial, trivial⟩) ?_
      conv => whnf
      repeat (refine And.intro rfl ?_; conv => whnf)
      refine CallK.mk' (vM (cmdOf r)) [some (obRq r (.sl0) (.sl0))] ((c54 r hc hp).pure _ ⟨WV.agg (rqW ((by rw [hcn]; exact WL.sl0ro)) ((by rw [hpn]; exact WL.sl0ro))), trivial⟩ (freeF.wv (vM_free (cmdOf r)))) ?_
      conv => whnf
      repeat (refine And.intro rfl ?_; conv => whnf)
      exact Weak.perm [0, 2, 1] ⟨⟨rfl, (rqW (freeL.wl (v := .sl0) trivial) (freeL.wl (v := .sl0) trivial))⟩, ⟨rfl, (cmW (sl0_wl) (sl0_wl))⟩, ⟨rfl, obM_ws _⟩, trivial⟩ ⟨WV.lf (WL.ptr rfl rfl), WV.lf (freeL.wl (v := .sl0) trivial), WV.lf (freeL.wl (v := .sl0) trivial), WV.lf (WL.ptr rfl rfl), WV.lf (WL.ptr rfl rfl), trivial⟩ rfl (by simp) rfl (by simp)
    · conv => whnf
      repeat (refine And.intro rfl ?_; conv => whnf)
      refine CallK.mk' _ [some (obRq r (.sl0) (.sl0))] ((c53nn r hc hp).free _ ⟨⟨trivial, trivial, trivial, trivial, trivial, trivial, trivial, trivial, trivial, trivial, trivial, trivial, trivial, trivial, trivial, trivial, trivial, trivial⟩, trivial⟩ ⟨trivial, trivial, trivial, trivial, trivial, trivial, trivial, trivial, trivial, trivial, trivial, trivial, trivial⟩) ?_
      conv => whnf
      repeat (refine And.intro rfl ?_; conv => whnf)
      refine CallK.mk' (vM (cmdOf r)) [some (obRq r (.sl0) (.sl0)), some zM] ((c54 r hc hp).pure _ ⟨WV.agg (rqW ((by rw [hcn]; exact WL.sl0ro)) ((by rw [hpn]; exact WL.sl0ro))), trivial⟩ (freeF.wv (vM_free (cmdOf r)))) ?_
      conv => whnf
      repeat (refine And.intro rfl ?_; conv => whnf)
      exact Weak.perm [0, 1, 2] ⟨⟨rfl, (rqW (freeL.wl (v := .sl0) trivial) (freeL.wl (v := .sl0) trivial))⟩, ⟨rfl, (cmW (sl0_wl) (sl0_wl))⟩, ⟨rfl, obM_ws _⟩, trivial⟩ ⟨WV.lf (WL.ptr rfl rfl), WV.lf (freeL.wl (v := .sl0) trivial), WV.lf (freeL.wl (v := .sl0) trivial), WV.lf (WL.ptr rfl rfl), WV.lf (WL.ptr rfl rfl), trivial⟩ rfl (by simp) rfl (by simp)
    · conv => whnf
      repeat (refine And.intro rfl ?_; conv => whnf)
      refine CallK.mk' _ [some (obRq r (.sl0) (.sl0))] ((c53nn r hc hp).free _ ⟨⟨trivial, trivial, trivial, trivial, trivial, trivial, trivial, trivial, trivial, trivial, trivial, trivial, trivial, trivial, trivial, trivial, trivial, trivial⟩, trivial⟩ ⟨trivial, trivial, trivial, trivial, trivial, trivial, trivial, trivial, trivial, trivial, trivial, trivial, trivial⟩) ?_
      conv => whnf
      repeat (refine And.intro rfl ?_; conv => whnf)
      refine CallK.mk' (vM (cmdOf r)) [some (obRq r (.sl0) (.sl0)), some zM, some zM] ((c54 r hc hp).pure _ ⟨WV.agg (rqW ((by rw [hcn]; exact WL.sl0ro)) ((by rw [hpn]; exact WL.sl0ro))), trivial⟩ (freeF.wv (vM_free (cmdOf r)))) ?_
      conv => whnf
      repeat (refine And.intro rfl ?_; conv => whnf)
      exact Weak.perm [0, 1, 2] ⟨⟨rfl, (rqW (freeL.wl (v := .sl0) trivial) (freeL.wl (v := .sl0) trivial))⟩, ⟨rfl, (cmW (sl0_wl) (sl0_wl))⟩, ⟨rfl, obM_ws _⟩, trivial⟩ ⟨WV.lf (WL.ptr rfl rfl), WV.lf (freeL.wl (v := .sl0) trivial), WV.lf (freeL.wl (v := .sl0) trivial), WV.lf (WL.ptr rfl rfl), WV.lf (WL.ptr rfl rfl), trivial⟩ rfl (by simp) rfl (by simp)
    · conv => whnf
      repeat (refine And.intro rfl ?_; conv => whnf)
      refine CallK.mk' _ [some (obRq r (.sl0) (.sl0))] ((c53nn r hc hp).free _ ⟨⟨trivial, trivial, trivial, trivial, trivial, trivial, trivial, trivial, trivial, trivial, trivial, trivial, trivial, trivial, trivial, trivial, trivial, trivial⟩, trivial⟩ ⟨trivial, trivial, trivial, trivial, trivial, trivial, trivial, trivial, trivial, trivial, trivial, trivial, trivial⟩) ?_
      conv => whnf
      repeat (refine And.intro rfl ?_; conv => whnf)
      refine CallK.mk' (vM (cmdOf r)) [some (obRq r (.sl0) (.sl0)), some zM] ((c54 r hc hp).pure _ ⟨WV.agg (rqW ((by rw [hcn]; exact WL.sl0ro)) ((by rw [hpn]; exact WL.sl0ro))), trivial⟩ (freeF.wv (vM_free (cmdOf r)))) ?_
      conv => whnf
      repeat (refine And.intro rfl ?_; conv => whnf)
      exact Weak.perm [0, 2, 1] ⟨⟨rfl, (rqW (freeL.wl (v := .sl0) trivial) (freeL.wl (v := .sl0) trivial))⟩, ⟨rfl, (cmW (sl0_wl) (sl0_wl))⟩, ⟨rfl, obM_ws _⟩, trivial⟩ ⟨WV.lf (WL.ptr rfl rfl), WV.lf (freeL.wl (v := .sl0) trivial), WV.lf (freeL.wl (v := .sl0) trivial), WV.lf (WL.ptr rfl rfl), WV.lf (WL.ptr rfl rfl), trivial⟩ rfl (by simp) rfl (by simp)
    · conv => whnf
      repeat (refine And.intro rfl ?_; conv => whnf)
      refine CallK.mk' _ [some (obRq r (.sl0) (.sl0))] ((c53nn r hc hp).free _ ⟨⟨trivial, trivial, trivial, trivial, trivial, trivial, trivial, trivial, trivial, trivial, trivial, trivial, trivial, trivial, trivial, trivial, trivial, trivial⟩, trivial⟩ ⟨trivial, trivial, trivial, trivial, trivial, trivial, trivial, trivial, trivial, trivial, trivial, trivial, trivial⟩) ?_
      conv => whnf
      repeat (refine And.intro rfl ?_; conv => whnf)
      refine CallK.mk' (vM (cmdOf r)) [some (obRq r (.sl0) (.sl0)), some zM, some zM] ((c54 r hc hp).pure _ ⟨WV.agg (rqW ((by rw [hcn]; exact WL.sl0ro)) ((by rw [hpn]; exact WL.sl0ro))), trivial⟩ (freeF.wv (vM_free (cmdOf r)))) ?_
      conv => whnf
      repeat (refine And.intro rfl ?_; conv => whnf)
      exact Weak.perm [0, 2, 1] ⟨⟨rfl, (rqW (freeL.wl (v := .sl0) trivial) (freeL.wl (v := .sl0) trivial))⟩, ⟨rfl, (cmW (sl0_wl) (sl0_wl))⟩, ⟨rfl, obM_ws _⟩, trivial⟩ ⟨WV.lf (WL.ptr rfl rfl), WV.lf (freeL.wl (v := .sl0) trivial), WV.lf (freeL.wl (v := .sl0) trivial), WV.lf (WL.ptr rfl rfl), WV.lf (WL.ptr rfl rfl), trivial⟩ rfl (by simp) rfl (by simp)
    · conv => whnf
      repeat (refine And.intro rfl ?_; conv => whnf)
      refine CallK.mk' _ [some (obRq r (.sl0) (.sl0)), some zM] ((c53nn r hc hp).free _ ⟨⟨trivial, trivial, trivial, trivial, trivial, trivial, trivial, trivial, trivial, trivial, trivial, trivial, trivial, trivial, trivial, trivial, trivial, trivial⟩, trivial⟩ ⟨trivial, trivial, trivial, trivial, trivial, trivial, trivial, trivial, trivial, trivial, trivial, trivial, trivial⟩) ?_
      conv => whnf
      repeat (refine And.intro rfl ?_; conv => whnf)
      refine CallK.mk' (vM (cmdOf r)) [some (obRq r (.sl0) (.sl0)), some zM] ((c54 r hc hp).pure _ ⟨WV.agg (rqW ((by rw [hcn]; exact WL.sl0ro)) ((by rw [hpn]; exact WL.sl0ro))), trivial⟩ (freeF.wv (vM_free (cmdOf r)))) ?_
      conv => whnf
      repeat (refine And.intro rfl ?_; conv => whnf)
      exact Weak.perm [0, 1, 2] ⟨⟨rfl, (rqW (freeL.wl (v := .sl0) trivial) (freeL.wl (v := .sl0) trivial))⟩, ⟨rfl, (cmW (sl0_wl) (sl0_wl))⟩, ⟨rfl, obM_ws _⟩, trivial⟩ ⟨WV.lf (WL.ptr rfl rfl), WV.lf (freeL.wl (v := .sl0) trivial), WV.lf (freeL.wl (v := .sl0) trivial), WV.lf (WL.ptr rfl rfl), WV.lf (WL.ptr rfl rfl), trivial⟩ rfl (by simp) rfl (by simp)
    · conv => whnf
      repeat (refine And.intro rfl ?_; conv => whnf)
      refine CallK.mk' _ [some (obRq r (.sl0) (.sl0)), some zM] ((c53nn r hc hp).free _ ⟨⟨trivial, trivial, trivial, trivial, trivial, trivial, trivial, trivial, trivial, trivial, trivial, trivial, trivial, trivial, trivial, trivial, trivial, trivial⟩, trivial⟩ ⟨trivial, trivial, trivial, trivial, trivial, trivial, trivial, trivial, trivial, trivial, trivial, trivial, trivial⟩) ?_
      conv => whnf
      repeat (refine And.intro rfl ?_; conv => whnf)
      refine CallK.mk' (vM (cmdOf r)) [some (obRq r (.sl0) (.sl0)), some zM, some zM] ((c54 r hc hp).pure _ ⟨WV.agg (rqW ((by rw [hcn]; exact WL.sl0ro)) ((by rw [hpn]; exact WL.sl0ro))), trivial⟩ (freeF.wv (vM_free (cmdOf r)))) ?_
      conv => whnf
      repeat (refine And.intro rfl ?_; conv => whnf)
      exact Weak.perm [0, 1, 2] ⟨⟨rfl, (rqW (freeL.wl (v := .sl0) trivial) (freeL.wl (v := .sl0) trivial))⟩, ⟨rfl, (cmW (sl0_wl) (sl0_wl))⟩, ⟨rfl, obM_ws _⟩, trivial⟩ ⟨WV.lf (WL.ptr rfl rfl), WV.lf (freeL.wl (v := .sl0) trivial), WV.lf (freeL.wl (v := .sl0) trivial), WV.lf (WL.ptr rfl rfl), WV.lf (WL.ptr rfl rfl), trivial⟩ rfl (by simp) rfl (by simp)
    · conv => whnf
      repeat (refine And.intro rfl ?_; conv => whnf)
      refine CallK.mk' _ [some (obRq r (.sl0) (.sl0)), some zM, some zM] ((c53nn r hc hp).free _ ⟨⟨trivial, trivial, trivial, trivial, trivial, trivial, trivial, trivial, trivial, trivial, trivial, trivial, trivial, trivial, trivial, trivial, trivial, trivial⟩, trivial⟩ ⟨trivial, trivial, trivial, trivial, trivial, trivial, trivial, trivial, trivial, trivial, trivial, trivial, trivial⟩) ?_
      conv => whnf
      repeat (refine And.intro rfl ?_; conv => whnf)
      refine CallK.mk' (vM (cmdOf r)) [some (obRq r (.sl0) (.sl0)), some zM, some zM] ((c54 r hc hp).pure _ ⟨WV.agg (rqW ((by rw [hcn]; exact WL.sl0ro)) ((by rw [hpn]; exact WL.sl0ro))), trivial⟩ (freeF.wv (vM_free (cmdOf r)))) ?_
      conv => whnf
      repeat (refine And.intro rfl ?_; conv => whnf)
      exact Weak.perm [0, 1, 2] ⟨⟨rfl, (rqW (freeL.wl (v := .sl0) trivial) (freeL.wl (v := .sl0) trivial))⟩, ⟨rfl, (cmW (sl0_wl) (sl0_wl))⟩, ⟨rfl, obM_ws _⟩, trivial⟩ ⟨WV.lf (WL.ptr rfl rfl), WV.lf (freeL.wl (v := .sl0) trivial), WV.lf (freeL.wl (v := .sl0) trivial), WV.lf (WL.ptr rfl rfl), WV.lf (WL.ptr rfl rfl), trivial⟩ rfl (by simp) rfl (by simp)
    · conv => whnf
      repeat (refine And.intro rfl ?_; conv => whnf)
      refine CallK.mk' _ [some (obRq r (.sl0) (.sl0)), some zM] ((c53nn r hc hp).free _ ⟨⟨trivial, trivial, trivial, trivial, trivial, trivial, trivial, trivial, trivial, trivial, trivial, trivial, trivial, trivial, trivial, trivial, trivial, trivial⟩, trivial⟩ ⟨trivial, trivial, trivial, trivial, trivial, trivial, trivial, trivial, trivial, trivial, trivial, trivial, trivial⟩) ?_
      conv => whnf
      repeat (refine And.intro rfl ?_; conv => whnf)
      refine CallK.mk' (vM (cmdOf r)) [some (obRq r (.sl0) (.sl0)), some zM] ((c54 r hc hp).pure _ ⟨WV.agg (rqW ((by rw [hcn]; exact WL.sl0ro)) ((by rw [hpn]; exact WL.sl0ro))), trivial⟩ (freeF.wv (vM_free (cmdOf r)))) ?_
      conv => whnf
      repeat (refine And.intro rfl ?_; conv => whnf)
      exact Weak.perm [0, 2, 1] ⟨⟨rfl, (rqW (freeL.wl (v := .sl0) trivial) (freeL.wl (v := .sl0) trivial))⟩, ⟨rfl, (cmW (sl0_wl) (sl0_wl))⟩, ⟨rfl, obM_ws _⟩, trivial⟩ ⟨WV.lf (WL.ptr rfl rfl), WV.lf (freeL.wl (v := .sl0) trivial), WV.lf (freeL.wl (v := .sl0) trivial), WV.lf (WL.ptr rfl rfl), WV.lf (WL.ptr rfl rfl), trivial⟩ rfl (by simp) rfl (by simp)
    · conv => whnf
      repeat (refine And.intro rfl ?_; conv => whnf)
      refine CallK.mk' _ [some (obRq r (.sl0) (.sl0)), some zM] ((c53nn r hc hp).free _ ⟨⟨trivial, trivial, trivial, trivial, trivial, trivial, trivial, trivial, trivial, trivial, trivial, trivial, trivial, trivial, trivial, trivial, trivial, trivial⟩, trivial⟩ ⟨trivial, trivial, trivial, trivial, trivial, trivial, trivial, trivial, trivial, trivial, trivial, trivial, trivial⟩) ?_
      conv => whnf
      repeat (refine And.intro rfl ?_; conv => whnf)
      refine CallK.mk' (vM (cmdOf r)) [some (obRq r (.sl0) (.sl0)), some zM, some zM] ((c54 r hc hp).pure _ ⟨WV.agg (rqW ((by rw [hcn]; exact WL.sl0ro)) ((by rw [hpn]; exact WL.sl0ro))), trivial⟩ (freeF.wv (vM_free (cmdOf r)))) ?_
      conv => whnf
      repeat (refine And.intro rfl ?_; conv => whnf)
      exact Weak.perm [0, 2, 1] ⟨⟨rfl, (rqW (freeL.wl (v := .sl0) trivial) (freeL.wl (v := .sl0) trivial))⟩, ⟨rfl, (cmW (sl0_wl) (sl0_wl))⟩, ⟨rfl, obM_ws _⟩, trivial⟩ ⟨WV.lf (WL.ptr rfl rfl), WV.lf (freeL.wl (v := .sl0) trivial), WV.lf (freeL.wl (v := .sl0) trivial), WV.lf (WL.ptr rfl rfl), WV.lf (WL.ptr rfl rfl), trivial⟩ rfl (by simp) rfl (by simp)
    · conv => whnf
      repeat (refine And.intro rfl ?_; conv => whnf)
      refine CallK.mk' _ [some (obRq r (.sl0) (.sl0)), some zM, some zM] ((c53nn r hc hp).free _ ⟨⟨trivial, trivial, trivial, trivial, trivial, trivial, trivial, trivial, trivial, trivial, trivial, trivial, trivial, trivial, trivial, trivial, trivial, trivial⟩, trivial⟩ ⟨trivial, trivial, trivial, trivial, trivial, trivial, trivial, trivial, trivial, trivial, trivial, trivial, trivial⟩) ?_
      conv => whnf
      repeat (refine And.intro rfl ?_; conv => whnf)
      refine CallK.mk' (vM (cmdOf r)) [some (obRq r (.sl0) (.sl0)), some zM, some zM] ((c54 r hc hp).pure _ ⟨WV.agg (rqW ((by rw [hcn]; exact WL.sl0ro)) ((by rw [hpn]; exact WL.sl0ro))), trivial⟩ (freeF.wv (vM_free (cmdOf r)))) ?_
      conv => whnf
      repeat (refine And.intro rfl ?_; conv => whnf)
      exact Weak.perm [0, 2, 1] ⟨⟨rfl, (rqW (freeL.wl (v := .sl0) trivial) (freeL.wl (v := .sl0) trivial))⟩, ⟨rfl, (cmW (sl0_wl) (sl0_wl))⟩, ⟨rfl, obM_ws _⟩, trivial⟩ ⟨WV.lf (WL.ptr rfl rfl), WV.lf (freeL.wl (v := .sl0) trivial), WV.lf (freeL.wl (v := .sl0) trivial), WV.lf (WL.ptr rfl rfl), WV.lf (WL.ptr rfl rfl), trivial⟩ rfl (by simp) rfl (by simp)
  conv => whnf
  refine CallK.mk' _ _ ((c55 (cmdOf r) (cmdOf r) hcl hpl).lend (cs := [.s (.agg (segsMu (cmdOf r) (.sl0) (.sl0))), vM (cmdOf r)]) (fun _ => False) _ ⟨WV.agg (cmW (by show WL _ _ (vKl r.tk.cs); rw [hcn]; exact WL.sl0ro) (by show WL _ _ (vQl r.ps); rw [hpn]; exact WL.sl0ro)), freeF.wv (vM_free (cmdOf r)), trivial⟩ (plainF.wv trivial)) ?_
  conv => whnf
  refine LoopK.mk1 (fun _ : Nat => [(39, vI 0), (38, vI 0), (1, .s (.lf (.ptr 0 0))), (3, .s (.lf (.sl0))), (4, .s (.lf (.sl0))), (5, .s (.lf (.ptr 1 0))), (7, .s (.lf (.bool (decide (cmdOf r = cmdOf r)))))]) (fun _ => [some (obRq r (.sl0) (.sl0)), some ⟨60, segsMu (cmdOf r) (.sl0) (.sl0)⟩, some (obM (cmdOf r))]) (fun _ => True) (fun _ => 0) 0 trivial (Weak.of ⟨rfl, (rqW (freeL.wl (v := .sl0) trivial) (freeL.wl (v := .sl0) trivial)), rfl, (cmW (sl0_wl) (sl0_wl)), rfl, obM_ws _, trivial⟩ (by simp) ⟨okF.wv trivial, okF.wv trivial, WV.lf (WL.ptr rfl rfl), WV.lf (freeL.wl (v := .sl0) trivial), WV.lf (freeL.wl (v := .sl0) trivial), WV.lf (WL.ptr rfl rfl), WV.lf (WL.bool rfl), trivial⟩) ?_
  intro x _
  conv => whnf
  refine CaseB.of_false rfl ?_
  conv => whnf
  refine LoopK.mk1 (fun _ : Nat => [(51, vI 0), (50, vI 0), (1, .s (.lf (.ptr 0 0))), (3, .s (.lf (.sl0))), (4, .s (.lf (.sl0))), (5, .s (.lf (.ptr 1 0))), (7, .s (.lf (.bool (decide (cmdOf r = cmdOf r)))))]) (fun _ => [some (obRq r (.sl0) (.sl0)), some ⟨60, segsMu (cmdOf r) (.sl0) (.sl0)⟩, some (obM (cmdOf r))]) (fun _ => True) (fun _ => 0) 0 trivial (Weak.of ⟨rfl, (rqW (freeL.wl (v := .sl0) trivial) (freeL.wl (v := .sl0) trivial)), rfl, (cmW (sl0_wl) (sl0_wl)), rfl, obM_ws _, trivial⟩ (by simp) ⟨okF.wv trivial, okF.wv trivial, WV.lf (WL.ptr rfl rfl), WV.lf (freeL.wl (v := .sl0) trivial), WV.lf (freeL.wl (v := .sl0) trivial), WV.lf (WL.ptr rfl rfl), WV.lf (WL.bool rfl), trivial⟩) ?_
  intro x _
  conv => whnf
  refine CaseB.of_false rfl ?_
  conv => whnf
  refine CaseB.of_true (decide_eq_true rfl) ?_
  conv => whnf
  refine CallK.mk' _ _ ((c32 [] [] (by decide)).pure _ ⟨WV.lf (WL.sl0ro), WV.lf (WL.sl0ro), trivial⟩ (freeF.wv (v := .s (.lf (.bool _))) trivial)) ?_
  conv => whnf
  refine CaseB.of_true (decide_eq_true rfl) ?_
  conv => whnf
  refine CallK.mk' _ _ ((c56 [] [] (by decide)).pure _ ⟨WV.lf (WL.sl0ro), WV.lf (WL.sl0ro), trivial⟩ (freeF.wv (v := .s (.lf (.bool _))) trivial)) ?_
  conv => whnf
  refine CaseB.of_true (decide_eq_true rfl) ?_
  conv => whnf
  refine CallK.mk' _ _ (c51.free _ trivial trivial) ?_
  conv => whnf
  exact RetK.empty (okF.wv trivial)

end Go.Sym.Md

