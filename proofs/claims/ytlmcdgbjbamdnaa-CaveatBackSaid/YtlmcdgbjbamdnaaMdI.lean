/- Contracts of the program's functions, proved by the framework (text MdI), without conditions but those that each theorem states. -/
import Derived.Test.YtlmcdgbjbamdnaaMdH
set_option linter.unusedVariables false
set_option linter.unusedSimpArgs false
set_option maxRecDepth 10000
namespace Go.Sym.Md
open Go Go.Sym

/-- A baileyref02.Reader, as it lies. -/
abbrev obQ (r : Rd) : OB := ⟨151, [.one (.rob false false r.l), .one (.int .i64 r.e)]⟩
theorem obQ_ws {D : Rel} [ROk D] (r : Rd) : WSs D (obQ r).segs (obQ r).segs := ⟨.one (WL.rob rfl (by simp) (by simp)), .one (WL.int rfl), trivial⟩

/-- baileyref02.copied, of nothing -/
theorem c144n : SCalls Proofs.Try.prog 144 [.s (.lf (.rob false false []))] [] (.s (.lf .sl0)) [] := by
  refine SCalls.intro tok Proofs.Try.func144 ?_
  conv => whnf
  exact RetK.empty (okF.wv trivial)

/-- baileyref02.copied -/
theorem c144 (x : UInt8) (b : List UInt8) (h : (x :: b).length ≤ 140737488355328) : SCalls Proofs.Try.prog 144 [.s (.lf (.rob false false (x :: b)))] [] (.s (.lf (.own 0 0 1 0 (x :: b).length))) [some ⟨5, [.bytes (x :: b).length (x :: b)]⟩] := by
  refine SCalls.intro tok Proofs.Try.func144 ?_
  conv => whnf
  refine And.intro h ?_
  conv => whnf
  exact RetK.of ⟨rfl, ⟨.bytes rfl fun _ _ => rfl, trivial⟩, trivial⟩ (by simp) (WV.lf (WL.own rfl rfl rfl rfl))

/-- baileyref02.Open -/
theorem c65 (b : List UInt8) (h : b.length ≤ 140737488355328) : SCalls Proofs.Try.prog 65 [.s (.lf (.rob false false b))] [] (.s (.lf (.ptr 0 0))) [some (obQ ⟨b, 0⟩)] := by
  refine SCalls.intro tok Proofs.Try.func65 ?_
  conv => whnf
  cases b with
  | nil =>
    refine CallK.mk' _ _ c144n ?_
    conv => whnf
    exact RetK.of ⟨rfl, ⟨.one WL.sl0rob', .one (WL.int rfl), trivial⟩, trivial⟩ (by simp) (WV.lf (WL.ptr rfl rfl))
  | cons x b =>
    refine CallK.mk' _ _ (c144 x b h) ?_
    conv => whnf
    exact RetK.perm [1] ⟨⟨rfl, .one (WL.lent (ty := 5) rfl rfl (gone_one (by decide))), .one (WL.int rfl), trivial⟩, trivial⟩ (WV.lf (WL.ptr rfl rfl)) rfl (by simp) rfl (by simp)

/-- baileyref02.Reader.Fail -/
theorem c148 (r : Rd) (h : r.ok) (e : Int) : SCalls Proofs.Try.prog 148 [.s (.lf (.ptr 0 0)), vI e] [some (obQ r)] (.tup []) [some (obQ (failR r e))] := by
  refine SCalls.intro tok Proofs.Try.func148 ?_
  conv => whnf
  by_cases h0 : r.e = 0
  · refine CaseB.of_true (decide_eq_true h0) ?_
    conv => whnf
    by_cases he : e = 0
    · refine CaseB.of_false (by simp [he]) ?_
      conv => whnf
      rw [failR, if_neg (by simp [he])]
      exact RetK.of ⟨rfl, ⟨.one (WL.rob rfl (by simp) (by simp)), .one (WL.int (by rw [he, h0])), trivial⟩, trivial⟩ (by simp) (okF.wv trivial)
    · refine CaseB.of_true (by simp [he]) ?_
      conv => whnf
      rw [failR, if_pos ⟨h0, he⟩]
      exact RetK.of ⟨rfl, ⟨.one WL.sl0rob', .one (WL.int rfl), trivial⟩, trivial⟩ (by simp) (okF.wv trivial)
  · refine CaseB.of_false (decide_eq_false h0) ?_
    conv => whnf
    refine CaseB.of_true (by simp [h0]) ?_
    conv => whnf
    rw [failR, if_neg (by simp [h0])]
    exact RetK.of ⟨rfl, ⟨.one (by rw [h.nil h0]; exact WL.sl0rob'), .one (WL.int rfl), trivial⟩, trivial⟩ (by simp) (okF.wv trivial)

/-- baileyref02.Reader.Err -/
theorem c69 (r : Rd) : SCalls Proofs.Try.prog 69 [.s (.lf (.ptr 0 0))] [some (obQ r)] (vI r.e) [some (obQ r)] := by
  refine SCalls.intro tok Proofs.Try.func69 ?_
  conv => whnf
  exact RetK.of ⟨rfl, okGs.ws (by exact ⟨trivial, trivial, trivial⟩), trivial⟩ (by simp) (okF.wv trivial)

/-- baileyref02.Reader.Left -/
theorem c71 (r : Rd) : SCalls Proofs.Try.prog 71 [.s (.lf (.ptr 0 0))] [some (obQ r)] (vI r.l.length) [some (obQ r)] := by
  refine SCalls.intro tok Proofs.Try.func71 ?_
  conv => whnf
  exact RetK.of ⟨rfl, okGs.ws (by exact ⟨trivial, trivial, trivial⟩), trivial⟩ (by simp) (okF.wv trivial)

/-- baileyref02.Reader.End -/
theorem c142 (r : Rd) (h : r.ok) : SCalls Proofs.Try.prog 142 [.s (.lf (.ptr 0 0))] [some (obQ r)] (vI (if 0 < r.l.length then 3 else r.e)) [some (obQ r)] := by
  refine SCalls.intro tok Proofs.Try.func142 ?_
  conv => whnf
  by_cases h0 : r.e = 0
  · refine CaseB.of_true (decide_eq_true h0) ?_
    conv => whnf
    by_cases hl : 0 < r.l.length
    · refine CaseB.of_true (decide_eq_true (by omega)) ?_
      conv => whnf
      rw [if_pos hl]
      exact RetK.of ⟨rfl, okGs.ws (by exact ⟨trivial, trivial, trivial⟩), trivial⟩ (by simp) (okF.wv trivial)
    · refine CaseB.of_false (decide_eq_false (by omega)) ?_
      conv => whnf
      rw [if_neg hl]
      exact RetK.of ⟨rfl, okGs.ws (by exact ⟨trivial, trivial, trivial⟩), trivial⟩ (by simp) (okF.wv trivial)
  · refine CaseB.of_false (decide_eq_false h0) ?_
    conv => whnf
    rw [if_neg (by rw [h.nil h0]; simp)]
    exact RetK.of ⟨rfl, okGs.ws (by exact ⟨trivial, trivial, trivial⟩), trivial⟩ (by simp) (okF.wv trivial)

/-- baileyref02.Reader.Num -/
theorem c147 (r : Rd) (most : Int) (h : r.ok) : SCalls Proofs.Try.prog 147 [.s (.lf (.ptr 0 0)), vI most] [some (obQ r)] (vI (numR r most).1) [some (obQ (numR r most).2)] := by
  refine SCalls.intro tok Proofs.Try.func147 ?_
  conv => whnf
  have hwl := wF_le r.l 0 (by omega)
  have hlen := h.len
  have hko := numR_ok h most
  refine LoopK.mk3 (fun (i n : Nat) (q : Rd) => [(6, vI i), (5, vI n), (4, vI 0), (0, .s (.lf (.ptr 0 0))), (1, vI most)]) (fun _ _ q => [some (obQ q)])
    (fun i n q => (i ≤ 1000 ∧ n < 9223372036854775808) ∧ ((q = r ∧ r.e = 0 ∧ i ≤ r.l.length ∧ i ≤ 8 ∧ n = valF r.l i ∧ wF (r.l.drop i) i = wF r.l 0) ∨ (q.e ≠ 0 ∧ numR r most = (0, q))))
    (fun i n q => if q.e = 0 then 1000000 - i else 0) 0 0 r ⟨⟨by omega, by omega⟩, ?_⟩ ?_ ?_
  · by_cases h0 : r.e = 0
    · exact .inl ⟨rfl, h0, by omega, by omega, rfl, by rw [List.drop_zero]⟩
    · exact .inr ⟨h0, by unfold numR; rw [if_pos h0]⟩
  · exact Weak.of ⟨rfl, okGs.ws (by exact ⟨trivial, trivial, trivial⟩), trivial⟩ (by simp) ⟨okF.wv trivial, okF.wv trivial, okF.wv trivial, okF.wv rfl, okF.wv trivial, trivial⟩
  rintro i n q ⟨⟨hi, hn⟩, hq⟩
  conv => whnf
  rcases hq with ⟨rfl, h0, hil, h8, hv, hw⟩ | ⟨h0, hN⟩
  · refine CaseB.of_true (decide_eq_true h0) ?_
    conv => whnf
    have hi0 : (Int.toNat (i : Int)) = i := Int.toNat_natCast i
    by_cases hl : i < q.l.length
    · refine CaseB.of_false (decide_eq_false (by omega)) ?_
      conv => whnf
      have hs := wF_step q.l i hl
      have hx : (q.l.getD i 0).toNat < 256 := UInt8.toNat_lt _
      have ef : failR q 3 = ⟨[], 3⟩ := by unfold failR; rw [if_pos ⟨h0, by decide⟩]
      by_cases a0 : i = 0
      · subst a0
        refine CaseB.of_true (by decide) ?_
        conv => whnf
        refine And.intro (by omega) ?_
        conv => whnf
        by_cases ax : (q.l.getD 0 0).toNat = 128
        · refine CaseB.of_true (decide_eq_true (by show ((q.l.getD 0 0).toNat : Int) = 128; omega)) ?_
          conv => whnf
          have hc : ((0:Nat) = 0 ∧ (q.l.getD 0 0).toNat = 128) ∨ ((0:Nat) = 8 ∧ 128 ≤ (q.l.getD 0 0).toNat) := by omega
          rw [if_pos hc] at hs
          have e1 : wF q.l 0 = (0, 3) := by rw [← hw, hs]
          have eN : numR q most = (0, ⟨[], 3⟩) := by unfold numR; rw [if_neg (by omega), e1, if_pos (by decide)]
          refine CallK.mk' _ _ (c148 q h 3) ?_
          conv => whnf
          rw [ef]
          refine ⟨(0 + 1, n, ⟨[], 3⟩), ⟨⟨by show 0 + 1 ≤ 1000; omega, hn⟩, .inr ⟨by show (3 : Int) ≠ 0; decide, eN⟩⟩, ?_, ?_⟩
          · show (if (3 : Int) = 0 then 1000000 - (0 + 1) else 0) < if q.e = 0 then 1000000 - 0 else 0
            rw [if_neg (by decide), if_pos h0]; omega
          · exact Weak.of ⟨rfl, okGs.ws (by exact ⟨trivial, trivial, trivial⟩), trivial⟩ (by simp) ⟨WV.lf (WL.int (by rw [wrap_i64 (by omega) (by omega)]; simp)), okF.wv trivial, okF.wv trivial, okF.wv rfl, okF.wv trivial, trivial⟩
        · refine CaseB.of_false (decide_eq_false (by show ¬ ((q.l.getD 0 0).toNat : Int) = 128; omega)) ?_
          conv => whnf
          refine CaseB.of_false (by decide) ?_
          conv => whnf
          have hc : ¬ (((0:Nat) = 0 ∧ (q.l.getD 0 0).toNat = 128) ∨ ((0:Nat) = 8 ∧ 128 ≤ (q.l.getD 0 0).toNat)) := by omega
          rw [if_neg hc] at hs
          refine And.intro (by omega) ?_
          conv => whnf
          refine And.intro (by decide) ?_
          conv => whnf
          refine And.intro (by omega) ?_
          conv => whnf
          have hX : (Int.toNat ((0 : Nat) : Int)) = 0 := Int.toNat_natCast 0
          by_cases hm : (q.l.getD 0 0).toNat < 128
          · refine CaseB.of_true (decide_eq_true (by rw [hX]; omega)) ?_
            conv => whnf
            rw [if_pos hm] at hs
            have e1 : wF q.l 0 = (0 + 1, 0) := by rw [← hw, hs]
            have eI : IntKind.i64.wrap (((0 : Nat) : Int) + 1) = ((0 + 1 : Nat) : Int) := by rw [wrap_i64 (by omega) (by omega)]; omega
            refine And.intro ⟨by rw [eI]; omega, by rw [eI]; omega, by omega⟩ ?_
            conv => whnf
            have hv' := valF_lt q.l 0 (by omega)
            have hp : 128 ^ 0 ≤ 128 ^ 8 := Nat.pow_le_pow_right (by omega) (by omega)
            have eV : IntKind.i64.wrap (IntKind.i64.wrap ((n : Int) * 128) + IntKind.i64.wrap (Int.tmod ((q.l.getD (Int.toNat ((0 : Nat) : Int)) 0).toNat : Int) 128)) = ((valF q.l (0 + 1) : Nat) : Int) := by
              rw [hX, valF_succ q.l 0 hl, wrap_i64 (n := (n : Int) * 128) (by omega) (by omega), show Int.tmod ((q.l.getD 0 0).toNat : Int) 128 = (((q.l.getD 0 0).toNat % 128 : Nat) : Int) from rfl, wrap_i64 (n := (((q.l.getD 0 0).toNat % 128 : Nat) : Int)) (by omega) (by omega), wrap_i64 (by omega) (by omega)]
              omega
            have eD : (q.l.take (Int.toNat (q.l.length : Int))).drop (Int.toNat (IntKind.i64.wrap (((0 : Nat) : Int) + 1))) = q.l.drop (0 + 1) := by
              rw [eI, Int.toNat_natCast, Int.toNat_natCast, List.take_length]
            have eN : numR q most = if most < (valF q.l (0 + 1) : Int) then (0, ⟨[], 5⟩) else ((valF q.l (0 + 1) : Int), ⟨q.l.drop (0 + 1), 0⟩) := by
              unfold numR; rw [if_neg (by omega), e1, if_neg (fun h => h rfl)]
            by_cases hM : most < (valF q.l (0 + 1) : Int)
            · refine CaseB.of_true (decide_eq_true (by rw [eV]; exact hM)) ?_
              conv => whnf
              rw [if_pos hM] at eN
              rw [eN]
              have okd : (⟨q.l.drop (0 + 1), q.e⟩ : Rd).ok := ⟨fun h1 => absurd h0 h1, h.lo, h.hi, by rw [List.length_drop]; omega⟩
              have ef5 : failR ⟨q.l.drop (0 + 1), q.e⟩ 5 = ⟨[], 5⟩ := by unfold failR; rw [if_pos ⟨h0, by decide⟩]
              have h148 := c148 ⟨q.l.drop (0 + 1), q.e⟩ okd 5
              rw [ef5] at h148
              refine CallK.mk' _ [some (obQ ⟨[], 5⟩)] (h148.frame1 (nm := 0) (ob2 := obQ ⟨[], 5⟩) rfl rfl ⟨.one (WL.rob eD (by simp) (by simp)), .one (WL.int rfl), trivial⟩ ⟨WV.lf (WL.ptr rfl rfl), freeF.wv trivial, trivial⟩ rfl ⟨.one (WL.rob rfl (by simp) (by simp)), .one (WL.int rfl), trivial⟩ (freeF.wv trivial)) ?_
              conv => whnf
              exact RetK.of ⟨rfl, okGs.ws (by exact ⟨trivial, trivial, trivial⟩), trivial⟩ (by simp) (okF.wv trivial)
            · refine CaseB.of_false (decide_eq_false (by rw [eV]; exact hM)) ?_
              conv => whnf
              rw [if_neg hM] at eN
              rw [eN]
              exact RetK.of ⟨rfl, ⟨.one (WL.rob eD (by simp) (by simp)), .one (WL.int h0), trivial⟩, trivial⟩ (by simp) (WV.lf (WL.int eV))
          · refine CaseB.of_false (decide_eq_false (by rw [hX]; omega)) ?_
            conv => whnf
            rw [if_neg hm] at hs
            have hv' := valF_lt q.l 0 (by omega)
            have hp : 128 ^ 0 ≤ 128 ^ 7 := Nat.pow_le_pow_right (by omega) (by omega)
            have eV : IntKind.i64.wrap (IntKind.i64.wrap ((n : Int) * 128) + IntKind.i64.wrap (Int.tmod ((q.l.getD (Int.toNat ((0 : Nat) : Int)) 0).toNat : Int) 128)) = ((valF q.l (0 + 1) : Nat) : Int) := by
              rw [hX, valF_succ q.l 0 hl, wrap_i64 (n := (n : Int) * 128) (by omega) (by omega), show Int.tmod ((q.l.getD 0 0).toNat : Int) 128 = (((q.l.getD 0 0).toNat % 128 : Nat) : Int) from rfl, wrap_i64 (n := (((q.l.getD 0 0).toNat % 128 : Nat) : Int)) (by omega) (by omega), wrap_i64 (by omega) (by omega)]
              omega
            have hvs := valF_succ q.l 0 hl
            refine ⟨(0 + 1, valF q.l (0 + 1), q), ⟨⟨by show 0 + 1 ≤ 1000; omega, by show valF q.l (0 + 1) < _; omega⟩, .inl ⟨rfl, h0, by show 0 + 1 ≤ q.l.length; omega, by show 0 + 1 ≤ 8; omega, rfl, by show wF (q.l.drop (0 + 1)) (0 + 1) = _; rw [← hs]; exact hw⟩⟩, ?_, ?_⟩
            · show (if q.e = 0 then 1000000 - (0 + 1) else 0) < if q.e = 0 then 1000000 - 0 else 0
              rw [if_pos h0, if_pos h0]; omega
            · exact Weak.of ⟨rfl, okGs.ws (by exact ⟨trivial, trivial, trivial⟩), trivial⟩ (by simp) ⟨WV.lf (WL.int (by rw [wrap_i64 (by omega) (by omega)]; simp)), WV.lf (WL.int eV), okF.wv trivial, okF.wv rfl, okF.wv trivial, trivial⟩
      · refine CaseB.of_false (decide_eq_false (by omega)) ?_
        conv => whnf
        by_cases a8 : i = 8
        · subst a8
          refine CaseB.of_true (by decide) ?_
          conv => whnf
          refine And.intro (by omega) ?_
          conv => whnf
          by_cases ax : 128 ≤ (q.l.getD 8 0).toNat
          · refine CaseB.of_true (decide_eq_true (by show 128 ≤ ((q.l.getD 8 0).toNat : Int); omega)) ?_
            conv => whnf
            have hc : ((8:Nat) = 0 ∧ (q.l.getD 8 0).toNat = 128) ∨ ((8:Nat) = 8 ∧ 128 ≤ (q.l.getD 8 0).toNat) := by omega
            rw [if_pos hc] at hs
            have e1 : wF q.l 0 = (0, 3) := by rw [← hw, hs]
            have eN : numR q most = (0, ⟨[], 3⟩) := by unfold numR; rw [if_neg (by omega), e1, if_pos (by decide)]
            refine CallK.mk' _ _ (c148 q h 3) ?_
            conv => whnf
            rw [ef]
            refine ⟨(8 + 1, n, ⟨[], 3⟩), ⟨⟨by show 8 + 1 ≤ 1000; omega, hn⟩, .inr ⟨by show (3 : Int) ≠ 0; decide, eN⟩⟩, ?_, ?_⟩
            · show (if (3 : Int) = 0 then 1000000 - (8 + 1) else 0) < if q.e = 0 then 1000000 - 8 else 0
              rw [if_neg (by decide), if_pos h0]; omega
            · exact Weak.of ⟨rfl, okGs.ws (by exact ⟨trivial, trivial, trivial⟩), trivial⟩ (by simp) ⟨WV.lf (WL.int (by rw [wrap_i64 (by omega) (by omega)]; simp)), okF.wv trivial, okF.wv trivial, okF.wv rfl, okF.wv trivial, trivial⟩
          · refine CaseB.of_false (decide_eq_false (by show ¬ 128 ≤ ((q.l.getD 8 0).toNat : Int); omega)) ?_
            conv => whnf
            have hc : ¬ (((8:Nat) = 0 ∧ (q.l.getD 8 0).toNat = 128) ∨ ((8:Nat) = 8 ∧ 128 ≤ (q.l.getD 8 0).toNat)) := by omega
            rw [if_neg hc] at hs
            refine And.intro (by omega) ?_
            conv => whnf
            refine And.intro (by decide) ?_
            conv => whnf
            refine And.intro (by omega) ?_
            conv => whnf
            have hX : (Int.toNat ((8 : Nat) : Int)) = 8 := Int.toNat_natCast 8
            by_cases hm : (q.l.getD 8 0).toNat < 128
            · refine CaseB.of_true (decide_eq_true (by rw [hX]; omega)) ?_
              conv => whnf
              rw [if_pos hm] at hs
              have e1 : wF q.l 0 = (8 + 1, 0) := by rw [← hw, hs]
              have eI : IntKind.i64.wrap (((8 : Nat) : Int) + 1) = ((8 + 1 : Nat) : Int) := by rw [wrap_i64 (by omega) (by omega)]; omega
              refine And.intro ⟨by rw [eI]; omega, by rw [eI]; omega, by omega⟩ ?_
              conv => whnf
              have hv' := valF_lt q.l 8 (by omega)
              have hp : 128 ^ 8 ≤ 128 ^ 8 := Nat.pow_le_pow_right (by omega) (by omega)
              have eV : IntKind.i64.wrap (IntKind.i64.wrap ((n : Int) * 128) + IntKind.i64.wrap (Int.tmod ((q.l.getD (Int.toNat ((8 : Nat) : Int)) 0).toNat : Int) 128)) = ((valF q.l (8 + 1) : Nat) : Int) := by
                rw [hX, valF_succ q.l 8 hl, wrap_i64 (n := (n : Int) * 128) (by omega) (by omega), show Int.tmod ((q.l.getD 8 0).toNat : Int) 128 = (((q.l.getD 8 0).toNat % 128 : Nat) : Int) from rfl, wrap_i64 (n := (((q.l.getD 8 0).toNat % 128 : Nat) : Int)) (by omega) (by omega), wrap_i64 (by omega) (by omega)]
                omega
              have eD : (q.l.take (Int.toNat (q.l.length : Int))).drop (Int.toNat (IntKind.i64.wrap (((8 : Nat) : Int) + 1))) = q.l.drop (8 + 1) := by
                rw [eI, Int.toNat_natCast, Int.toNat_natCast, List.take_length]
              have eN : numR q most = if most < (valF q.l (8 + 1) : Int) then (0, ⟨[], 5⟩) else ((valF q.l (8 + 1) : Int), ⟨q.l.drop (8 + 1), 0⟩) := by
                unfold numR; rw [if_neg (by omega), e1, if_neg (fun h => h rfl)]
              by_cases hM : most < (valF q.l (8 + 1) : Int)
              · refine CaseB.of_true (decide_eq_true (by rw [eV]; exact hM)) ?_
                conv => whnf
                rw [if_pos hM] at eN
                rw [eN]
                have okd : (⟨q.l.drop (8 + 1), q.e⟩ : Rd).ok := ⟨fun h1 => absurd h0 h1, h.lo, h.hi, by rw [List.length_drop]; omega⟩
                have ef5 : failR ⟨q.l.drop (8 + 1), q.e⟩ 5 = ⟨[], 5⟩ := by unfold failR; rw [if_pos ⟨h0, by decide⟩]
                have h148 := c148 ⟨q.l.drop (8 + 1), q.e⟩ okd 5
                rw [ef5] at h148
                refine CallK.mk' _ [some (obQ ⟨[], 5⟩)] (h148.frame1 (nm := 0) (ob2 := obQ ⟨[], 5⟩) rfl rfl ⟨.one (WL.rob eD (by simp) (by simp)), .one (WL.int rfl), trivial⟩ ⟨WV.lf (WL.ptr rfl rfl), freeF.wv trivial, trivial⟩ rfl ⟨.one (WL.rob rfl (by simp) (by simp)), .one (WL.int rfl), trivial⟩ (freeF.wv trivial)) ?_
                conv => whnf
                exact RetK.of ⟨rfl, okGs.ws (by exact ⟨trivial, trivial, trivial⟩), trivial⟩ (by simp) (okF.wv trivial)
              · refine CaseB.of_false (decide_eq_false (by rw [eV]; exact hM)) ?_
                conv => whnf
                rw [if_neg hM] at eN
                rw [eN]
                exact RetK.of ⟨rfl, ⟨.one (WL.rob eD (by simp) (by simp)), .one (WL.int h0), trivial⟩, trivial⟩ (by simp) (WV.lf (WL.int eV))
            · refine CaseB.of_false (decide_eq_false (by rw [hX]; omega)) ?_
              conv => whnf
              rw [if_neg hm] at hs
              omega
        · refine CaseB.of_false (decide_eq_false (by omega)) ?_
          conv => whnf
          have hc : ¬ ((i = 0 ∧ (q.l.getD i 0).toNat = 128) ∨ (i = 8 ∧ 128 ≤ (q.l.getD i 0).toNat)) := by omega
          rw [if_neg hc] at hs
          refine And.intro (by omega) ?_
          conv => whnf
          refine And.intro (by decide) ?_
          conv => whnf
          refine And.intro (by omega) ?_
          conv => whnf
          have hX : (Int.toNat ((i : Nat) : Int)) = i := Int.toNat_natCast i
          by_cases hm : (q.l.getD i 0).toNat < 128
          · refine CaseB.of_true (decide_eq_true (by rw [hX]; omega)) ?_
            conv => whnf
            rw [if_pos hm] at hs
            have e1 : wF q.l 0 = (i + 1, 0) := by rw [← hw, hs]
            have eI : IntKind.i64.wrap (((i : Nat) : Int) + 1) = ((i + 1 : Nat) : Int) := by rw [wrap_i64 (by omega) (by omega)]; omega
            refine And.intro ⟨by rw [eI]; omega, by rw [eI]; omega, by omega⟩ ?_
            conv => whnf
            have hv' := valF_lt q.l i (by omega)
            have hp : 128 ^ i ≤ 128 ^ 8 := Nat.pow_le_pow_right (by omega) (by omega)
            have eV : IntKind.i64.wrap (IntKind.i64.wrap ((n : Int) * 128) + IntKind.i64.wrap (Int.tmod ((q.l.getD (Int.toNat ((i : Nat) : Int)) 0).toNat : Int) 128)) = ((valF q.l (i + 1) : Nat) : Int) := by
              rw [hX, valF_succ q.l i hl, wrap_i64 (n := (n : Int) * 128) (by omega) (by omega), show Int.tmod ((q.l.getD i 0).toNat : Int) 128 = (((q.l.getD i 0).toNat % 128 : Nat) : Int) from rfl, wrap_i64 (n := (((q.l.getD i 0).toNat % 128 : Nat) : Int)) (by omega) (by omega), wrap_i64 (by omega) (by omega)]
              omega
            have eD : (q.l.take (Int.toNat (q.l.length : Int))).drop (Int.toNat (IntKind.i64.wrap (((i : Nat) : Int) + 1))) = q.l.drop (i + 1) := by
              rw [eI, Int.toNat_natCast, Int.toNat_natCast, List.take_length]
            have eN : numR q most = if most < (valF q.l (i + 1) : Int) then (0, ⟨[], 5⟩) else ((valF q.l (i + 1) : Int), ⟨q.l.drop (i + 1), 0⟩) := by
              unfold numR; rw [if_neg (by omega), e1, if_neg (fun h => h rfl)]
            by_cases hM : most < (valF q.l (i + 1) : Int)
            · refine CaseB.of_true (decide_eq_true (by rw [eV]; exact hM)) ?_
              conv => whnf
              rw [if_pos hM] at eN
              rw [eN]
              have okd : (⟨q.l.drop (i + 1), q.e⟩ : Rd).ok := ⟨fun h1 => absurd h0 h1, h.lo, h.hi, by rw [List.length_drop]; omega⟩
              have ef5 : failR ⟨q.l.drop (i + 1), q.e⟩ 5 = ⟨[], 5⟩ := by unfold failR; rw [if_pos ⟨h0, by decide⟩]
              have h148 := c148 ⟨q.l.drop (i + 1), q.e⟩ okd 5
              rw [ef5] at h148
              refine CallK.mk' _ [some (obQ ⟨[], 5⟩)] (h148.frame1 (nm := 0) (ob2 := obQ ⟨[], 5⟩) rfl rfl ⟨.one (WL.rob eD (by simp) (by simp)), .one (WL.int rfl), trivial⟩ ⟨WV.lf (WL.ptr rfl rfl), freeF.wv trivial, trivial⟩ rfl ⟨.one (WL.rob rfl (by simp) (by simp)), .one (WL.int rfl), trivial⟩ (freeF.wv trivial)) ?_
              conv => whnf
              exact RetK.of ⟨rfl, okGs.ws (by exact ⟨trivial, trivial, trivial⟩), trivial⟩ (by simp) (okF.wv trivial)
            · refine CaseB.of_false (decide_eq_false (by rw [eV]; exact hM)) ?_
              conv => whnf
              rw [if_neg hM] at eN
              rw [eN]
              exact RetK.of ⟨rfl, ⟨.one (WL.rob eD (by simp) (by simp)), .one (WL.int h0), trivial⟩, trivial⟩ (by simp) (WV.lf (WL.int eV))
          · refine CaseB.of_false (decide_eq_false (by rw [hX]; omega)) ?_
            conv => whnf
            rw [if_neg hm] at hs
            have hv' := valF_lt q.l i (by omega)
            have hp : 128 ^ i ≤ 128 ^ 7 := Nat.pow_le_pow_right (by omega) (by omega)
            have eV : IntKind.i64.wrap (IntKind.i64.wrap ((n : Int) * 128) + IntKind.i64.wrap (Int.tmod ((q.l.getD (Int.toNat ((i : Nat) : Int)) 0).toNat : Int) 128)) = ((valF q.l (i + 1) : Nat) : Int) := by
              rw [hX, valF_succ q.l i hl, wrap_i64 (n := (n : Int) * 128) (by omega) (by omega), show Int.tmod ((q.l.getD i 0).toNat : Int) 128 = (((q.l.getD i 0).toNat % 128 : Nat) : Int) from rfl, wrap_i64 (n := (((q.l.getD i 0).toNat % 128 : Nat) : Int)) (by omega) (by omega), wrap_i64 (by omega) (by omega)]
              omega
            have hvs := valF_succ q.l i hl
            refine ⟨(i + 1, valF q.l (i + 1), q), ⟨⟨by show i + 1 ≤ 1000; omega, by show valF q.l (i + 1) < _; omega⟩, .inl ⟨rfl, h0, by show i + 1 ≤ q.l.length; omega, by show i + 1 ≤ 8; omega, rfl, by show wF (q.l.drop (i + 1)) (i + 1) = _; rw [← hs]; exact hw⟩⟩, ?_, ?_⟩
            · show (if q.e = 0 then 1000000 - (i + 1) else 0) < if q.e = 0 then 1000000 - i else 0
              rw [if_pos h0, if_pos h0]; omega
            · exact Weak.of ⟨rfl, okGs.ws (by exact ⟨trivial, trivial, trivial⟩), trivial⟩ (by simp) ⟨WV.lf (WL.int (by rw [wrap_i64 (by omega) (by omega)]; simp)), WV.lf (WL.int eV), okF.wv trivial, okF.wv rfl, okF.wv trivial, trivial⟩
    · refine CaseB.of_true (decide_eq_true (by omega)) ?_
      conv => whnf
      refine CallK.mk' _ _ (c148 q h 4) ?_
      conv => whnf
      have ef : failR q 4 = ⟨[], 4⟩ := by unfold failR; rw [if_pos ⟨h0, by decide⟩]
      obtain rfl : i = q.l.length := by omega
      rw [List.drop_length] at hw
      have e1 : wF q.l 0 = (0, 4) := by rw [← hw]; unfold wF; rfl
      have eN : numR q most = (0, ⟨[], 4⟩) := by unfold numR; rw [if_neg (by omega), e1, if_pos (by decide)]
      rw [ef]
      refine ⟨(q.l.length + 1, n, ⟨[], 4⟩), ⟨⟨by show q.l.length + 1 ≤ 1000; omega, hn⟩, .inr ⟨by show (4 : Int) ≠ 0; decide, eN⟩⟩, ?_, ?_⟩
      · show (if (4 : Int) = 0 then 1000000 - (q.l.length + 1) else 0) < if q.e = 0 then 1000000 - q.l.length else 0
        rw [if_neg (by decide), if_pos h0]; omega
      · exact Weak.of ⟨rfl, okGs.ws (by exact ⟨trivial, trivial, trivial⟩), trivial⟩ (by simp) ⟨WV.lf (WL.int (by rw [wrap_i64 (by omega) (by omega)]; simp)), okF.wv trivial, okF.wv trivial, okF.wv rfl, okF.wv trivial, trivial⟩
  · refine CaseB.of_false (decide_eq_false h0) ?_
    conv => whnf
    rw [hN]
    exact RetK.of ⟨rfl, okGs.ws (by exact ⟨trivial, trivial, trivial⟩), trivial⟩ (by simp) (okF.wv trivial)

/-- baileyref02.Reader.Text -/
theorem c149 (r : Rd) (most : Int) (h : r.ok) : SCalls Proofs.Try.prog 149 [.s (.lf (.ptr 0 0)), vI most] [some (obQ r)] (.s (.lf (.str (textR r most).1))) [some (obQ (textR r most).2)] := by
  have hn1 := numR_ok h most
  have hn2 := numR_range h most
  have hN := c147 r most h
  have eT : textR r most = (if (numR r most).2.e ≠ 0 then ([], (numR r most).2) else
    if (numR r most).2.l.length < (numR r most).1.toNat then ([], ⟨[], 4⟩) else
    ((numR r most).2.l.take (numR r most).1.toNat, ⟨(numR r most).2.l.drop (numR r most).1.toNat, 0⟩)) := rfl
  obtain ⟨p, hp⟩ : ∃ p, numR r most = p := ⟨_, rfl⟩
  rw [hp] at hn1 hn2 hN eT
  obtain ⟨n, hn⟩ : ∃ n : Nat, p.1 = n := ⟨p.1.toNat, by omega⟩
  rw [hn] at hN hn2 eT
  rw [Int.toNat_natCast] at eT
  have hlen := hn1.len
  refine SCalls.intro tok Proofs.Try.func149 ?_
  conv => whnf
  refine CallK.mk' _ _ hN ?_
  conv => whnf
  by_cases he : p.2.e = 0
  · refine CaseB.of_true (by simp [he]) ?_
    conv => whnf
    rw [if_neg (by omega)] at eT
    by_cases hl : p.2.l.length < n
    · refine CaseB.of_true (decide_eq_true (by omega)) ?_
      conv => whnf
      have ef : failR p.2 4 = ⟨[], 4⟩ := by unfold failR; rw [if_pos ⟨he, by decide⟩]
      refine CallK.mk' _ _ (c148 p.2 hn1 4) ?_
      conv => whnf
      rw [ef]
      refine CaseB.of_true (by decide) ?_
      conv => whnf
      rw [eT, if_pos hl]
      exact RetK.of ⟨rfl, okGs.ws (by exact ⟨trivial, trivial, trivial⟩), trivial⟩ (by simp) (okF.wv trivial)
    · refine CaseB.of_false (decide_eq_false (by omega)) ?_
      conv => whnf
      refine CaseB.of_false (by simp [he]) ?_
      conv => whnf
      refine And.intro (by omega) ?_
      conv => whnf
      refine And.intro (by omega) ?_
      conv => whnf
      rw [eT, if_neg hl]
      exact RetK.of ⟨rfl, ⟨.one (WL.rob (by simp) (by simp) (by simp)), .one (WL.int he), trivial⟩, trivial⟩ (by simp) (WV.lf (WL.str (by simp)))
  · refine CaseB.of_false (by simp [he]) ?_
    conv => whnf
    refine CaseB.of_true (by simp [he]) ?_
    conv => whnf
    rw [if_pos he] at eT
    rw [eT]
    exact RetK.of ⟨rfl, okGs.ws (by exact ⟨trivial, trivial, trivial⟩), trivial⟩ (by simp) (okF.wv trivial)
end Go.Sym.Md
