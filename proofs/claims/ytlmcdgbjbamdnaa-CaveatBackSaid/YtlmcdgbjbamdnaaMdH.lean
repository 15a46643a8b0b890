/- Contracts of the program's functions, proved by the framework (text MdH), without conditions but those that each theorem states. -/
import Derived.Test.YtlmcdgbjbamdnaaMdG
set_option linter.unusedVariables false
set_option linter.unusedSimpArgs false
set_option maxRecDepth 10000
namespace Go.Sym.Md
open Go Go.Sym

/-- A pack.Reader, as it lies. -/
abbrev obR (r : Rd) : OB := ⟨149, [.one (.rob false false r.l), .one (.int .i64 r.e), .one .tt]⟩

theorem obR_ws {D : Rel} [ROk D] (r : Rd) : WSs D (obR r).segs (obR r).segs := ⟨.one (WL.rob rfl (by simp) (by simp)), .one (WL.int rfl), .one WL.tt', trivial⟩

theorem gone_one {ob : OB} {μ : Nat → Nat} {nm : Nat} (h : μ 0 ≠ nm) : gone [some ob] μ noHid nm := by
  refine ⟨fun h => h, fun i o hi => ?_⟩
  match i, hi with
  | 0, _ => exact h
  | i + 1, hi => simp at hi

/-- pack.Reader.works -/
theorem c150 (r : Rd) : SCalls Proofs.Try.prog 150 [.s (.lf (.ptr 0 0))] [some (obR r)] (.s (.lf (.bool (decide (r.e = 0))))) [some (obR r)] := by
  refine SCalls.intro tok Proofs.Try.func150 ?_
  conv => whnf
  exact RetK.of ⟨rfl, okGs.ws (by exact ⟨trivial, trivial, trivial, trivial⟩), trivial⟩ (by simp) (okF.wv trivial)

/-- pack.Open -/
theorem c64 (b : List UInt8) (h : b.length ≤ 140737488355328) : SCalls Proofs.Try.prog 64 [.s (.lf (.rob false false b))] [] (.s (.lf (.ptr 0 0))) [some (obR ⟨b, 0⟩)] := by
  refine SCalls.intro tok Proofs.Try.func64 ?_
  conv => whnf
  refine CallK.mk' _ _ (c143 b 0 (by omega)) ?_
  conv => whnf
  exact RetK.perm [1] ⟨⟨rfl, .one (WL.lent (ty := 5) rfl rfl (gone_one (by decide))), .one (WL.int rfl), .one WL.tt', trivial⟩, trivial⟩ (WV.lf (WL.ptr rfl rfl)) rfl (by simp) rfl (by simp)

/-- pack.Reader.Fail -/
theorem c146 (r : Rd) (e : Int) : SCalls Proofs.Try.prog 146 [.s (.lf (.ptr 0 0)), vI e] [some (obR r)] (.tup []) [some (obR (failR r e))] := by
  refine SCalls.intro tok Proofs.Try.func146 ?_
  conv => whnf
  refine CallK.mk' _ _ (c150 r) ?_
  conv => whnf
  have hok : ∀ q : Rd, HpW (DownI [some (obR q)] [some (obR q)]) [some (obR q)] [some (obR q)] := fun q => ⟨rfl, okGs.ws (by exact ⟨trivial, trivial, trivial, trivial⟩), trivial⟩
  by_cases h0 : r.e = 0
  · refine CaseB.of_false (by simp [h0]) ?_
    conv => whnf
    by_cases he : e = 0
    · refine CaseB.of_true (decide_eq_true he) ?_
      conv => whnf
      rw [failR, if_neg (by simp [he])]
      exact RetK.of (hok _) (by simp) (okF.wv trivial)
    · refine CaseB.of_false (decide_eq_false he) ?_
      conv => whnf
      rw [failR, if_pos ⟨h0, he⟩]
      exact RetK.of ⟨rfl, ⟨.one WL.sl0rob', .one (WL.int rfl), .one WL.tt', trivial⟩, trivial⟩ (by simp) (okF.wv trivial)
  · refine CaseB.of_true (by simp [h0]) ?_
    conv => whnf
    rw [failR, if_neg (by simp [h0])]
    exact RetK.of (hok _) (by simp) (okF.wv trivial)

/-- pack.Reader.Err -/
theorem c68 (r : Rd) : SCalls Proofs.Try.prog 68 [.s (.lf (.ptr 0 0))] [some (obR r)] (vI r.e) [some (obR r)] := by
  refine SCalls.intro tok Proofs.Try.func68 ?_
  conv => whnf
  exact RetK.of ⟨rfl, okGs.ws (by exact ⟨trivial, trivial, trivial, trivial⟩), trivial⟩ (by simp) (okF.wv trivial)

/-- pack.Reader.Left -/
theorem c70 (r : Rd) (h : r.ok) : SCalls Proofs.Try.prog 70 [.s (.lf (.ptr 0 0))] [some (obR r)] (vI r.l.length) [some (obR r)] := by
  refine SCalls.intro tok Proofs.Try.func70 ?_
  conv => whnf
  refine CallK.mk' _ _ (c150 r) ?_
  conv => whnf
  by_cases h0 : r.e = 0
  · refine CaseB.of_false (by simp [h0]) ?_
    conv => whnf
    exact RetK.of ⟨rfl, okGs.ws (by exact ⟨trivial, trivial, trivial, trivial⟩), trivial⟩ (by simp) (okF.wv trivial)
  · refine CaseB.of_true (by simp [h0]) ?_
    conv => whnf
    rw [h.nil h0]
    exact RetK.of ⟨rfl, okGs.ws (by exact ⟨trivial, trivial, trivial, trivial⟩), trivial⟩ (by simp) (okF.wv trivial)

/-- pack.Reader.End -/
theorem c85 (r : Rd) (h : r.ok) : SCalls Proofs.Try.prog 85 [.s (.lf (.ptr 0 0))] [some (obR r)] (vI (if 0 < r.l.length then 3 else r.e)) [some (obR r)] := by
  refine SCalls.intro tok Proofs.Try.func85 ?_
  conv => whnf
  refine CallK.mk' _ _ (c70 r h) ?_
  conv => whnf
  by_cases h0 : 0 < r.l.length
  · refine CaseB.of_true (decide_eq_true (by omega)) ?_
    conv => whnf
    rw [if_pos h0]
    exact RetK.of ⟨rfl, okGs.ws (by exact ⟨trivial, trivial, trivial, trivial⟩), trivial⟩ (by simp) (okF.wv trivial)
  · refine CaseB.of_false (decide_eq_false (by omega)) ?_
    conv => whnf
    rw [if_neg h0]
    refine CallK.mk' _ _ (c68 r) ?_
    conv => whnf
    exact RetK.of ⟨rfl, okGs.ws (by exact ⟨trivial, trivial, trivial, trivial⟩), trivial⟩ (by simp) (okF.wv trivial)

/-- pack.Reader.take, of what is there. -/
theorem c194 (r : Rd) (n : Nat) : SCalls Proofs.Try.prog 194 [.s (.lf (.ptr 0 0)), vI n] [some (obR r)] (.s (.lf (.rob false false (if r.l.length < n then [] else r.l.take n)))) [some (obR (if r.l.length < n then failR r 4 else ⟨r.l.drop n, r.e⟩))] := by
  refine SCalls.intro tok Proofs.Try.func194 ?_
  conv => whnf
  by_cases hn : r.l.length < n
  · refine CaseB.of_true (decide_eq_true (by omega)) ?_
    conv => whnf
    refine CallK.mk' _ _ (c146 r 4) ?_
    conv => whnf
    rw [if_pos hn, if_pos hn]
    exact RetK.of ⟨rfl, okGs.ws (by exact ⟨trivial, trivial, trivial, trivial⟩), trivial⟩ (by simp) (WV.lf WL.sl0rob')
  · refine CaseB.of_false (decide_eq_false (by omega)) ?_
    conv => whnf
    rw [if_neg hn, if_neg hn]
    refine And.intro (by omega) ?_
    conv => whnf
    refine And.intro (by omega) ?_
    conv => whnf
    exact RetK.of ⟨rfl, ⟨.one (WL.rob (by simp) (by simp) (by simp)), .one (WL.int rfl), .one WL.tt', trivial⟩, trivial⟩ (by simp) (WV.lf (WL.rob (by simp) (by simp) (by simp)))

/-- pack.Reader.width -/
theorem c195 (r : Rd) (h : r.ok) (h0 : r.e = 0) : SCalls Proofs.Try.prog 195 [.s (.lf (.ptr 0 0))] [some (obR r)] (vI (if (wF r.l 0).2 = 0 then (wF r.l 0).1 else 0 : Nat)) [some (obR (if (wF r.l 0).2 = 0 then r else ⟨[], (wF r.l 0).2⟩))] := by
  refine SCalls.intro tok Proofs.Try.func195 ?_
  conv => whnf
  refine LoopK.mk1 (fun i : Nat => [(10, vI i), (9, vI r.l.length), (8, .s (.lf (.rob false false r.l))), (7, .s (.lf (.ptr 0 0))), (6, .s (.lf (.ptr 0 0))), (5, .s (.lf (.ptr 0 0))), (2, vI 0), (0, .s (.lf (.ptr 0 0)))]) (fun _ => [some (obR r)]) (fun i => i ≤ r.l.length ∧ i ≤ 8 ∧ wF (r.l.drop i) i = wF r.l 0) (fun i => r.l.length - i) 0 ⟨by omega, by omega, by rw [List.drop_zero]⟩ ?_ ?_
  · exact Weak.of ⟨rfl, okGs.ws (by exact ⟨trivial, trivial, trivial, trivial⟩), trivial⟩ (by simp) ⟨okF.wv trivial, okF.wv trivial, okF.wv trivial, okF.wv rfl, okF.wv rfl, okF.wv rfl, okF.wv trivial, okF.wv rfl, trivial⟩
  · rintro i ⟨hi, h8, hw⟩
    conv => whnf
    by_cases hl : i < r.l.length
    · refine CaseB.of_true (decide_eq_true (by omega)) ?_
      conv => whnf
      have hs := wF_step r.l i hl
      refine And.intro (by omega) ?_
      conv => whnf
      have hi0 : (Int.toNat (i : Int)) = i := Int.toNat_natCast i
      have hx : (r.l.getD i 0).toNat < 256 := UInt8.toNat_lt _
      have ef : failR r 3 = ⟨[], 3⟩ := by unfold failR; rw [if_pos ⟨h0, by decide⟩]
      by_cases a0 : i = 0
      · refine CaseB.of_true (decide_eq_true (by omega)) ?_
        conv => whnf
        by_cases ax : (r.l.getD i 0).toNat = 128
        · refine CaseB.of_true (decide_eq_true (by rw [hi0]; omega)) ?_
          conv => whnf
          have hc : (i = 0 ∧ (r.l.getD i 0).toNat = 128) ∨ (i = 8 ∧ 128 ≤ (r.l.getD i 0).toNat) := by omega
          rw [if_pos hc] at hs
          rw [← hw, hs]
          refine CallK.mk' _ _ (c146 r 3) ?_
          conv => whnf
          rw [ef, if_neg (by decide), if_neg (by decide)]
          exact RetK.of ⟨rfl, okGs.ws (by exact ⟨trivial, trivial, trivial, trivial⟩), trivial⟩ (by simp) (okF.wv trivial)
        · refine CaseB.of_false (decide_eq_false (by rw [hi0]; omega)) ?_
          conv => whnf
          refine CaseB.of_false (decide_eq_false (by omega)) ?_
          conv => whnf
          have hc : ¬ ((i = 0 ∧ (r.l.getD i 0).toNat = 128) ∨ (i = 8 ∧ 128 ≤ (r.l.getD i 0).toNat)) := by omega
          rw [if_neg hc] at hs
          by_cases hm : (r.l.getD i 0).toNat < 128
          · refine CaseB.of_true (decide_eq_true (by rw [hi0]; omega)) ?_
            conv => whnf
            rw [if_pos hm] at hs
            rw [← hw, hs]
            rw [if_pos rfl, if_pos rfl]
            exact RetK.of ⟨rfl, okGs.ws (by exact ⟨trivial, trivial, trivial, trivial⟩), trivial⟩ (by simp) (WV.lf (WL.int (by rw [wrap_i64 (by omega) (by omega)]; simp)))
          · refine CaseB.of_false (decide_eq_false (by rw [hi0]; omega)) ?_
            conv => whnf
            rw [if_neg hm] at hs
            refine ⟨i + 1, ⟨by omega, by omega, by rw [← hs]; exact hw⟩, by omega, ?_⟩
            exact Weak.of ⟨rfl, okGs.ws (by exact ⟨trivial, trivial, trivial, trivial⟩), trivial⟩ (by simp) ⟨WV.lf (WL.int (by rw [wrap_i64 (by omega) (by omega)]; simp)), okF.wv trivial, okF.wv trivial, okF.wv rfl, okF.wv rfl, okF.wv rfl, okF.wv trivial, okF.wv rfl, trivial⟩
      · refine CaseB.of_false (decide_eq_false (by omega)) ?_
        conv => whnf
        by_cases a8 : i = 8
        · refine CaseB.of_true (decide_eq_true (by omega)) ?_
          conv => whnf
          by_cases ax : 128 ≤ (r.l.getD i 0).toNat
          · refine CaseB.of_true (decide_eq_true (by rw [hi0]; omega)) ?_
            conv => whnf
            have hc : (i = 0 ∧ (r.l.getD i 0).toNat = 128) ∨ (i = 8 ∧ 128 ≤ (r.l.getD i 0).toNat) := by omega
            rw [if_pos hc] at hs
            rw [← hw, hs]
            refine CallK.mk' _ _ (c146 r 3) ?_
            conv => whnf
            rw [ef, if_neg (by decide), if_neg (by decide)]
            exact RetK.of ⟨rfl, okGs.ws (by exact ⟨trivial, trivial, trivial, trivial⟩), trivial⟩ (by simp) (okF.wv trivial)
          · refine CaseB.of_false (decide_eq_false (by rw [hi0]; omega)) ?_
            conv => whnf
            have hc : ¬ ((i = 0 ∧ (r.l.getD i 0).toNat = 128) ∨ (i = 8 ∧ 128 ≤ (r.l.getD i 0).toNat)) := by omega
            rw [if_neg hc] at hs
            by_cases hm : (r.l.getD i 0).toNat < 128
            · refine CaseB.of_true (decide_eq_true (by rw [hi0]; omega)) ?_
              conv => whnf
              rw [if_pos hm] at hs
              rw [← hw, hs]
              rw [if_pos rfl, if_pos rfl]
              exact RetK.of ⟨rfl, okGs.ws (by exact ⟨trivial, trivial, trivial, trivial⟩), trivial⟩ (by simp) (WV.lf (WL.int (by rw [wrap_i64 (by omega) (by omega)]; simp)))
            · refine CaseB.of_false (decide_eq_false (by rw [hi0]; omega)) ?_
              conv => whnf
              rw [if_neg hm] at hs
              refine ⟨i + 1, ⟨by omega, by omega, by rw [← hs]; exact hw⟩, by omega, ?_⟩
              exact Weak.of ⟨rfl, okGs.ws (by exact ⟨trivial, trivial, trivial, trivial⟩), trivial⟩ (by simp) ⟨WV.lf (WL.int (by rw [wrap_i64 (by omega) (by omega)]; simp)), okF.wv trivial, okF.wv trivial, okF.wv rfl, okF.wv rfl, okF.wv rfl, okF.wv trivial, okF.wv rfl, trivial⟩
        · refine CaseB.of_false (decide_eq_false (by omega)) ?_
          conv => whnf
          have hc : ¬ ((i = 0 ∧ (r.l.getD i 0).toNat = 128) ∨ (i = 8 ∧ 128 ≤ (r.l.getD i 0).toNat)) := by omega
          rw [if_neg hc] at hs
          by_cases hm : (r.l.getD i 0).toNat < 128
          · refine CaseB.of_true (decide_eq_true (by rw [hi0]; omega)) ?_
            conv => whnf
            rw [if_pos hm] at hs
            rw [← hw, hs]
            rw [if_pos rfl, if_pos rfl]
            exact RetK.of ⟨rfl, okGs.ws (by exact ⟨trivial, trivial, trivial, trivial⟩), trivial⟩ (by simp) (WV.lf (WL.int (by rw [wrap_i64 (by omega) (by omega)]; simp)))
          · refine CaseB.of_false (decide_eq_false (by rw [hi0]; omega)) ?_
            conv => whnf
            rw [if_neg hm] at hs
            refine ⟨i + 1, ⟨by omega, by omega, by rw [← hs]; exact hw⟩, by omega, ?_⟩
            exact Weak.of ⟨rfl, okGs.ws (by exact ⟨trivial, trivial, trivial, trivial⟩), trivial⟩ (by simp) ⟨WV.lf (WL.int (by rw [wrap_i64 (by omega) (by omega)]; simp)), okF.wv trivial, okF.wv trivial, okF.wv rfl, okF.wv rfl, okF.wv rfl, okF.wv trivial, okF.wv rfl, trivial⟩
    · refine CaseB.of_false (decide_eq_false (by omega)) ?_
      conv => whnf
      obtain rfl : i = r.l.length := by omega
      rw [List.drop_length] at hw
      rw [← hw]
      refine CallK.mk' _ _ (c146 r 4) ?_
      conv => whnf
      have ef : failR r 4 = ⟨[], 4⟩ := by unfold failR; rw [if_pos ⟨h0, by decide⟩]
      have e1 : wF [] r.l.length = (0, 4) := by unfold wF; rfl
      rw [ef, e1, if_neg (by decide), if_neg (by decide)]
      exact RetK.of ⟨rfl, okGs.ws (by exact ⟨trivial, trivial, trivial, trivial⟩), trivial⟩ (by simp) (okF.wv trivial)

theorem group_step (a x : Nat) (hx : x < 256) (h : a * 128 + 127 < 9223372036854775808) : bitsI .or .i64 (shlI .i64 (a : Int) 7) (IntKind.i64.wrap (bitsI .andNot .u8 (x : Int) 128)) = ((a * 128 + x % 128 : Nat) : Int) := by
  have e1 : shlI .i64 (a : Int) 7 = ((a * 128 : Nat) : Int) := by
    show IntKind.i64.wrap ((a : Int) * 2 ^ (min (Int.toNat 7) 64)) = _
    rw [show min (Int.toNat 7) 64 = 7 from rfl, wrap_i64 (by omega) (by omega)]
    omega
  have e2 : bitsI .andNot .u8 (x : Int) 128 = ((x % 128 : Nat) : Int) := by
    have key : ∀ y : Fin 256, (BitVec.ofNat 8 y.val &&& ~~~ BitVec.ofInt 8 128).toNat = y.val % 128 := by decide
    have e : (BitVec.ofInt 8 (x : Int) &&& ~~~ BitVec.ofInt 8 128).toNat = x % 128 := by
      rw [BitVec.ofInt_natCast]; exact key ⟨x, by omega⟩
    show IntKind.u8.wrap (((BitVec.ofInt 8 (x : Int) &&& ~~~ BitVec.ofInt 8 128).toNat : Nat) : Int) = _
    rw [e, wrap_u8]
    omega
  rw [e1, e2, wrap_i64 (by omega) (by omega), (i64_or (a * 128) (x % 128) (by omega) (by omega)).1]
  have := Nat.two_pow_add_eq_or_of_lt (i := 7) (b := x % 128) (by omega) a
  rw [show a * 128 = 2 ^ 7 * a by omega, ← this]

/-- pack.Reader.Num -/
theorem c140 (r : Rd) (most : Int) (h : r.ok) : SCalls Proofs.Try.prog 140 [.s (.lf (.ptr 0 0)), vI most] [some (obR r)] (vI (numR r most).1) [some (obR (numR r most).2)] := by
  refine SCalls.intro tok Proofs.Try.func140 ?_
  conv => whnf
  refine CallK.mk' _ _ (c150 r) ?_
  conv => whnf
  by_cases h0 : r.e = 0
  · refine CaseB.of_false (by simp [h0]) ?_
    conv => whnf
    refine CallK.mk' _ _ (c195 r h h0) ?_
    conv => whnf
    obtain ⟨w, hw⟩ : ∃ w, (if (wF r.l 0).2 = 0 then (wF r.l 0).1 else 0 : Nat) = w := ⟨_, rfl⟩
    obtain ⟨r', hr'⟩ : ∃ r', (if (wF r.l 0).2 = 0 then r else ⟨[], (wF r.l 0).2⟩ : Rd) = r' := ⟨_, rfl⟩
    have hwl := wF_le r.l 0 (by omega)
    have hlen := h.len
    have hwr : w ≤ r'.l.length := by
      rw [← hw, ← hr']
      by_cases he : (wF r.l 0).2 = 0
      · rw [if_pos he, if_pos he]; omega
      · rw [if_neg he, if_neg he]; simp
    have hw9 : w ≤ 9 := by
      rw [← hw]; split <;> omega
    have hrl : r'.l.length ≤ 140737488355328 := by
      rw [← hr']; split
      · exact hlen
      · simp
    rw [hw, hr']
    have h194 := c194 r' w
    rw [if_neg (by omega), if_neg (by omega)] at h194
    refine CallK.mk' _ _ h194 ?_
    conv => whnf
    obtain ⟨xs, hxs⟩ : ∃ xs, r'.l.take w = xs := ⟨_, rfl⟩
    have hxl : xs.length = w := by rw [← hxs, List.length_take]; omega
    rw [hxs]
    refine LoopK.mk1 (fun i : Nat => [(16, vI i), (15, vI xs.length), (14, .s (.lf (.rob false false xs))), (5, vI (valF xs i)), (4, vI 0), (0, .s (.lf (.ptr 0 0))), (1, vI most)]) (fun _ => [some (obR ⟨r'.l.drop w, r'.e⟩)]) (fun i => i ≤ xs.length) (fun i => xs.length - i) 0 (by omega) ?_ ?_
    · exact Weak.of ⟨rfl, okGs.ws (by exact ⟨trivial, trivial, trivial, trivial⟩), trivial⟩ (by simp) ⟨okF.wv trivial, okF.wv trivial, okF.wv trivial, okF.wv trivial, okF.wv trivial, okF.wv rfl, okF.wv trivial, trivial⟩
    intro i hi
    conv => whnf
    by_cases hl : i < xs.length
    · refine CaseB.of_true (decide_eq_true (by omega)) ?_
      conv => whnf
      refine And.intro (by omega) ?_
      conv => whnf
      refine And.intro (by omega) ?_
      conv => whnf
      refine ⟨i + 1, by omega, by omega, ?_⟩
      have hi0 : (Int.toNat (i : Int)) = i := Int.toNat_natCast i
      have hv := valF_lt xs i (by omega)
      have hp : 128 ^ i ≤ 128 ^ 8 := Nat.pow_le_pow_right (by omega) (by omega)
      have hx : (xs.getD i 0).toNat < 256 := UInt8.toNat_lt _
      refine Weak.of ⟨rfl, okGs.ws (by exact ⟨trivial, trivial, trivial, trivial⟩), trivial⟩ (by simp) ⟨WV.lf (WL.int (by rw [wrap_i64 (by omega) (by omega)]; omega)), okF.wv trivial, okF.wv trivial, WV.lf (WL.int ?_), okF.wv trivial, okF.wv rfl, okF.wv trivial, trivial⟩
      rw [hi0, valF_succ xs i hl]
      exact group_step _ _ hx (by omega)
    · refine CaseB.of_false (decide_eq_false (by omega)) ?_
      conv => whnf
      obtain rfl : i = xs.length := by omega
      by_cases he : (wF r.l 0).2 = 0
      · rw [if_pos he] at hw hr'
        subst hr'
        have hv : valF xs xs.length = valF r.l w := by rw [hxl, ← hxs]; unfold valF; rw [List.take_take, Nat.min_self]
        rw [hv]
        by_cases hm : most < (valF r.l w : Int)
        · refine CaseB.of_true (decide_eq_true hm) ?_
          conv => whnf
          refine CallK.mk' _ _ (c146 _ 5) ?_
          conv => whnf
          refine CallK.mk' _ _ (c150 _) ?_
          conv => whnf
          have ef : failR ⟨r.l.drop w, r.e⟩ 5 = ⟨[], 5⟩ := by unfold failR; rw [if_pos ⟨h0, by decide⟩]
          have eN : numR r most = (0, ⟨[], 5⟩) := by unfold numR; rw [if_neg (by omega), if_neg (by omega), hw, if_pos hm]
          rw [ef, eN]
          refine CaseB.of_true (by decide) ?_
          conv => whnf
          exact RetK.of ⟨rfl, okGs.ws (by exact ⟨trivial, trivial, trivial, trivial⟩), trivial⟩ (by simp) (okF.wv trivial)
        · refine CaseB.of_false (decide_eq_false hm) ?_
          conv => whnf
          refine CallK.mk' _ _ (c150 _) ?_
          conv => whnf
          have eN : numR r most = ((valF r.l w : Int), ⟨r.l.drop w, 0⟩) := by unfold numR; rw [if_neg (by omega), if_neg (by omega), hw, if_neg hm]
          rw [eN]
          refine CaseB.of_false (by simp [h0]) ?_
          conv => whnf
          rw [h0]
          exact RetK.of ⟨rfl, okGs.ws (by exact ⟨trivial, trivial, trivial, trivial⟩), trivial⟩ (by simp) (okF.wv trivial)
      · rw [if_neg he] at hw hr'
        subst hr'
        subst hw
        have hx0 : xs = [] := by rw [← hxs]; rfl
        subst hx0
        have eN : numR r most = (0, ⟨[], (wF r.l 0).2⟩) := by unfold numR; rw [if_neg (by omega), if_pos he]
        rw [eN]
        have ef : failR ⟨([] : List UInt8).drop 0, (wF r.l 0).2⟩ 5 = ⟨[], (wF r.l 0).2⟩ := by unfold failR; rw [if_neg (by simp [he])]; rfl
        by_cases hm : most < ((valF ([] : List UInt8) ([] : List UInt8).length : Nat) : Int)
        · refine CaseB.of_true (decide_eq_true hm) ?_
          conv => whnf
          refine CallK.mk' _ _ (c146 _ 5) ?_
          conv => whnf
          refine CallK.mk' _ _ (c150 _) ?_
          conv => whnf
          rw [ef]
          refine CaseB.of_true (by simp [he]) ?_
          conv => whnf
          exact RetK.of ⟨rfl, okGs.ws (by exact ⟨trivial, trivial, trivial, trivial⟩), trivial⟩ (by simp) (okF.wv trivial)
        · refine CaseB.of_false (decide_eq_false hm) ?_
          conv => whnf
          refine CallK.mk' _ _ (c150 _) ?_
          conv => whnf
          refine CaseB.of_true (by simp [he]) ?_
          conv => whnf
          exact RetK.of ⟨rfl, okGs.ws (by exact ⟨trivial, trivial, trivial, trivial⟩), trivial⟩ (by simp) (okF.wv trivial)
  · refine CaseB.of_true (by simp [h0]) ?_
    conv => whnf
    rw [numR, if_pos h0]
    exact RetK.of ⟨rfl, okGs.ws (by exact ⟨trivial, trivial, trivial, trivial⟩), trivial⟩ (by simp) (okF.wv trivial)

/-- pack.Reader.Text -/
theorem c145 (r : Rd) (most : Int) (h : r.ok) : SCalls Proofs.Try.prog 145 [.s (.lf (.ptr 0 0)), vI most] [some (obR r)] (.s (.lf (.str (textR r most).1))) [some (obR (textR r most).2)] := by
  have hn1 := numR_ok h most
  have hn2 := numR_range h most
  have hN := c140 r most h
  have eT : textR r most = (if (numR r most).2.e ≠ 0 then ([], (numR r most).2) else
    if (numR r most).2.l.length < (numR r most).1.toNat then ([], ⟨[], 4⟩) else
    ((numR r most).2.l.take (numR r most).1.toNat, ⟨(numR r most).2.l.drop (numR r most).1.toNat, 0⟩)) := rfl
  obtain ⟨p, hp⟩ : ∃ p, numR r most = p := ⟨_, rfl⟩
  rw [hp] at hn1 hn2 hN eT
  obtain ⟨n, hn⟩ : ∃ n : Nat, p.1 = n := ⟨p.1.toNat, by omega⟩
  rw [hn] at hN hn2 eT
  rw [Int.toNat_natCast] at eT
  refine SCalls.intro tok Proofs.Try.func145 ?_
  conv => whnf
  refine CallK.mk' _ _ hN ?_
  conv => whnf
  refine CallK.mk' _ _ (c150 _) ?_
  conv => whnf
  by_cases he : p.2.e = 0
  · refine CaseB.of_false (by simp [he]) ?_
    conv => whnf
    rw [if_neg (by omega)] at eT
    refine CallK.mk' _ _ (c194 p.2 n) ?_
    conv => whnf
    rw [eT]
    by_cases hl : p.2.l.length < n
    · rw [if_pos hl, if_pos hl, if_pos hl]
      have ef : failR p.2 4 = ⟨[], 4⟩ := by unfold failR; rw [if_pos ⟨he, by decide⟩]
      rw [ef]
      exact RetK.of ⟨rfl, okGs.ws (by exact ⟨trivial, trivial, trivial, trivial⟩), trivial⟩ (by simp) (okF.wv trivial)
    · rw [if_neg hl, if_neg hl, if_neg hl]
      rw [he]
      exact RetK.of ⟨rfl, okGs.ws (by exact ⟨trivial, trivial, trivial, trivial⟩), trivial⟩ (by simp) (okF.wv trivial)
  · refine CaseB.of_true (by simp [he]) ?_
    conv => whnf
    rw [if_pos he] at eT
    rw [eT]
    exact RetK.of ⟨rfl, okGs.ws (by exact ⟨trivial, trivial, trivial, trivial⟩), trivial⟩ (by simp) (okF.wv trivial)
end Go.Sym.Md
