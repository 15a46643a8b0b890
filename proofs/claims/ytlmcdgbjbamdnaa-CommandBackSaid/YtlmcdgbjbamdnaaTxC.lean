/- Contracts of the program's functions, proved by the framework (text TxC), without conditions but those that each theorem states. -/
import Derived.Test.YtlmcdgbjbamdnaaTxA
import Derived.Test.YtlmcdgbjbamdnaaTxB
import Derived.Test.YtlmcdgbjbamdnaaFw7
set_option linter.unusedVariables false
set_option linter.unusedSimpArgs false
set_option maxRecDepth 10000
namespace Go.Sym.Md
open Go Go.Sym

/-! ### What a reader reads -/
structure Rd where
  l : List UInt8
  e : Int

/-- Nothing is left behind an error. -/
structure Rd.ok (r : Rd) : Prop where
  nil : r.e ≠ 0 → r.l = []
  lo : IntKind.i64.min ≤ r.e
  hi : r.e ≤ IntKind.i64.max
  len : r.l.length ≤ 140737488355328

def failR (r : Rd) (e : Int) : Rd := if r.e = 0 ∧ e ≠ 0 then ⟨[], e⟩ else r

/-- How many bytes a number has that stands ahead, and the error if none does. -/
def wF : List UInt8 → Nat → Nat × Int
  | [], _ => (0, 4)
  | x :: l, i => if (i = 0 ∧ x.toNat = 128) ∨ (i = 8 ∧ 128 ≤ x.toNat) then (0, 3) else if x.toNat < 128 then (i + 1, 0) else wF l (i + 1)

/-- The number that bytes are. -/
def valF (l : List UInt8) (n : Nat) : Nat := (l.take n).foldl (fun n x => n * 128 + x.toNat % 128) 0

def numR (r : Rd) (most : Int) : Int × Rd :=
  if r.e ≠ 0 then (0, r) else
  if (wF r.l 0).2 ≠ 0 then (0, ⟨[], (wF r.l 0).2⟩) else
  if most < (valF r.l (wF r.l 0).1 : Int) then (0, ⟨[], 5⟩) else ((valF r.l (wF r.l 0).1 : Int), ⟨r.l.drop (wF r.l 0).1, 0⟩)

def textR (r : Rd) (most : Int) : List UInt8 × Rd :=
  if (numR r most).2.e ≠ 0 then ([], (numR r most).2) else
  if (numR r most).2.l.length < (numR r most).1.toNat then ([], ⟨[], 4⟩) else
  ((numR r most).2.l.take (numR r most).1.toNat, ⟨(numR r most).2.l.drop (numR r most).1.toNat, 0⟩)

theorem wF_le : ∀ (l : List UInt8) (i : Nat), i ≤ 8 → (wF l i).1 ≤ 9 ∧ (wF l i).1 ≤ l.length + i ∧ ((wF l i).2 = 0 → i < (wF l i).1) ∧ ((wF l i).2 = 0 ∨ (wF l i).2 = 3 ∨ (wF l i).2 = 4)
  | [], i, h => by simp [wF]
  | x :: l, i, h => by
    unfold wF
    split
    · simp
    · split
      · simp; omega
      · rename_i h1 h2
        have := wF_le l (i + 1) (by omega)
        simp only [List.length_cons]
        omega

theorem valF_zero (l : List UInt8) : valF l 0 = 0 := rfl
theorem valF_succ (l : List UInt8) (n : Nat) (h : n < l.length) : valF l (n + 1) = valF l n * 128 + (l.getD n 0).toNat % 128 := by
  unfold valF
  rw [List.take_add_one, List.foldl_append]
  simp [List.getElem?_eq_getElem h, List.getD_eq_getElem?_getD]

theorem valF_lt (l : List UInt8) (n : Nat) (h : n ≤ l.length) : valF l n < 128 ^ n := by
  induction n with
  | zero => simp [valF]
  | succ n ih =>
    rw [valF_succ l n (by omega), Nat.pow_succ]
    have := ih (by omega)
    omega

theorem valF_small (l : List UInt8) (n : Nat) (h : n ≤ l.length) (h9 : n ≤ 9) : valF l n < 9223372036854775808 :=
  Nat.lt_of_lt_of_le (valF_lt l n h) (by have := Nat.pow_le_pow_right (show 0 < 128 by omega) h9; omega)

/-- The width, from a byte on. -/
theorem wF_step (l : List UInt8) (i : Nat) (h : i < l.length) : wF (l.drop i) i = if (i = 0 ∧ (l.getD i 0).toNat = 128) ∨ (i = 8 ∧ 128 ≤ (l.getD i 0).toNat) then (0, 3) else if (l.getD i 0).toNat < 128 then (i + 1, 0) else wF (l.drop (i + 1)) (i + 1) := by
  rw [List.drop_eq_getElem_cons h, wF]
  simp only [List.getD_eq_getElem?_getD, List.getElem?_eq_getElem h, Option.getD_some]

theorem failR_ok {r : Rd} (h : r.ok) {e : Int} (h1 : IntKind.i64.min ≤ e) (h2 : e ≤ IntKind.i64.max) : (failR r e).ok := by
  unfold failR
  split
  · exact ⟨fun _ => rfl, h1, h2, by simp⟩
  · exact h

theorem numR_ok {r : Rd} (h : r.ok) (most : Int) : (numR r most).2.ok := by
  unfold numR
  split
  · exact h
  · have := wF_le r.l 0 (by omega)
    split
    · exact ⟨fun _ => rfl, by have : IntKind.i64.min = -9223372036854775808 := rfl; rw [this]; show _ ≤ (wF r.l 0).2; omega, by have : IntKind.i64.max = 9223372036854775807 := rfl; rw [this]; show (wF r.l 0).2 ≤ _; omega, by simp⟩
    · split
      · exact ⟨fun _ => rfl, by decide, by decide, by simp⟩
      · exact ⟨fun h => absurd rfl h, by show IntKind.i64.min ≤ 0; decide, by show (0:Int) ≤ IntKind.i64.max; decide, by have := h.len; simp; omega⟩

theorem numR_range {r : Rd} (h : r.ok) (most : Int) : 0 ≤ (numR r most).1 ∧ (numR r most).1 < 9223372036854775808 ∧ (0 ≤ most → (numR r most).1 ≤ most) := by
  unfold numR
  split
  · simp
  · split
    · simp
    · split
      · simp
      · have := wF_le r.l 0 (by omega)
        have := valF_small r.l (wF r.l 0).1 (by omega) (by omega)
        simp only []
        omega

theorem textR_ok {r : Rd} (h : r.ok) (most : Int) : (textR r most).2.ok := by
  have h1 := numR_ok h most
  unfold textR
  split
  · exact h1
  · split
    · exact ⟨fun _ => rfl, by decide, by decide, by simp⟩
    · exact ⟨fun h => absurd rfl h, by show IntKind.i64.min ≤ 0; decide, by show (0:Int) ≤ IntKind.i64.max; decide, by have := h1.len; simp; omega⟩

theorem textR_len {r : Rd} (h : r.ok) (most : Int) (h0 : 0 ≤ most) : ((textR r most).1.length : Int) ≤ most := by
  have h1 := numR_range h most
  unfold textR
  split
  · simpa using h0
  · split
    · simpa using h0
    · simp only [List.length_take]; omega
end Go.Sym.Md

set_option linter.unusedVariables false
set_option linter.unusedSimpArgs false
set_option maxRecDepth 10000
namespace Go.Sym.Md
open Go Go.Sym

theorem i64_bvR (m : Nat) (h : m < 9223372036854775808) : (BitVec.ofInt 64 (m : Int)).toNat = m := by
  rw [BitVec.ofInt_natCast, BitVec.toNat_ofNat]; omega
theorem i64_orR (m n : Nat) (h : m < 9223372036854775808) (h' : n < 9223372036854775808) : bitsI .or .i64 (m : Int) (n : Int) = ((m ||| n : Nat) : Int) ∧ m ||| n < 9223372036854775808 := by
  have hlt : m ||| n < 2 ^ 63 := Nat.or_lt_two_pow h h'
  refine ⟨?_, hlt⟩
  have e : (BitVec.ofInt 64 (m : Int) ||| BitVec.ofInt 64 (n : Int)).toNat = m ||| n := by rw [BitVec.toNat_or, i64_bvR m h, i64_bvR n h']
  show IntKind.i64.wrap (((BitVec.ofInt 64 (m : Int) ||| BitVec.ofInt 64 (n : Int)).toNat : Nat) : Int) = _
  rw [e, wrap_i64 (by omega) (by omega)]

/-- A pack.Reader, as it lies. -/
abbrev obR (r : Rd) : OB := ⟨149, [.one (.rob false false r.l), .one (.int .i64 r.e), .one .tt]⟩

theorem obR_ws {D : Rel} [ROk D] (r : Rd) : WSs D (obR r).segs (obR r).segs := ⟨.one (WL.rob rfl (by simp) (by simp)), .one (WL.int rfl), .one WL.tt', trivial⟩

theorem gone_one {ob : OB} {μ : Nat → Nat} {nm : Nat} (h : μ 0 ≠ nm) : gone [some ob] μ noHid nm := by
  refine ⟨fun h => h, fun i o hi => ?_⟩
  match i, hi with
  | 0, _ => exact h
  | i + 1, hi => simp at hi

/-- pack.Reader.works -/
theorem c150 (r : Rd) : SCalls Proofs.Try.prog 150 [.s (.lf (.ptr 0 0))] [some (obR r)] (.s (.lf (.bool (decide (r.e = 0))))) [some (obR r)] := by
  refine SCalls.intro tok Proofs.Try.func150 ?_
  conv => whnf
  exact RetK.of ⟨rfl, okGs.ws (by exact ⟨trivial, trivial, trivial, trivial⟩), trivial⟩ (by simp) (okF.wv trivial)

/-- pack.Open -/
theorem c64 (b : List UInt8) (h : b.length ≤ 140737488355328) : SCalls Proofs.Try.prog 64 [.s (.lf (.rob false false b))] [] (.s (.lf (.ptr 0 0))) [some (obR ⟨b, 0⟩)] := by
  refine SCalls.intro tok Proofs.Try.func64 ?_
  conv => whnf
  refine CallK.mk' _ _ (c143 b 0 (by omega)) ?_
  conv => whnf
  exact RetK.perm [1] ⟨⟨rfl, .one (WL.lent (ty := 5) rfl rfl (gone_one (by decide))), .one (WL.int rfl), .one WL.tt', trivial⟩, trivial⟩ (WV.lf (WL.ptr rfl rfl)) rfl (by simp) rfl (by simp)

/-- pack.Reader.Fail -/
theorem c146 (r : Rd) (e : Int) : SCalls Proofs.Try.prog 146 [.s (.lf (.ptr 0 0)), vI e] [some (obR r)] (.tup []) [some (obR (failR r e))] := by
  refine SCalls.intro tok Proofs.Try.func146 ?_
  conv => whnf
  refine CallK.mk' _ _ (c150 r) ?_
  conv => whnf
  have hok : ∀ q : Rd, HpW (DownI [some (obR q)] [some (obR q)]) [some (obR q)] [some (obR q)] := fun q => ⟨rfl, okGs.ws (by exact ⟨trivial, trivial, trivial, trivial⟩), trivial⟩
  by_cases h0 : r.e = 0
  · refine CaseB.of_false (by simp [h0]) ?_
    conv => whnf
    by_cases he : e = 0
    · refine CaseB.of_true (decide_eq_true he) ?_
      conv => whnf
      rw [failR, if_neg (by simp [he])]
      exact RetK.of (hok _) (by simp) (okF.wv trivial)
    · refine CaseB.of_false (decide_eq_false he) ?_
      conv => whnf
      rw [failR, if_pos ⟨h0, he⟩]
      exact RetK.of ⟨rfl, ⟨.one WL.sl0rob', .one (WL.int rfl), .one WL.tt', trivial⟩, trivial⟩ (by simp) (okF.wv trivial)
  · refine CaseB.of_true (by simp [h0]) ?_
    conv => whnf
    rw [failR, if_neg (by simp [h0])]
    exact RetK.of (hok _) (by simp) (okF.wv trivial)

/-- pack.Reader.Err -/
theorem c68 (r : Rd) : SCalls Proofs.Try.prog 68 [.s (.lf (.ptr 0 0))] [some (obR r)] (vI r.e) [some (obR r)] := by
  refine SCalls.intro tok Proofs.Try.func68 ?_
  conv => whnf
  exact RetK.of ⟨rfl, okGs.ws (by exact ⟨trivial, trivial, trivial, trivial⟩), trivial⟩ (by simp) (okF.wv trivial)

/-- pack.Reader.Left -/
theorem c70 (r : Rd) (h : r.ok) : SCalls Proofs.Try.prog 70 [.s (.lf (.ptr 0 0))] [some (obR r)] (vI r.l.length) [some (obR r)] := by
  refine SCalls.intro tok Proofs.Try.func70 ?_
  conv => whnf
  refine CallK.mk' _ _ (c150 r) ?_
  conv => whnf
  by_cases h0 : r.e = 0
  · refine CaseB.of_false (by simp [h0]) ?_
    conv => whnf
    exact RetK.of ⟨rfl, okGs.ws (by exact ⟨trivial, trivial, trivial, trivial⟩), trivial⟩ (by simp) (okF.wv trivial)
  · refine CaseB.of_true (by simp [h0]) ?_
    conv => whnf
    rw [h.nil h0]
    exact RetK.of ⟨rfl, okGs.ws (by exact ⟨trivial, trivial, trivial, trivial⟩), trivial⟩ (by simp) (okF.wv trivial)

/-- pack.Reader.End -/
theorem c85 (r : Rd) (h : r.ok) : SCalls Proofs.Try.prog 85 [.s (.lf (.ptr 0 0))] [some (obR r)] (vI (if 0 < r.l.length then 3 else r.e)) [some (obR r)] := by
  refine SCalls.intro tok Proofs.Try.func85 ?_
  conv => whnf
  refine CallK.mk' _ _ (c70 r h) ?_
  conv => whnf
  by_cases h0 : 0 < r.l.length
  · refine CaseB.of_true (decide_eq_true (by omega)) ?_
    conv => whnf
    rw [if_pos h0]
    exact RetK.of ⟨rfl, okGs.ws (by exact ⟨trivial, trivial, trivial, trivial⟩), trivial⟩ (by simp) (okF.wv trivial)
  · refine CaseB.of_false (decide_eq_false (by omega)) ?_
    conv => whnf
    rw [if_neg h0]
    refine CallK.mk' _ _ (c68 r) ?_
    conv => whnf
    exact RetK.of ⟨rfl, okGs.ws (by exact ⟨trivial, trivial, trivial, trivial⟩), trivial⟩ (by simp) (okF.wv trivial)

/-- pack.Reader.take, of what is there. -/
theorem c194 (r : Rd) (n : Nat) : SCalls Proofs.Try.prog 194 [.s (.lf (.ptr 0 0)), vI n] [some (obR r)] (.s (.lf (.rob false false (if r.l.length < n then [] else r.l.take n)))) [some (obR (if r.l.length < n then failR r 4 else ⟨r.l.drop n, r.e⟩))] := by
  refine SCalls.intro tok Proofs.Try.func194 ?_
  conv => whnf
  by_cases hn : r.l.length < n
  · refine CaseB.of_true (decide_eq_true (by omega)) ?_
    conv => whnf
    refine CallK.mk' _ _ (c146 r 4) ?_
    conv => whnf
    rw [if_pos hn, if_pos hn]
    exact RetK.of ⟨rfl, okGs.ws (by exact ⟨trivial, trivial, trivial, trivial⟩), trivial⟩ (by simp) (WV.lf WL.sl0rob')
  · refine CaseB.of_false (decide_eq_false (by omega)) ?_
    conv => whnf
    rw [if_neg hn, if_neg hn]
    refine And.intro (by omega) ?_
    conv => whnf
    refine And.intro (by omega) ?_
    conv => whnf
    exact RetK.of ⟨rfl, ⟨.one (WL.rob (by simp) (by simp) (by simp)), .one (WL.int rfl), .one WL.tt', trivial⟩, trivial⟩ (by simp) (WV.lf (WL.rob (by simp) (by simp) (by simp)))

/-- pack.Reader.width -/
theorem c195 (r : Rd) (h : r.ok) (h0 : r.e = 0) : SCalls Proofs.Try.prog 195 [.s (.lf (.ptr 0 0))] [some (obR r)] (vI (if (wF r.l 0).2 = 0 then (wF r.l 0).1 else 0 : Nat)) [some (obR (if (wF r.l 0).2 = 0 then r else ⟨[], (wF r.l 0).2⟩))] := by
  refine SCalls.intro tok Proofs.Try.func195 ?_
  conv => whnf
  refine LoopK.mk1 (fun i : Nat => [(10, vI i), (9, vI r.l.length), (8, .s (.lf (.rob false false r.l))), (7, .s (.lf (.ptr 0 0))), (6, .s (.lf (.ptr 0 0))), (5, .s (.lf (.ptr 0 0))), (2, vI 0), (0, .s (.lf (.ptr 0 0)))]) (fun _ => [some (obR r)]) (fun i => i ≤ r.l.length ∧ i ≤ 8 ∧ wF (r.l.drop i) i = wF r.l 0) (fun i => r.l.length - i) 0 ⟨by omega, by omega, by rw [List.drop_zero]⟩ ?_ ?_
  · exact Weak.of ⟨rfl, okGs.ws (by exact ⟨trivial, trivial, trivial, trivial⟩), trivial⟩ (by simp) ⟨okF.wv trivial, okF.wv trivial, okF.wv trivial, okF.wv rfl, okF.wv rfl, okF.wv rfl, okF.wv trivial, okF.wv rfl, trivial⟩
  · rintro i ⟨hi, h8, hw⟩
    conv => whnf
    by_cases hl : i < r.l.length
    · refine CaseB.of_true (decide_eq_true (by omega)) ?_
      conv => whnf
      have hs := wF_step r.l i hl
      refine And.intro (by omega) ?_
      conv => whnf
      have hi0 : (Int.toNat (i : Int)) = i := Int.toNat_natCast i
      have hx : (r.l.getD i 0).toNat < 256 := UInt8.toNat_lt _
      have ef : failR r 3 = ⟨[], 3⟩ := by unfold failR; rw [if_pos ⟨h0, by decide⟩]
      by_cases a0 : i = 0
      · refine CaseB.of_true (decide_eq_true (by omega)) ?_
        conv => whnf
        by_cases ax : (r.l.getD i 0).toNat = 128
        · refine CaseB.of_true (decide_eq_true (by rw [hi0]; omega)) ?_
          conv => whnf
          have hc : (i = 0 ∧ (r.l.getD i 0).toNat = 128) ∨ (i = 8 ∧ 128 ≤ (r.l.getD i 0).toNat) := by omega
          rw [if_pos hc] at hs
          rw [← hw, hs]
          refine CallK.mk' _ _ (c146 r 3) ?_
          conv => whnf
          rw [ef, if_neg (by decide), if_neg (by decide)]
          exact RetK.of ⟨rfl, okGs.ws (by exact ⟨trivial, trivial, trivial, trivial⟩), trivial⟩ (by simp) (okF.wv trivial)
        · refine CaseB.of_false (decide_eq_false (by rw [hi0]; omega)) ?_
          conv => whnf
          refine CaseB.of_false (decide_eq_false (by omega)) ?_
          conv => whnf
          have hc : ¬ ((i = 0 ∧ (r.l.getD i 0).toNat = 128) ∨ (i = 8 ∧ 128 ≤ (r.l.getD i 0).toNat)) := by omega
          rw [if_neg hc] at hs
          by_cases hm : (r.l.getD i 0).toNat < 128
          · refine CaseB.of_true (decide_eq_true (by rw [hi0]; omega)) ?_
            conv => whnf
            rw [if_pos hm] at hs
            rw [← hw, hs]
            rw [if_pos rfl, if_pos rfl]
            exact RetK.of ⟨rfl, okGs.ws (by exact ⟨trivial, trivial, trivial, trivial⟩), trivial⟩ (by simp) (WV.lf (WL.int (by rw [wrap_i64 (by omega) (by omega)]; simp)))
          · refine CaseB.of_false (decide_eq_false (by rw [hi0]; omega)) ?_
            conv => whnf
            rw [if_neg hm] at hs
            refine ⟨i + 1, ⟨by omega, by omega, by rw [← hs]; exact hw⟩, by omega, ?_⟩
            exact Weak.of ⟨rfl, okGs.ws (by exact ⟨trivial, trivial, trivial, trivial⟩), trivial⟩ (by simp) ⟨WV.lf (WL.int (by rw [wrap_i64 (by omega) (by omega)]; simp)), okF.wv trivial, okF.wv trivial, okF.wv rfl, okF.wv rfl, okF.wv rfl, okF.wv trivial, okF.wv rfl, trivial⟩
      · refine CaseB.of_false (decide_eq_false (by omega)) ?_
        conv => whnf
        by_cases a8 : i = 8
        · refine CaseB.of_true (decide_eq_true (by omega)) ?_
          conv => whnf
          by_cases ax : 128 ≤ (r.l.getD i 0).toNat
          · refine CaseB.of_true (decide_eq_true (by rw [hi0]; omega)) ?_
            conv => whnf
            have hc : (i = 0 ∧ (r.l.getD i 0).toNat = 128) ∨ (i = 8 ∧ 128 ≤ (r.l.getD i 0).toNat) := by omega
            rw [if_pos hc] at hs
            rw [← hw, hs]
            refine CallK.mk' _ _ (c146 r 3) ?_
            conv => whnf
            rw [ef, if_neg (by decide), if_neg (by decide)]
            exact RetK.of ⟨rfl, okGs.ws (by exact ⟨trivial, trivial, trivial, trivial⟩), trivial⟩ (by simp) (okF.wv trivial)
          · refine CaseB.of_false (decide_eq_false (by rw [hi0]; omega)) ?_
            conv => whnf
            have hc : ¬ ((i = 0 ∧ (r.l.getD i 0).toNat = 128) ∨ (i = 8 ∧ 128 ≤ (r.l.getD i 0).toNat)) := by omega
            rw [if_neg hc] at hs
            by_cases hm : (r.l.getD i 0).toNat < 128
            · refine CaseB.of_true (decide_eq_true (by rw [hi0]; omega)) ?_
              conv => whnf
              rw [if_pos hm] at hs
              rw [← hw, hs]
              rw [if_pos rfl, if_pos rfl]
              exact RetK.of ⟨rfl, okGs.ws (by exact ⟨trivial, trivial, trivial, trivial⟩), trivial⟩ (by simp) (WV.lf (WL.int (by rw [wrap_i64 (by omega) (by omega)]; simp)))
            · refine CaseB.of_false (decide_eq_false (by rw [hi0]; omega)) ?_
              conv => whnf
              rw [if_neg hm] at hs
              refine ⟨i + 1, ⟨by omega, by omega, by rw [← hs]; exact hw⟩, by omega, ?_⟩
              exact Weak.of ⟨rfl, okGs.ws (by exact ⟨trivial, trivial, trivial, trivial⟩), trivial⟩ (by simp) ⟨WV.lf (WL.int (by rw [wrap_i64 (by omega) (by omega)]; simp)), okF.wv trivial, okF.wv trivial, okF.wv rfl, okF.wv rfl, okF.wv rfl, okF.wv trivial, okF.wv rfl, trivial⟩
        · refine CaseB.of_false (decide_eq_false (by omega)) ?_
          conv => whnf
          have hc : ¬ ((i = 0 ∧ (r.l.getD i 0).toNat = 128) ∨ (i = 8 ∧ 128 ≤ (r.l.getD i 0).toNat)) := by omega
          rw [if_neg hc] at hs
          by_cases hm : (r.l.getD i 0).toNat < 128
          · refine CaseB.of_true (decide_eq_true (by rw [hi0]; omega)) ?_
            conv => whnf
            rw [if_pos hm] at hs
            rw [← hw, hs]
            rw [if_pos rfl, if_pos rfl]
            exact RetK.of ⟨rfl, okGs.ws (by exact ⟨trivial, trivial, trivial, trivial⟩), trivial⟩ (by simp) (WV.lf (WL.int (by rw [wrap_i64 (by omega) (by omega)]; simp)))
          · refine CaseB.of_false (decide_eq_false (by rw [hi0]; omega)) ?_
            conv => whnf
            rw [if_neg hm] at hs
            refine ⟨i + 1, ⟨by omega, by omega, by rw [← hs]; exact hw⟩, by omega, ?_⟩
            exact Weak.of ⟨rfl, okGs.ws (by exact ⟨trivial, trivial, trivial, trivial⟩), trivial⟩ (by simp) ⟨WV.lf (WL.int (by rw [wrap_i64 (by omega) (by omega)]; simp)), okF.wv trivial, okF.wv trivial, okF.wv rfl, okF.wv rfl, okF.wv rfl, okF.wv trivial, okF.wv rfl, trivial⟩
    · refine CaseB.of_false (decide_eq_false (by omega)) ?_
      conv => whnf
      obtain rfl : i = r.l.length := by omega
      rw [List.drop_length] at hw
      rw [← hw]
      refine CallK.mk' _ _ (c146 r 4) ?_
      conv => whnf
      have ef : failR r 4 = ⟨[], 4⟩ := by unfold failR; rw [if_pos ⟨h0, by decide⟩]
      have e1 : wF [] r.l.length = (0, 4) := by unfold wF; rfl
      rw [ef, e1, if_neg (by decide), if_neg (by decide)]
      exact RetK.of ⟨rfl, okGs.ws (by exact ⟨trivial, trivial, trivial, trivial⟩), trivial⟩ (by simp) (okF.wv trivial)

theorem group_step (a x : Nat) (hx : x < 256) (h : a * 128 + 127 < 9223372036854775808) : bitsI .or .i64 (shlI .i64 (a : Int) 7) (IntKind.i64.wrap (bitsI .andNot .u8 (x : Int) 128)) = ((a * 128 + x % 128 : Nat) : Int) := by
  have e1 : shlI .i64 (a : Int) 7 = ((a * 128 : Nat) : Int) := by
    show IntKind.i64.wrap ((a : Int) * 2 ^ (min (Int.toNat 7) 64)) = _
    rw [show min (Int.toNat 7) 64 = 7 from rfl, wrap_i64 (by omega) (by omega)]
    omega
  have e2 : bitsI .andNot .u8 (x : Int) 128 = ((x % 128 : Nat) : Int) := by
    have key : ∀ y : Fin 256, (BitVec.ofNat 8 y.val &&& ~~~ BitVec.ofInt 8 128).toNat = y.val % 128 := by decide
    have e : (BitVec.ofInt 8 (x : Int) &&& ~~~ BitVec.ofInt 8 128).toNat = x % 128 := by
      rw [BitVec.ofInt_natCast]; exact key ⟨x, by omega⟩
    show IntKind.u8.wrap (((BitVec.ofInt 8 (x : Int) &&& ~~~ BitVec.ofInt 8 128).toNat : Nat) : Int) = _
    rw [e, wrap_u8]
    omega
  rw [e1, e2, wrap_i64 (by omega) (by omega), (i64_orR (a * 128) (x % 128) (by omega) (by omega)).1]
  have := Nat.two_pow_add_eq_or_of_lt (i := 7) (b := x % 128) (by omega) a
  rw [show a * 128 = 2 ^ 7 * a by omega, ← this]

/-- pack.Reader.Num -/
theorem c140 (r : Rd) (most : Int) (h : r.ok) : SCalls Proofs.Try.prog 140 [.s (.lf (.ptr 0 0)), vI most] [some (obR r)] (vI (numR r most).1) [some (obR (numR r most).2)] := by
  refine SCalls.intro tok Proofs.Try.func140 ?_
  conv => whnf
  refine CallK.mk' _ _ (c150 r) ?_
  conv => whnf
  by_cases h0 : r.e = 0
  · refine CaseB.of_false (by simp [h0]) ?_
    conv => whnf
    refine CallK.mk' _ _ (c195 r h h0) ?_
    conv => whnf
    obtain ⟨w, hw⟩ : ∃ w, (if (wF r.l 0).2 = 0 then (wF r.l 0).1 else 0 : Nat) = w := ⟨_, rfl⟩
    obtain ⟨r', hr'⟩ : ∃ r', (if (wF r.l 0).2 = 0 then r else ⟨[], (wF r.l 0).2⟩ : Rd) = r' := ⟨_, rfl⟩
    have hwl := wF_le r.l 0 (by omega)
    have hlen := h.len
    have hwr : w ≤ r'.l.length := by
      rw [← hw, ← hr']
      by_cases he : (wF r.l 0).2 = 0
      · rw [if_pos he, if_pos he]; omega
      · rw [if_neg he, if_neg he]; simp
    have hw9 : w ≤ 9 := by
      rw [← hw]; split <;> omega
    have hrl : r'.l.length ≤ 140737488355328 := by
      rw [← hr']; split
      · exact hlen
      · simp
    rw [hw, hr']
    have h194 := c194 r' w
    rw [if_neg (by omega), if_neg (by omega)] at h194
    refine CallK.mk' _ _ h194 ?_
    conv => whnf
    obtain ⟨xs, hxs⟩ : ∃ xs, r'.l.take w = xs := ⟨_, rfl⟩
    have hxl : xs.length = w := by rw [← hxs, List.length_take]; omega
    rw [hxs]
    refine LoopK.mk1 (fun i : Nat => [(16, vI i), (15, vI xs.length), (14, .s (.lf (.rob false false xs))), (5, vI (valF xs i)), (4, vI 0), (0, .s (.lf (.ptr 0 0))), (1, vI most)]) (fun _ => [some (obR ⟨r'.l.drop w, r'.e⟩)]) (fun i => i ≤ xs.length) (fun i => xs.length - i) 0 (by omega) ?_ ?_
    · exact Weak.of ⟨rfl, okGs.ws (by exact ⟨trivial, trivial, trivial, trivial⟩), trivial⟩ (by simp) ⟨okF.wv trivial, okF.wv trivial, okF.wv trivial, okF.wv trivial, okF.wv trivial, okF.wv rfl, okF.wv trivial, trivial⟩
    intro i hi
    conv => whnf
    by_cases hl : i < xs.length
    · refine CaseB.of_true (decide_eq_true (by omega)) ?_
      conv => whnf
      refine And.intro (by omega) ?_
      conv => whnf
      refine And.intro (by omega) ?_
      conv => whnf
      refine ⟨i + 1, by omega, by omega, ?_⟩
      have hi0 : (Int.toNat (i : Int)) = i := Int.toNat_natCast i
      have hv := valF_lt xs i (by omega)
      have hp : 128 ^ i ≤ 128 ^ 8 := Nat.pow_le_pow_right (by omega) (by omega)
      have hx : (xs.getD i 0).toNat < 256 := UInt8.toNat_lt _
      refine Weak.of ⟨rfl, okGs.ws (by exact ⟨trivial, trivial, trivial, trivial⟩), trivial⟩ (by simp) ⟨WV.lf (WL.int (by rw [wrap_i64 (by omega) (by omega)]; omega)), okF.wv trivial, okF.wv trivial, WV.lf (WL.int ?_), okF.wv trivial, okF.wv rfl, okF.wv trivial, trivial⟩
      rw [hi0, valF_succ xs i hl]
      exact group_step _ _ hx (by omega)
    · refine CaseB.of_false (decide_eq_false (by omega)) ?_
      conv => whnf
      obtain rfl : i = xs.length := by omega
      by_cases he : (wF r.l 0).2 = 0
      · rw [if_pos he] at hw hr'
        subst hr'
        have hv : valF xs xs.length = valF r.l w := by rw [hxl, ← hxs]; unfold valF; rw [List.take_take, Nat.min_self]
        rw [hv]
        by_cases hm : most < (valF r.l w : Int)
        · refine CaseB.of_true (decide_eq_true hm) ?_
          conv => whnf
          refine CallK.mk' _ _ (c146 _ 5) ?_
          conv => whnf
          refine CallK.mk' _ _ (c150 _) ?_
          conv => whnf
          have ef : failR ⟨r.l.drop w, r.e⟩ 5 = ⟨[], 5⟩ := by unfold failR; rw [if_pos ⟨h0, by decide⟩]
          have eN : numR r most = (0, ⟨[], 5⟩) := by unfold numR; rw [if_neg (by omega), if_neg (by omega), hw, if_pos hm]
          rw [ef, eN]
          refine CaseB.of_true (by decide) ?_
          conv => whnf
          exact RetK.of ⟨rfl, okGs.ws (by exact ⟨trivial, trivial, trivial, trivial⟩), trivial⟩ (by simp) (okF.wv trivial)
        · refine CaseB.of_false (decide_eq_false hm) ?_
          conv => whnf
          refine CallK.mk' _ _ (c150 _) ?_
          conv => whnf
          have eN : numR r most = ((valF r.l w : Int), ⟨r.l.drop w, 0⟩) := by unfold numR; rw [if_neg (by omega), if_neg (by omega), hw, if_neg hm]
          rw [eN]
          refine CaseB.of_false (by simp [h0]) ?_
          conv => whnf
          rw [h0]
          exact RetK.of ⟨rfl, okGs.ws (by exact ⟨trivial, trivial, trivial, trivial⟩), trivial⟩ (by simp) (okF.wv trivial)
      · rw [if_neg he] at hw hr'
        subst hr'
        subst hw
        have hx0 : xs = [] := by rw [← hxs]; rfl
        subst hx0
        have eN : numR r most = (0, ⟨[], (wF r.l 0).2⟩) := by unfold numR; rw [if_neg (by omega), if_pos he]
        rw [eN]
        have ef : failR ⟨([] : List UInt8).drop 0, (wF r.l 0).2⟩ 5 = ⟨[], (wF r.l 0).2⟩ := by unfold failR; rw [if_neg (by simp [he])]; rfl
        by_cases hm : most < ((valF ([] : List UInt8) ([] : List UInt8).length : Nat) : Int)
        · refine CaseB.of_true (decide_eq_true hm) ?_
          conv => whnf
          refine CallK.mk' _ _ (c146 _ 5) ?_
          conv => whnf
          refine CallK.mk' _ _ (c150 _) ?_
          conv => whnf
          rw [ef]
          refine CaseB.of_true (by simp [he]) ?_
          conv => whnf
          exact RetK.of ⟨rfl, okGs.ws (by exact ⟨trivial, trivial, trivial, trivial⟩), trivial⟩ (by simp) (okF.wv trivial)
        · refine CaseB.of_false (decide_eq_false hm) ?_
          conv => whnf
          refine CallK.mk' _ _ (c150 _) ?_
          conv => whnf
          refine CaseB.of_true (by simp [he]) ?_
          conv => whnf
          exact RetK.of ⟨rfl, okGs.ws (by exact ⟨trivial, trivial, trivial, trivial⟩), trivial⟩ (by simp) (okF.wv trivial)
  · refine CaseB.of_true (by simp [h0]) ?_
    conv => whnf
    rw [numR, if_pos h0]
    exact RetK.of ⟨rfl, okGs.ws (by exact ⟨trivial, trivial, trivial, trivial⟩), trivial⟩ (by simp) (okF.wv trivial)

/-- pack.Reader.Text -/
theorem c145 (r : Rd) (most : Int) (h : r.ok) : SCalls Proofs.Try.prog 145 [.s (.lf (.ptr 0 0)), vI most] [some (obR r)] (.s (.lf (.str (textR r most).1))) [some (obR (textR r most).2)] := by
  have hn1 := numR_ok h most
  have hn2 := numR_range h most
  have hN := c140 r most h
  have eT : textR r most = (if (numR r most).2.e ≠ 0 then ([], (numR r most).2) else
    if (numR r most).2.l.length < (numR r most).1.toNat then ([], ⟨[], 4⟩) else
    ((numR r most).2.l.take (numR r most).1.toNat, ⟨(numR r most).2.l.drop (numR r most).1.toNat, 0⟩)) := rfl
  obtain ⟨p, hp⟩ : ∃ p, numR r most = p := ⟨_, rfl⟩
  rw [hp] at hn1 hn2 hN eT
  obtain ⟨n, hn⟩ : ∃ n : Nat, p.1 = n := ⟨p.1.toNat, by omega⟩
  rw [hn] at hN hn2 eT
  rw [Int.toNat_natCast] at eT
  refine SCalls.intro tok Proofs.Try.func145 ?_
  conv => whnf
  refine CallK.mk' _ _ hN ?_
  conv => whnf
  refine CallK.mk' _ _ (c150 _) ?_
  conv => whnf
  by_cases he : p.2.e = 0
  · refine CaseB.of_false (by simp [he]) ?_
    conv => whnf
    rw [if_neg (by omega)] at eT
    refine CallK.mk' _ _ (c194 p.2 n) ?_
    conv => whnf
    rw [eT]
    by_cases hl : p.2.l.length < n
    · rw [if_pos hl, if_pos hl, if_pos hl]
      have ef : failR p.2 4 = ⟨[], 4⟩ := by unfold failR; rw [if_pos ⟨he, by decide⟩]
      rw [ef]
      exact RetK.of ⟨rfl, okGs.ws (by exact ⟨trivial, trivial, trivial, trivial⟩), trivial⟩ (by simp) (okF.wv trivial)
    · rw [if_neg hl, if_neg hl, if_neg hl]
      rw [he]
      exact RetK.of ⟨rfl, okGs.ws (by exact ⟨trivial, trivial, trivial, trivial⟩), trivial⟩ (by simp) (okF.wv trivial)
  · refine CaseB.of_true (by simp [he]) ?_
    conv => whnf
    rw [if_pos he] at eT
    rw [eT]
    exact RetK.of ⟨rfl, okGs.ws (by exact ⟨trivial, trivial, trivial, trivial⟩), trivial⟩ (by simp) (okF.wv trivial)
end Go.Sym.Md

set_option linter.unusedVariables false
set_option linter.unusedSimpArgs false
set_option maxRecDepth 10000
namespace Go.Sym.Md
open Go Go.Sym

/-- A baileyref02.Reader, as it lies. -/
abbrev obQ (r : Rd) : OB := ⟨151, [.one (.rob false false r.l), .one (.int .i64 r.e)]⟩
theorem obQ_ws {D : Rel} [ROk D] (r : Rd) : WSs D (obQ r).segs (obQ r).segs := ⟨.one (WL.rob rfl (by simp) (by simp)), .one (WL.int rfl), trivial⟩

/-- baileyref02.copied, of nothing -/
theorem c144n : SCalls Proofs.Try.prog 144 [.s (.lf (.rob false false []))] [] (.s (.lf .sl0)) [] := by
  refine SCalls.intro tok Proofs.Try.func144 ?_
  conv => whnf
  exact RetK.empty (okF.wv trivial)

/-- baileyref02.copied -/
theorem c144 (x : UInt8) (b : List UInt8) (h : (x :: b).length ≤ 140737488355328) : SCalls Proofs.Try.prog 144 [.s (.lf (.rob false false (x :: b)))] [] (.s (.lf (.own 0 0 1 0 (x :: b).length))) [some ⟨5, [.bytes (x :: b).length (x :: b)]⟩] := by
  refine SCalls.intro tok Proofs.Try.func144 ?_
  conv => whnf
  refine And.intro h ?_
  conv => whnf
  exact RetK.of ⟨rfl, ⟨.bytes rfl fun _ _ => rfl, trivial⟩, trivial⟩ (by simp) (WV.lf (WL.own rfl rfl rfl rfl))

/-- baileyref02.Open -/
theorem c65 (b : List UInt8) (h : b.length ≤ 140737488355328) : SCalls Proofs.Try.prog 65 [.s (.lf (.rob false false b))] [] (.s (.lf (.ptr 0 0))) [some (obQ ⟨b, 0⟩)] := by
  refine SCalls.intro tok Proofs.Try.func65 ?_
  conv => whnf
  cases b with
  | nil =>
    refine CallK.mk' _ _ c144n ?_
    conv => whnf
    exact RetK.of ⟨rfl, ⟨.one WL.sl0rob', .one (WL.int rfl), trivial⟩, trivial⟩ (by simp) (WV.lf (WL.ptr rfl rfl))
  | cons x b =>
    refine CallK.mk' _ _ (c144 x b h) ?_
    conv => whnf
    exact RetK.perm [1] ⟨⟨rfl, .one (WL.lent (ty := 5) rfl rfl (gone_one (by decide))), .one (WL.int rfl), trivial⟩, trivial⟩ (WV.lf (WL.ptr rfl rfl)) rfl (by simp) rfl (by simp)

/-- baileyref02.Reader.Fail -/
theorem c148 (r : Rd) (h : r.ok) (e : Int) : SCalls Proofs.Try.prog 148 [.s (.lf (.ptr 0 0)), vI e] [some (obQ r)] (.tup []) [some (obQ (failR r e))] := by
  refine SCalls.intro tok Proofs.Try.func148 ?_
  conv => whnf
  by_cases h0 : r.e = 0
  · refine CaseB.of_true (decide_eq_true h0) ?_
    conv => whnf
    by_cases he : e = 0
    · refine CaseB.of_false (by simp [he]) ?_
      conv => whnf
      rw [failR, if_neg (by simp [he])]
      exact RetK.of ⟨rfl, ⟨.one (WL.rob rfl (by simp) (by simp)), .one (WL.int (by rw [he, h0])), trivial⟩, trivial⟩ (by simp) (okF.wv trivial)
    · refine CaseB.of_true (by simp [he]) ?_
      conv => whnf
      rw [failR, if_pos ⟨h0, he⟩]
      exact RetK.of ⟨rfl, ⟨.one WL.sl0rob', .one (WL.int rfl), trivial⟩, trivial⟩ (by simp) (okF.wv trivial)
  · refine CaseB.of_false (decide_eq_false h0) ?_
    conv => whnf
    refine CaseB.of_true (by simp [h0]) ?_
    conv => whnf
    rw [failR, if_neg (by simp [h0])]
    exact RetK.of ⟨rfl, ⟨.one (by rw [h.nil h0]; exact WL.sl0rob'), .one (WL.int rfl), trivial⟩, trivial⟩ (by simp) (okF.wv trivial)

/-- baileyref02.Reader.Err -/
theorem c69 (r : Rd) : SCalls Proofs.Try.prog 69 [.s (.lf (.ptr 0 0))] [some (obQ r)] (vI r.e) [some (obQ r)] := by
  refine SCalls.intro tok Proofs.Try.func69 ?_
  conv => whnf
  exact RetK.of ⟨rfl, okGs.ws (by exact ⟨trivial, trivial, trivial⟩), trivial⟩ (by simp) (okF.wv trivial)

/-- baileyref02.Reader.Left -/
theorem c71 (r : Rd) : SCalls Proofs.Try.prog 71 [.s (.lf (.ptr 0 0))] [some (obQ r)] (vI r.l.length) [some (obQ r)] := by
  refine SCalls.intro tok Proofs.Try.func71 ?_
  conv => whnf
  exact RetK.of ⟨rfl, okGs.ws (by exact ⟨trivial, trivial, trivial⟩), trivial⟩ (by simp) (okF.wv trivial)

/-- baileyref02.Reader.End -/
theorem c142 (r : Rd) (h : r.ok) : SCalls Proofs.Try.prog 142 [.s (.lf (.ptr 0 0))] [some (obQ r)] (vI (if 0 < r.l.length then 3 else r.e)) [some (obQ r)] := by
  refine SCalls.intro tok Proofs.Try.func142 ?_
  conv => whnf
  by_cases h0 : r.e = 0
  · refine CaseB.of_true (decide_eq_true h0) ?_
    conv => whnf
    by_cases hl : 0 < r.l.length
    · refine CaseB.of_true (decide_eq_true (by omega)) ?_
      conv => whnf
      rw [if_pos hl]
      exact RetK.of ⟨rfl, okGs.ws (by exact ⟨trivial, trivial, trivial⟩), trivial⟩ (by simp) (okF.wv trivial)
    · refine CaseB.of_false (decide_eq_false (by omega)) ?_
      conv => whnf
      rw [if_neg hl]
      exact RetK.of ⟨rfl, okGs.ws (by exact ⟨trivial, trivial, trivial⟩), trivial⟩ (by simp) (okF.wv trivial)
  · refine CaseB.of_false (decide_eq_false h0) ?_
    conv => whnf
    rw [if_neg (by rw [h.nil h0]; simp)]
    exact RetK.of ⟨rfl, okGs.ws (by exact ⟨trivial, trivial, trivial⟩), trivial⟩ (by simp) (okF.wv trivial)

/-- baileyref02.Reader.Num -/
theorem c147 (r : Rd) (most : Int) (h : r.ok) : SCalls Proofs.Try.prog 147 [.s (.lf (.ptr 0 0)), vI most] [some (obQ r)] (vI (numR r most).1) [some (obQ (numR r most).2)] := by
  refine SCalls.intro tok Proofs.Try.func147 ?_
  conv => whnf
  have hwl := wF_le r.l 0 (by omega)
  have hlen := h.len
  have hko := numR_ok h most
  refine LoopK.mk3 (fun (i n : Nat) (q : Rd) => [(6, vI i), (5, vI n), (4, vI 0), (0, .s (.lf (.ptr 0 0))), (1, vI most)]) (fun _ _ q => [some (obQ q)])
    (fun i n q => (i ≤ 1000 ∧ n < 9223372036854775808) ∧ ((q = r ∧ r.e = 0 ∧ i ≤ r.l.length ∧ i ≤ 8 ∧ n = valF r.l i ∧ wF (r.l.drop i) i = wF r.l 0) ∨ (q.e ≠ 0 ∧ numR r most = (0, q))))
    (fun i n q => if q.e = 0 then 1000000 - i else 0) 0 0 r ⟨⟨by omega, by omega⟩, ?_⟩ ?_ ?_
  · by_cases h0 : r.e = 0
    · exact .inl ⟨rfl, h0, by omega, by omega, rfl, by rw [List.drop_zero]⟩
    · exact .inr ⟨h0, by unfold numR; rw [if_pos h0]⟩
  · exact Weak.of ⟨rfl, okGs.ws (by exact ⟨trivial, trivial, trivial⟩), trivial⟩ (by simp) ⟨okF.wv trivial, okF.wv trivial, okF.wv trivial, okF.wv rfl, okF.wv trivial, trivial⟩
  rintro i n q ⟨⟨hi, hn⟩, hq⟩
  conv => whnf
  rcases hq with ⟨rfl, h0, hil, h8, hv, hw⟩ | ⟨h0, hN⟩
  · refine CaseB.of_true (decide_eq_true h0) ?_
    conv => whnf
    have hi0 : (Int.toNat (i : Int)) = i := Int.toNat_natCast i
    by_cases hl : i < q.l.length
    · refine CaseB.of_false (decide_eq_false (by omega)) ?_
      conv => whnf
      have hs := wF_step q.l i hl
      have hx : (q.l.getD i 0).toNat < 256 := UInt8.toNat_lt _
      have ef : failR q 3 = ⟨[], 3⟩ := by unfold failR; rw [if_pos ⟨h0, by decide⟩]
      by_cases a0 : i = 0
      · subst a0
        refine CaseB.of_true (by decide) ?_
        conv => whnf
        refine And.intro (by omega) ?_
        conv => whnf
        by_cases ax : (q.l.getD 0 0).toNat = 128
        · refine CaseB.of_true (decide_eq_true (by show ((q.l.getD 0 0).toNat : Int) = 128; omega)) ?_
          conv => whnf
          have hc : ((0:Nat) = 0 ∧ (q.l.getD 0 0).toNat = 128) ∨ ((0:Nat) = 8 ∧ 128 ≤ (q.l.getD 0 0).toNat) := by omega
          rw [if_pos hc] at hs
          have e1 : wF q.l 0 = (0, 3) := by rw [← hw, hs]
          have eN : numR q most = (0, ⟨[], 3⟩) := by unfold numR; rw [if_neg (by omega), e1, if_pos (by decide)]
          refine CallK.mk' _ _ (c148 q h 3) ?_
          conv => whnf
          rw [ef]
          refine ⟨(0 + 1, n, ⟨[], 3⟩), ⟨⟨by show 0 + 1 ≤ 1000; omega, hn⟩, .inr ⟨by show (3 : Int) ≠ 0; decide, eN⟩⟩, ?_, ?_⟩
          · show (if (3 : Int) = 0 then 1000000 - (0 + 1) else 0) < if q.e = 0 then 1000000 - 0 else 0
            rw [if_neg (by decide), if_pos h0]; omega
          · exact Weak.of ⟨rfl, okGs.ws (by exact ⟨trivial, trivial, trivial⟩), trivial⟩ (by simp) ⟨WV.lf (WL.int (by rw [wrap_i64 (by omega) (by omega)]; simp)), okF.wv trivial, okF.wv trivial, okF.wv rfl, okF.wv trivial, trivial⟩
        · refine CaseB.of_false (decide_eq_false (by show ¬ ((q.l.getD 0 0).toNat : Int) = 128; omega)) ?_
          conv => whnf
          refine CaseB.of_false (by decide) ?_
          conv => whnf
          have hc : ¬ (((0:Nat) = 0 ∧ (q.l.getD 0 0).toNat = 128) ∨ ((0:Nat) = 8 ∧ 128 ≤ (q.l.getD 0 0).toNat)) := by omega
          rw [if_neg hc] at hs
          refine And.intro (by omega) ?_
          conv => whnf
          refine And.intro (by decide) ?_
          conv => whnf
          refine And.intro (by omega) ?_
          conv => whnf
          have hX : (Int.toNat ((0 : Nat) : Int)) = 0 := Int.toNat_natCast 0
          by_cases hm : (q.l.getD 0 0).toNat < 128
          · refine CaseB.of_true (decide_eq_true (by rw [hX]; omega)) ?_
            conv => whnf
            rw [if_pos hm] at hs
            have e1 : wF q.l 0 = (0 + 1, 0) := by rw [← hw, hs]
            have eI : IntKind.i64.wrap (((0 : Nat) : Int) + 1) = ((0 + 1 : Nat) : Int) := by rw [wrap_i64 (by omega) (by omega)]; omega
            refine And.intro ⟨by rw [eI]; omega, by rw [eI]; omega, by omega⟩ ?_
            conv => whnf
            have hv' := valF_lt q.l 0 (by omega)
            have hp : 128 ^ 0 ≤ 128 ^ 8 := Nat.pow_le_pow_right (by omega) (by omega)
            have eV : IntKind.i64.wrap (IntKind.i64.wrap ((n : Int) * 128) + IntKind.i64.wrap (Int.tmod ((q.l.getD (Int.toNat ((0 : Nat) : Int)) 0).toNat : Int) 128)) = ((valF q.l (0 + 1) : Nat) : Int) := by
              rw [hX, valF_succ q.l 0 hl, wrap_i64 (n := (n : Int) * 128) (by omega) (by omega), show Int.tmod ((q.l.getD 0 0).toNat : Int) 128 = (((q.l.getD 0 0).toNat % 128 : Nat) : Int) from rfl, wrap_i64 (n := (((q.l.getD 0 0).toNat % 128 : Nat) : Int)) (by omega) (by omega), wrap_i64 (by omega) (by omega)]
              omega
            have eD : (q.l.take (Int.toNat (q.l.length : Int))).drop (Int.toNat (IntKind.i64.wrap (((0 : Nat) : Int) + 1))) = q.l.drop (0 + 1) := by
              rw [eI, Int.toNat_natCast, Int.toNat_natCast, List.take_length]
            have eN : numR q most = if most < (valF q.l (0 + 1) : Int) then (0, ⟨[], 5⟩) else ((valF q.l (0 + 1) : Int), ⟨q.l.drop (0 + 1), 0⟩) := by
              unfold numR; rw [if_neg (by omega), e1, if_neg (fun h => h rfl)]
            by_cases hM : most < (valF q.l (0 + 1) : Int)
            · refine CaseB.of_true (decide_eq_true (by rw [eV]; exact hM)) ?_
              conv => whnf
              rw [if_pos hM] at eN
              rw [eN]
              have okd : (⟨q.l.drop (0 + 1), q.e⟩ : Rd).ok := ⟨fun h1 => absurd h0 h1, h.lo, h.hi, by rw [List.length_drop]; omega⟩
              have ef5 : failR ⟨q.l.drop (0 + 1), q.e⟩ 5 = ⟨[], 5⟩ := by unfold failR; rw [if_pos ⟨h0, by decide⟩]
              have h148 := c148 ⟨q.l.drop (0 + 1), q.e⟩ okd 5
              rw [ef5] at h148
              refine CallK.mk' _ [some (obQ ⟨[], 5⟩)] (h148.frame1 (nm := 0) (ob2 := obQ ⟨[], 5⟩) rfl rfl ⟨.one (WL.rob eD (by simp) (by simp)), .one (WL.int rfl), trivial⟩ ⟨WV.lf (WL.ptr rfl rfl), freeF.wv trivial, trivial⟩ rfl ⟨.one (WL.rob rfl (by simp) (by simp)), .one (WL.int rfl), trivial⟩ (freeF.wv trivial)) ?_
              conv => whnf
              exact RetK.of ⟨rfl, okGs.ws (by exact ⟨trivial, trivial, trivial⟩), trivial⟩ (by simp) (okF.wv trivial)
            · refine CaseB.of_false (decide_eq_false (by rw [eV]; exact hM)) ?_
              conv => whnf
              rw [if_neg hM] at eN
              rw [eN]
              exact RetK.of ⟨rfl, ⟨.one (WL.rob eD (by simp) (by simp)), .one (WL.int h0), trivial⟩, trivial⟩ (by simp) (WV.lf (WL.int eV))
          · refine CaseB.of_false (decide_eq_false (by rw [hX]; omega)) ?_
            conv => whnf
            rw [if_neg hm] at hs
            have hv' := valF_lt q.l 0 (by omega)
            have hp : 128 ^ 0 ≤ 128 ^ 7 := Nat.pow_le_pow_right (by omega) (by omega)
            have eV : IntKind.i64.wrap (IntKind.i64.wrap ((n : Int) * 128) + IntKind.i64.wrap (Int.tmod ((q.l.getD (Int.toNat ((0 : Nat) : Int)) 0).toNat : Int) 128)) = ((valF q.l (0 + 1) : Nat) : Int) := by
              rw [hX, valF_succ q.l 0 hl, wrap_i64 (n := (n : Int) * 128) (by omega) (by omega), show Int.tmod ((q.l.getD 0 0).toNat : Int) 128 = (((q.l.getD 0 0).toNat % 128 : Nat) : Int) from rfl, wrap_i64 (n := (((q.l.getD 0 0).toNat % 128 : Nat) : Int)) (by omega) (by omega), wrap_i64 (by omega) (by omega)]
              omega
            have hvs := valF_succ q.l 0 hl
            refine ⟨(0 + 1, valF q.l (0 + 1), q), ⟨⟨by show 0 + 1 ≤ 1000; omega, by show valF q.l (0 + 1) < _; omega⟩, .inl ⟨rfl, h0, by show 0 + 1 ≤ q.l.length; omega, by show 0 + 1 ≤ 8; omega, rfl, by show wF (q.l.drop (0 + 1)) (0 + 1) = _; rw [← hs]; exact hw⟩⟩, ?_, ?_⟩
            · show (if q.e = 0 then 1000000 - (0 + 1) else 0) < if q.e = 0 then 1000000 - 0 else 0
              rw [if_pos h0, if_pos h0]; omega
            · exact Weak.of ⟨rfl, okGs.ws (by exact ⟨trivial, trivial, trivial⟩), trivial⟩ (by simp) ⟨WV.lf (WL.int (by rw [wrap_i64 (by omega) (by omega)]; simp)), WV.lf (WL.int eV), okF.wv trivial, okF.wv rfl, okF.wv trivial, trivial⟩
      · refine CaseB.of_false (decide_eq_false (by omega)) ?_
        conv => whnf
        by_cases a8 : i = 8
        · subst a8
          refine CaseB.of_true (by decide) ?_
          conv => whnf
          refine And.intro (by omega) ?_
          conv => whnf
          by_cases ax : 128 ≤ (q.l.getD 8 0).toNat
          · refine CaseB.of_true (decide_eq_true (by show 128 ≤ ((q.l.getD 8 0).toNat : Int); omega)) ?_
            conv => whnf
            have hc : ((8:Nat) = 0 ∧ (q.l.getD 8 0).toNat = 128) ∨ ((8:Nat) = 8 ∧ 128 ≤ (q.l.getD 8 0).toNat) := by omega
            rw [if_pos hc] at hs
            have e1 : wF q.l 0 = (0, 3) := by rw [← hw, hs]
            have eN : numR q most = (0, ⟨[], 3⟩) := by unfold numR; rw [if_neg (by omega), e1, if_pos (by decide)]
            refine CallK.mk' _ _ (c148 q h 3) ?_
            conv => whnf
            rw [ef]
            refine ⟨(8 + 1, n, ⟨[], 3⟩), ⟨⟨by show 8 + 1 ≤ 1000; omega, hn⟩, .inr ⟨by show (3 : Int) ≠ 0; decide, eN⟩⟩, ?_, ?_⟩
            · show (if (3 : Int) = 0 then 1000000 - (8 + 1) else 0) < if q.e = 0 then 1000000 - 8 else 0
              rw [if_neg (by decide), if_pos h0]; omega
            · exact Weak.of ⟨rfl, okGs.ws (by exact ⟨trivial, trivial, trivial⟩), trivial⟩ (by simp) ⟨WV.lf (WL.int (by rw [wrap_i64 (by omega) (by omega)]; simp)), okF.wv trivial, okF.wv trivial, okF.wv rfl, okF.wv trivial, trivial⟩
          · refine CaseB.of_false (decide_eq_false (by show ¬ 128 ≤ ((q.l.getD 8 0).toNat : Int); omega)) ?_
            conv => whnf
            have hc : ¬ (((8:Nat) = 0 ∧ (q.l.getD 8 0).toNat = 128) ∨ ((8:Nat) = 8 ∧ 128 ≤ (q.l.getD 8 0).toNat)) := by omega
            rw [if_neg hc] at hs
            refine And.intro (by omega) ?_
            conv => whnf
            refine And.intro (by decide) ?_
            conv => whnf
            refine And.intro (by omega) ?_
            conv => whnf
            have hX : (Int.toNat ((8 : Nat) : Int)) = 8 := Int.toNat_natCast 8
            by_cases hm : (q.l.getD 8 0).toNat < 128
            · refine CaseB.of_true (decide_eq_true (by rw [hX]; omega)) ?_
              conv => whnf
              rw [if_pos hm] at hs
              have e1 : wF q.l 0 = (8 + 1, 0) := by rw [← hw, hs]
              have eI : IntKind.i64.wrap (((8 : Nat) : Int) + 1) = ((8 + 1 : Nat) : Int) := by rw [wrap_i64 (by omega) (by omega)]; omega
              refine And.intro ⟨by rw [eI]; omega, by rw [eI]; omega, by omega⟩ ?_
              conv => whnf
              have hv' := valF_lt q.l 8 (by omega)
              have hp : 128 ^ 8 ≤ 128 ^ 8 := Nat.pow_le_pow_right (by omega) (by omega)
              have eV : IntKind.i64.wrap (IntKind.i64.wrap ((n : Int) * 128) + IntKind.i64.wrap (Int.tmod ((q.l.getD (Int.toNat ((8 : Nat) : Int)) 0).toNat : Int) 128)) = ((valF q.l (8 + 1) : Nat) : Int) := by
                rw [hX, valF_succ q.l 8 hl, wrap_i64 (n := (n : Int) * 128) (by omega) (by omega), show Int.tmod ((q.l.getD 8 0).toNat : Int) 128 = (((q.l.getD 8 0).toNat % 128 : Nat) : Int) from rfl, wrap_i64 (n := (((q.l.getD 8 0).toNat % 128 : Nat) : Int)) (by omega) (by omega), wrap_i64 (by omega) (by omega)]
                omega
              have eD : (q.l.take (Int.toNat (q.l.length : Int))).drop (Int.toNat (IntKind.i64.wrap (((8 : Nat) : Int) + 1))) = q.l.drop (8 + 1) := by
                rw [eI, Int.toNat_natCast, Int.toNat_natCast, List.take_length]
              have eN : numR q most = if most < (valF q.l (8 + 1) : Int) then (0, ⟨[], 5⟩) else ((valF q.l (8 + 1) : Int), ⟨q.l.drop (8 + 1), 0⟩) := by
                unfold numR; rw [if_neg (by omega), e1, if_neg (fun h => h rfl)]
              by_cases hM : most < (valF q.l (8 + 1) : Int)
              · refine CaseB.of_true (decide_eq_true (by rw [eV]; exact hM)) ?_
                conv => whnf
                rw [if_pos hM] at eN
                rw [eN]
                have okd : (⟨q.l.drop (8 + 1), q.e⟩ : Rd).ok := ⟨fun h1 => absurd h0 h1, h.lo, h.hi, by rw [List.length_drop]; omega⟩
                have ef5 : failR ⟨q.l.drop (8 + 1), q.e⟩ 5 = ⟨[], 5⟩ := by unfold failR; rw [if_pos ⟨h0, by decide⟩]
                have h148 := c148 ⟨q.l.drop (8 + 1), q.e⟩ okd 5
                rw [ef5] at h148
                refine CallK.mk' _ [some (obQ ⟨[], 5⟩)] (h148.frame1 (nm := 0) (ob2 := obQ ⟨[], 5⟩) rfl rfl ⟨.one (WL.rob eD (by simp) (by simp)), .one (WL.int rfl), trivial⟩ ⟨WV.lf (WL.ptr rfl rfl), freeF.wv trivial, trivial⟩ rfl ⟨.one (WL.rob rfl (by simp) (by simp)), .one (WL.int rfl), trivial⟩ (freeF.wv trivial)) ?_
                conv => whnf
                exact RetK.of ⟨rfl, okGs.ws (by exact ⟨trivial, trivial, trivial⟩), trivial⟩ (by simp) (okF.wv trivial)
              · refine CaseB.of_false (decide_eq_false (by rw [eV]; exact hM)) ?_
                conv => whnf
                rw [if_neg hM] at eN
                rw [eN]
                exact RetK.of ⟨rfl, ⟨.one (WL.rob eD (by simp) (by simp)), .one (WL.int h0), trivial⟩, trivial⟩ (by simp) (WV.lf (WL.int eV))
            · refine CaseB.of_false (decide_eq_false (by rw [hX]; omega)) ?_
              conv => whnf
              rw [if_neg hm] at hs
              omega
        · refine CaseB.of_false (decide_eq_false (by omega)) ?_
          conv => whnf
          have hc : ¬ ((i = 0 ∧ (q.l.getD i 0).toNat = 128) ∨ (i = 8 ∧ 128 ≤ (q.l.getD i 0).toNat)) := by omega
          rw [if_neg hc] at hs
          refine And.intro (by omega) ?_
          conv => whnf
          refine And.intro (by decide) ?_
          conv => whnf
          refine And.intro (by omega) ?_
          conv => whnf
          have hX : (Int.toNat ((i : Nat) : Int)) = i := Int.toNat_natCast i
          by_cases hm : (q.l.getD i 0).toNat < 128
          · refine CaseB.of_true (decide_eq_true (by rw [hX]; omega)) ?_
            conv => whnf
            rw [if_pos hm] at hs
            have e1 : wF q.l 0 = (i + 1, 0) := by rw [← hw, hs]
            have eI : IntKind.i64.wrap (((i : Nat) : Int) + 1) = ((i + 1 : Nat) : Int) := by rw [wrap_i64 (by omega) (by omega)]; omega
            refine And.intro ⟨by rw [eI]; omega, by rw [eI]; omega, by omega⟩ ?_
            conv => whnf
            have hv' := valF_lt q.l i (by omega)
            have hp : 128 ^ i ≤ 128 ^ 8 := Nat.pow_le_pow_right (by omega) (by omega)
            have eV : IntKind.i64.wrap (IntKind.i64.wrap ((n : Int) * 128) + IntKind.i64.wrap (Int.tmod ((q.l.getD (Int.toNat ((i : Nat) : Int)) 0).toNat : Int) 128)) = ((valF q.l (i + 1) : Nat) : Int) := by
              rw [hX, valF_succ q.l i hl, wrap_i64 (n := (n : Int) * 128) (by omega) (by omega), show Int.tmod ((q.l.getD i 0).toNat : Int) 128 = (((q.l.getD i 0).toNat % 128 : Nat) : Int) from rfl, wrap_i64 (n := (((q.l.getD i 0).toNat % 128 : Nat) : Int)) (by omega) (by omega), wrap_i64 (by omega) (by omega)]
              omega
            have eD : (q.l.take (Int.toNat (q.l.length : Int))).drop (Int.toNat (IntKind.i64.wrap (((i : Nat) : Int) + 1))) = q.l.drop (i + 1) := by
              rw [eI, Int.toNat_natCast, Int.toNat_natCast, List.take_length]
            have eN : numR q most = if most < (valF q.l (i + 1) : Int) then (0, ⟨[], 5⟩) else ((valF q.l (i + 1) : Int), ⟨q.l.drop (i + 1), 0⟩) := by
              unfold numR; rw [if_neg (by omega), e1, if_neg (fun h => h rfl)]
            by_cases hM : most < (valF q.l (i + 1) : Int)
            · refine CaseB.of_true (decide_eq_true (by rw [eV]; exact hM)) ?_
              conv => whnf
              rw [if_pos hM] at eN
              rw [eN]
              have okd : (⟨q.l.drop (i + 1), q.e⟩ : Rd).ok := ⟨fun h1 => absurd h0 h1, h.lo, h.hi, by rw [List.length_drop]; omega⟩
              have ef5 : failR ⟨q.l.drop (i + 1), q.e⟩ 5 = ⟨[], 5⟩ := by unfold failR; rw [if_pos ⟨h0, by decide⟩]
              have h148 := c148 ⟨q.l.drop (i + 1), q.e⟩ okd 5
              rw [ef5] at h148
              refine CallK.mk' _ [some (obQ ⟨[], 5⟩)] (h148.frame1 (nm := 0) (ob2 := obQ ⟨[], 5⟩) rfl rfl ⟨.one (WL.rob eD (by simp) (by simp)), .one (WL.int rfl), trivial⟩ ⟨WV.lf (WL.ptr rfl rfl), freeF.wv trivial, trivial⟩ rfl ⟨.one (WL.rob rfl (by simp) (by simp)), .one (WL.int rfl), trivial⟩ (freeF.wv trivial)) ?_
              conv => whnf
              exact RetK.of ⟨rfl, okGs.ws (by exact ⟨trivial, trivial, trivial⟩), trivial⟩ (by simp) (okF.wv trivial)
            · refine CaseB.of_false (decide_eq_false (by rw [eV]; exact hM)) ?_
              conv => whnf
              rw [if_neg hM] at eN
              rw [eN]
              exact RetK.of ⟨rfl, ⟨.one (WL.rob eD (by simp) (by simp)), .one (WL.int h0), trivial⟩, trivial⟩ (by simp) (WV.lf (WL.int eV))
          · refine CaseB.of_false (decide_eq_false (by rw [hX]; omega)) ?_
            conv => whnf
            rw [if_neg hm] at hs
            have hv' := valF_lt q.l i (by omega)
            have hp : 128 ^ i ≤ 128 ^ 7 := Nat.pow_le_pow_right (by omega) (by omega)
            have eV : IntKind.i64.wrap (IntKind.i64.wrap ((n : Int) * 128) + IntKind.i64.wrap (Int.tmod ((q.l.getD (Int.toNat ((i : Nat) : Int)) 0).toNat : Int) 128)) = ((valF q.l (i + 1) : Nat) : Int) := by
              rw [hX, valF_succ q.l i hl, wrap_i64 (n := (n : Int) * 128) (by omega) (by omega), show Int.tmod ((q.l.getD i 0).toNat : Int) 128 = (((q.l.getD i 0).toNat % 128 : Nat) : Int) from rfl, wrap_i64 (n := (((q.l.getD i 0).toNat % 128 : Nat) : Int)) (by omega) (by omega), wrap_i64 (by omega) (by omega)]
              omega
            have hvs := valF_succ q.l i hl
            refine ⟨(i + 1, valF q.l (i + 1), q), ⟨⟨by show i + 1 ≤ 1000; omega, by show valF q.l (i + 1) < _; omega⟩, .inl ⟨rfl, h0, by show i + 1 ≤ q.l.length; omega, by show i + 1 ≤ 8; omega, rfl, by show wF (q.l.drop (i + 1)) (i + 1) = _; rw [← hs]; exact hw⟩⟩, ?_, ?_⟩
            · show (if q.e = 0 then 1000000 - (i + 1) else 0) < if q.e = 0 then 1000000 - i else 0
              rw [if_pos h0, if_pos h0]; omega
            · exact Weak.of ⟨rfl, okGs.ws (by exact ⟨trivial, trivial, trivial⟩), trivial⟩ (by simp) ⟨WV.lf (WL.int (by rw [wrap_i64 (by omega) (by omega)]; simp)), WV.lf (WL.int eV), okF.wv trivial, okF.wv rfl, okF.wv trivial, trivial⟩
    · refine CaseB.of_true (decide_eq_true (by omega)) ?_
      conv => whnf
      refine CallK.mk' _ _ (c148 q h 4) ?_
      conv => whnf
      have ef : failR q 4 = ⟨[], 4⟩ := by unfold failR; rw [if_pos ⟨h0, by decide⟩]
      obtain rfl : i = q.l.length := by omega
      rw [List.drop_length] at hw
      have e1 : wF q.l 0 = (0, 4) := by rw [← hw]; unfold wF; rfl
      have eN : numR q most = (0, ⟨[], 4⟩) := by unfold numR; rw [if_neg (by omega), e1, if_pos (by decide)]
      rw [ef]
      refine ⟨(q.l.length + 1, n, ⟨[], 4⟩), ⟨⟨by show q.l.length + 1 ≤ 1000; omega, hn⟩, .inr ⟨by show (4 : Int) ≠ 0; decide, eN⟩⟩, ?_, ?_⟩
      · show (if (4 : Int) = 0 then 1000000 - (q.l.length + 1) else 0) < if q.e = 0 then 1000000 - q.l.length else 0
        rw [if_neg (by decide), if_pos h0]; omega
      · exact Weak.of ⟨rfl, okGs.ws (by exact ⟨trivial, trivial, trivial⟩), trivial⟩ (by simp) ⟨WV.lf (WL.int (by rw [wrap_i64 (by omega) (by omega)]; simp)), okF.wv trivial, okF.wv trivial, okF.wv rfl, okF.wv trivial, trivial⟩
  · refine CaseB.of_false (decide_eq_false h0) ?_
    conv => whnf
    rw [hN]
    exact RetK.of ⟨rfl, okGs.ws (by exact ⟨trivial, trivial, trivial⟩), trivial⟩ (by simp) (okF.wv trivial)

/-- baileyref02.Reader.Text -/
theorem c149 (r : Rd) (most : Int) (h : r.ok) : SCalls Proofs.Try.prog 149 [.s (.lf (.ptr 0 0)), vI most] [some (obQ r)] (.s (.lf (.str (textR r most).1))) [some (obQ (textR r most).2)] := by
  have hn1 := numR_ok h most
  have hn2 := numR_range h most
  have hN := c147 r most h
  have eT : textR r most = (if (numR r most).2.e ≠ 0 then ([], (numR r most).2) else
    if (numR r most).2.l.length < (numR r most).1.toNat then ([], ⟨[], 4⟩) else
    ((numR r most).2.l.take (numR r most).1.toNat, ⟨(numR r most).2.l.drop (numR r most).1.toNat, 0⟩)) := rfl
  obtain ⟨p, hp⟩ : ∃ p, numR r most = p := ⟨_, rfl⟩
  rw [hp] at hn1 hn2 hN eT
  obtain ⟨n, hn⟩ : ∃ n : Nat, p.1 = n := ⟨p.1.toNat, by omega⟩
  rw [hn] at hN hn2 eT
  rw [Int.toNat_natCast] at eT
  have hlen := hn1.len
  refine SCalls.intro tok Proofs.Try.func149 ?_
  conv => whnf
  refine CallK.mk' _ _ hN ?_
  conv => whnf
  by_cases he : p.2.e = 0
  · refine CaseB.of_true (by simp [he]) ?_
    conv => whnf
    rw [if_neg (by omega)] at eT
    by_cases hl : p.2.l.length < n
    · refine CaseB.of_true (decide_eq_true (by omega)) ?_
      conv => whnf
      have ef : failR p.2 4 = ⟨[], 4⟩ := by unfold failR; rw [if_pos ⟨he, by decide⟩]
      refine CallK.mk' _ _ (c148 p.2 hn1 4) ?_
      conv => whnf
      rw [ef]
      refine CaseB.of_true (by decide) ?_
      conv => whnf
      rw [eT, if_pos hl]
      exact RetK.of ⟨rfl, okGs.ws (by exact ⟨trivial, trivial, trivial⟩), trivial⟩ (by simp) (okF.wv trivial)
    · refine CaseB.of_false (decide_eq_false (by omega)) ?_
      conv => whnf
      refine CaseB.of_false (by simp [he]) ?_
      conv => whnf
      refine And.intro (by omega) ?_
      conv => whnf
      refine And.intro (by omega) ?_
      conv => whnf
      rw [eT, if_neg hl]
      exact RetK.of ⟨rfl, ⟨.one (WL.rob (by simp) (by simp) (by simp)), .one (WL.int he), trivial⟩, trivial⟩ (by simp) (WV.lf (WL.str (by simp)))
  · refine CaseB.of_false (by simp [he]) ?_
    conv => whnf
    refine CaseB.of_true (by simp [he]) ?_
    conv => whnf
    rw [if_pos he] at eT
    rw [eT]
    exact RetK.of ⟨rfl, okGs.ws (by exact ⟨trivial, trivial, trivial⟩), trivial⟩ (by simp) (okF.wv trivial)
end Go.Sym.Md

set_option linter.unusedVariables false
set_option linter.unusedSimpArgs false
set_option maxRecDepth 10000
namespace Go.Sym.Md
open Go Go.Sym

/-! ### baileyref02.Num and Text -/
def gL (n : Nat) : List UInt8 := (List.range (sz n)).map fun t => UInt8.ofNat (n / 128 ^ (sz n - 1 - t) % 128)
theorem gL_length (n : Nat) : (gL n).length = sz n := by simp [gL]

theorem sz_small {n : Nat} (h : n < 128) : sz n = 1 := by unfold sz; rw [if_pos h]
theorem sz_div {n : Nat} (h : 128 ≤ n) (hn : n < 9223372036854775808) : sz n = sz (n / 128) + 1 := by
  rcases (by omega : (128 ≤ n ∧ n < 16384) ∨ (16384 ≤ n ∧ n < 2097152) ∨ (2097152 ≤ n ∧ n < 268435456) ∨ (268435456 ≤ n ∧ n < 34359738368) ∨ (34359738368 ≤ n ∧ n < 4398046511104) ∨ (4398046511104 ≤ n ∧ n < 562949953421312) ∨ (562949953421312 ≤ n ∧ n < 72057594037927936) ∨ (72057594037927936 ≤ n ∧ n < 9223372036854775808)) with ⟨h1, h2⟩ | ⟨h1, h2⟩ | ⟨h1, h2⟩ | ⟨h1, h2⟩ | ⟨h1, h2⟩ | ⟨h1, h2⟩ | ⟨h1, h2⟩ | ⟨h1, h2⟩
  · rw [sz_of (n := n) (k := 1) (by omega) (.inr (by simpa using h1)) (by simpa using h2), sz_of (n := n / 128) (k := 0) (by omega) (.inl rfl) (by rw [show (128 : Nat) ^ (0 + 1) = 128 from rfl]; omega)]
  · rw [sz_of (n := n) (k := 2) (by omega) (.inr (by simpa using h1)) (by simpa using h2), sz_of (n := n / 128) (k := 1) (by omega) (.inr (by rw [show (128 : Nat) ^ 1 = 128 from rfl]; omega)) (by rw [show (128 : Nat) ^ (1 + 1) = 16384 from rfl]; omega)]
  · rw [sz_of (n := n) (k := 3) (by omega) (.inr (by simpa using h1)) (by simpa using h2), sz_of (n := n / 128) (k := 2) (by omega) (.inr (by rw [show (128 : Nat) ^ 2 = 16384 from rfl]; omega)) (by rw [show (128 : Nat) ^ (2 + 1) = 2097152 from rfl]; omega)]
  · rw [sz_of (n := n) (k := 4) (by omega) (.inr (by simpa using h1)) (by simpa using h2), sz_of (n := n / 128) (k := 3) (by omega) (.inr (by rw [show (128 : Nat) ^ 3 = 2097152 from rfl]; omega)) (by rw [show (128 : Nat) ^ (3 + 1) = 268435456 from rfl]; omega)]
  · rw [sz_of (n := n) (k := 5) (by omega) (.inr (by simpa using h1)) (by simpa using h2), sz_of (n := n / 128) (k := 4) (by omega) (.inr (by rw [show (128 : Nat) ^ 4 = 268435456 from rfl]; omega)) (by rw [show (128 : Nat) ^ (4 + 1) = 34359738368 from rfl]; omega)]
  · rw [sz_of (n := n) (k := 6) (by omega) (.inr (by simpa using h1)) (by simpa using h2), sz_of (n := n / 128) (k := 5) (by omega) (.inr (by rw [show (128 : Nat) ^ 5 = 34359738368 from rfl]; omega)) (by rw [show (128 : Nat) ^ (5 + 1) = 4398046511104 from rfl]; omega)]
  · rw [sz_of (n := n) (k := 7) (by omega) (.inr (by simpa using h1)) (by simpa using h2), sz_of (n := n / 128) (k := 6) (by omega) (.inr (by rw [show (128 : Nat) ^ 6 = 4398046511104 from rfl]; omega)) (by rw [show (128 : Nat) ^ (6 + 1) = 562949953421312 from rfl]; omega)]
  · rw [sz_of (n := n) (k := 8) (by omega) (.inr (by simpa using h1)) (by simpa using h2), sz_of (n := n / 128) (k := 7) (by omega) (.inr (by rw [show (128 : Nat) ^ 7 = 562949953421312 from rfl]; omega)) (by rw [show (128 : Nat) ^ (7 + 1) = 72057594037927936 from rfl]; omega)]

theorem gL_small {n : Nat} (h : n < 128) : gL n = [UInt8.ofNat n] := by
  unfold gL
  rw [sz_small h]
  simp [Nat.mod_eq_of_lt h]

theorem gL_step {n : Nat} (h : 128 ≤ n) (hn : n < 9223372036854775808) : gL n = gL (n / 128) ++ [UInt8.ofNat (n % 128)] := by
  unfold gL
  rw [sz_div h hn, List.range_succ, List.map_append]
  have hp := sz_pos (n / 128)
  congr 1
  · refine List.map_congr_left fun t ht => ?_
    rw [List.mem_range] at ht
    rw [Nat.div_div_eq_div_mul, show sz (n / 128) + 1 - 1 - t = (sz (n / 128) - 1 - t) + 1 by omega, Nat.pow_succ, Nat.mul_comm (128 ^ _) 128]
  · simp

def mF (n j : Nat) : List UInt8 := (List.range (sz n)).map fun t => if t < j then gB n (sz n - 1 - t) else UInt8.ofNat (n / 128 ^ (sz n - 1 - t) % 128)
theorem mF_length (n j : Nat) : (mF n j).length = sz n := by simp [mF]
theorem mF_zero (n : Nat) : mF n 0 = gL n := by simp [mF, gL]
theorem mF_done (n : Nat) : mF n (sz n - 1) = numF n := by
  unfold mF numF nF
  refine List.map_congr_left fun t ht => ?_
  rw [List.mem_range] at ht
  by_cases h : t < sz n - 1
  · rw [if_pos h]
  · rw [if_neg h, show sz n - 1 - t = 0 by omega]
    unfold gB
    rw [if_pos rfl, Nat.pow_zero, Nat.div_one]
theorem mF_at (n j : Nat) (h : j < sz n) : (mF n j).getD j 0 = UInt8.ofNat (n / 128 ^ (sz n - 1 - j) % 128) := by
  simp [mF, List.getD_eq_getElem?_getD, h]
theorem mF_set (n j : Nat) (h : j + 1 < sz n) : (mF n j).set j (UInt8.ofNat (n / 128 ^ (sz n - 1 - j) % 128 + 128)) = mF n (j + 1) := by
  apply List.ext_getElem
  · simp [mF]
  · intro i h1 h2
    rw [List.getElem_set]
    simp only [mF, List.getElem_map, List.getElem_range]
    by_cases e : j = i
    · subst e
      rw [if_pos rfl, if_pos (by omega)]
      unfold gB
      rw [if_neg (by omega)]
    · rw [if_neg e]
      by_cases h3 : i < j
      · rw [if_pos h3, if_pos (by omega)]
      · rw [if_neg h3, if_neg (by omega)]

attribute [local irreducible] sz gL mF numF

/-- baileyref02.groups -/
theorem c189 : ∀ (z : Int) (n : Nat), max z 0 = (n : Int) → n < 9223372036854775808 → SCalls Proofs.Try.prog 189 [vI z] [] (.s (.lf (.own 0 0 1 0 (gL n).length))) [some ⟨5, [.bytes (gL n).length (gL n)]⟩] := by
  intro z n
  induction n using Nat.strongRecOn generalizing z with
  | ind n ih =>
    intro hz hn
    refine SCalls.intro tok Proofs.Try.func189 ?_
    conv => whnf
    by_cases h : n < 128
    · refine CaseB.of_true (decide_eq_true (by omega)) ?_
      conv => whnf
      refine Or.inl ?_
      conv => whnf
      rw [gL_small h]
      refine RetK.of ⟨rfl, ⟨.bytes rfl fun o ho => ?_, trivial⟩, trivial⟩ (by simp) (WV.lf (WL.own rfl rfl rfl rfl))
      have e0 : IntKind.u8.wrap (max z 0) = ((n : Nat) : Int) := by rw [hz, wrap_u8]; omega
      rw [e0]; rfl
    · refine CaseB.of_false (decide_eq_false (by omega)) ?_
      conv => whnf
      refine And.intro (by decide) ?_
      conv => whnf
      have e : IntKind.i64.wrap (Int.tdiv z 128) = ((n / 128 : Nat) : Int) := by
        obtain rfl : z = (n : Int) := by omega
        rw [show Int.tdiv (n : Int) 128 = ((n / 128 : Nat) : Int) from rfl, wrap_i64 (by omega) (by omega)]
      refine CallK.mk' _ _ (ih (n / 128) (by omega) _ (by rw [e]; omega) (by omega)) ?_
      conv => whnf
      refine And.intro (by decide) ?_
      conv => whnf
      have e2 : IntKind.u8.wrap (Int.tmod z 128) = ((n % 128 : Nat) : Int) := by
        obtain rfl : z = (n : Int) := by omega
        rw [show Int.tmod (n : Int) 128 = ((n % 128 : Nat) : Int) from rfl, wrap_u8]; omega
      refine Or.inr ?_
      conv => whnf
      have el : gL (n / 128) ++ List.map (fun a : Int => UInt8.ofNat a.toNat) [IntKind.u8.wrap (Int.tmod z 128)] = gL n := by
        rw [List.map_cons, List.map_nil, e2, gL_step (by omega) hn]; rfl
      have hlg := gL_length (n / 128)
      have h9 := sz_le (n / 128)
      refine And.intro ⟨rfl, rfl, by rw [List.length_append, hlg]; simp; omega⟩ ?_
      conv => whnf
      rw [el]
      exact RetK.perm [1] ⟨⟨rfl, .bytes rfl fun _ _ => rfl, trivial⟩, trivial⟩ (WV.lf (WL.own rfl rfl rfl rfl)) rfl (by simp) rfl (by simp)

/-- baileyref02.Num -/
theorem c133 (b : List UInt8) (z : Int) (n : Nat) (hz : max z 0 = (n : Int)) (hn : n < 9223372036854775808) (hb : b.length ≤ 140737480000000) : SCalls Proofs.Try.prog 133 [.s (.lf (.rob false false b)), vI z] [] (.s (.lf (.own 0 0 1 0 (b ++ numF n).length))) [some ⟨5, [.bytes (b ++ numF n).length (b ++ numF n)]⟩] := by
  have h1 := sz_pos n
  have h9 := sz_le n
  have hml := mF_length n
  refine SCalls.intro tok Proofs.Try.func133 ?_
  conv => whnf
  refine CallK.mk' _ _ (c189 z n hz hn) ?_
  conv => whnf
  have hnl : (numF n).length = sz n := numF_length n
  have etk : List.take (sz n) (List.drop 0 (mF n (sz n - 1))) = numF n := by rw [List.drop_zero, mF_done, ← hnl, List.take_length]
  obtain ⟨y, r, hyr⟩ : ∃ y r, numF n = y :: r := by
    cases h : numF n with
    | nil => rw [h] at hnl; simp at hnl; omega
    | cons y r => exact ⟨y, r, rfl⟩
  have hrl : (y :: r).length = sz n := by rw [← hyr, hnl]
  refine LoopK.mk1 (fun j : Nat => [(0, .s (.lf (.rob false false b))), (4, .s (.lf .sl0)), (5, .s (.lf (.own 0 0 1 0 (sz n)))), (6, vI j)]) (fun j => [some ⟨5, [.bytes (sz n) (mF n j)]⟩]) (fun j => j + 1 ≤ sz n) (fun j => sz n - j) 0 (by omega) ?_ ?_
  · exact Weak.of ⟨rfl, ⟨.bytes (gL_length n) fun _ _ => by rw [mF_zero], trivial⟩, trivial⟩ (by simp) ⟨okF.wv trivial, okF.wv trivial, WV.lf (WL.own rfl rfl rfl (gL_length n)), okF.wv trivial, trivial⟩
  intro j hj
  conv => whnf
  have ej : IntKind.i64.wrap ((j : Int) + 1) = ((j + 1 : Nat) : Int) := by rw [wrap_i64 (by omega) (by omega)]; omega
  by_cases hl : j + 1 < sz n
  · refine CaseB.of_true (decide_eq_true (by rw [ej]; omega)) ?_
    conv => whnf
    refine And.intro (by omega) ?_
    conv => whnf
    refine And.intro (by omega) ?_
    conv => whnf
    refine And.intro (by omega) ?_
    conv => whnf
    refine And.intro (by omega) ?_
    conv => whnf
    refine And.intro (by rw [hml]; omega) ?_
    conv => whnf
    have hj0 : Int.toNat (j : Int) = j := Int.toNat_natCast j
    refine ⟨j + 1, by omega, by omega, ?_⟩
    refine Weak.of ⟨rfl, ⟨.bytes rfl fun o _ => ?_, trivial⟩, trivial⟩ (by simp) ⟨okF.wv trivial, okF.wv trivial, WV.lf (WL.own rfl rfl rfl rfl), WV.lf (WL.int ej), trivial⟩
    rw [hj0, Nat.zero_add, mF_at n j (by omega), ← mF_set n j hl]
    congr 2
    have ex : (UInt8.ofNat (n / 128 ^ (sz n - 1 - j) % 128)).toNat = n / 128 ^ (sz n - 1 - j) % 128 := by
      rw [UInt8.toNat_ofNat']; exact Nat.mod_eq_of_lt (by omega)
    rw [ex, wrap_u8]
    congr 1
    omega
  · refine CaseB.of_false (decide_eq_false (by rw [ej]; omega)) ?_
    conv => whnf
    obtain rfl : j = sz n - 1 := by omega
    cases b with
    | nil =>
      refine CallK.mk' _ _ (c144n.free _ ⟨trivial, trivial⟩ trivial) ?_
      conv => whnf
      refine And.intro (by rw [hml]; omega) ?_
      conv => whnf
      rw [etk, hyr]
      conv => whnf
      refine And.intro (by omega) ?_
      conv => whnf
      exact RetK.perm [1] ⟨⟨rfl, .bytes rfl fun _ _ => rfl, trivial⟩, trivial⟩ (WV.lf (WL.own rfl rfl rfl rfl)) rfl (by simp) rfl (by simp)
    | cons x b =>
      refine CallK.mk' (.s (.lf (.own 1 0 1 0 (x :: b).length))) _ ((c144 x b (by omega)).made [some ⟨5, [.bytes (sz n) (mF n (sz n - 1))]⟩] (Hn := [some ⟨5, [.bytes (x :: b).length (x :: b)]⟩]) ⟨freeF.wv trivial, trivial⟩ (WV.lf (WL.uown rfl rfl rfl)) ⟨rfl, ⟨.bytes rfl fun _ _ => rfl, trivial⟩, trivial⟩) ?_
      conv => whnf
      refine And.intro (by rw [hml]; omega) ?_
      conv => whnf
      rw [etk]
      refine And.intro ⟨rfl, rfl, by rw [List.length_append, hnl]; omega⟩ ?_
      conv => whnf
      exact RetK.perm [2] ⟨⟨rfl, .bytes rfl fun _ _ => rfl, trivial⟩, trivial⟩ (WV.lf (WL.own rfl rfl rfl rfl)) rfl (by simp) rfl (by simp)

/-- baileyref02.Text -/
theorem c139 (b s : List UInt8) (hs : s.length ≤ 100000000) (hb : b.length ≤ 140737000000000) : SCalls Proofs.Try.prog 139 [.s (.lf (.rob false false b)), .s (.lf (.str s))] [] (.s (.lf (.own 0 0 1 0 (b ++ numF s.length ++ s).length))) [some ⟨5, [.bytes (b ++ numF s.length ++ s).length (b ++ numF s.length ++ s)]⟩] := by
  have hl := numF_length s.length
  have h9 := sz_le s.length
  refine SCalls.intro tok Proofs.Try.func139 ?_
  conv => whnf
  refine CallK.mk' _ _ (c133 b s.length s.length (by omega) (by omega) (by omega)) ?_
  conv => whnf
  refine And.intro ⟨rfl, rfl, by rw [List.length_append, List.length_append]; omega⟩ ?_
  conv => whnf
  exact RetK.perm [1] ⟨⟨rfl, .bytes rfl fun _ _ => rfl, trivial⟩, trivial⟩ (WV.lf (WL.own rfl rfl rfl rfl)) rfl (by simp) rfl (by simp)
end Go.Sym.Md

set_option linter.unusedVariables false
set_option linter.unusedSimpArgs false
set_option maxRecDepth 10000
namespace Go.Sym.Md
open Go Go.Sym

theorem WL.lentT {H H' : Hp} {μ : Nat → Nat} {hid : Nat → Prop} {nm len : Nat} {xs : List UInt8} {ty : TypeId} (hob : hget H nm = some ⟨ty, [.bytes len xs]⟩) (hl : len = xs.length) (hg : gone H' μ hid nm) : WL (Down H H' μ hid) (.own nm 0 1 0 len) (.rob true false xs) := by
  intro w L L' x h hx
  exact WL.freezeB (ob := ⟨ty, [.bytes len xs]⟩) (p := []) (q := []) hob rfl rfl (by omega) (by omega) (by rw [List.drop_zero, hl, List.take_length]) hg w L L' x h hx

/-! ### Caveats' bytes -/
def putC (b : List UInt8) (c : CV) : List UInt8 := if okC c.k c.n c.s then putF b c.k c.n c.s else b
def codeC (cs : List CV) : List UInt8 := cs.foldl putC (numF cs.length)
abbrev vCc (c : CV) : FV := vC c.k c.n c.s
abbrev obC (c : CV) : OB := ⟨23, [.one (.int .i64 c.k), .one (.int .i64 c.n), .one (.str c.s)]⟩

theorem putF_length (b : List UInt8) (k n : Int) (s : List UInt8) (h : okC k n s = true) : b.length ≤ (putF b k n s).length ∧ (putF b k n s).length ≤ b.length + 50 := by
  obtain ⟨_, _, _, _, hs⟩ := okC_facts h
  have h1 := numF_length k.toNat
  have h2 := numF_length s.length
  have h3 := numF_length n.toNat
  have a1 := sz_le k.toNat
  have a2 := sz_le s.length
  have a3 := sz_le n.toNat
  unfold putF
  split <;> simp only [List.length_append] <;> omega
theorem putC_length (b : List UInt8) (c : CV) : b.length ≤ (putC b c).length ∧ (putC b c).length ≤ b.length + 50 := by
  unfold putC
  split
  · rename_i h; exact putF_length b c.k c.n c.s h
  · omega

theorem hasF_one (k : Int) : hasF k = 1 ↔ k = 2 ∨ k = 3 := by
  unfold hasF
  split
  · simp [*]
  · split <;> simp [*]

attribute [local irreducible] numF checkF hasF okC boundF

theorem checkF_bad {k n : Int} {s : List UInt8} (h : okC k n s = false) : checkF k n s = 1 := by unfold checkF; rw [h]; rfl
theorem checkF_good {k n : Int} {s : List UInt8} (h : okC k n s = true) : checkF k n s = 0 := by unfold checkF; rw [h]; rfl

/-- caveat.Put, of what may not be, behind nothing -/
theorem c58x (c : CV) (h : okC c.k c.n c.s = false) : SCalls Proofs.Try.prog 58 [.s (.lf .sl0), vCc c] [] (.s (.lf .sl0)) [] := by
  refine SCalls.intro tok Proofs.Try.func58 ?_
  conv => whnf
  refine CallK.mk' _ _ ((c26 c.k c.n c.s).free _ ⟨⟨trivial, trivial, trivial, trivial⟩, trivial⟩ trivial) ?_
  conv => whnf
  refine CaseB.of_true (by rw [checkF_bad h]; rfl) ?_
  conv => whnf
  refine CallK.mk' _ _ (c136n.free _ ⟨trivial, trivial⟩ trivial) ?_
  conv => whnf
  exact RetK.empty (okF.wv trivial)

/-- caveat.Put, of what may not be -/
theorem c58w (b : List UInt8) (c : CV) (h : okC c.k c.n c.s = false) (hb : b.length ≤ 1000000000000) : SCalls Proofs.Try.prog 58 [.s (.lf (.rob true false b)), vCc c] [] (.s (.lf (.own 0 0 1 0 b.length))) [some ⟨5, [.bytes b.length b]⟩] := by
  refine SCalls.intro tok Proofs.Try.func58 ?_
  conv => whnf
  refine CallK.mk' _ _ ((c26 c.k c.n c.s).free _ ⟨⟨trivial, trivial, trivial, trivial⟩, trivial⟩ trivial) ?_
  conv => whnf
  refine CaseB.of_true (by rw [checkF_bad h]; rfl) ?_
  conv => whnf
  refine CallK.mk' (.s (.lf (.own 1 0 1 0 b.length))) _ ((c136 b (by omega)).made [some (obC c)] (Hn := [some ⟨5, [.bytes b.length b]⟩]) ⟨freeF.wv trivial, trivial⟩ (WV.lf (WL.uown rfl rfl rfl)) ⟨rfl, ⟨.bytes rfl fun _ _ => rfl, trivial⟩, trivial⟩) ?_
  conv => whnf
  exact RetK.perm [1] ⟨⟨rfl, .bytes rfl fun _ _ => rfl, trivial⟩, trivial⟩ (WV.lf (WL.own rfl rfl rfl rfl)) rfl (by simp) rfl (by simp)

/-- caveat.Put, behind bytes that are there -/
theorem c58t (b : List UInt8) (c : CV) (hb : b.length ≤ 100000000000) : SCalls Proofs.Try.prog 58 [.s (.lf (.rob true false b)), vCc c] [] (.s (.lf (.own 0 0 1 0 (putC b c).length))) [some ⟨5, [.bytes (putC b c).length (putC b c)]⟩] := by
  cases h : okC c.k c.n c.s with
  | false => rw [show putC b c = b by unfold putC; rw [h]; rfl]; exact c58w b c h (by omega)
  | true =>
    rw [show putC b c = putF b c.k c.n c.s by unfold putC; rw [h]; rfl]
    have hu := (c58 b c.k c.n c.s h (by omega)).madeL (cs := [.s (.lf (.rob true false b)), vCc c]) (fun _ => True) [] (Hn := [some ⟨5, [.bytes (putF b c.k c.n c.s).length (putF b c.k c.n c.s)]⟩]) (rc := .s (.lf (.own 0 0 1 0 (putF b c.k c.n c.s).length)))
      ⟨WV.lf (WL.rob rfl (by simp) (by simp)), freeF.wv ⟨trivial, trivial, trivial, trivial⟩, trivial⟩ (WV.lf (WL.uown rfl rfl rfl)) ⟨rfl, ⟨.bytes rfl fun _ _ => rfl, trivial⟩, trivial⟩
    exact hu

/-- baileyref06.Put, of what may be -/
theorem c59k (b : List UInt8) (k n : Int) (s : List UInt8) (hok : okC k n s = true) (hb : b.length ≤ 1000000000000) : SCalls Proofs.Try.prog 59 [.s (.lf (.rob false false b)), vC k n s] [] (.s (.lf (.own 0 0 1 0 (putF b k n s).length))) [some ⟨5, [.bytes (putF b k n s).length (putF b k n s)]⟩] := by
  obtain ⟨hk1, hk6, hn0, hn1, hsl⟩ := okC_facts hok
  have hl := numF_length k.toNat
  have h9 := sz_le k.toNat
  refine SCalls.intro tok Proofs.Try.func59 ?_
  conv => whnf
  refine CallK.mk' _ _ ((c27 k n s).free _ ⟨⟨trivial, trivial, trivial, trivial⟩, trivial⟩ trivial) ?_
  conv => whnf
  refine CaseB.of_false (by rw [checkF_good hok]; rfl) ?_
  conv => whnf
  refine CallK.mk' (.s (.lf (.own 1 0 1 0 (b ++ numF k.toNat).length))) _ ((c133 b k k.toNat (by omega) (by omega) (by omega)).made [some (obC ⟨k, n, s⟩)] (Hn := [some ⟨5, [.bytes (b ++ numF k.toNat).length (b ++ numF k.toNat)]⟩]) ⟨freeF.wv trivial, freeF.wv trivial, trivial⟩ (WV.lf (WL.uown rfl rfl rfl)) ⟨rfl, ⟨.bytes rfl fun _ _ => rfl, trivial⟩, trivial⟩) ?_
  conv => whnf
  refine CallK.mk' _ _ ((c124 k).free _ ⟨trivial, trivial⟩ trivial) ?_
  conv => whnf
  have hbl : (b ++ numF k.toNat).length ≤ 140737000000000 := by rw [List.length_append]; omega
  by_cases h1 : hasF k = 1
  · refine CaseB.of_true (decide_eq_true ((hasF_one k).1 h1)) ?_
    conv => whnf
    refine CallK.mk' (.s (.lf (.own 2 0 1 0 (b ++ numF k.toNat ++ numF s.length ++ s).length))) _ ((c139 (b ++ numF k.toNat) s (by omega) hbl).madeL (cs := [.s (.lf (.own 1 0 1 0 (b ++ numF k.toNat).length)), .s (.lf (.str s))]) (fun _ => False) [some (obC ⟨k, n, s⟩), some ⟨5, [.bytes (b ++ numF k.toNat).length (b ++ numF k.toNat)]⟩] (Hn := [some ⟨5, [.bytes (b ++ numF k.toNat ++ numF s.length ++ s).length (b ++ numF k.toNat ++ numF s.length ++ s)]⟩]) ⟨WV.lf (WL.lent (ty := 5) rfl rfl ⟨fun h => h, fun i ob h => by simp at h⟩), freeF.wv trivial, trivial⟩ (WV.lf (WL.uown rfl rfl rfl)) ⟨rfl, ⟨.bytes rfl fun _ _ => rfl, trivial⟩, trivial⟩) ?_
    conv => whnf
    have e : putF b k n s = b ++ numF k.toNat ++ numF s.length ++ s := by unfold putF; rw [if_pos h1]
    rw [e]
    exact RetK.perm [2] ⟨⟨rfl, .bytes rfl fun _ _ => rfl, trivial⟩, trivial⟩ (WV.lf (WL.own rfl rfl rfl rfl)) rfl (by simp) rfl (by simp)
  · refine CaseB.of_false (decide_eq_false (fun h => h1 ((hasF_one k).2 h))) ?_
    conv => whnf
    refine CallK.mk' (.s (.lf (.own 2 0 1 0 (b ++ numF k.toNat ++ numF n.toNat).length))) _ ((c133 (b ++ numF k.toNat) n n.toNat (by omega) (by omega) (by omega)).madeL (cs := [.s (.lf (.own 1 0 1 0 (b ++ numF k.toNat).length)), vI n]) (fun _ => False) [some (obC ⟨k, n, s⟩), some ⟨5, [.bytes (b ++ numF k.toNat).length (b ++ numF k.toNat)]⟩] (Hn := [some ⟨5, [.bytes (b ++ numF k.toNat ++ numF n.toNat).length (b ++ numF k.toNat ++ numF n.toNat)]⟩]) ⟨WV.lf (WL.lent (ty := 5) rfl rfl ⟨fun h => h, fun i ob h => by simp at h⟩), freeF.wv trivial, trivial⟩ (WV.lf (WL.uown rfl rfl rfl)) ⟨rfl, ⟨.bytes rfl fun _ _ => rfl, trivial⟩, trivial⟩) ?_
    conv => whnf
    have e : putF b k n s = b ++ numF k.toNat ++ numF n.toNat := by unfold putF; rw [if_neg h1]
    rw [e]
    exact RetK.perm [2] ⟨⟨rfl, .bytes rfl fun _ _ => rfl, trivial⟩, trivial⟩ (WV.lf (WL.own rfl rfl rfl rfl)) rfl (by simp) rfl (by simp)

/-- baileyref06.Put, of what may not be, behind nothing -/
theorem c59x (c : CV) (h : okC c.k c.n c.s = false) : SCalls Proofs.Try.prog 59 [.s (.lf (.rob false false [])), vCc c] [] (.s (.lf .sl0)) [] := by
  refine SCalls.intro tok Proofs.Try.func59 ?_
  conv => whnf
  refine CallK.mk' _ _ ((c27 c.k c.n c.s).free _ ⟨⟨trivial, trivial, trivial, trivial⟩, trivial⟩ trivial) ?_
  conv => whnf
  refine CaseB.of_true (by rw [checkF_bad h]; rfl) ?_
  conv => whnf
  exact RetK.empty (okF.wv trivial)

/-- baileyref06.Put, of what may not be -/
theorem c59w (x : UInt8) (b : List UInt8) (c : CV) (h : okC c.k c.n c.s = false) (hb : b.length ≤ 100000000000) : SCalls Proofs.Try.prog 59 [.s (.lf (.rob false false (x :: b))), vCc c] [] (.s (.lf (.own 0 0 1 0 (x :: b).length))) [some ⟨5, [.bytes (x :: b).length (x :: b)]⟩] := by
  refine SCalls.intro tok Proofs.Try.func59 ?_
  conv => whnf
  refine CallK.mk' _ _ ((c27 c.k c.n c.s).free _ ⟨⟨trivial, trivial, trivial, trivial⟩, trivial⟩ trivial) ?_
  conv => whnf
  refine CaseB.of_true (by rw [checkF_bad h]; rfl) ?_
  conv => whnf
  refine And.intro (by rw [List.length_cons]; omega) ?_
  conv => whnf
  exact RetK.perm [1] ⟨⟨rfl, .bytes rfl fun _ _ => rfl, trivial⟩, trivial⟩ (WV.lf (WL.own rfl rfl rfl rfl)) rfl (by simp) rfl (by simp)

/-- baileyref06.Put, behind bytes that are there -/
theorem c59t (b : List UInt8) (c : CV) (hb : b.length ≤ 10000000000) (hne : b ≠ []) : SCalls Proofs.Try.prog 59 [.s (.lf (.rob false false b)), vCc c] [] (.s (.lf (.own 0 0 1 0 (putC b c).length))) [some ⟨5, [.bytes (putC b c).length (putC b c)]⟩] := by
  cases h : okC c.k c.n c.s with
  | false =>
    rw [show putC b c = b by unfold putC; rw [h]; rfl]
    cases b with
    | nil => exact absurd rfl hne
    | cons x b => rw [List.length_cons] at hb; exact c59w x b c h (by omega)
  | true =>
    rw [show putC b c = putF b c.k c.n c.s by unfold putC; rw [h]; rfl]
    exact c59k b c.k c.n c.s h (by omega)

theorem codeC_take (cs : List CV) (i : Nat) (hi : i < cs.length) : (cs.take (i + 1)).foldl putC (numF cs.length) = putC ((cs.take i).foldl putC (numF cs.length)) (cs.getD i cv0) := by
  rw [List.take_add_one, List.foldl_append, List.getElem?_eq_getElem hi, List.getD_eq_getElem?_getD, List.getElem?_eq_getElem hi]
  rfl
theorem codeC_length (cs : List CV) : ∀ i, i ≤ cs.length → 1 ≤ ((cs.take i).foldl putC (numF cs.length)).length ∧ ((cs.take i).foldl putC (numF cs.length)).length ≤ 10 + 50 * i := by
  intro i hi
  induction i with
  | zero =>
    have h1 := numF_length cs.length
    have h2 := sz_le cs.length
    have h3 := sz_pos cs.length
    simp only [List.take_zero, List.foldl_nil]
    omega
  | succ i ih =>
    rw [codeC_take cs i (by omega)]
    have := putC_length ((cs.take i).foldl putC (numF cs.length)) (cs.getD i cv0)
    have := ih (by omega)
    omega

/-- caveat.Code -/
theorem c60 (cs : List CV) (hl : cs.length ≤ 1000000) : SCalls Proofs.Try.prog 60 [vR cs] [] (.s (.lf (.rob true false (codeC cs)))) [] := by
  refine SCalls.intro tok Proofs.Try.func60 ?_
  conv => whnf
  refine CallK.mk' (.s (.lf (.own 0 0 1 0 (numF cs.length).length))) _ ((c137 [] cs.length cs.length (by omega) (by omega) (by simp)).made [] (Hn := [some ⟨5, [.bytes (numF cs.length).length (numF cs.length)]⟩]) ⟨WV.lf WL.sl0rob', freeF.wv trivial, trivial⟩ (WV.lf (WL.uown rfl rfl rfl)) ⟨rfl, ⟨.bytes rfl fun _ _ => rfl, trivial⟩, trivial⟩) ?_
  conv => whnf
  obtain ⟨P, hP⟩ : ∃ P : Nat → List UInt8, P = fun i => (cs.take i).foldl putC (numF cs.length) := ⟨_, rfl⟩
  have hP0 : P 0 = numF cs.length := by rw [hP]; rfl
  have hPs : ∀ i, i < cs.length → P (i + 1) = putC (P i) (cs.getD i cv0) := fun i hi => by rw [hP]; exact codeC_take cs i hi
  have hPn : P cs.length = codeC cs := by rw [hP]; show (cs.take cs.length).foldl putC _ = _; rw [List.take_length]; rfl
  have hPl : ∀ i, i ≤ cs.length → 1 ≤ (P i).length ∧ (P i).length ≤ 10 + 50 * i := fun i hi => by rw [hP]; exact codeC_length cs i hi
  clear hP
  refine LoopK.mk1 (fun i : Nat => [(11, vI i), (10, vI cs.length), (9, vR cs), (3, .s (.lf (.own 0 0 1 0 (P i).length))), (2, .s (.lf .sl0))]) (fun i => [some ⟨5, [.bytes (P i).length (P i)]⟩]) (fun i => i ≤ cs.length) (fun i => cs.length - i) 0 (by omega) ?_ ?_
  · exact Weak.of ⟨rfl, ⟨.bytes (by rw [hP0]) fun _ _ => by rw [hP0], trivial⟩, trivial⟩ (by simp) ⟨okF.wv trivial, okF.wv trivial, okF.wv rowC_ok, WV.lf (WL.own rfl rfl rfl (by rw [hP0])), okF.wv trivial, trivial⟩
  intro i hi
  conv => whnf
  by_cases hl' : i < cs.length
  · refine CaseB.of_true (decide_eq_true (by omega)) ?_
    conv => whnf
    refine And.intro (by omega) ?_
    conv => whnf
    have hpl := hPl i (by omega)
    have hps := hPs i hl'
    obtain ⟨c, hc⟩ : ∃ c, cs.getD i cv0 = c := ⟨_, rfl⟩
    rw [hc] at hps
    have hi0 : cs.getD (Int.toNat (i : Int)) cv0 = c := by rw [Int.toNat_natCast]; exact hc
    rw [hi0]
    refine CallK.mk' (.s (.lf (.own 2 0 1 0 (P (i + 1)).length))) _ ((c58t (P i) c (by omega)).madeL (cs := [.s (.lf (.own 0 0 1 0 (P i).length)), vCc c]) (fun _ => False) [some ⟨5, [.bytes (P i).length (P i)]⟩, some (obC c)] (Hn := [some ⟨5, [.bytes (P (i + 1)).length (P (i + 1))]⟩]) ⟨WV.lf (WL.lentT (ty := 5) rfl rfl ⟨fun h => h, fun i ob h => by simp at h⟩), freeF.wv ⟨trivial, trivial, trivial, trivial⟩, trivial⟩ (WV.lf (WL.uown rfl rfl (by rw [hps]))) ⟨rfl, ⟨.bytes (by rw [hps]) fun _ _ => by rw [hps], trivial⟩, trivial⟩) ?_
    conv => whnf
    refine ⟨i + 1, by omega, by omega, ?_⟩
    exact Weak.perm [2] ⟨⟨rfl, .bytes rfl fun _ _ => rfl, trivial⟩, trivial⟩ ⟨WV.lf (WL.int (by rw [wrap_i64 (by omega) (by omega)]; omega)), freeF.wv trivial, freeF.wv rowC_free, WV.lf (WL.own rfl rfl rfl rfl), freeF.wv trivial, trivial⟩ rfl (by simp) rfl (by simp)
  · refine CaseB.of_false (decide_eq_false (by omega)) ?_
    conv => whnf
    obtain rfl : i = cs.length := by omega
    rw [hPn]
    exact RetK.empty (WV.lf (WL.lentT (ty := 5) rfl rfl (gone_none fun h => h)))

/-- baileyref06.Code -/
theorem c61 (cs : List CV) (hl : cs.length ≤ 1000000) : SCalls Proofs.Try.prog 61 [vR cs] [] (.s (.lf (.rob true false (codeC cs)))) [] := by
  refine SCalls.intro tok Proofs.Try.func61 ?_
  conv => whnf
  refine CallK.mk' (.s (.lf (.own 0 0 1 0 (numF cs.length).length))) _ ((c133 [] cs.length cs.length (by omega) (by omega) (by simp)).made [] (Hn := [some ⟨5, [.bytes (numF cs.length).length (numF cs.length)]⟩]) ⟨WV.lf WL.sl0rob', freeF.wv trivial, trivial⟩ (WV.lf (WL.uown rfl rfl rfl)) ⟨rfl, ⟨.bytes rfl fun _ _ => rfl, trivial⟩, trivial⟩) ?_
  conv => whnf
  obtain ⟨P, hP⟩ : ∃ P : Nat → List UInt8, P = fun i => (cs.take i).foldl putC (numF cs.length) := ⟨_, rfl⟩
  have hP0 : P 0 = numF cs.length := by rw [hP]; rfl
  have hPs : ∀ i, i < cs.length → P (i + 1) = putC (P i) (cs.getD i cv0) := fun i hi => by rw [hP]; exact codeC_take cs i hi
  have hPn : P cs.length = codeC cs := by rw [hP]; show (cs.take cs.length).foldl putC _ = _; rw [List.take_length]; rfl
  have hPl : ∀ i, i ≤ cs.length → 1 ≤ (P i).length ∧ (P i).length ≤ 10 + 50 * i := fun i hi => by rw [hP]; exact codeC_length cs i hi
  clear hP
  refine LoopK.mk1 (fun i : Nat => [(4, vI i), (0, vR cs), (3, .s (.lf (.own 0 0 1 0 (P i).length))), (2, .s (.lf .sl0))]) (fun i => [some ⟨5, [.bytes (P i).length (P i)]⟩]) (fun i => i ≤ cs.length) (fun i => cs.length - i) 0 (by omega) ?_ ?_
  · exact Weak.of ⟨rfl, ⟨.bytes (by rw [hP0]) fun _ _ => by rw [hP0], trivial⟩, trivial⟩ (by simp) ⟨okF.wv trivial, okF.wv rowC_ok, WV.lf (WL.own rfl rfl rfl (by rw [hP0])), okF.wv trivial, trivial⟩
  intro i hi
  conv => whnf
  by_cases hl' : i < cs.length
  · refine CaseB.of_true (decide_eq_true (by omega)) ?_
    conv => whnf
    refine And.intro (by omega) ?_
    conv => whnf
    have hpl := hPl i (by omega)
    have hps := hPs i hl'
    obtain ⟨c, hc⟩ : ∃ c, cs.getD i cv0 = c := ⟨_, rfl⟩
    rw [hc] at hps
    have hi0 : cs.getD (Int.toNat (i : Int)) cv0 = c := by rw [Int.toNat_natCast]; exact hc
    rw [hi0]
    refine CallK.mk' (.s (.lf (.own 1 0 1 0 (P (i + 1)).length))) _ ((c59t (P i) c (by omega) (fun h => by rw [h] at hpl; simp at hpl)).madeL (cs := [.s (.lf (.own 0 0 1 0 (P i).length)), vCc c]) (fun _ => False) [some ⟨5, [.bytes (P i).length (P i)]⟩] (Hn := [some ⟨5, [.bytes (P (i + 1)).length (P (i + 1))]⟩]) ⟨WV.lf (WL.lent (ty := 5) rfl rfl ⟨fun h => h, fun i ob h => by simp at h⟩), freeF.wv ⟨trivial, trivial, trivial, trivial⟩, trivial⟩ (WV.lf (WL.uown rfl rfl (by rw [hps]))) ⟨rfl, ⟨.bytes (by rw [hps]) fun _ _ => by rw [hps], trivial⟩, trivial⟩) ?_
    conv => whnf
    refine ⟨i + 1, by omega, by omega, ?_⟩
    exact Weak.perm [1] ⟨⟨rfl, .bytes rfl fun _ _ => rfl, trivial⟩, trivial⟩ ⟨WV.lf (WL.int (by rw [wrap_i64 (by omega) (by omega)]; omega)), freeF.wv rowC_free, WV.lf (WL.own rfl rfl rfl rfl), freeF.wv trivial, trivial⟩ rfl (by simp) rfl (by simp)
  · refine CaseB.of_false (decide_eq_false (by omega)) ?_
    conv => whnf
    obtain rfl : i = cs.length := by omega
    rw [hPn]
    exact RetK.empty (WV.lf (WL.lentT (ty := 5) rfl rfl (gone_none fun h => h)))
end Go.Sym.Md

