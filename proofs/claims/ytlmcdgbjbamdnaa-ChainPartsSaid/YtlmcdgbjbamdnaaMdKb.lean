/- Contracts of the program's functions, proved by the framework (text MdKb), without conditions but those that each theorem states. -/
import Derived.Test.YtlmcdgbjbamdnaaMdKa
set_option linter.unusedVariables false
set_option linter.unusedSimpArgs false
set_option maxRecDepth 10000
namespace Go.Sym.Md
open Go Go.Sym Go.Sym.Sh
attribute [local irreducible] shaF numF sz linkF upF

theorem chEq_t {x y : ChS} (h : x = y) : (decide (x.n = y.n) && (decide (x.h = y.h) && true)) = true := by subst h; simp

/-- baileylaw22.ChainLinks -/
theorem c7 (c d : ChS) (t : List UInt8) (len : Nat) (f : Nat → Nat → LV) (xs : Nat → List UInt8) (hp : Pcs len f xs) (hl : len ≤ maxLen) (hlo : -9223372036854775808 ≤ c.n ∧ c.n ≤ 9223372036854775807) : SCalls Proofs.Try.prog 7 [vCh c, vCh d, .s (.lf (.rob false false t)), vP len f] [] (.s (.lf .tt)) [] := by
  obtain ⟨b, hb, h40⟩ := c40 len f xs hp hl
  have hwP : ∀ D : Rel, ROk D → WL D (.ro false false 1 len f) (.ro false false 1 len f) := fun D _ => WL.ro rfl (by simp) (by simp) fun i hi j hj => hp.wl hi hj
  have k40 := h40.lend (cs := [vP len f]) (fun _ => True) [some (obCh c), some (obCh d)] ⟨WV.lf (hwP _ inferInstance), trivial⟩ (plainF.wv trivial)
  have k41 := c41.free [some (obCh c), some (obCh d)] trivial trivial
  refine SCalls.intro tok Proofs.Try.func7 ?_
  conv => whnf
  by_cases h1 : 300 < (c.h.length : Int)
  · repeat (refine CaseB.of_true (decide_eq_true h1) ?_; conv => whnf)
    refine CallK.mk' _ _ k41 ?_
    conv => whnf
    exact RetK.empty (okF.wv trivial)
  by_cases h2 : 300 < (d.h.length : Int)
  · repeat ((first | refine CaseB.of_false (decide_eq_false h1) ?_ | refine CaseB.of_true (decide_eq_true h2) ?_); conv => whnf)
    refine CallK.mk' _ _ k41 ?_
    conv => whnf
    exact RetK.empty (okF.wv trivial)
  by_cases h3 : 1000 < (t.length : Int)
  · repeat ((first | refine CaseB.of_false (decide_eq_false h1) ?_ | refine CaseB.of_false (decide_eq_false h2) ?_ | refine CaseB.of_true (decide_eq_true h3) ?_); conv => whnf)
    refine CallK.mk' _ _ k41 ?_
    conv => whnf
    exact RetK.empty (okF.wv trivial)
  repeat ((first | refine CaseB.of_false (decide_eq_false h1) ?_ | refine CaseB.of_false (decide_eq_false h2) ?_ | refine CaseB.of_false (decide_eq_false h3) ?_ | refine CallK.mk' _ _ k40 ?_); conv => whnf)
  cases b with
  | false =>
    refine CaseB.of_true rfl ?_
    conv => whnf
    refine CallK.mk' _ _ k41 ?_
    conv => whnf
    exact RetK.empty (okF.wv trivial)
  | true =>
    obtain ⟨hn, hx⟩ := hb rfl
    refine CaseB.of_false rfl ?_
    conv => whnf
    have hh : c.h.length ≤ 300 := by omega
    have hx' : ∀ i, i < len → (xs i).length ≤ 400000 := fun i hi => by have := hx i hi; omega
    have w1 : WVs' (Down [some (obCh c), some (obCh d)] [] id fun _ => True) [vCh c, .s (.lf (.rob false false t))] [vCh c, .s (.lf (.rob false false t))] := ⟨freeF.wv ⟨trivial, trivial, trivial⟩, freeF.wv trivial, trivial⟩
    have w2 : WVs' (Down [some (obCh c), some (obCh d)] [] id fun _ => True) [vCh c, vP len f] [vCh c, vP len f] := ⟨freeF.wv ⟨trivial, trivial, trivial⟩, WV.lf (hwP _ inferInstance), trivial⟩
    have w3 : WVs' (Down [some (obCh c), some (obCh d)] [] id fun _ => True) [vCh c, vP len f, vCh d] [vCh c, vP len f, vCh d] := ⟨freeF.wv ⟨trivial, trivial, trivial⟩, WV.lf (hwP _ inferInstance), freeF.wv ⟨trivial, trivial, trivial⟩, trivial⟩
    have k42 := (c42 c t (by omega) (by omega) hlo).lend (fun _ => True) _ w1 (plainF.wv ⟨trivial, trivial, trivial⟩)
    have k43 := (c43 c t (by omega) (by omega) hlo).lend (fun _ => True) _ w1 (plainF.wv ⟨trivial, trivial, trivial⟩)
    have k44 := (c44 c len f xs hp (by omega) hx' (by omega) hlo).lend (fun _ => True) _ w2 (plainF.wv ⟨trivial, trivial, trivial⟩)
    have k45 := (c45 c len f xs hp (by omega) hx' (by omega) hlo).lend (fun _ => True) _ w2 (plainF.wv ⟨trivial, trivial, trivial⟩)
    have k46 := (c46 c d len f xs hp (by omega) hx' (by omega) hlo).lend (fun _ => True) _ w3 (plainF.wv trivial)
    have k47 := (c47 c d len f xs hp (by omega) hx' (by omega) hlo).lend (fun _ => True) _ w3 (plainF.wv trivial)
    have k48 := c48.free [some (obCh c), some (obCh d)] trivial ⟨trivial, trivial, trivial⟩
    have k49 := c49.free [some (obCh c), some (obCh d)] trivial ⟨trivial, trivial, trivial⟩
    refine DrawK.mk1 tok mixed [0, 0, 3, 0, 0, 31, 63, 127, 255, 255, 1023, 255, 255, 8191, 16383, 32767, 65535, 131071, 131071, 131071, 1048575, 131071, 131071, 131071, 16777215, 33554431, 67108863, 134217727, 268435455, 536870911, 1073741823, 2147483647, 4294967295, 8589934591, 17179869183, 34359738367] [(1, 0, []), (4, 0, []), (0, 1, [0]), (2, 1, [0]), (3, 1, [0]), (5, 1, [0]), (6, 1, [0]), (7, 0, []), (9, 0, []), (12, 0, []), (8, 1, [0]), (10, 1, [0]), (11, 1, [0]), (13, 1, [0]), (14, 1, [0]), (15, 0, []), (16, 0, []), (18, 0, []), (22, 0, []), (17, 1, [0]), (19, 1, [0]), (20, 1, [0]), (21, 1, [0]), (23, 1, [0]), (24, 1, [0]), (25, 0, []), (26, 0, []), (27, 0, []), (28, 1, [0]), (29, 1, [0]), (30, 1, [0]), (31, 0, []), (32, 0, []), (33, 1, [0]), (34, 0, []), (35, 0, [])] (by kernel_rfl) ?_
    conv => whnf
    repeat ((first | refine CaseB.of_true (chEq_t rfl) ?_ | refine CallR.mk' _ k42 ?_ | refine CallR.mk' _ k43 ?_ | refine CallR.mk' _ k44 ?_ | refine CallR.mk' _ k45 ?_ | refine CallR.mk' _ k46 ?_ | refine CallR.mk' _ k47 ?_ | refine CallR.mk' _ k48 ?_ | refine CallR.mk' _ k49 ?_ | refine CallR.mk' _ k41 ?_ | refine CaseB.of_true (decide_eq_true rfl) ?_); conv => whnf)
    exact RetK.empty (okF.wv trivial)

abbrev vPt (len : Nat) (f : Nat → Nat → LV) : FV := .s (.lf (.ro true false 1 len f))

/-- slices.Clone, of no pieces. -/
theorem c50n : SCalls Proofs.Try.prog 50 [.s (.lf .sl0)] [] (.s (.lf .sl0)) [] := by
  refine SCalls.intro tok Proofs.Try.func50 ?_
  conv => whnf
  exact RetK.empty (okF.wv trivial)

/-- slices.Clone, of pieces. -/
theorem c50 (len : Nat) (f : Nat → Nat → LV) (xs : Nat → List UInt8) (hp : Pcs len f xs) (hl : len ≤ 1000000) : SCalls Proofs.Try.prog 50 [vPt len f] [] (.s (.lf (.own 0 0 1 0 len))) [some ⟨41, [.recs 1 len f]⟩] := by
  refine SCalls.intro tok Proofs.Try.func50 ?_
  conv => whnf
  refine Or.inl ?_
  conv => whnf
  refine And.intro (by omega) ?_
  conv => whnf
  refine And.intro ⟨rfl, by show (0 + len) * 24 ≤ _; omega⟩ ?_
  conv => whnf
  refine RetK.perm [1] ⟨⟨rfl, .recs (Nat.zero_add _) fun i hi j hj => ?_, trivial⟩, trivial⟩ (WV.lf (WL.own rfl rfl rfl (Nat.zero_add _))) rfl (by simp) rfl (by simp)
  exact hp.wl (by omega) hj

theorem cat_pcs {len len' : Nat} {f f' : Nat → Nat → LV} {xs xs' : Nat → List UInt8} (h : Pcs len f xs) (h' : Pcs len' f' xs') : Pcs (len + len') (catRow 1 len (fun i j => f (0 + i) j) f') (fun i => if i < len then xs i else xs' (i - len)) := by
  refine ⟨fun i hi => ?_⟩
  unfold catRow
  by_cases hl : i < len
  · rw [show Nat.blt i len = true by simp [Nat.blt, Nat.ble_eq]; omega]
    simp only [if_pos hl, Nat.zero_add]
    exact h.el i hl
  · rw [show Nat.blt i len = false by cases hb : Nat.blt i len <;> first | rfl | (have := blt_true hb; omega)]
    simp only [if_neg hl]
    exact h'.el (i - len) (by omega)

theorem upF_zero (c : ChS) (xs : Nat → List UInt8) : upF c xs 0 = c := by unfold upF; rfl
theorem upF_succ (c : ChS) (xs : Nat → List UInt8) (i : Nat) : upF c xs (i + 1) = linkF (upF c xs i) (xs i) := by conv => lhs; unfold upF

theorem upF_cat (c : ChS) (n m : Nat) (xs xs' : Nat → List UInt8) : upF c (fun i => if i < n then xs i else xs' (i - n)) (n + m) = upF (upF c xs n) xs' m := by
  have h0 : ∀ k, k ≤ n → upF c (fun i => if i < n then xs i else xs' (i - n)) k = upF c xs k := by
    intro k hk
    induction k with
    | zero => rw [upF_zero, upF_zero]
    | succ k ih => rw [upF_succ, upF_succ, ih (by omega), if_pos (by omega)]
  induction m with
  | zero => rw [Nat.add_zero, h0 n (Nat.le_refl _), upF_zero]
  | succ m ih =>
    rw [← Nat.add_assoc, upF_succ, upF_succ, ih, if_neg (by omega), Nat.add_sub_cancel_left]

/-- A row of pieces of the call's own, lent. -/
theorem WL.lentP {H H' : Hp} {μ : Nat → Nat} {hid : Nat → Prop} {nm len : Nat} {f : Nat → Nat → LV} {xs : Nat → List UInt8} {ty : TypeId} (hob : hget H nm = some ⟨ty, [.recs 1 len f]⟩) (hp : Pcs len f xs) (hg : gone H' μ hid nm) : WL (Down H H' μ hid) (.own nm 0 1 0 len) (.ro false false 1 len f) := by
  intro w L L' x h hx
  refine rep_ro_weak (WL.freezeR (ob := ⟨ty, [.recs 1 len f]⟩) (p := []) (q := []) hob rfl rfl (fun i hi j hj => ⟨?_, ?_⟩) hg w L L' x h hx)
  · show 0 * 1 + (i * 1 + j) < len * 1
    omega
  · show WL _ (f ((0 * 1 + (i * 1 + j)) / 1) ((0 * 1 + (i * 1 + j)) % 1)) _
    obtain rfl : j = 0 := by omega
    rw [show (0 * 1 + (i * 1 + 0)) / 1 = i by omega, show (0 * 1 + (i * 1 + 0)) % 1 = 0 by omega]
    exact hp.wl hi (by omega)

/-- baileylaw22.ChainParts -/
theorem c8 (c : ChS) (len : Nat) (f : Nat → Nat → LV) (xs : Nat → List UInt8) (hp : Pcs len f xs) (hl : len ≤ maxLen) (len' : Nat) (f' : Nat → Nat → LV) (xs' : Nat → List UInt8) (hp' : Pcs len' f' xs') (hl' : len' ≤ maxLen) (hlo : -9223372036854775808 ≤ c.n ∧ c.n ≤ 9223372036854775807) : SCalls Proofs.Try.prog 8 [vCh c, vPt len f, vP len' f'] [] (.s (.lf .tt)) [] := by
  obtain ⟨b, hb, h40⟩ := c40 len f xs hp hl
  obtain ⟨b', hb', h40'⟩ := c40 len' f' xs' hp' hl'
  have hwP : ∀ D : Rel, ROk D → WL D (.ro true false 1 len f) (.ro false false 1 len f) := fun D _ => WL.ro rfl (by simp) (by simp) fun i hi j hj => hp.wl hi hj
  have hwP' : ∀ D : Rel, ROk D → WL D (.ro false false 1 len' f') (.ro false false 1 len' f') := fun D _ => WL.ro rfl (by simp) (by simp) fun i hi j hj => hp'.wl hi hj
  have k40 := h40.lend (cs := [vPt len f]) (fun _ => True) [some (obCh c)] ⟨WV.lf (hwP _ inferInstance), trivial⟩ (plainF.wv trivial)
  have k40' := h40'.lend (cs := [vP len' f']) (fun _ => True) [some (obCh c)] ⟨WV.lf (hwP' _ inferInstance), trivial⟩ (plainF.wv trivial)
  have k41 := c41.free [some (obCh c)] trivial trivial
  refine SCalls.intro tok Proofs.Try.func8 ?_
  conv => whnf
  by_cases h1 : 300 < (c.h.length : Int)
  · repeat (refine CaseB.of_true (decide_eq_true h1) ?_; conv => whnf)
    refine CallK.mk' _ _ k41 ?_
    conv => whnf
    exact RetK.empty (okF.wv trivial)
  repeat ((first | refine CaseB.of_false (decide_eq_false h1) ?_ | refine CallK.mk' _ _ k40 ?_); conv => whnf)
  cases b with
  | false =>
    repeat ((first | refine CaseB.of_false (decide_eq_false h1) ?_ | refine CaseB.of_true rfl ?_); conv => whnf)
    refine CallK.mk' _ _ k41 ?_
    conv => whnf
    exact RetK.empty (okF.wv trivial)
  | true =>
  repeat ((first | refine CaseB.of_false rfl ?_ | refine CallK.mk' _ _ k40' ?_); conv => whnf)
  cases b' with
  | false =>
    refine CaseB.of_true rfl ?_
    conv => whnf
    refine CallK.mk' _ _ k41 ?_
    conv => whnf
    exact RetK.empty (okF.wv trivial)
  | true =>
  obtain ⟨hn, hx⟩ := hb rfl
  obtain ⟨hn', hx''⟩ := hb' rfl
  refine CaseB.of_false rfl ?_
  conv => whnf
  refine CallK.mk' (.s (.lf (.own 1 0 1 0 len))) _ ((c50 len f xs hp (by omega)).made [some (obCh c)] (Hn := [some ⟨41, [.recs 1 len f]⟩]) ⟨WV.lf (WL.ro rfl (by simp) (by simp) fun i hi j hj => hp.wl hi hj), trivial⟩ (WV.lf (WL.uown rfl rfl rfl)) ⟨rfl, ⟨.recs rfl fun i hi j hj => hp.wl hi hj, trivial⟩, trivial⟩) ?_
  conv => whnf
  refine And.intro (by omega) ?_
  conv => whnf
  refine And.intro ⟨rfl, by show (len + len') * 24 ≤ _; omega⟩ ?_
  conv => whnf
  obtain ⟨F, hF⟩ : ∃ F, catRow 1 len (fun i j => f (0 + i) j) f' = F := ⟨_, rfl⟩
  obtain ⟨ys, hys⟩ : ∃ ys, (fun i => if i < len then xs i else xs' (i - len)) = ys := ⟨_, rfl⟩
  have hpF : Pcs (len + len') F ys := by rw [← hF, ← hys]; exact cat_pcs hp hp'
  have hup := upF_cat c len len' xs xs'
  rw [hys] at hup
  obtain ⟨md, hmd⟩ : ∃ md, upF c xs len = md := ⟨_, rfl⟩
  obtain ⟨en, hen⟩ : ∃ en, upF md xs' len' = en := ⟨_, rfl⟩
  rw [hmd, hen] at hup
  have hx1 : ∀ i, i < len → (xs i).length ≤ 400000 := fun i hi => by have := hx i hi; omega
  have hx2 : ∀ i, i < len' → (xs' i).length ≤ 400000 := fun i hi => by have := hx'' i hi; omega
  have hx3 : ∀ i, i < len + len' → (ys i).length ≤ 400000 := fun i hi => by
    rw [← hys]
    by_cases h : i < len
    · simp only [if_pos h]; exact hx1 i h
    · simp only [if_neg h]; exact hx2 _ (by omega)
  have hr := upF_range c xs hlo (by omega) len
  rw [hmd] at hr
  have ka := c44 c len f xs hp (by omega) hx1 (by omega) hlo
  have kb := c44 md len' f' xs' hp' (by omega) hx2 (by omega) hr.1
  have kc := c44 c (len + len') F ys hpF (by omega) hx3 (by omega) hlo
  have kd := c46 c en (len + len') F ys hpF (by omega) hx3 (by omega) hlo
  rw [hmd] at ka
  rw [hen] at kb
  rw [hup] at kc kd
  rw [if_pos rfl] at kd
  have k1 := ka.lend (cs := [vCh c, vPt len f]) (fun _ => True) [some (obCh c), none, some ⟨41, [.recs 1 (len + len') F]⟩] ⟨freeF.wv ⟨trivial, trivial, trivial⟩, WV.lf (hwP _ inferInstance), trivial⟩ (plainF.wv ⟨trivial, trivial, trivial⟩)
  have k2 := kb.lend (cs := [vCh md, vP len' f']) (fun _ => True) [some (obCh c), none, some ⟨41, [.recs 1 (len + len') F]⟩] ⟨freeF.wv ⟨trivial, trivial, trivial⟩, WV.lf (hwP' _ inferInstance), trivial⟩ (plainF.wv ⟨trivial, trivial, trivial⟩)
  have k3 := kc.lend (cs := [vCh c, .s (.lf (.own 2 0 1 0 (len + len')))]) (fun _ => False) [some (obCh c), none, some ⟨41, [.recs 1 (len + len') F]⟩, some (obCh en)] ⟨freeF.wv ⟨trivial, trivial, trivial⟩, WV.lf (WL.lentP (ty := 41) rfl hpF ⟨fun h => h, fun i ob h => by simp at h⟩), trivial⟩ (plainF.wv ⟨trivial, trivial, trivial⟩)
  have k4 := kd.lend (cs := [vCh c, .s (.lf (.own 2 0 1 0 (len + len'))), vCh en]) (fun _ => False) [some (obCh c), none, some ⟨41, [.recs 1 (len + len') F]⟩, some (obCh en)] ⟨freeF.wv ⟨trivial, trivial, trivial⟩, WV.lf (WL.lentP (ty := 41) rfl hpF ⟨fun h => h, fun i ob h => by simp at h⟩), freeF.wv ⟨trivial, trivial, trivial⟩, trivial⟩ (plainF.wv trivial)
  have k5 := c41.free [some (obCh c), none, some ⟨41, [.recs 1 (len + len') F]⟩, some (obCh en)] trivial trivial
  subst hF
  refine CallK.mk' _ _ k1 ?_
  conv => whnf
  refine CallK.mk' _ _ k2 ?_
  conv => whnf
  refine DrawK.mk1 tok mixed [0, 0, 3, 0, 15, 31, 63, 63, 63, 511, 1023, 2047, 4095, 8191, 16383, 32767] [(1, 0, []), (0, 1, [0]), (2, 1, [0]), (3, 1, [0]), (4, 1, [0]), (5, 0, []), (7, 0, []), (6, 1, [0]), (8, 1, [0]), (9, 1, [0]), (10, 0, []), (11, 0, []), (12, 0, []), (13, 1, [0]), (14, 0, []), (15, 0, [])] (by kernel_rfl) ?_
  conv => whnf
  repeat ((first | refine CaseB.of_true (chEq_t rfl) ?_ | refine CallR.mk' _ k3 ?_ | refine CallR.mk' _ k4 ?_ | refine CallR.mk' _ k5 ?_ | refine CaseB.of_true (decide_eq_true rfl) ?_); conv => whnf)
  exact RetK.empty (okF.wv trivial)
/-- baileylaw22.ChainParts, of nil -/
theorem c8n (c : ChS) (len' : Nat) (f' : Nat → Nat → LV) (xs' : Nat → List UInt8) (hp' : Pcs len' f' xs') (hl' : len' ≤ maxLen) (hlo : -9223372036854775808 ≤ c.n ∧ c.n ≤ 9223372036854775807) : SCalls Proofs.Try.prog 8 [vCh c, .s (.lf .sl0), vP len' f'] [] (.s (.lf .tt)) [] := by
  have hp : Pcs 0 (fun _ _ => .sl0) (fun _ => []) := ⟨fun i hi => by omega⟩
  obtain ⟨b, hb, h40⟩ := c40 0 _ _ hp (by omega)
  obtain ⟨b', hb', h40'⟩ := c40 len' f' xs' hp' hl'
  have hwP' : ∀ D : Rel, ROk D → WL D (.ro false false 1 len' f') (.ro false false 1 len' f') := fun D _ => WL.ro rfl (by simp) (by simp) fun i hi j hj => hp'.wl hi hj
  have k40 := h40.lend (cs := [.s (.lf .sl0)]) (fun _ => True) [some (obCh c)] ⟨WV.lf WL.sl0ro, trivial⟩ (plainF.wv trivial)
  have k40' := h40'.lend (cs := [vP len' f']) (fun _ => True) [some (obCh c)] ⟨WV.lf (hwP' _ inferInstance), trivial⟩ (plainF.wv trivial)
  have k41 := c41.free [some (obCh c)] trivial trivial
  refine SCalls.intro tok Proofs.Try.func8 ?_
  conv => whnf
  by_cases h1 : 300 < (c.h.length : Int)
  · repeat (refine CaseB.of_true (decide_eq_true h1) ?_; conv => whnf)
    refine CallK.mk' _ _ k41 ?_
    conv => whnf
    exact RetK.empty (okF.wv trivial)
  repeat ((first | refine CaseB.of_false (decide_eq_false h1) ?_ | refine CallK.mk' _ _ k40 ?_); conv => whnf)
  cases b with
  | false =>
    repeat ((first | refine CaseB.of_false (decide_eq_false h1) ?_ | refine CaseB.of_true rfl ?_); conv => whnf)
    refine CallK.mk' _ _ k41 ?_
    conv => whnf
    exact RetK.empty (okF.wv trivial)
  | true =>
  repeat ((first | refine CaseB.of_false rfl ?_ | refine CallK.mk' _ _ k40' ?_); conv => whnf)
  cases b' with
  | false =>
    refine CaseB.of_true rfl ?_
    conv => whnf
    refine CallK.mk' _ _ k41 ?_
    conv => whnf
    exact RetK.empty (okF.wv trivial)
  | true =>
  obtain ⟨hn, hx⟩ := hb rfl
  obtain ⟨hn', hx''⟩ := hb' rfl
  refine CaseB.of_false rfl ?_
  conv => whnf
  refine CallK.mk' _ _ (c50n.free _ ⟨trivial, trivial⟩ trivial) ?_
  conv => whnf
  have hx2 : ∀ i, i < len' → (xs' i).length ≤ 400000 := fun i hi => by have := hx'' i hi; omega
  cases len' with
  | zero =>
    conv => whnf
    have ka := c44 c 0 _ _ hp (by omega) (fun i hi => by omega) (by omega) hlo
    have kb := c44 c 0 f' xs' hp' (by omega) hx2 (by omega) hlo
    have kd := c46 c (upF c xs' 0) 0 f' xs' hp' (by omega) hx2 (by omega) hlo
    rw [upF_zero] at ka
    rw [if_pos rfl] at kd
    obtain ⟨en, hen⟩ : ∃ en, upF c xs' 0 = en := ⟨_, rfl⟩
    rw [hen] at kb kd
    have k1 := ka.lend (cs := [vCh c, .s (.lf .sl0)]) (fun _ => True) [some (obCh c)] ⟨freeF.wv ⟨trivial, trivial, trivial⟩, WV.lf WL.sl0ro, trivial⟩ (plainF.wv ⟨trivial, trivial, trivial⟩)
    have k2 := kb.lend (cs := [vCh c, vP 0 f']) (fun _ => True) [some (obCh c)] ⟨freeF.wv ⟨trivial, trivial, trivial⟩, WV.lf (hwP' _ inferInstance), trivial⟩ (plainF.wv ⟨trivial, trivial, trivial⟩)
    have k3 := kb.lend (cs := [vCh c, .s (.lf .sl0)]) (fun _ => False) [some (obCh c), some (obCh en)] ⟨freeF.wv ⟨trivial, trivial, trivial⟩, WV.lf WL.sl0ro, trivial⟩ (plainF.wv ⟨trivial, trivial, trivial⟩)
    have k4 := kd.lend (cs := [vCh c, .s (.lf .sl0), vCh en]) (fun _ => False) [some (obCh c), some (obCh en)] ⟨freeF.wv ⟨trivial, trivial, trivial⟩, WV.lf WL.sl0ro, freeF.wv ⟨trivial, trivial, trivial⟩, trivial⟩ (plainF.wv trivial)
    have k5 := c41.free [some (obCh c), some (obCh en)] trivial trivial
    refine CallK.mk' _ _ k1 ?_
    conv => whnf
    refine CallK.mk' _ _ k2 ?_
    conv => whnf
    refine DrawK.mk1 tok mixed [0, 0, 3, 0, 15, 31, 63, 63, 63, 511, 1023, 2047, 4095, 8191, 16383, 32767] [(1, 0, []), (0, 1, [0]), (2, 1, [0]), (3, 1, [0]), (4, 1, [0]), (5, 0, []), (7, 0, []), (6, 1, [0]), (8, 1, [0]), (9, 1, [0]), (10, 0, []), (11, 0, []), (12, 0, []), (13, 1, [0]), (14, 0, []), (15, 0, [])] (by kernel_rfl) ?_
    conv => whnf
    repeat ((first | refine CaseB.of_true (chEq_t rfl) ?_ | refine CallR.mk' _ k3 ?_ | refine CallR.mk' _ k4 ?_ | refine CallR.mk' _ k5 ?_ | refine CaseB.of_true (decide_eq_true rfl) ?_); conv => whnf)
    exact RetK.empty (okF.wv trivial)
  | succ m =>
    conv => whnf
    refine And.intro (by show (m + 1) * 24 ≤ _; omega) ?_
    conv => whnf
    have ka := c44 c 0 _ _ hp (by omega) (fun i hi => by omega) (by omega) hlo
    have kb := c44 c (m + 1) f' xs' hp' (by omega) hx2 (by omega) hlo
    have kd := c46 c (upF c xs' (m + 1)) (m + 1) f' xs' hp' (by omega) hx2 (by omega) hlo
    rw [upF_zero] at ka
    rw [if_pos rfl] at kd
    obtain ⟨en, hen⟩ : ∃ en, upF c xs' (m + 1) = en := ⟨_, rfl⟩
    rw [hen] at kb kd
    have k1 := ka.lend (cs := [vCh c, .s (.lf .sl0)]) (fun _ => True) [some (obCh c), some ⟨41, [.recs 1 (m + 1) f']⟩] ⟨freeF.wv ⟨trivial, trivial, trivial⟩, WV.lf WL.sl0ro, trivial⟩ (plainF.wv ⟨trivial, trivial, trivial⟩)
    have k2 := kb.lend (cs := [vCh c, vP (m + 1) f']) (fun _ => True) [some (obCh c), some ⟨41, [.recs 1 (m + 1) f']⟩] ⟨freeF.wv ⟨trivial, trivial, trivial⟩, WV.lf (hwP' _ inferInstance), trivial⟩ (plainF.wv ⟨trivial, trivial, trivial⟩)
    have k3 := kb.lend (cs := [vCh c, .s (.lf (.own 1 0 1 0 (m + 1)))]) (fun _ => False) [some (obCh c), some ⟨41, [.recs 1 (m + 1) f']⟩, some (obCh en)] ⟨freeF.wv ⟨trivial, trivial, trivial⟩, WV.lf (WL.lentP (ty := 41) rfl hp' ⟨fun h => h, fun i ob h => by simp at h⟩), trivial⟩ (plainF.wv ⟨trivial, trivial, trivial⟩)
    have k4 := kd.lend (cs := [vCh c, .s (.lf (.own 1 0 1 0 (m + 1))), vCh en]) (fun _ => False) [some (obCh c), some ⟨41, [.recs 1 (m + 1) f']⟩, some (obCh en)] ⟨freeF.wv ⟨trivial, trivial, trivial⟩, WV.lf (WL.lentP (ty := 41) rfl hp' ⟨fun h => h, fun i ob h => by simp at h⟩), freeF.wv ⟨trivial, trivial, trivial⟩, trivial⟩ (plainF.wv trivial)
    have k5 := c41.free [some (obCh c), some ⟨41, [.recs 1 (m + 1) f']⟩, some (obCh en)] trivial trivial
    refine CallK.mk' _ _ k1 ?_
    conv => whnf
    refine CallK.mk' _ _ k2 ?_
    conv => whnf
    refine DrawK.mk1 tok mixed [0, 0, 3, 0, 15, 31, 63, 63, 63, 511, 1023, 2047, 4095, 8191, 16383, 32767] [(1, 0, []), (0, 1, [0]), (2, 1, [0]), (3, 1, [0]), (4, 1, [0]), (5, 0, []), (7, 0, []), (6, 1, [0]), (8, 1, [0]), (9, 1, [0]), (10, 0, []), (11, 0, []), (12, 0, []), (13, 1, [0]), (14, 0, []), (15, 0, [])] (by kernel_rfl) ?_
    conv => whnf
    repeat ((first | refine CaseB.of_true (chEq_t rfl) ?_ | refine CallR.mk' _ k3 ?_ | refine CallR.mk' _ k4 ?_ | refine CallR.mk' _ k5 ?_ | refine CaseB.of_true (decide_eq_true rfl) ?_); conv => whnf)
    exact RetK.empty (okF.wv trivial)
end Go.Sym.Md
