/- Contracts of the program's functions, proved by the framework (text MdOb), without conditions but those that each theorem states. -/
import Derived.Test.YtlmcdgbjbamdnaaMdOa
set_option linter.unusedVariables false
set_option linter.unusedSimpArgs false
set_option maxRecDepth 10000
namespace Go.Sym.Md
open Go Go.Sym

/-! ### What was written is read again, and what was read was so written -/
theorem sz_lt {n : Nat} (hn : n < 9223372036854775808) : n < 128 ^ sz n := by
  unfold sz
  repeat' split
  all_goals (simp; omega)
theorem sz_ge {n : Nat} : sz n = 1 ∨ 128 ^ (sz n - 1) ≤ n := by
  unfold sz
  repeat' split
  all_goals first | (left; rfl) | (right; simp; omega)

theorem numF_at (n i : Nat) (t : List UInt8) (h : i < sz n) : (numF n ++ t).getD i 0 = gB n (sz n - 1 - i) := by
  rw [List.getD_eq_getElem?_getD, List.getElem?_append_left (by rw [numF_length]; exact h)]
  simp [numF, nF, h]

theorem gB_val (n i : Nat) : (gB n i).toNat % 128 = n / 128 ^ i % 128 ∧ (i ≠ 0 → 128 ≤ (gB n i).toNat ∧ ((gB n i).toNat = 128 → n / 128 ^ i % 128 = 0)) ∧ (i = 0 → (gB n i).toNat < 128) := by
  unfold gB
  by_cases h : i = 0
  · subst h
    rw [if_pos rfl, UInt8.toNat_ofNat']
    have : n % 128 % 2 ^ 8 = n % 128 := Nat.mod_eq_of_lt (by omega)
    rw [this, Nat.pow_zero, Nat.div_one]
    omega
  · rw [if_neg h, UInt8.toNat_ofNat']
    have : (n / 128 ^ i % 128 + 128) % 2 ^ 8 = n / 128 ^ i % 128 + 128 := Nat.mod_eq_of_lt (by omega)
    rw [this]
    omega

theorem valF_num (n : Nat) (t : List UInt8) (hn : n < 9223372036854775808) : ∀ i, i ≤ sz n → valF (numF n ++ t) i = n / 128 ^ (sz n - i) := by
  intro i hi
  induction i with
  | zero => rw [valF_zero, Nat.sub_zero, Nat.div_eq_of_lt (sz_lt hn)]
  | succ i ih =>
    rw [valF_succ _ _ (by rw [List.length_append, numF_length]; omega), ih (by omega), numF_at n i t (by omega), (gB_val n _).1]
    rw [show sz n - i = (sz n - (i + 1)) + 1 by omega, Nat.pow_succ, ← Nat.div_div_eq_div_mul, show sz n - 1 - i = sz n - (i + 1) by omega]
    omega

theorem wF_num (n : Nat) (t : List UInt8) (hn : n < 9223372036854775808) : ∀ d i, d = sz n - 1 - i → i < sz n → wF ((numF n ++ t).drop i) i = (sz n, 0) := by
  intro d
  have h9 := sz_le n
  induction d with
  | zero =>
    intro i hd hi
    have hb := gB_val n (sz n - 1 - i)
    have h0 : sz n - 1 - i = 0 := by omega
    rw [wF_step _ _ (by rw [List.length_append, numF_length]; omega), numF_at n i t hi, h0]
    rw [h0] at hb
    have := hb.2.2 rfl
    rw [if_neg (by omega), if_pos this]
    congr 1
    omega
  | succ d ih =>
    intro i hd hi
    have hb := gB_val n (sz n - 1 - i)
    have h1 := hb.2.1 (by omega)
    rw [wF_step _ _ (by rw [List.length_append, numF_length]; omega), numF_at n i t hi]
    have hne : ¬ ((i = 0 ∧ (gB n (sz n - 1 - i)).toNat = 128) ∨ (i = 8 ∧ 128 ≤ (gB n (sz n - 1 - i)).toNat)) := by
      rintro (⟨rfl, h⟩ | ⟨rfl, h⟩)
      · have hz := h1.2 h
        rw [Nat.sub_zero] at hz
        rcases sz_ge (n := n) with hs | hs
        · omega
        · have hlt := sz_lt hn
          rw [show sz n = (sz n - 1) + 1 by omega, Nat.pow_succ] at hlt
          have : 1 ≤ n / 128 ^ (sz n - 1) := (Nat.le_div_iff_mul_le (Nat.pow_pos (by omega))).2 (by omega)
          have : n / 128 ^ (sz n - 1) < 128 := (Nat.div_lt_iff_lt_mul (Nat.pow_pos (by omega))).2 (by omega)
          omega
      · omega
    rw [if_neg hne, if_neg (by omega)]
    exact ih (i + 1) (by omega) (by omega)

theorem numR_num (n : Nat) (t : List UInt8) (most : Int) (hn : n < 9223372036854775808) (hm : (n : Int) ≤ most) : numR ⟨numF n ++ t, 0⟩ most = ((n : Int), ⟨t, 0⟩) := by
  have h1 := sz_pos n
  have hw := wF_num n t hn (sz n - 1) 0 (by omega) (by omega)
  rw [List.drop_zero] at hw
  have hv := valF_num n t hn (sz n) (Nat.le_refl _)
  rw [Nat.sub_self, Nat.pow_zero, Nat.div_one] at hv
  unfold numR
  rw [if_neg (fun h => h rfl)]
  simp only [hw, hv]
  rw [if_neg (fun h => h rfl), if_neg (by omega), List.drop_left' (numF_length n)]

theorem textR_text (s t : List UInt8) (most : Int) (hn : s.length < 9223372036854775808) (hm : (s.length : Int) ≤ most) : textR ⟨numF s.length ++ s ++ t, 0⟩ most = (s, ⟨t, 0⟩) := by
  unfold textR
  rw [List.append_assoc, numR_num _ _ _ hn hm]
  simp

theorem wF_inv (l : List UInt8) (w : Nat) : ∀ d i, d = l.length - i → i ≤ l.length → i ≤ 8 → wF (l.drop i) i = (w, 0) → i < w ∧ w ≤ l.length ∧ w ≤ 9 ∧ (∀ j, i ≤ j → j + 1 < w → 128 ≤ (l.getD j 0).toNat) ∧ (l.getD (w - 1) 0).toNat < 128 ∧ (i = 0 → (l.getD 0 0).toNat ≠ 128) := by
  intro d
  induction d with
  | zero =>
    intro i hd hi h8 hw
    rw [show i = l.length by omega, List.drop_length] at hw
    simp [wF] at hw
  | succ d ih =>
    intro i hd hi h8 hw
    rw [wF_step l i (by omega)] at hw
    by_cases hc : (i = 0 ∧ (l.getD i 0).toNat = 128) ∨ (i = 8 ∧ 128 ≤ (l.getD i 0).toNat)
    · rw [if_pos hc] at hw; simp at hw
    · rw [if_neg hc] at hw
      by_cases hx : (l.getD i 0).toNat < 128
      · rw [if_pos hx] at hw
        simp only [Prod.mk.injEq, and_true] at hw
        subst hw
        refine ⟨by omega, by omega, by omega, fun j h1 h2 => by omega, by rw [Nat.add_sub_cancel]; exact hx, fun h => ?_⟩
        subst h; omega
      · rw [if_neg hx] at hw
        obtain ⟨g1, g2, g3, g4, g5, g6⟩ := ih (i + 1) (by omega) (by omega) (by omega) hw
        refine ⟨by omega, g2, g3, fun j h1 h2 => ?_, g5, fun h => ?_⟩
        · by_cases hj : j = i
          · subst hj; omega
          · exact g4 j (by omega) h2
        · subst h; omega

theorem valF_up (l : List UInt8) (w : Nat) (hw : w ≤ l.length) : ∀ d j, d = w - j → j ≤ w → valF l j = valF l w / 128 ^ (w - j) := by
  intro d
  induction d with
  | zero => intro j hd hj; rw [show j = w by omega, Nat.sub_self, Nat.pow_zero, Nat.div_one]
  | succ d ih =>
    intro j hd hj
    have := ih (j + 1) (by omega) (by omega)
    rw [valF_succ l j (by omega)] at this
    rw [show w - j = (w - (j + 1)) + 1 by omega, Nat.pow_succ, ← Nat.div_div_eq_div_mul, ← this]
    omega

theorem valF_first (l : List UInt8) : ∀ j, 1 ≤ j → j ≤ l.length → (l.getD 0 0).toNat % 128 * 128 ^ (j - 1) ≤ valF l j := by
  intro j hj hl
  induction j with
  | zero => omega
  | succ j ih =>
    rw [valF_succ l j (by omega)]
    by_cases h0 : j = 0
    · subst h0; simp
    · have := ih (by omega) (by omega)
      rw [show j + 1 - 1 = (j - 1) + 1 by omega, Nat.pow_succ, ← Nat.mul_assoc]
      omega

theorem wF_num_back (l : List UInt8) (w : Nat) (h : wF l 0 = (w, 0)) : valF l w < 9223372036854775808 ∧ l = numF (valF l w) ++ l.drop w := by
  obtain ⟨g1, g2, g3, g4, g5, g6⟩ := wF_inv l w l.length 0 (by omega) (by omega) (by omega) (by rw [List.drop_zero]; exact h)
  have hlt := valF_lt l w g2
  have hsm := valF_small l w g2 g3
  have hs : sz (valF l w) = w := by
    by_cases h1 : w = 1
    · subst h1
      rw [valF_succ l 0 (by omega), valF_zero]
      exact sz_small (by omega)
    · have hf := valF_first l w (by omega) g2
      have hx := g4 0 (by omega) (by omega)
      have hne := g6 rfl
      have hb : (l.getD 0 0).toNat < 256 := UInt8.toNat_lt _
      have : 128 ^ (w - 1) ≤ valF l w := by
        have h2 : 1 * 128 ^ (w - 1) ≤ (l.getD 0 0).toNat % 128 * 128 ^ (w - 1) := Nat.mul_le_mul_right _ (by omega)
        omega
      have := sz_of (n := valF l w) (k := w - 1) (by omega) (.inr this) (by rw [show w - 1 + 1 = w by omega]; exact hlt)
      omega
  refine ⟨hsm, ?_⟩
  have hlen : (numF (valF l w)).length = w := by rw [numF_length, hs]
  have key : numF (valF l w) = l.take w := by
    apply List.ext_getElem
    · rw [hlen, List.length_take]; omega
    · intro i h1 h2
      have hi : i < w := by omega
      have e1 : (numF (valF l w))[i] = gB (valF l w) (w - 1 - i) := by
        have := numF_at (valF l w) i [] (by omega)
        rw [List.append_nil, List.getD_eq_getElem?_getD, List.getElem?_eq_getElem h1, hs] at this
        simpa using this
      have e2 : (l.take w)[i] = l.getD i 0 := by
        rw [List.getElem_take, List.getD_eq_getElem?_getD, List.getElem?_eq_getElem (by omega)]
        rfl
      rw [e1, e2]
      have hu := valF_up l w g2 (w - (i + 1)) (i + 1) (by omega) (by omega)
      rw [valF_succ l i (by omega), show w - (i + 1) = w - 1 - i by omega] at hu
      have hb : (l.getD i 0).toNat < 256 := UInt8.toNat_lt _
      apply UInt8.toNat_inj.1
      have hg := gB_val (valF l w) (w - 1 - i)
      have hgb : (gB (valF l w) (w - 1 - i)).toNat < 256 := UInt8.toNat_lt _
      rw [← hu] at hg
      by_cases hl : w - 1 - i = 0
      · have h3 := hg.2.2 hl
        rw [show w - 1 = i by omega] at g5
        omega
      · have h3 := hg.2.1 hl
        have h4 := g4 i (by omega) (by omega)
        omega
  rw [key, List.take_append_drop]

theorem numR_back {l : List UInt8} {most z : Int} {t : List UInt8} (h : numR ⟨l, 0⟩ most = (z, ⟨t, 0⟩)) : 0 ≤ z ∧ z ≤ most ∧ z < 9223372036854775808 ∧ l = numF z.toNat ++ t := by
  unfold numR at h
  rw [if_neg (fun h => h rfl)] at h
  by_cases he : (wF l 0).2 = 0
  · rw [if_neg (fun h => h he)] at h
    obtain ⟨w, hw⟩ : ∃ w, wF l 0 = (w, 0) := ⟨(wF l 0).1, by rw [← he]⟩
    obtain ⟨h1, h2⟩ := wF_num_back l w hw
    simp only [hw] at h
    by_cases hm : most < (valF l w : Int)
    · rw [if_pos hm] at h; simp at h
    · rw [if_neg hm] at h
      simp only [Prod.mk.injEq, Rd.mk.injEq, and_true] at h
      obtain ⟨rfl, rfl⟩ := h
      rw [Int.toNat_natCast]
      exact ⟨by omega, by omega, by omega, h2⟩
  · rw [if_pos he] at h
    simp only [Prod.mk.injEq, Rd.mk.injEq] at h
    exact absurd h.2.2 he

theorem textR_back {l s t : List UInt8} {most : Int} (h : textR ⟨l, 0⟩ most = (s, ⟨t, 0⟩)) : (s.length : Int) ≤ most ∧ l = numF s.length ++ s ++ t := by
  unfold textR at h
  obtain ⟨p, hp⟩ : ∃ p, numR ⟨l, 0⟩ most = p := ⟨_, rfl⟩
  obtain ⟨z, r⟩ := p
  rw [hp] at h
  simp only [] at h
  by_cases he : r.e = 0
  · rw [if_neg (fun h => h he)] at h
    obtain ⟨rl, re⟩ := r
    simp only [] at he h
    subst he
    obtain ⟨h1, h2, h3, h4⟩ := numR_back hp
    by_cases hl : rl.length < z.toNat
    · rw [if_pos hl] at h; simp at h
    · rw [if_neg hl] at h
      simp only [Prod.mk.injEq, Rd.mk.injEq, and_true] at h
      obtain ⟨rfl, rfl⟩ := h
      have : (rl.take z.toNat).length = z.toNat := by rw [List.length_take]; omega
      rw [this, List.append_assoc, List.take_append_drop]
      exact ⟨by omega, h4⟩
  · rw [if_pos he] at h
    simp only [Prod.mk.injEq] at h
    rw [h.2] at he
    exact absurd rfl he
end Go.Sym.Md
