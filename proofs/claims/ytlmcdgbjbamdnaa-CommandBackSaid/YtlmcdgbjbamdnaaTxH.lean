/- Contracts of the program's functions, proved by the framework (text TxH), without conditions but those that each theorem states. -/
import Derived.Test.YtlmcdgbjbamdnaaTxG
set_option linter.unusedVariables false
set_option linter.unusedSimpArgs false
set_option maxRecDepth 10000
namespace Go.Sym.Md
open Go Go.Sym

/-! ### A command's bytes, read back -/
def bytesPc (p : PcV) : List UInt8 := numF p.s.length ++ p.s ++ numZ p.z
theorem numZ_nat (n : Nat) : numZ (n : Int) = numF n := by
  unfold numZ
  rw [show (max (n : Int) 0).toNat = n by omega]
theorem numZ_pos {z : Int} (h : 0 ≤ z) : numZ z = numF z.toNat := by
  unfold numZ
  rw [show max z 0 = z by omega]
theorem numR_Z {z m : Int} {t : List UInt8} (h0 : 0 ≤ z) (h1 : z ≤ m) (h2 : z < 9223372036854775808) : numR ⟨numZ z ++ t, 0⟩ m = (z, ⟨t, 0⟩) := by
  rw [numZ_pos h0, numR_num z.toNat t m (by omega) (by omega)]
  rw [show ((z.toNat : Nat) : Int) = z by omega]
theorem putPs_flat : ∀ (ps : List PcV) (b : List UInt8), ps.foldl putPc b = b ++ ps.flatMap bytesPc
  | [], b => by simp
  | p :: ps, b => by
    rw [List.foldl_cons, putPs_flat ps, List.flatMap_cons]
    unfold putPc bytesPc
    simp [List.append_assoc]
theorem okCs_all : ∀ {cs : List CV}, okCs cs = true → ∀ c ∈ cs, okV c = true
  | [], _, c, hc => by simp at hc
  | v :: l, h, c, hc => by
    unfold okCs at h
    simp only [Bool.and_eq_true] at h
    rcases List.mem_cons.1 hc with rfl | hc
    · exact h.1
    · exact okCs_all h.2 c hc
theorem allP_all : ∀ {ps : List PcV}, allP ps = true → ∀ p ∈ ps, okP p = true
  | [], _, c, hc => by simp at hc
  | v :: l, h, c, hc => by
    unfold allP at h
    simp only [Bool.and_eq_true] at h
    rcases List.mem_cons.1 hc with rfl | hc
    · exact h.1
    · exact allP_all h.2 c hc

theorem enc_flat {c : CmS} (h : okM c = true) : encM c = numZ c.cl ++ (numZ c.sq ++ (numZ c.kd ++ (numZ c.id ++ (numZ c.ep ++ (numF c.cs.length ++ (c.cs.flatMap bytesC ++ (numF c.sp.length ++ c.sp ++ (numF c.nm.length ++ c.nm ++ (numZ c.nu ++ (numZ c.by' ++ (numZ c.tm ++ (numF c.ps.length ++ (c.ps.flatMap bytesPc ++ []))))))))))))) := by
  obtain ⟨_, _, h3, _⟩ := okM_facts h
  have hC := codeC_all c.cs (okCs_all h3)
  unfold encM putPs textsF
  rw [putPs_flat, numZ_nat, hC]
  simp only [numsF, rv, List.append_assoc, List.nil_append, List.append_nil]

theorem okP_facts {p : PcV} (h : okP p = true) : p.s.length = 32 ∧ 1 ≤ p.z ∧ p.z ≤ 256 := by
  simp only [okP, Bool.and_eq_true, decide_eq_true_eq] at h
  exact ⟨by omega, h.2.1, h.2.2⟩
theorem readP_bytes (p : PcV) (t : List UInt8) (h : okP p = true) : readP ⟨bytesPc p ++ t, 0⟩ = (p, ⟨t, 0⟩) := by
  obtain ⟨h1, h2, h3⟩ := okP_facts h
  have e : bytesPc p ++ t = numF p.s.length ++ p.s ++ (numZ p.z ++ t) := by unfold bytesPc; simp [List.append_assoc]
  unfold readP
  rw [e, textR_text _ _ _ (by omega) (by omega)]
  simp only []
  rw [numR_Z (by omega) (by omega) (by omega)]
  have ep : (⟨p.s, p.z⟩ : PcV) = p := by cases p; rfl
  simp only [ep]
  rw [if_pos h]
theorem readsP_bytes : ∀ (ps : List PcV) (t : List UInt8), (∀ p ∈ ps, okP p = true) → readsP ps.length ⟨ps.flatMap bytesPc ++ t, 0⟩ = (ps, ⟨t, 0⟩)
  | [], t, _ => by simp [readsP]
  | p :: ps, t, h => by
    rw [List.length_cons, readsP, if_neg (fun h => h rfl), List.flatMap_cons, List.append_assoc, readP_bytes p _ (h p (by simp))]
    simp only []
    rw [readsP_bytes ps t (fun c hc => h c (by simp [hc]))]

theorem row_facts {c : CmS} (h : okM c = true) : (0 ≤ c.cl ∧ c.cl ≤ 7) ∧ (1 ≤ c.sq ∧ c.sq ≤ 2147483648) ∧ (1 ≤ c.kd ∧ c.kd ≤ 14) ∧ (1 ≤ c.id ∧ c.id ≤ 2147483648) ∧ (0 ≤ c.ep ∧ c.ep ≤ 2147483648) ∧ (0 ≤ c.nu ∧ c.nu ≤ 2147483648) ∧ (0 ≤ c.by' ∧ c.by' ≤ 1099511627776) ∧ (0 ≤ c.tm ∧ c.tm ≤ 1099511627776) := by
  obtain ⟨h1, _⟩ := okM_facts h
  have g := fun k hk => of_decide_eq_true (okR_get h1 k hk)
  exact ⟨g 0 (by decide), g 1 (by decide), g 2 (by decide), g 3 (by decide), g 4 (by decide), g 5 (by decide), g 6 (by decide), g 7 (by decide)⟩

theorem tkR_one (off : Nat) (r : Rd) (k : Nat) : tkR off r (k + 1) = (numR (tkR off r k) (rhigh (off + k))).2 := rfl

/-- What was written is read. -/
theorem decM_enc {c : CmS} (h : okM c = true) : decM (encM c) = (c, 0) := by
  obtain ⟨⟨a1, a2⟩, ⟨b1, b2⟩, ⟨c1, c2⟩, ⟨d1, d2⟩, ⟨e1, e2⟩, ⟨f1, f2⟩, ⟨g1, g2⟩, ⟨i1, i2⟩⟩ := row_facts h
  obtain ⟨h1, h2, h3, h4, h5, h6, h7⟩ := okM_facts h
  have hs1 := textOk_len h4
  have hs2 := textOk_len h5
  obtain ⟨b, hb⟩ : ∃ b, encM c = b := ⟨_, rfl⟩
  have hf := enc_flat h
  rw [hb] at hf ⊢
  obtain ⟨x12, hx12⟩ : ∃ x, numF c.ps.length ++ (c.ps.flatMap bytesPc ++ []) = x := ⟨_, rfl⟩
  obtain ⟨x11, hx11⟩ : ∃ x, numZ c.tm ++ x12 = x := ⟨_, rfl⟩
  obtain ⟨x10, hx10⟩ : ∃ x, numZ c.by' ++ x11 = x := ⟨_, rfl⟩
  obtain ⟨x9, hx9⟩ : ∃ x, numZ c.nu ++ x10 = x := ⟨_, rfl⟩
  obtain ⟨x8, hx8⟩ : ∃ x, numF c.nm.length ++ c.nm ++ x9 = x := ⟨_, rfl⟩
  obtain ⟨x7, hx7⟩ : ∃ x, numF c.sp.length ++ c.sp ++ x8 = x := ⟨_, rfl⟩
  obtain ⟨x6, hx6⟩ : ∃ x, c.cs.flatMap bytesC ++ x7 = x := ⟨_, rfl⟩
  obtain ⟨x5, hx5⟩ : ∃ x, numF c.cs.length ++ x6 = x := ⟨_, rfl⟩
  obtain ⟨x4, hx4⟩ : ∃ x, numZ c.ep ++ x5 = x := ⟨_, rfl⟩
  obtain ⟨x3, hx3⟩ : ∃ x, numZ c.id ++ x4 = x := ⟨_, rfl⟩
  obtain ⟨x2, hx2⟩ : ∃ x, numZ c.kd ++ x3 = x := ⟨_, rfl⟩
  obtain ⟨x1, hx1⟩ : ∃ x, numZ c.sq ++ x2 = x := ⟨_, rfl⟩
  rw [hx12, hx11, hx10, hx9, hx8, hx7, hx6, hx5, hx4, hx3, hx2, hx1] at hf
  have t1 : numR ⟨b, 0⟩ 7 = (c.cl, ⟨x1, 0⟩) := by rw [hf]; exact numR_Z a1 a2 (by omega)
  have r1 : tkR 0 ⟨b, 0⟩ 1 = ⟨x1, 0⟩ := by rw [tkR_one]; show (numR ⟨b, 0⟩ 7).2 = _; rw [t1]
  have t2 : numR ⟨x1, 0⟩ 2147483648 = (c.sq, ⟨x2, 0⟩) := by rw [← hx1]; exact numR_Z (by omega) b2 (by omega)
  have r2 : tkR 0 ⟨b, 0⟩ 2 = ⟨x2, 0⟩ := by rw [tkR_one, r1]; show (numR ⟨x1, 0⟩ 2147483648).2 = _; rw [t2]
  have t3 : numR ⟨x2, 0⟩ 14 = (c.kd, ⟨x3, 0⟩) := by rw [← hx2]; exact numR_Z (by omega) c2 (by omega)
  have r3 : tkR 0 ⟨b, 0⟩ 3 = ⟨x3, 0⟩ := by rw [tkR_one, r2]; show (numR ⟨x2, 0⟩ 14).2 = _; rw [t3]
  have t4 : numR ⟨x3, 0⟩ 2147483648 = (c.id, ⟨x4, 0⟩) := by rw [← hx3]; exact numR_Z (by omega) d2 (by omega)
  have r4 : tkR 0 ⟨b, 0⟩ 4 = ⟨x4, 0⟩ := by rw [tkR_one, r3]; show (numR ⟨x3, 0⟩ 2147483648).2 = _; rw [t4]
  have t5 : numR ⟨x4, 0⟩ 2147483648 = (c.ep, ⟨x5, 0⟩) := by rw [← hx4]; exact numR_Z e1 e2 (by omega)
  have r5 : tkR 0 ⟨b, 0⟩ 5 = ⟨x5, 0⟩ := by rw [tkR_one, r4]; show (numR ⟨x4, 0⟩ 2147483648).2 = _; rw [t5]
  have hA : cvR b = (c.cs, ⟨x7, 0⟩) := by
    unfold cvR hdR allC
    rw [r5, ← hx5, numR_num _ _ _ (by omega) (by omega)]
    simp only [Int.toNat_natCast]
    rw [← hx6]
    exact readsC_bytes c.cs _ (okCs_all h3)
  have hS : spR b = (c.sp, ⟨x8, 0⟩) := by unfold spR; rw [hA, ← hx7]; exact textR_text _ _ _ (by omega) (by omega)
  have hN : nmR b = (c.nm, ⟨x9, 0⟩) := by unfold nmR; rw [hS, ← hx8]; exact textR_text _ _ _ (by omega) (by omega)
  have u1 : numR ⟨x9, 0⟩ 2147483648 = (c.nu, ⟨x10, 0⟩) := by rw [← hx9]; exact numR_Z f1 f2 (by omega)
  have v1 : tkR 5 ⟨x9, 0⟩ 1 = ⟨x10, 0⟩ := by rw [tkR_one]; show (numR ⟨x9, 0⟩ 2147483648).2 = _; rw [u1]
  have u2 : numR ⟨x10, 0⟩ 1099511627776 = (c.by', ⟨x11, 0⟩) := by rw [← hx10]; exact numR_Z g1 g2 (by omega)
  have v2 : tkR 5 ⟨x9, 0⟩ 2 = ⟨x11, 0⟩ := by rw [tkR_one, v1]; show (numR ⟨x10, 0⟩ 1099511627776).2 = _; rw [u2]
  have u3 : numR ⟨x11, 0⟩ 1099511627776 = (c.tm, ⟨x12, 0⟩) := by rw [← hx11]; exact numR_Z i1 i2 (by omega)
  have v3 : tkR 5 ⟨x9, 0⟩ 3 = ⟨x12, 0⟩ := by rw [tkR_one, v2]; show (numR ⟨x11, 0⟩ 1099511627776).2 = _; rw [u3]
  have hP : psR b = (c.ps, ⟨[], 0⟩) := by
    unfold psR tlR allPc
    rw [hN, v3, ← hx12, numR_num _ _ _ (by omega) (by omega)]
    simp only [Int.toNat_natCast]
    exact readsP_bytes c.ps _ (allP_all h7)
  have hc : cmR b (cvR b).1 = c := by
    unfold cmR
    simp only [tk0, (tk5' _).1, (tk5' _).2.1, (tk5' _).2.2, hA, hS, hN, hP, r1, r2, r3, r4, v1, v2, tkR_z, t1, t2, t3, t4, t5, u1, u2, u3]
    have hk : keptP (c.ps, (⟨[], 0⟩ : Rd)) = c.ps := by unfold keptP; rw [if_neg (fun h => h rfl)]
    rw [hk]
  unfold decM finM
  rw [hc, hP]
  rw [if_neg (fun h => h rfl), if_pos h]
  have hz : endF (c.ps, (⟨[], 0⟩ : Rd)).2 = 0 := rfl
  rw [if_pos hz]

/-! ### Bytes that are a command are its bytes -/
theorem numR_bk {r : Rd} {m z : Int} {t : List UInt8} (h : numR r m = (z, ⟨t, 0⟩)) : ∃ l, r = ⟨l, 0⟩ ∧ 0 ≤ z ∧ l = numZ z ++ t := by
  by_cases he : r.e = 0
  · obtain ⟨l, e⟩ := r
    simp only [] at he
    subst he
    obtain ⟨g1, g2, g3, g4⟩ := numR_back h
    exact ⟨l, rfl, g1, by rw [numZ_pos g1]; exact g4⟩
  · rw [numR_stay he] at h
    simp only [Prod.mk.injEq] at h
    rw [h.2] at he
    exact absurd rfl he
theorem textR_bk {r : Rd} {m : Int} {s t : List UInt8} (h : textR r m = (s, ⟨t, 0⟩)) : ∃ l, r = ⟨l, 0⟩ ∧ l = numF s.length ++ s ++ t := by
  by_cases he : r.e = 0
  · obtain ⟨l, e⟩ := r
    simp only [] at he
    subst he
    exact ⟨l, rfl, (textR_back h).2⟩
  · rw [textR_stay he] at h
    simp only [Prod.mk.injEq] at h
    rw [h.2] at he
    exact absurd rfl he
theorem failR_e {r : Rd} : (failR r 3).e ≠ 0 := by
  by_cases h : r.e = 0
  · rw [failR_new h]; decide
  · rw [failR_err h]; exact h
theorem readP_back {l t : List UInt8} {p : PcV} (h : readP ⟨l, 0⟩ = (p, ⟨t, 0⟩)) : okP p = true ∧ l = bytesPc p ++ t := by
  unfold readP at h
  simp only [Prod.mk.injEq] at h
  obtain ⟨h1, h2⟩ := h
  rw [h1] at h2
  cases hok : okP p with
  | false =>
    rw [hok] at h2
    simp only [Bool.false_eq_true, if_false] at h2
    have := failR_e (r := (numR (textR ⟨l, 0⟩ 32).2 256).2)
    rw [h2] at this
    exact absurd rfl this
  | true =>
    rw [hok] at h2
    simp only [if_true] at h2
    refine ⟨rfl, ?_⟩
    obtain ⟨a, ha⟩ : ∃ a, textR ⟨l, 0⟩ 32 = a := ⟨_, rfl⟩
    obtain ⟨s, r1⟩ := a
    rw [ha] at h1 h2
    obtain ⟨a, hb⟩ : ∃ a, numR r1 256 = a := ⟨_, rfl⟩
    obtain ⟨z, r2⟩ := a
    simp only [hb] at h1 h2
    subst h2
    obtain ⟨l1, e1, g1, g2⟩ := numR_bk hb
    subst e1
    obtain ⟨l0, e0, g3⟩ := textR_bk ha
    simp only [Rd.mk.injEq, and_true] at e0
    subst e0
    rw [← h1]
    unfold bytesPc
    rw [g3, g2]
    simp [List.append_assoc]
theorem readsP_back : ∀ (n : Nat) {l t : List UInt8} {ps : List PcV}, readsP n ⟨l, 0⟩ = (ps, ⟨t, 0⟩) → ps.length = n ∧ l = ps.flatMap bytesPc ++ t
  | 0, l, t, ps, h => by
    simp only [readsP, Prod.mk.injEq, Rd.mk.injEq, and_true] at h
    obtain ⟨rfl, rfl⟩ := h
    simp
  | n + 1, l, t, ps, h => by
    rw [readsP, if_neg (fun h => h rfl)] at h
    obtain ⟨p, hp⟩ : ∃ p, readP ⟨l, 0⟩ = p := ⟨_, rfl⟩
    obtain ⟨c, r⟩ := p
    rw [hp] at h
    simp only [] at h
    obtain ⟨q, hq⟩ : ∃ q, readsP n r = q := ⟨_, rfl⟩
    obtain ⟨ds, r2⟩ := q
    rw [hq] at h
    simp only [Prod.mk.injEq] at h
    obtain ⟨rfl, rfl⟩ := h
    have he : r.e = 0 := by
      by_cases h : r.e = 0
      · exact h
      · rw [readsP_err n h] at hq
        simp only [Prod.mk.injEq] at hq
        rw [hq.2] at h
        exact absurd rfl h
    obtain ⟨rl, re⟩ := r
    simp only [] at he
    subst he
    obtain ⟨g1, g2⟩ := readP_back hp
    obtain ⟨k1, k2⟩ := readsP_back n hq
    exact ⟨by simp [k1], by rw [g2, k2, List.flatMap_cons, List.append_assoc]⟩

theorem rd_eta (r : Rd) (h : r.e = 0) : r = ⟨r.l, 0⟩ := by cases r; simp only [] at h; subst h; rfl
theorem numR_bk2 {r : Rd} {m : Int} {t : List UInt8} (h : (numR r m).2 = ⟨t, 0⟩) : ∃ l, r = ⟨l, 0⟩ ∧ 0 ≤ (numR r m).1 ∧ l = numZ (numR r m).1 ++ t :=
  numR_bk (z := (numR r m).1) (Prod.ext rfl h)
theorem textR_bk2 {r : Rd} {m : Int} {t : List UInt8} (h : (textR r m).2 = ⟨t, 0⟩) : ∃ l, r = ⟨l, 0⟩ ∧ l = numF (textR r m).1.length ++ (textR r m).1 ++ t :=
  textR_bk (s := (textR r m).1) (Prod.ext rfl h)
theorem rh_v : rhigh (0 + 0) = 7 ∧ rhigh (0 + 1) = 2147483648 ∧ rhigh (0 + 2) = 14 ∧ rhigh (0 + 3) = 2147483648 ∧ rhigh (0 + 4) = 2147483648 ∧ rhigh (5 + 0) = 2147483648 ∧ rhigh (5 + 1) = 1099511627776 ∧ rhigh (5 + 2) = 1099511627776 := by decide
theorem tk_0_0 (r : Rd) : tkR 0 r 1 = (numR (tkR 0 r 0) 7).2 := by rw [tkR_one, rh_v.1]
theorem tk_0_1 (r : Rd) : tkR 0 r 2 = (numR (tkR 0 r 1) 2147483648).2 := by rw [tkR_one, rh_v.2.1]
theorem tk_0_2 (r : Rd) : tkR 0 r 3 = (numR (tkR 0 r 2) 14).2 := by rw [tkR_one, rh_v.2.2.1]
theorem tk_0_3 (r : Rd) : tkR 0 r 4 = (numR (tkR 0 r 3) 2147483648).2 := by rw [tkR_one, rh_v.2.2.2.1]
theorem tk_0_4 (r : Rd) : tkR 0 r 5 = (numR (tkR 0 r 4) 2147483648).2 := by rw [tkR_one, rh_v.2.2.2.2.1]
theorem tk_5_0 (r : Rd) : tkR 5 r 1 = (numR (tkR 5 r 0) 2147483648).2 := by rw [tkR_one, rh_v.2.2.2.2.2.1]
theorem tk_5_1 (r : Rd) : tkR 5 r 2 = (numR (tkR 5 r 1) 1099511627776).2 := by rw [tkR_one, rh_v.2.2.2.2.2.2.1]
theorem tk_5_2 (r : Rd) : tkR 5 r 3 = (numR (tkR 5 r 2) 1099511627776).2 := by rw [tkR_one, rh_v.2.2.2.2.2.2.2]
/-- A command that was read has these bytes. -/
theorem enc_dec {b : List UInt8} {c : CmS} (h : decM b = (c, 0)) : encF c = (b, 0) := by
  unfold decM finM at h
  by_cases he : (psR b).2.e = 0
  rotate_left
  · rw [if_pos he] at h
    simp only [Prod.mk.injEq] at h
    unfold endF at h
    by_cases hl : 0 < (psR b).2.l.length
    · rw [if_pos hl] at h; exact absurd h.2 (by decide)
    · rw [if_neg hl] at h; exact absurd h.2 he
  rw [if_neg (fun k => k he)] at h
  cases hok : okM (cmR b (cvR b).1) with
  | false => rw [hok] at h; simp only [Bool.false_eq_true, if_false, Prod.mk.injEq] at h; exact absurd h.2 (by decide)
  | true =>
  rw [hok, if_pos rfl] at h
  by_cases hz : endF (psR b).2 = 0
  rotate_left
  · rw [if_neg hz] at h; simp only [Prod.mk.injEq] at h; exact absurd h.2 hz
  rw [if_pos hz] at h
  simp only [Prod.mk.injEq, and_true] at h
  rw [h] at hok
  have hl : (psR b).2.l = [] := by
    unfold endF at hz
    by_cases hl : 0 < (psR b).2.l.length
    · rw [if_pos hl] at hz; exact absurd hz (by decide)
    · exact List.length_eq_zero_iff.1 (by omega)
  unfold encF
  rw [hok, if_pos rfl, enc_flat hok, ← h]
  -- the reads, from the last one on
  have hP : psR b = ((psR b).1, ⟨[], 0⟩) := by rw [← hl, ← rd_eta _ he]
  obtain ⟨Pp, hPe⟩ : ∃ Pp, (psR b).1 = Pp := ⟨_, rfl⟩
  rw [hPe] at hP
  have hP' : readsP (numR (tlR b) 8).1.toNat (numR (tlR b) 8).2 = (Pp, ⟨[], 0⟩) := hP
  obtain ⟨n, hn⟩ : ∃ n, numR (tlR b) 8 = n := ⟨_, rfl⟩
  obtain ⟨n, r⟩ := n
  rw [hn] at hP'
  have hr : r.e = 0 := by
    by_cases k : r.e = 0
    · exact k
    · rw [readsP_err _ k] at hP'
      simp only [Prod.mk.injEq] at hP'
      rw [hP'.2] at k
      exact absurd rfl k
  rw [rd_eta r hr] at hP' hn
  obtain ⟨p1, p2⟩ := readsP_back n.toNat hP'
  obtain ⟨x12, j12, n0, f12⟩ := numR_bk hn
  have hl12 : tkR 5 (nmR b).2 3 = ⟨x12, 0⟩ := j12
  have s12 : (numR (tkR 5 (nmR b).2 2) 1099511627776).2 = ⟨x12, 0⟩ := by rw [← tk_5_2]; exact hl12
  obtain ⟨x11, j11, _, f11⟩ := numR_bk2 s12
  have s11 : (numR (tkR 5 (nmR b).2 1) 1099511627776).2 = ⟨x11, 0⟩ := by rw [← tk_5_1]; exact j11
  obtain ⟨x10, j10, _, f10⟩ := numR_bk2 s11
  have s10 : (numR (tkR 5 (nmR b).2 0) 2147483648).2 = ⟨x10, 0⟩ := by rw [← tk_5_0]; exact j10
  obtain ⟨x9, j9, _, f9⟩ := numR_bk2 s10
  rw [tkR_z] at j9
  have s9 : (textR (spR b).2 16).2 = ⟨x9, 0⟩ := j9
  obtain ⟨x8, j8, f8⟩ := textR_bk2 s9
  have s8 : (textR (cvR b).2 16).2 = ⟨x8, 0⟩ := j8
  obtain ⟨x7, j7, f7⟩ := textR_bk2 s8
  have hA : readsC (numR (hdR b) 8).1.toNat (numR (hdR b) 8).2 = ((cvR b).1, ⟨x7, 0⟩) := Prod.ext rfl j7
  have hr6 : (numR (hdR b) 8).2.e = 0 := by
    by_cases k : (numR (hdR b) 8).2.e = 0
    · exact k
    · rw [readsC_err _ k] at hA
      simp only [Prod.mk.injEq] at hA
      rw [hA.2] at k
      exact absurd rfl k
  have s6 : (numR (hdR b) 8).2 = ⟨(numR (hdR b) 8).2.l, 0⟩ := rd_eta _ hr6
  rw [s6] at hA
  obtain ⟨c1, _, f6⟩ := readsC_back _ hA
  obtain ⟨x5, j5, m0, f5⟩ := numR_bk2 s6
  have s5 : (numR (tkR 0 ⟨b, 0⟩ 4) 2147483648).2 = ⟨x5, 0⟩ := by rw [← tk_0_4]; exact j5
  obtain ⟨x4, j4, _, f4⟩ := numR_bk2 s5
  have s4 : (numR (tkR 0 ⟨b, 0⟩ 3) 2147483648).2 = ⟨x4, 0⟩ := by rw [← tk_0_3]; exact j4
  obtain ⟨x3, j3, _, f3⟩ := numR_bk2 s4
  have s3 : (numR (tkR 0 ⟨b, 0⟩ 2) 14).2 = ⟨x3, 0⟩ := by rw [← tk_0_2]; exact j3
  obtain ⟨x2, j2, _, f2⟩ := numR_bk2 s3
  have s2 : (numR (tkR 0 ⟨b, 0⟩ 1) 2147483648).2 = ⟨x2, 0⟩ := by rw [← tk_0_1]; exact j2
  obtain ⟨x1, j1, _, f1⟩ := numR_bk2 s2
  have s1 : (numR (tkR 0 ⟨b, 0⟩ 0) 7).2 = ⟨x1, 0⟩ := by rw [← tk_0_0]; exact j1
  obtain ⟨x0, j0, _, f0⟩ := numR_bk2 s1
  have eb : b = x0 := by
    rw [tkR_z] at j0
    have : (⟨b, 0⟩ : Rd) = ⟨x0, 0⟩ := j0
    simpa using this
  have a0 : (cmR b (cvR b).1).cl = (numR (tkR 0 ⟨b, 0⟩ 0) 7).1 := by unfold cmR; simp only [tk0]
  have a1 : (cmR b (cvR b).1).sq = (numR (tkR 0 ⟨b, 0⟩ 1) 2147483648).1 := by unfold cmR; simp only [tk0]
  have a2 : (cmR b (cvR b).1).kd = (numR (tkR 0 ⟨b, 0⟩ 2) 14).1 := by unfold cmR; simp only [tk0]
  have a3 : (cmR b (cvR b).1).id = (numR (tkR 0 ⟨b, 0⟩ 3) 2147483648).1 := by unfold cmR; simp only [tk0]
  have a4 : (cmR b (cvR b).1).ep = (numR (tkR 0 ⟨b, 0⟩ 4) 2147483648).1 := by unfold cmR; simp only [tk0]
  have a5 : (cmR b (cvR b).1).nu = (numR (tkR 5 (nmR b).2 0) 2147483648).1 := by unfold cmR; simp only [(tk5' (nmR b).2).1]
  have a6 : (cmR b (cvR b).1).by' = (numR (tkR 5 (nmR b).2 1) 1099511627776).1 := by unfold cmR; simp only [(tk5' (nmR b).2).2.1]
  have a7 : (cmR b (cvR b).1).tm = (numR (tkR 5 (nmR b).2 2) 1099511627776).1 := by unfold cmR; simp only [(tk5' (nmR b).2).2.2]
  have a8 : (cmR b (cvR b).1).cs = (cvR b).1 := rfl
  have a9 : (cmR b (cvR b).1).sp = (textR (cvR b).2 16).1 := rfl
  have a10 : (cmR b (cvR b).1).nm = (textR (spR b).2 16).1 := rfl
  have a11 : (cmR b (cvR b).1).ps = (psR b).1 := by
    show keptP (psR b) = _
    unfold keptP
    rw [if_neg (fun k => k he)]
  rw [a0, a1, a2, a3, a4, a5, a6, a7, a8, a9, a10, a11, hPe]
  have g12 : numF Pp.length ++ (Pp.flatMap bytesPc ++ []) = x12 := by rw [f12, ← p2, p1, numZ_pos n0]
  have g5 : numF (cvR b).1.length ++ ((cvR b).1.flatMap bytesC ++ x7) = x5 := by rw [f5, ← f6, c1, numZ_pos m0]
  rw [g12, ← f11, ← f10, ← f9, ← f8, ← f7, g5, ← f4, ← f3, ← f2, ← f1, ← f0, ← eb]
end Go.Sym.Md


set_option linter.unusedVariables false
set_option linter.unusedSimpArgs false
set_option maxRecDepth 10000
namespace Go.Sym.Md
open Go Go.Sym
attribute [local irreducible] numF checkF hasF okC boundF numR textR readC okP tkR tkC decM encF checkM

set_option maxHeartbeats 8000000 in
/-- baileylaw23.CommandBack -/
theorem c23 (c : CmS) (b : List UInt8) (hcl : c.cs.length ≤ maxLen) (hpl : c.ps.length ≤ maxLen) (hbl : b.length ≤ maxLen) : SCalls Proofs.Try.prog 23 [vM c, .s (.lf (.rob false false b))] [] (.s (.lf .tt)) [] := by
  have hel := encF_len c
  obtain ⟨hdc, hdp⟩ := decM_len b
  have hm : maxLen = 9223372036854775807 := rfl
  refine SCalls.intro tok Proofs.Try.func23 ?_
  conv => whnf
  refine CallK.mk' _ _ ((c72 c hcl).free _ ⟨vM_free c, trivial⟩ trivial) ?_
  conv => whnf
  cases hf : fewM c with
  | false =>
    refine CaseB.of_true rfl ?_
    conv => whnf
    refine CallK.mk' _ _ (c51.free _ trivial trivial) ?_
    conv => whnf
    exact RetK.empty (okF.wv trivial)
  | true =>
  refine CaseB.of_false rfl ?_
  conv => whnf
  by_cases hb : 2000 < (b.length : Int)
  · refine CaseB.of_true (decide_eq_true hb) ?_
    conv => whnf
    refine CallK.mk' _ _ (c51.free _ trivial trivial) ?_
    conv => whnf
    exact RetK.empty (okF.wv trivial)
  refine CaseB.of_false (decide_eq_false hb) ?_
  conv => whnf
  have h110 := c110 c
  cases hok : okM c with
  | false =>
    have e2 : encF c = ([], 1) := by unfold encF; rw [hok]; rfl
    rw [e2] at h110
    refine CallK.mk' _ _ (h110.free _ ⟨vM_free c, trivial⟩ ⟨trivial, trivial, trivial⟩) ?_
    conv => whnf
    refine CaseB.of_false (by decide) ?_
    conv => whnf
    refine CallK.mk' _ _ ((c115 b (by omega)).free _ ⟨trivial, trivial⟩ ⟨vM_free (decM b).1, trivial, trivial⟩) ?_
    conv => whnf
    by_cases hd : (decM b).2 = 0
    · refine CaseB.of_true (decide_eq_true hd) ?_
      conv => whnf
      have he := enc_dec (b := b) (c := (decM b).1) (Prod.ext rfl hd)
      have h110 := c110 (decM b).1
      rw [he] at h110
      refine CallK.mk' _ _ (h110.free _ ⟨vM_free _, trivial⟩ ⟨trivial, trivial, trivial⟩) ?_
      conv => whnf
      refine CaseB.of_false (decide_eq_false (fun h => h rfl)) ?_
      conv => whnf
      refine CallK.mk' _ _ ((c57 b b hbl).free _ ⟨trivial, trivial, trivial⟩ trivial) ?_
      conv => whnf
      refine CaseB.of_false (by simp) ?_
      conv => whnf
      refine CallK.mk' _ _ (c51.free _ trivial trivial) ?_
      conv => whnf
      exact RetK.empty (okF.wv trivial)
    · refine CaseB.of_false (decide_eq_false hd) ?_
      conv => whnf
      refine CallK.mk' _ _ (c51.free _ trivial trivial) ?_
      conv => whnf
      exact RetK.empty (okF.wv trivial)
  | true =>
    have e2 : encF c = (encM c, 0) := by unfold encF; rw [hok]; rfl
    rw [e2] at h110
    have hlen := encM_len hok
    refine CallK.mk' _ _ (h110.free _ ⟨vM_free c, trivial⟩ ⟨trivial, trivial, trivial⟩) ?_
    conv => whnf
    refine CaseB.of_true (decide_eq_true rfl) ?_
    conv => whnf
    have h115 := c115 (encM c) hlen
    rw [decM_enc hok] at h115
    refine CallK.mk' _ _ (h115.free _ ⟨trivial, trivial⟩ ⟨vM_free c, trivial, trivial⟩) ?_
    conv => whnf
    refine CaseB.of_false (decide_eq_false (fun h => h rfl)) ?_
    conv => whnf
    refine CallK.mk' _ _ ((c114 c c hcl hpl).free _ ⟨vM_free c, vM_free c, trivial⟩ trivial) ?_
    conv => whnf
    refine CaseB.of_false (by simp) ?_
    conv => whnf
    refine CallK.mk' _ _ ((c115 b (by omega)).free _ ⟨trivial, trivial⟩ ⟨vM_free (decM b).1, trivial, trivial⟩) ?_
    conv => whnf
    by_cases hd : (decM b).2 = 0
    · refine CaseB.of_true (decide_eq_true hd) ?_
      conv => whnf
      have he := enc_dec (b := b) (c := (decM b).1) (Prod.ext rfl hd)
      have h110 := c110 (decM b).1
      rw [he] at h110
      refine CallK.mk' _ _ (h110.free _ ⟨vM_free _, trivial⟩ ⟨trivial, trivial, trivial⟩) ?_
      conv => whnf
      refine CaseB.of_false (decide_eq_false (fun h => h rfl)) ?_
      conv => whnf
      refine CallK.mk' _ _ ((c57 b b hbl).free _ ⟨trivial, trivial, trivial⟩ trivial) ?_
      conv => whnf
      refine CaseB.of_false (by simp) ?_
      conv => whnf
      refine CallK.mk' _ _ (c51.free _ trivial trivial) ?_
      conv => whnf
      exact RetK.empty (okF.wv trivial)
    · refine CaseB.of_false (decide_eq_false hd) ?_
      conv => whnf
      refine CallK.mk' _ _ (c51.free _ trivial trivial) ?_
      conv => whnf
      exact RetK.empty (okF.wv trivial)
end Go.Sym.Md

