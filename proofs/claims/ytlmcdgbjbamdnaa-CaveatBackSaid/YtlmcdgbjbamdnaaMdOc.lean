/- Contracts of the program's functions, proved by the framework (text MdOc), without conditions but those that each theorem states. -/
import Derived.Test.YtlmcdgbjbamdnaaMdOb
set_option linter.unusedVariables false
set_option linter.unusedSimpArgs false
set_option maxRecDepth 10000
namespace Go.Sym.Md
open Go Go.Sym

/-- A caveat's bytes. -/
def bytesC (c : CV) : List UInt8 := if hasF c.k = 1 then numF c.k.toNat ++ numF c.s.length ++ c.s else numF c.k.toNat ++ numF c.n.toNat
def okV (c : CV) : Bool := okC c.k c.n c.s

theorem putC_bytes (b : List UInt8) (c : CV) (h : okV c = true) : putC b c = b ++ bytesC c := by
  unfold putC bytesC putF
  unfold okV at h
  rw [h, if_pos rfl]
  split <;> simp

theorem codeC_bytes : ∀ (cs : List CV) (b : List UInt8), (∀ c ∈ cs, okV c = true) → cs.foldl putC b = b ++ cs.flatMap bytesC
  | [], b, _ => by simp
  | c :: cs, b, h => by
    rw [List.foldl_cons, putC_bytes b c (h c (by simp)), codeC_bytes cs _ (fun c hc => h c (by simp [hc])), List.flatMap_cons, List.append_assoc]

theorem okC_cases {k n : Int} {s : List UInt8} (h : okC k n s = true) : 1 ≤ k ∧ k ≤ 6 ∧ ((k = 2 ∨ k = 3) ∧ n = 0 ∧ s.length ≤ 16 ∨ ¬ (k = 2 ∨ k = 3) ∧ s = [] ∧ 0 ≤ n ∧ n ≤ boundF k) := by
  obtain ⟨h1, h2, h3, h4, h5⟩ := okC_facts h
  refine ⟨h1, h2, ?_⟩
  by_cases hk : k = 2 ∨ k = 3
  · left
    unfold okC at h
    rw [if_pos ((hasF_one k).2 hk)] at h
    simp only [Bool.and_eq_true, decide_eq_true_eq] at h
    exact ⟨hk, h.2, h5⟩
  · right
    unfold okC at h
    have h2' := hasF_two (by omega) h2 (by omega) hk
    rw [if_neg (by omega), if_pos h2'] at h
    simp only [Bool.and_eq_true, decide_eq_true_eq] at h
    exact ⟨hk, h.1, h.2.1, h.2.2⟩

theorem readC_bytes (c : CV) (t : List UInt8) (h : okV c = true) : readC ⟨bytesC c ++ t, 0⟩ = (c, ⟨t, 0⟩) := by
  obtain ⟨k, n, s⟩ := c
  have h' : okC k n s = true := h
  obtain ⟨h1, h2, h3⟩ := okC_cases h'
  have hb : boundF k ≤ 1099511627776 := by unfold boundF; split <;> (try split) <;> omega
  have hk : ((k.toNat : Nat) : Int) = k := by omega
  unfold readC
  have e1 : ∀ u, numR ⟨numF k.toNat ++ u, 0⟩ 6 = (k, ⟨u, 0⟩) := fun u => by rw [numR_num _ _ _ (by omega) (by omega), hk]
  rcases h3 with ⟨hk2, rfl, hs⟩ | ⟨hk2, rfl, hn, hn'⟩
  · have eb : bytesC ⟨k, 0, s⟩ ++ t = numF k.toNat ++ (numF s.length ++ s ++ t) := by
      unfold bytesC; rw [if_pos ((hasF_one k).2 hk2)]; simp
    rw [eb, e1, if_neg (fun h => h rfl)]
    unfold bodyC
    rw [if_neg (by omega), if_pos hk2, textR_text s t 16 (by omega) (by omega), if_neg (fun h => h rfl)]
    simp only []
    rw [h', if_pos rfl]
  · have eb : bytesC ⟨k, n, []⟩ ++ t = numF k.toNat ++ (numF n.toNat ++ t) := by
      unfold bytesC; rw [if_neg (fun h => hk2 ((hasF_one k).1 h))]; simp
    rw [eb, e1, if_neg (fun h => h rfl)]
    unfold bodyC
    rw [if_neg (by omega), if_neg hk2, numR_num n.toNat t (boundF k) (by omega) (by omega), if_neg (fun h => h rfl)]
    simp only [show ((n.toNat : Nat) : Int) = n by omega]

theorem readC_back {l t : List UInt8} {c : CV} (h : readC ⟨l, 0⟩ = (c, ⟨t, 0⟩)) : okV c = true ∧ l = bytesC c ++ t := by
  unfold readC at h
  obtain ⟨p, hp⟩ : ∃ p, numR ⟨l, 0⟩ 6 = p := ⟨_, rfl⟩
  obtain ⟨k, r⟩ := p
  rw [hp] at h
  simp only [] at h
  by_cases he : r.e = 0
  · rw [if_neg (fun h => h he)] at h
    obtain ⟨rl, re⟩ := r
    simp only [] at he
    subst he
    obtain ⟨h1, h2, h3, h4⟩ := numR_back hp
    unfold bodyC at h
    by_cases hk0 : k = 0
    · rw [if_pos hk0] at h; simp at h
    · rw [if_neg hk0] at h
      by_cases hk2 : k = 2 ∨ k = 3
      · rw [if_pos hk2] at h
        obtain ⟨q, hq⟩ : ∃ q, textR ⟨rl, 0⟩ 16 = q := ⟨_, rfl⟩
        obtain ⟨s, r2⟩ := q
        rw [hq] at h
        simp only [] at h
        by_cases he2 : r2.e = 0
        · rw [if_neg (fun h => h he2)] at h
          cases ho : okC k 0 s with
          | false => rw [ho, if_neg (by simp)] at h; simp at h
          | true =>
            rw [ho, if_pos rfl] at h
            simp only [Prod.mk.injEq] at h
            obtain ⟨rfl, rfl⟩ := h
            obtain ⟨g1, g2⟩ := textR_back hq
            refine ⟨ho, ?_⟩
            unfold bytesC
            rw [if_pos ((hasF_one k).2 hk2), h4, g2]
            simp
        · rw [if_pos he2] at h
          simp only [Prod.mk.injEq] at h
          rw [h.2] at he2
          exact absurd rfl he2
      · rw [if_neg hk2] at h
        obtain ⟨q, hq⟩ : ∃ q, numR ⟨rl, 0⟩ (boundF k) = q := ⟨_, rfl⟩
        obtain ⟨n, r2⟩ := q
        rw [hq] at h
        simp only [] at h
        by_cases he2 : r2.e = 0
        · rw [if_neg (fun h => h he2)] at h
          simp only [Prod.mk.injEq] at h
          obtain ⟨rfl, rfl⟩ := h
          obtain ⟨g1, g2, g3, g4⟩ := numR_back hq
          refine ⟨okC_num (by omega) (by omega) hk0 hk2 g1 g2, ?_⟩
          unfold bytesC
          rw [if_neg (fun h => hk2 ((hasF_one k).1 h)), h4, g4]
          simp
        · rw [if_pos he2] at h
          simp only [Prod.mk.injEq] at h
          rw [h.2] at he2
          exact absurd rfl he2
  · rw [if_pos he] at h
    simp only [Prod.mk.injEq] at h
    rw [h.2] at he
    exact absurd rfl he

theorem readsC_bytes : ∀ (cs : List CV) (t : List UInt8), (∀ c ∈ cs, okV c = true) → readsC cs.length ⟨cs.flatMap bytesC ++ t, 0⟩ = (cs, ⟨t, 0⟩)
  | [], t, _ => by simp [readsC]
  | c :: cs, t, h => by
    rw [List.length_cons, readsC, if_neg (fun h => h rfl), List.flatMap_cons, List.append_assoc, readC_bytes c _ (h c (by simp))]
    simp only []
    rw [readsC_bytes cs t (fun c hc => h c (by simp [hc]))]

theorem readsC_back : ∀ (n : Nat) {l t : List UInt8} {cs : List CV}, readsC n ⟨l, 0⟩ = (cs, ⟨t, 0⟩) → cs.length = n ∧ (∀ c ∈ cs, okV c = true) ∧ l = cs.flatMap bytesC ++ t
  | 0, l, t, cs, h => by
    simp only [readsC, Prod.mk.injEq, Rd.mk.injEq, and_true] at h
    obtain ⟨rfl, rfl⟩ := h
    simp
  | n + 1, l, t, cs, h => by
    rw [readsC, if_neg (fun h => h rfl)] at h
    obtain ⟨p, hp⟩ : ∃ p, readC ⟨l, 0⟩ = p := ⟨_, rfl⟩
    obtain ⟨c, r⟩ := p
    rw [hp] at h
    simp only [] at h
    obtain ⟨q, hq⟩ : ∃ q, readsC n r = q := ⟨_, rfl⟩
    obtain ⟨ds, r2⟩ := q
    rw [hq] at h
    simp only [Prod.mk.injEq] at h
    obtain ⟨rfl, rfl⟩ := h
    have he : r.e = 0 := by
      by_cases h : r.e = 0
      · exact h
      · rw [readsC_err n h] at hq
        simp only [Prod.mk.injEq] at hq
        rw [hq.2] at h
        exact absurd rfl h
    obtain ⟨rl, re⟩ := r
    simp only [] at he
    subst he
    obtain ⟨g1, g2⟩ := readC_back hp
    obtain ⟨k1, k2, k3⟩ := readsC_back n hq
    refine ⟨by simp [k1], fun x hx => ?_, ?_⟩
    · rcases List.mem_cons.1 hx with rfl | hx
      · exact g1
      · exact k2 x hx
    · rw [g2, k3, List.flatMap_cons, List.append_assoc]

theorem codeC_all (cs : List CV) (h : ∀ c ∈ cs, okV c = true) : codeC cs = numF cs.length ++ cs.flatMap bytesC := by
  unfold codeC; exact codeC_bytes cs _ h

/-- What was written is read. -/
theorem parseC_code (cs : List CV) (hl : cs.length ≤ 8) (h : ∀ c ∈ cs, okV c = true) : parseC (codeC cs) = (cs, 0) := by
  have e : allC ⟨codeC cs, 0⟩ = (cs, ⟨[], 0⟩) := by
    unfold allC
    rw [codeC_all cs h, numR_num cs.length _ 8 (by omega) (by omega)]
    simp only [Int.toNat_natCast]
    have := readsC_bytes cs [] h
    rw [List.append_nil] at this
    exact this
  unfold parseC
  rw [e]
  rfl

/-- What was read was so written. -/
theorem codeC_parse {b : List UInt8} {P : List CV} (hb : b.length ≤ 140737488355328) (h : parseC b = (P, 0)) : codeC P = b := by
  have h0 : (⟨b, 0⟩ : Rd).ok := ⟨fun h => absurd rfl h, by show IntKind.i64.min ≤ 0; decide, by show (0 : Int) ≤ IntKind.i64.max; decide, hb⟩
  have hok := allC_ok h0
  unfold parseC at h
  obtain ⟨p, hp⟩ : ∃ p, allC ⟨b, 0⟩ = p := ⟨_, rfl⟩
  obtain ⟨ds, r⟩ := p
  rw [hp] at h hok
  simp only [] at h hok
  by_cases hz : endF r = 0
  · rw [if_pos hz] at h
    simp only [Prod.mk.injEq, and_true] at h
    subst h
    have he : r.e = 0 := by
      by_cases h : r.e = 0
      · exact h
      · rw [endF_err hok h] at hz; exact absurd hz h
    obtain ⟨rl, re⟩ := r
    simp only [] at he
    subst he
    have hnil : rl = [] := by
      unfold endF at hz
      by_cases hl : 0 < rl.length
      · rw [if_pos hl] at hz; simp at hz
      · exact List.length_eq_zero_iff.1 (by omega)
    subst hnil
    unfold allC at hp
    obtain ⟨q, hq⟩ : ∃ q, numR ⟨b, 0⟩ 8 = q := ⟨_, rfl⟩
    obtain ⟨n, r1⟩ := q
    rw [hq] at hp
    simp only [] at hp
    have he1 : r1.e = 0 := by
      by_cases h : r1.e = 0
      · exact h
      · rw [readsC_err _ h] at hp
        simp only [Prod.mk.injEq] at hp
        rw [hp.2] at h
        exact absurd rfl h
    obtain ⟨r1l, r1e⟩ := r1
    simp only [] at he1
    subst he1
    obtain ⟨g1, g2, g3, g4⟩ := numR_back hq
    obtain ⟨k1, k2, k3⟩ := readsC_back _ hp
    rw [codeC_all ds k2, k1, g4, k3, List.append_nil]
  · rw [if_neg hz] at h
    simp only [Prod.mk.injEq] at h
    exact absurd h.2 hz
end Go.Sym.Md
