/- Contracts of the program's functions, proved by the framework (text MdJ), without conditions but those that each theorem states. -/
import Derived.Test.YtlmcdgbjbamdnaaMdI
set_option linter.unusedVariables false
set_option linter.unusedSimpArgs false
set_option maxRecDepth 10000
namespace Go.Sym.Md
open Go Go.Sym

/-! ### baileyref02.Num and Text -/
def gL (n : Nat) : List UInt8 := (List.range (sz n)).map fun t => UInt8.ofNat (n / 128 ^ (sz n - 1 - t) % 128)
theorem gL_length (n : Nat) : (gL n).length = sz n := by simp [gL]

theorem sz_small {n : Nat} (h : n < 128) : sz n = 1 := by unfold sz; rw [if_pos h]
theorem sz_div {n : Nat} (h : 128 ≤ n) (hn : n < 9223372036854775808) : sz n = sz (n / 128) + 1 := by
  rcases (by omega : (128 ≤ n ∧ n < 16384) ∨ (16384 ≤ n ∧ n < 2097152) ∨ (2097152 ≤ n ∧ n < 268435456) ∨ (268435456 ≤ n ∧ n < 34359738368) ∨ (34359738368 ≤ n ∧ n < 4398046511104) ∨ (4398046511104 ≤ n ∧ n < 562949953421312) ∨ (562949953421312 ≤ n ∧ n < 72057594037927936) ∨ (72057594037927936 ≤ n ∧ n < 9223372036854775808)) with ⟨h1, h2⟩ | ⟨h1, h2⟩ | ⟨h1, h2⟩ | ⟨h1, h2⟩ | ⟨h1, h2⟩ | ⟨h1, h2⟩ | ⟨h1, h2⟩ | ⟨h1, h2⟩
  · rw [sz_of (n := n) (k := 1) (by omega) (.inr (by simpa using h1)) (by simpa using h2), sz_of (n := n / 128) (k := 0) (by omega) (.inl rfl) (by rw [show (128 : Nat) ^ (0 + 1) = 128 from rfl]; omega)]
  · rw [sz_of (n := n) (k := 2) (by omega) (.inr (by simpa using h1)) (by simpa using h2), sz_of (n := n / 128) (k := 1) (by omega) (.inr (by rw [show (128 : Nat) ^ 1 = 128 from rfl]; omega)) (by rw [show (128 : Nat) ^ (1 + 1) = 16384 from rfl]; omega)]
  · rw [sz_of (n := n) (k := 3) (by omega) (.inr (by simpa using h1)) (by simpa using h2), sz_of (n := n / 128) (k := 2) (by omega) (.inr (by rw [show (128 : Nat) ^ 2 = 16384 from rfl]; omega)) (by rw [show (128 : Nat) ^ (2 + 1) = 2097152 from rfl]; omega)]
  · rw [sz_of (n := n) (k := 4) (by omega) (.inr (by simpa using h1)) (by simpa using h2), sz_of (n := n / 128) (k := 3) (by omega) (.inr (by rw [show (128 : Nat) ^ 3 = 2097152 from rfl]; omega)) (by rw [show (128 : Nat) ^ (3 + 1) = 268435456 from rfl]; omega)]
  · rw [sz_of (n := n) (k := 5) (by omega) (.inr (by simpa using h1)) (by simpa using h2), sz_of (n := n / 128) (k := 4) (by omega) (.inr (by rw [show (128 : Nat) ^ 4 = 268435456 from rfl]; omega)) (by rw [show (128 : Nat) ^ (4 + 1) = 34359738368 from rfl]; omega)]
  · rw [sz_of (n := n) (k := 6) (by omega) (.inr (by simpa using h1)) (by simpa using h2), sz_of (n := n / 128) (k := 5) (by omega) (.inr (by rw [show (128 : Nat) ^ 5 = 34359738368 from rfl]; omega)) (by rw [show (128 : Nat) ^ (5 + 1) = 4398046511104 from rfl]; omega)]
  · rw [sz_of (n := n) (k := 7) (by omega) (.inr (by simpa using h1)) (by simpa using h2), sz_of (n := n / 128) (k := 6) (by omega) (.inr (by rw [show (128 : Nat) ^ 6 = 4398046511104 from rfl]; omega)) (by rw [show (128 : Nat) ^ (6 + 1) = 562949953421312 from rfl]; omega)]
  · rw [sz_of (n := n) (k := 8) (by omega) (.inr (by simpa using h1)) (by simpa using h2), sz_of (n := n / 128) (k := 7) (by omega) (.inr (by rw [show (128 : Nat) ^ 7 = 562949953421312 from rfl]; omega)) (by rw [show (128 : Nat) ^ (7 + 1) = 72057594037927936 from rfl]; omega)]

theorem gL_small {n : Nat} (h : n < 128) : gL n = [UInt8.ofNat n] := by
  unfold gL
  rw [sz_small h]
  simp [Nat.mod_eq_of_lt h]

theorem gL_step {n : Nat} (h : 128 ≤ n) (hn : n < 9223372036854775808) : gL n = gL (n / 128) ++ [UInt8.ofNat (n % 128)] := by
  unfold gL
  rw [sz_div h hn, List.range_succ, List.map_append]
  have hp := sz_pos (n / 128)
  congr 1
  · refine List.map_congr_left fun t ht => ?_
    rw [List.mem_range] at ht
    rw [Nat.div_div_eq_div_mul, show sz (n / 128) + 1 - 1 - t = (sz (n / 128) - 1 - t) + 1 by omega, Nat.pow_succ, Nat.mul_comm (128 ^ _) 128]
  · simp

def mF (n j : Nat) : List UInt8 := (List.range (sz n)).map fun t => if t < j then gB n (sz n - 1 - t) else UInt8.ofNat (n / 128 ^ (sz n - 1 - t) % 128)
theorem mF_length (n j : Nat) : (mF n j).length = sz n := by simp [mF]
theorem mF_zero (n : Nat) : mF n 0 = gL n := by simp [mF, gL]
theorem mF_done (n : Nat) : mF n (sz n - 1) = numF n := by
  unfold mF numF nF
  refine List.map_congr_left fun t ht => ?_
  rw [List.mem_range] at ht
  by_cases h : t < sz n - 1
  · rw [if_pos h]
  · rw [if_neg h, show sz n - 1 - t = 0 by omega]
    unfold gB
    rw [if_pos rfl, Nat.pow_zero, Nat.div_one]
theorem mF_at (n j : Nat) (h : j < sz n) : (mF n j).getD j 0 = UInt8.ofNat (n / 128 ^ (sz n - 1 - j) % 128) := by
  simp [mF, List.getD_eq_getElem?_getD, h]
theorem mF_set (n j : Nat) (h : j + 1 < sz n) : (mF n j).set j (UInt8.ofNat (n / 128 ^ (sz n - 1 - j) % 128 + 128)) = mF n (j + 1) := by
  apply List.ext_getElem
  · simp [mF]
  · intro i h1 h2
    rw [List.getElem_set]
    simp only [mF, List.getElem_map, List.getElem_range]
    by_cases e : j = i
    · subst e
      rw [if_pos rfl, if_pos (by omega)]
      unfold gB
      rw [if_neg (by omega)]
    · rw [if_neg e]
      by_cases h3 : i < j
      · rw [if_pos h3, if_pos (by omega)]
      · rw [if_neg h3, if_neg (by omega)]

attribute [local irreducible] sz gL mF numF

/-- baileyref02.groups -/
theorem c189 : ∀ (z : Int) (n : Nat), max z 0 = (n : Int) → n < 9223372036854775808 → SCalls Proofs.Try.prog 189 [vI z] [] (.s (.lf (.own 0 0 1 0 (gL n).length))) [some ⟨5, [.bytes (gL n).length (gL n)]⟩] := by
  intro z n
  induction n using Nat.strongRecOn generalizing z with
  | ind n ih =>
    intro hz hn
    refine SCalls.intro tok Proofs.Try.func189 ?_
    conv => whnf
    by_cases h : n < 128
    · refine CaseB.of_true (decide_eq_true (by omega)) ?_
      conv => whnf
      refine Or.inl ?_
      conv => whnf
      rw [gL_small h]
      refine RetK.of ⟨rfl, ⟨.bytes rfl fun o ho => ?_, trivial⟩, trivial⟩ (by simp) (WV.lf (WL.own rfl rfl rfl rfl))
      have e0 : IntKind.u8.wrap (max z 0) = ((n : Nat) : Int) := by rw [hz, wrap_u8]; omega
      rw [e0]; rfl
    · refine CaseB.of_false (decide_eq_false (by omega)) ?_
      conv => whnf
      refine And.intro (by decide) ?_
      conv => whnf
      have e : IntKind.i64.wrap (Int.tdiv z 128) = ((n / 128 : Nat) : Int) := by
        obtain rfl : z = (n : Int) := by omega
        rw [show Int.tdiv (n : Int) 128 = ((n / 128 : Nat) : Int) from rfl, wrap_i64 (by omega) (by omega)]
      refine CallK.mk' _ _ (ih (n / 128) (by omega) _ (by rw [e]; omega) (by omega)) ?_
      conv => whnf
      refine And.intro (by decide) ?_
      conv => whnf
      have e2 : IntKind.u8.wrap (Int.tmod z 128) = ((n % 128 : Nat) : Int) := by
        obtain rfl : z = (n : Int) := by omega
        rw [show Int.tmod (n : Int) 128 = ((n % 128 : Nat) : Int) from rfl, wrap_u8]; omega
      refine Or.inr ?_
      conv => whnf
      have el : gL (n / 128) ++ List.map (fun a : Int => UInt8.ofNat a.toNat) [IntKind.u8.wrap (Int.tmod z 128)] = gL n := by
        rw [List.map_cons, List.map_nil, e2, gL_step (by omega) hn]; rfl
      have hlg := gL_length (n / 128)
      have h9 := sz_le (n / 128)
      refine And.intro ⟨rfl, rfl, by rw [List.length_append, hlg]; simp; omega⟩ ?_
      conv => whnf
      rw [el]
      exact RetK.perm [1] ⟨⟨rfl, .bytes rfl fun _ _ => rfl, trivial⟩, trivial⟩ (WV.lf (WL.own rfl rfl rfl rfl)) rfl (by simp) rfl (by simp)

/-- baileyref02.Num -/
theorem c133 (b : List UInt8) (z : Int) (n : Nat) (hz : max z 0 = (n : Int)) (hn : n < 9223372036854775808) (hb : b.length ≤ 140737480000000) : SCalls Proofs.Try.prog 133 [.s (.lf (.rob false false b)), vI z] [] (.s (.lf (.own 0 0 1 0 (b ++ numF n).length))) [some ⟨5, [.bytes (b ++ numF n).length (b ++ numF n)]⟩] := by
  have h1 := sz_pos n
  have h9 := sz_le n
  have hml := mF_length n
  refine SCalls.intro tok Proofs.Try.func133 ?_
  conv => whnf
  refine CallK.mk' _ _ (c189 z n hz hn) ?_
  conv => whnf
  have hnl : (numF n).length = sz n := numF_length n
  have etk : List.take (sz n) (List.drop 0 (mF n (sz n - 1))) = numF n := by rw [List.drop_zero, mF_done, ← hnl, List.take_length]
  obtain ⟨y, r, hyr⟩ : ∃ y r, numF n = y :: r := by
    cases h : numF n with
    | nil => rw [h] at hnl; simp at hnl; omega
    | cons y r => exact ⟨y, r, rfl⟩
  have hrl : (y :: r).length = sz n := by rw [← hyr, hnl]
  refine LoopK.mk1 (fun j : Nat => [(0, .s (.lf (.rob false false b))), (4, .s (.lf .sl0)), (5, .s (.lf (.own 0 0 1 0 (sz n)))), (6, vI j)]) (fun j => [some ⟨5, [.bytes (sz n) (mF n j)]⟩]) (fun j => j + 1 ≤ sz n) (fun j => sz n - j) 0 (by omega) ?_ ?_
  · exact Weak.of ⟨rfl, ⟨.bytes (gL_length n) fun _ _ => by rw [mF_zero], trivial⟩, trivial⟩ (by simp) ⟨okF.wv trivial, okF.wv trivial, WV.lf (WL.own rfl rfl rfl (gL_length n)), okF.wv trivial, trivial⟩
  intro j hj
  conv => whnf
  have ej : IntKind.i64.wrap ((j : Int) + 1) = ((j + 1 : Nat) : Int) := by rw [wrap_i64 (by omega) (by omega)]; omega
  by_cases hl : j + 1 < sz n
  · refine CaseB.of_true (decide_eq_true (by rw [ej]; omega)) ?_
    conv => whnf
    refine And.intro (by omega) ?_
    conv => whnf
    refine And.intro (by omega) ?_
    conv => whnf
    refine And.intro (by omega) ?_
    conv => whnf
    refine And.intro (by omega) ?_
    conv => whnf
    refine And.intro (by rw [hml]; omega) ?_
    conv => whnf
    have hj0 : Int.toNat (j : Int) = j := Int.toNat_natCast j
    refine ⟨j + 1, by omega, by omega, ?_⟩
    refine Weak.of ⟨rfl, ⟨.bytes rfl fun o _ => ?_, trivial⟩, trivial⟩ (by simp) ⟨okF.wv trivial, okF.wv trivial, WV.lf (WL.own rfl rfl rfl rfl), WV.lf (WL.int ej), trivial⟩
    rw [hj0, Nat.zero_add, mF_at n j (by omega), ← mF_set n j hl]
    congr 2
    have ex : (UInt8.ofNat (n / 128 ^ (sz n - 1 - j) % 128)).toNat = n / 128 ^ (sz n - 1 - j) % 128 := by
      rw [UInt8.toNat_ofNat']; exact Nat.mod_eq_of_lt (by omega)
    rw [ex, wrap_u8]
    congr 1
    omega
  · refine CaseB.of_false (decide_eq_false (by rw [ej]; omega)) ?_
    conv => whnf
    obtain rfl : j = sz n - 1 := by omega
    cases b with
    | nil =>
      refine CallK.mk' _ _ (c144n.free _ ⟨trivial, trivial⟩ trivial) ?_
      conv => whnf
      refine And.intro (by rw [hml]; omega) ?_
      conv => whnf
      rw [etk, hyr]
      conv => whnf
      refine And.intro (by omega) ?_
      conv => whnf
      exact RetK.perm [1] ⟨⟨rfl, .bytes rfl fun _ _ => rfl, trivial⟩, trivial⟩ (WV.lf (WL.own rfl rfl rfl rfl)) rfl (by simp) rfl (by simp)
    | cons x b =>
      refine CallK.mk' (.s (.lf (.own 1 0 1 0 (x :: b).length))) _ ((c144 x b (by omega)).made [some ⟨5, [.bytes (sz n) (mF n (sz n - 1))]⟩] (Hn := [some ⟨5, [.bytes (x :: b).length (x :: b)]⟩]) ⟨freeF.wv trivial, trivial⟩ (WV.lf (WL.uown rfl rfl rfl)) ⟨rfl, ⟨.bytes rfl fun _ _ => rfl, trivial⟩, trivial⟩) ?_
      conv => whnf
      refine And.intro (by rw [hml]; omega) ?_
      conv => whnf
      rw [etk]
      refine And.intro ⟨rfl, rfl, by rw [List.length_append, hnl]; omega⟩ ?_
      conv => whnf
      exact RetK.perm [2] ⟨⟨rfl, .bytes rfl fun _ _ => rfl, trivial⟩, trivial⟩ (WV.lf (WL.own rfl rfl rfl rfl)) rfl (by simp) rfl (by simp)

/-- baileyref02.Text -/
theorem c139 (b s : List UInt8) (hs : s.length ≤ 100000000) (hb : b.length ≤ 140737000000000) : SCalls Proofs.Try.prog 139 [.s (.lf (.rob false false b)), .s (.lf (.str s))] [] (.s (.lf (.own 0 0 1 0 (b ++ numF s.length ++ s).length))) [some ⟨5, [.bytes (b ++ numF s.length ++ s).length (b ++ numF s.length ++ s)]⟩] := by
  have hl := numF_length s.length
  have h9 := sz_le s.length
  refine SCalls.intro tok Proofs.Try.func139 ?_
  conv => whnf
  refine CallK.mk' _ _ (c133 b s.length s.length (by omega) (by omega) (by omega)) ?_
  conv => whnf
  refine And.intro ⟨rfl, rfl, by rw [List.length_append, List.length_append]; omega⟩ ?_
  conv => whnf
  exact RetK.perm [1] ⟨⟨rfl, .bytes rfl fun _ _ => rfl, trivial⟩, trivial⟩ (WV.lf (WL.own rfl rfl rfl rfl)) rfl (by simp) rfl (by simp)
end Go.Sym.Md
