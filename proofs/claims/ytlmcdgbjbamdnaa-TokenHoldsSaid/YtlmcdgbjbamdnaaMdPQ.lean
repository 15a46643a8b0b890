/- Contracts of the program's functions, proved by the framework (text MdPQ), without conditions but those that each theorem states. -/
import Derived.Test.YtlmcdgbjbamdnaaMdBD
import Derived.Test.YtlmcdgbjbamdnaaFw7
set_option linter.unusedVariables false
set_option linter.unusedSimpArgs false
set_option maxRecDepth 10000
namespace Go.Sym.Md
open Go Go.Sym

/-! ### Numbers, packed -/
/-- How many groups a number has. -/
def sz (n : Nat) : Nat :=
  if n < 128 then 1 else if n < 16384 then 2 else if n < 2097152 then 3 else if n < 268435456 then 4 else if n < 34359738368 then 5 else
  if n < 4398046511104 then 6 else if n < 562949953421312 then 7 else if n < 72057594037927936 then 8 else 9
/-- Group i of a number, from the lowest on. -/
def gB (n i : Nat) : UInt8 := if i = 0 then UInt8.ofNat (n % 128) else UInt8.ofNat (n / 128 ^ i % 128 + 128)
def nF (n j : Nat) : List UInt8 := (List.range j).map fun t => gB n (sz n - 1 - t)
/-- A number's bytes. -/
def numF (n : Nat) : List UInt8 := nF n (sz n)

theorem nF_zero (n : Nat) : nF n 0 = [] := rfl
theorem nF_succ (n j : Nat) : nF n (j + 1) = nF n j ++ [gB n (sz n - 1 - j)] := by simp [nF, List.range_succ]
theorem nF_length (n j : Nat) : (nF n j).length = j := by simp [nF]
theorem sz_pos (n : Nat) : 1 ≤ sz n := by
  unfold sz
  repeat' split
  all_goals omega
theorem sz_le (n : Nat) : sz n ≤ 9 := by
  unfold sz
  repeat' split
  all_goals omega

theorem sz_of {n k : Nat} (hk : k ≤ 8) (h1 : k = 0 ∨ 128 ^ k ≤ n) (h2 : n < 128 ^ (k + 1)) : sz n = k + 1 := by
  have : k = 0 ∨ k = 1 ∨ k = 2 ∨ k = 3 ∨ k = 4 ∨ k = 5 ∨ k = 6 ∨ k = 7 ∨ k = 8 := by omega
  unfold sz
  rcases this with rfl | rfl | rfl | rfl | rfl | rfl | rfl | rfl | rfl <;> simp at h1 h2 <;> (repeat (first | rw [if_pos (by omega)] | rw [if_neg (by omega)]))

theorem fdiv_pow (n k : Nat) : Int.fdiv (n : Int) (2 ^ k) = ((n / 2 ^ k : Nat) : Int) := by
  rw [show ((2 : Int) ^ k) = ((2 ^ k : Nat) : Int) by simp, Int.fdiv_eq_ediv_of_nonneg _ (Int.natCast_nonneg _), Int.natCast_ediv]

/-- pack.Size -/
theorem c218 (n : Nat) (hn : n < 9223372036854775808) : SCalls Proofs.Try.prog 218 [vI n] [] (vI (sz n : Int)) [] := by
  refine SCalls.intro tok Proofs.Try.func218 ?_
  conv => whnf
  refine LoopK.mk1 (fun k : Nat => [(0, vI ((n / 128 ^ k : Nat) : Int)), (3, vI ((k + 1 : Nat) : Int))]) (fun _ => []) (fun k => k ≤ 8 ∧ (k = 0 ∨ 128 ^ k ≤ n)) (fun k => 8 - k) 0 ⟨by omega, .inl rfl⟩ ?_ ?_
  · exact Weak.of ⟨⟩ (by simp) ⟨WV.lf (WL.int (by simp)), okF.wv trivial, trivial⟩
  intro k hk
  obtain ⟨hk, hp⟩ := hk
  conv => whnf
  have hpos : 0 < 128 ^ k := Nat.pow_pos (by omega)
  by_cases h : 128 ≤ n / 128 ^ k
  · refine CaseB.of_true (decide_eq_true (by omega)) ?_
    conv => whnf
    have h1 : 128 ^ (k + 1) ≤ n := by
      have := (Nat.le_div_iff_mul_le hpos).1 h
      rw [Nat.pow_succ]; omega
    have h8 : k + 1 ≤ 8 := by
      by_cases e : k = 8
      · subst e; simp at h1; omega
      · omega
    repeat (refine And.intro (by omega) ?_; conv => whnf)
    refine ⟨k + 1, ⟨h8, .inr h1⟩, by show 8 - (k + 1) < 8 - k; omega, ?_⟩
    refine Weak.of ⟨⟩ (by simp) ⟨WV.lf (WL.int ?_), WV.lf (WL.int (by rw [wrap_i64 (by omega) (by omega)]; omega)), trivial⟩
    simp only [shrI, IntKind.bits]
    rw [show min (Int.toNat 7) 64 = 7 from rfl, fdiv_pow, Nat.div_div_eq_div_mul, Nat.pow_succ 128]
  · refine CaseB.of_false (decide_eq_false (by omega)) ?_
    conv => whnf
    have h2 : n < 128 ^ (k + 1) := by
      rw [Nat.pow_succ]
      have := (Nat.div_lt_iff_lt_mul hpos).1 (show n / 128 ^ k < 128 by omega)
      omega
    exact RetK.empty (WV.lf (WL.int (by rw [sz_of hk hp h2])))

/-- pack.room -/
theorem c143 (b : List UInt8) (m : Nat) (h : b.length + m ≤ 140737488355328) : SCalls Proofs.Try.prog 143 [.s (.lf (.rob false false b)), vI m] [] (.s (.lf (.own 0 0 1 0 b.length))) [some ⟨5, [.bytes b.length b]⟩] := by
  have e1 : IntKind.i64.wrap ((b.length : Int) + (m : Int)) = ((b.length + m : Nat) : Int) := by rw [wrap_i64 (by omega) (by omega)]; omega
  refine SCalls.intro tok Proofs.Try.func143 ?_
  conv => whnf
  rw [e1]
  refine And.intro ⟨by omega, by omega, by show ((b.length + m : Nat) : Int) * 1 ≤ _; omega⟩ ?_
  conv => whnf
  refine And.intro ⟨by omega, by rw [List.length_replicate]; omega⟩ ?_
  conv => whnf
  refine RetK.of ⟨rfl, ⟨.bytes (by omega) fun o _ => ?_, trivial⟩, trivial⟩ (by simp) (WV.lf (WL.own rfl rfl rfl (by omega)))
  rw [Int.toNat_natCast, List.take_of_length_le (Nat.le_refl _), spl, List.take_zero, List.nil_append, List.drop_of_length_le (by simp), List.append_nil]

theorem or128 (x : Nat) (h : x < 256) : x ||| 128 = x % 128 + 128 := by
  have : ∀ y : Fin 256, y.val ||| 128 = y.val % 128 + 128 := by decide
  exact this ⟨x, h⟩

theorem u8_or128 (x : Int) (h0 : 0 ≤ x) (h : x < 256) : UInt8.ofNat (bitsI .or .u8 x 128).toNat = UInt8.ofNat (x.toNat % 128 + 128) := by
  obtain ⟨n, rfl⟩ : ∃ n : Nat, x = n := ⟨x.toNat, by omega⟩
  have e : (BitVec.ofInt 8 (n : Int) ||| BitVec.ofInt 8 128).toNat = n % 128 + 128 := by
    rw [BitVec.toNat_or, BitVec.ofInt_natCast, BitVec.toNat_ofNat, show (BitVec.ofInt 8 128).toNat = 128 from rfl, Nat.mod_eq_of_lt (show n < 2 ^ 8 by omega), or128 n (by omega)]
  show UInt8.ofNat (IntKind.u8.wrap (((BitVec.ofInt 8 (n : Int) ||| BitVec.ofInt 8 128).toNat : Nat) : Int)).toNat = _
  rw [e, wrap_u8, Int.toNat_natCast]
  congr 1
  omega

theorem u8_and127 (x : Int) (h0 : 0 ≤ x) (h : x < 256) : UInt8.ofNat (bitsI .andNot .u8 x 128).toNat = UInt8.ofNat (x.toNat % 128) := by
  obtain ⟨n, rfl⟩ : ∃ n : Nat, x = n := ⟨x.toNat, by omega⟩
  have key : ∀ y : Fin 256, (BitVec.ofNat 8 y.val &&& ~~~ BitVec.ofInt 8 128).toNat = y.val % 128 := by decide
  have e : (BitVec.ofInt 8 (n : Int) &&& ~~~ BitVec.ofInt 8 128).toNat = n % 128 := by
    rw [BitVec.ofInt_natCast]; exact key ⟨n, by omega⟩
  show UInt8.ofNat (IntKind.u8.wrap (((BitVec.ofInt 8 (n : Int) &&& ~~~ BitVec.ofInt 8 128).toNat : Nat) : Int)).toNat = _
  rw [e, wrap_u8, Int.toNat_natCast]
  congr 1
  omega

theorem put_hi (n i : Nat) (hi : 1 ≤ i) (h9 : i ≤ 8) : UInt8.ofNat (bitsI .or .u8 (IntKind.u8.wrap (shrI .i64 (n : Int) ((7 * i : Nat) : Int))) 128).toNat = gB n i := by
  have e : IntKind.u8.wrap (shrI .i64 (n : Int) ((7 * i : Nat) : Int)) = ((n / 128 ^ i % 256 : Nat) : Int) := by
    rw [wrap_u8]
    simp only [shrI, IntKind.bits, Int.toNat_natCast]
    rw [Nat.min_eq_left (by omega), fdiv_pow, Nat.pow_mul, show (2 : Nat) ^ 7 = 128 from rfl]
    omega
  rw [e, u8_or128 _ (by omega) (by omega), gB, if_neg (by omega), Int.toNat_natCast]
  congr 2
  omega

theorem put_lo (n : Nat) : UInt8.ofNat (bitsI .andNot .u8 (IntKind.u8.wrap (n : Int)) 128).toNat = gB n 0 := by
  have e : IntKind.u8.wrap (n : Int) = ((n % 256 : Nat) : Int) := by rw [wrap_u8]; omega
  rw [e, u8_and127 _ (by omega) (by omega), gB, if_pos rfl, Int.toNat_natCast]
  congr 1
  omega

attribute [local irreducible] sz gB nF

/-- pack.put -/
theorem c193 (b : List UInt8) (z : Int) (n : Nat) (hz : max z 0 = (n : Int)) (hn : n < 9223372036854775808) (hb : b.length ≤ 140737488000000) : SCalls Proofs.Try.prog 193 [.s (.lf (.own 0 0 1 0 b.length)), vI z] [some ⟨5, [.bytes b.length b]⟩] (.s (.lf (.own 1 0 1 0 (b ++ numF n).length))) [none, some ⟨5, [.bytes (b ++ numF n).length (b ++ numF n)]⟩] := by
  have h1 := sz_pos n
  have h9 := sz_le n
  refine SCalls.intro tok Proofs.Try.func193 ?_
  conv => whnf
  rw [hz]
  refine CallK.mk' _ _ ((c218 n hn).free _ ⟨trivial, trivial⟩ trivial) ?_
  conv => whnf
  have es : IntKind.i64.wrap (7 * IntKind.i64.wrap ((sz n : Int) - 1)) = 7 * ((sz n - 1 : Nat) : Int) := by rw [wrap_i64 (n := (sz n : Int) - 1) (by omega) (by omega), wrap_i64 (by omega) (by omega)]; omega
  have hlen : ∀ j, (b ++ nF n j).length = b.length + j := fun j => by rw [List.length_append, nF_length]
  refine LoopK.mk2 (fun (j : Nat) (e : Bool) => match e with
      | true => [(0, .s (.lf (.own 0 0 1 0 b.length))), (1, vI n), (5, vI (7 * ((sz n - 1 - j : Nat) : Int)))]
      | false => [(0, .s (.lf (.own 1 0 1 0 (b ++ nF n j).length))), (1, vI n), (5, vI (7 * ((sz n - 1 - j : Nat) : Int)))])
    (fun j e => match e with
      | true => [some ⟨5, [.bytes b.length b]⟩]
      | false => [none, some ⟨5, [.bytes (b ++ nF n j).length (b ++ nF n j)]⟩]) (fun j e => j ≤ sz n - 1 ∧ (e = true → j = 0)) (fun j e => sz n - 1 - j) 0 true ⟨by omega, fun _ => rfl⟩ ?_ ?_
  · exact Weak.of ⟨rfl, ⟨.bytes rfl fun _ _ => rfl, trivial⟩, trivial⟩ (by simp) ⟨okF.wv rfl, okF.wv trivial, WV.lf (WL.int (by rw [es]; omega)), trivial⟩
  intro j e hj
  obtain ⟨hj, he⟩ := hj
  cases e with
  | true =>
    obtain rfl := he rfl
    conv => whnf
    by_cases h : 0 < 7 * ((sz n - 1 - 0 : Nat) : Int)
    · refine CaseB.of_true (decide_eq_true h) ?_
      conv => whnf
      repeat (refine And.intro (by omega) ?_; conv => whnf)
      refine Or.inr ?_
      conv => whnf
      have hs : 7 * ((sz n - 1 - 0 : Nat) : Int) = ((7 * (sz n - 1 - 0) : Nat) : Int) := by omega
      have el : b ++ List.map (fun a : Int => UInt8.ofNat a.toNat) [bitsI .or .u8 (IntKind.u8.wrap (shrI .i64 (n : Int) (7 * ((sz n - 1 - 0 : Nat) : Int)))) 128] = b ++ nF n (0 + 1) := by
        rw [List.map_cons, List.map_nil, hs, put_hi n (sz n - 1 - 0) (by omega) (by omega), nF_succ]
        rw [nF_zero]; rfl
      refine And.intro ⟨rfl, rfl, by rw [el, hlen]; omega⟩ ?_
      conv => whnf
      refine ⟨(0 + 1, false), ⟨by omega, fun h => by simp at h⟩, by show sz n - 1 - (0 + 1) < sz n - 1 - 0; omega, ?_⟩
      exact Weak.perm [0, 1] ⟨⟨rfl, .bytes (congrArg List.length el) fun o _ => congrArg (fun l => List.getD l o 0) el, trivial⟩, trivial⟩ ⟨WV.lf (WL.own rfl rfl rfl (congrArg List.length el)), freeF.wv trivial, WV.lf (WL.int (by rw [wrap_i64 (by omega) (by omega)]; omega)), trivial⟩ rfl (by simp) rfl (by simp)
    · refine CaseB.of_false (decide_eq_false h) ?_
      conv => whnf
      refine Or.inr ?_
      conv => whnf
      have el : b ++ List.map (fun a : Int => UInt8.ofNat a.toNat) [bitsI .andNot .u8 (IntKind.u8.wrap (n : Int)) 128] = b ++ numF n := by
        rw [List.map_cons, List.map_nil, put_lo n, show numF n = nF n (sz n) from rfl, show sz n = 0 + 1 by omega, nF_succ, show sz n - 1 - 0 = 0 by omega]
        rw [nF_zero]; rfl
      refine And.intro ⟨rfl, rfl, by rw [el, List.length_append, show numF n = nF n (sz n) from rfl, nF_length]; omega⟩ ?_
      conv => whnf
      exact RetK.perm [0, 1] ⟨⟨rfl, .bytes (congrArg List.length el) fun o _ => congrArg (fun l => List.getD l o 0) el, trivial⟩, trivial⟩ (WV.lf (WL.own rfl rfl rfl (congrArg List.length el))) rfl (by simp) rfl (by simp)
  | false =>
    conv => whnf
    by_cases h : 0 < 7 * ((sz n - 1 - j : Nat) : Int)
    · refine CaseB.of_true (decide_eq_true h) ?_
      conv => whnf
      repeat (refine And.intro (by omega) ?_; conv => whnf)
      refine Or.inr ?_
      conv => whnf
      have hs : 7 * ((sz n - 1 - j : Nat) : Int) = ((7 * (sz n - 1 - j) : Nat) : Int) := by omega
      have el : (b ++ nF n j) ++ List.map (fun a : Int => UInt8.ofNat a.toNat) [bitsI .or .u8 (IntKind.u8.wrap (shrI .i64 (n : Int) (7 * ((sz n - 1 - j : Nat) : Int)))) 128] = b ++ nF n (j + 1) := by
        rw [List.map_cons, List.map_nil, hs, put_hi n (sz n - 1 - j) (by omega) (by omega), nF_succ]
        rw [List.append_assoc]
      refine And.intro ⟨rfl, rfl, by rw [el, hlen]; omega⟩ ?_
      conv => whnf
      refine ⟨(j + 1, false), ⟨by omega, fun h => by simp at h⟩, by show sz n - 1 - (j + 1) < sz n - 1 - j; omega, ?_⟩
      exact Weak.perm [0, 2] ⟨⟨rfl, .bytes (congrArg List.length el) fun o _ => congrArg (fun l => List.getD l o 0) el, trivial⟩, trivial⟩ ⟨WV.lf (WL.own rfl rfl rfl (congrArg List.length el)), freeF.wv trivial, WV.lf (WL.int (by rw [wrap_i64 (by omega) (by omega)]; omega)), trivial⟩ rfl (by simp) rfl (by simp)
    · refine CaseB.of_false (decide_eq_false h) ?_
      conv => whnf
      refine Or.inr ?_
      conv => whnf
      have el : (b ++ nF n j) ++ List.map (fun a : Int => UInt8.ofNat a.toNat) [bitsI .andNot .u8 (IntKind.u8.wrap (n : Int)) 128] = b ++ numF n := by
        rw [List.map_cons, List.map_nil, put_lo n, show numF n = nF n (sz n) from rfl, show sz n = j + 1 by omega, nF_succ, show sz n - 1 - j = 0 by omega]
        rw [List.append_assoc]
      refine And.intro ⟨rfl, rfl, by rw [el, List.length_append, show numF n = nF n (sz n) from rfl, nF_length]; omega⟩ ?_
      conv => whnf
      exact RetK.perm [0, 2] ⟨⟨rfl, .bytes (congrArg List.length el) fun o _ => congrArg (fun l => List.getD l o 0) el, trivial⟩, trivial⟩ (WV.lf (WL.own rfl rfl rfl (congrArg List.length el))) rfl (by simp) rfl (by simp)
end Go.Sym.Md

set_option linter.unusedVariables false
set_option linter.unusedSimpArgs false
set_option maxRecDepth 10000
namespace Go.Sym.Md
open Go Go.Sym

theorem numF_length (n : Nat) : (numF n).length = sz n := nF_length n (sz n)

attribute [local irreducible] numF checkF hasF

/-- A row of the call's own, lent as bytes. -/
theorem WL.lent {H H' : Hp} {μ : Nat → Nat} {hid : Nat → Prop} {nm len : Nat} {xs : List UInt8} {ty : TypeId} (hob : hget H nm = some ⟨ty, [.bytes len xs]⟩) (hl : len = xs.length) (hg : gone H' μ hid nm) : WL (Down H H' μ hid) (.own nm 0 1 0 len) (.rob false false xs) := by
  intro w L L' x h hx
  exact rep_rob_weak (WL.freezeB (ob := ⟨ty, [.bytes len xs]⟩) (p := []) (q := []) hob rfl rfl (by omega) (by omega) (by rw [List.drop_zero, hl, List.take_length]) hg w L L' x h hx)

/-- pack.Num -/
theorem c137 (b : List UInt8) (z : Int) (n : Nat) (hz : max z 0 = (n : Int)) (hn : n < 9223372036854775808) (hb : b.length ≤ 140737480000000) : SCalls Proofs.Try.prog 137 [.s (.lf (.rob false false b)), vI z] [] (.s (.lf (.own 0 0 1 0 (b ++ numF n).length))) [some ⟨5, [.bytes (b ++ numF n).length (b ++ numF n)]⟩] := by
  refine SCalls.intro tok Proofs.Try.func137 ?_
  conv => whnf
  refine CallK.mk' _ _ (c143 b 9 (by omega)) ?_
  conv => whnf
  refine CallK.mk' _ _ (c193 b z n hz hn (by omega)) ?_
  conv => whnf
  exact RetK.perm [1] ⟨⟨rfl, .bytes rfl fun _ _ => rfl, trivial⟩, trivial⟩ (WV.lf (WL.own rfl rfl rfl rfl)) rfl (by simp) rfl (by simp)

/-- pack.Text -/
theorem c138 (b s : List UInt8) (hs : s.length ≤ 100000000) (hb : b.length ≤ 140737000000000) : SCalls Proofs.Try.prog 138 [.s (.lf (.rob false false b)), .s (.lf (.str s))] [] (.s (.lf (.own 0 0 1 0 (b ++ numF s.length ++ s).length))) [some ⟨5, [.bytes (b ++ numF s.length ++ s).length (b ++ numF s.length ++ s)]⟩] := by
  have e9 : IntKind.i64.wrap (9 + (s.length : Int)) = ((9 + s.length : Nat) : Int) := by rw [wrap_i64 (by omega) (by omega)]; omega
  have hl := numF_length s.length
  have h9 := sz_le s.length
  refine SCalls.intro tok Proofs.Try.func138 ?_
  conv => whnf
  rw [e9]
  refine CallK.mk' _ _ (c143 b (9 + s.length) (by omega)) ?_
  conv => whnf
  refine CallK.mk' _ _ (c193 b s.length s.length (by omega) (by omega) (by omega)) ?_
  conv => whnf
  refine And.intro ⟨rfl, rfl, by rw [List.length_append, List.length_append]; omega⟩ ?_
  conv => whnf
  exact RetK.perm [2] ⟨⟨rfl, .bytes rfl fun _ _ => rfl, trivial⟩, trivial⟩ (WV.lf (WL.own rfl rfl rfl rfl)) rfl (by simp) rfl (by simp)

/-- slices.Clone, of nil. -/
theorem c136n : SCalls Proofs.Try.prog 136 [.s (.lf .sl0)] [] (.s (.lf .sl0)) [] := by
  refine SCalls.intro tok Proofs.Try.func136 ?_
  conv => whnf
  exact RetK.empty (okF.wv trivial)

/-- slices.Clone, of bytes. -/
theorem c136 (xs : List UInt8) (hx : xs.length ≤ 140737488355328) : SCalls Proofs.Try.prog 136 [.s (.lf (.rob true false xs))] [] (.s (.lf (.own 0 0 1 0 xs.length))) [some ⟨5, [.bytes xs.length xs]⟩] := by
  refine SCalls.intro tok Proofs.Try.func136 ?_
  conv => whnf
  refine Or.inl ?_
  conv => whnf
  refine ⟨⟨rfl, rfl, hx⟩, ?_⟩
  conv => whnf
  exact RetK.perm [1] ⟨⟨rfl, .bytes rfl fun _ _ => rfl, trivial⟩, trivial⟩ (WV.lf (WL.own rfl rfl rfl rfl)) rfl (by simp) rfl (by simp)

/-- What a caveat's bytes are, behind bytes. -/
def putF (b : List UInt8) (k n : Int) (s : List UInt8) : List UInt8 := if hasF k = 1 then b ++ numF k.toNat ++ numF s.length ++ s else b ++ numF k.toNat ++ numF n.toNat

theorem okC_facts {k n : Int} {s : List UInt8} (h : okC k n s = true) : 1 ≤ k ∧ k ≤ 6 ∧ 0 ≤ n ∧ n ≤ 1099511627776 ∧ s.length ≤ 16 := by
  unfold okC at h
  split at h
  · rename_i h1
    have hk : k = 2 ∨ k = 3 := by
      by_cases e : k = 2 ∨ k = 3
      · exact e
      · unfold hasF at h1; rw [if_neg e] at h1; split at h1 <;> omega
    simp only [Bool.and_eq_true, decide_eq_true_eq, nameF] at h
    omega
  · rename_i h1
    split at h
    · rename_i h2
      have hk : 1 ≤ k ∧ k ≤ 6 := by
        unfold hasF at h2
        split at h2
        · omega
        · split at h2 <;> omega
      simp only [Bool.and_eq_true, decide_eq_true_eq] at h
      obtain ⟨h3, h4, h5⟩ := h
      have hb : boundF k ≤ 1099511627776 := by
        unfold boundF
        split
        · omega
        · split <;> omega
      rw [h3]
      simp only [List.length_nil]
      omega
    · simp at h

/-- caveat.Put, of what may be. -/
theorem c58 (b : List UInt8) (k n : Int) (s : List UInt8) (hok : okC k n s = true) (hb : b.length ≤ 1000000000000) : SCalls Proofs.Try.prog 58 [.s (.lf (.rob false false b)), vC k n s] [] (.s (.lf (.own 0 0 1 0 (putF b k n s).length))) [some ⟨5, [.bytes (putF b k n s).length (putF b k n s)]⟩] := by
  obtain ⟨hk1, hk6, hn0, hn1, hsl⟩ := okC_facts hok
  have hc : checkF k n s = 0 := by unfold checkF; rw [hok]; rfl
  have hl := numF_length k.toNat
  have h9 := sz_le k.toNat
  refine SCalls.intro tok Proofs.Try.func58 ?_
  conv => whnf
  refine CallK.mk' _ _ ((c26 k n s).free _ ⟨⟨trivial, trivial, trivial, trivial⟩, trivial⟩ trivial) ?_
  conv => whnf
  refine CaseB.of_false (by rw [hc]; rfl) ?_
  conv => whnf
  refine CallK.mk' (.s (.lf (.own 1 0 1 0 (b ++ numF k.toNat).length))) _ ((c137 b k k.toNat (by omega) (by omega) (by omega)).made [some ⟨23, [.one (.int .i64 k), .one (.int .i64 n), .one (.str s)]⟩] (Hn := [some ⟨5, [.bytes (b ++ numF k.toNat).length (b ++ numF k.toNat)]⟩]) ⟨freeF.wv trivial, freeF.wv trivial, trivial⟩ (WV.lf (WL.uown rfl rfl rfl)) ⟨rfl, ⟨.bytes rfl fun _ _ => rfl, trivial⟩, trivial⟩) ?_
  conv => whnf
  refine CallK.mk' _ _ ((c121 k).free _ ⟨trivial, trivial⟩ trivial) ?_
  conv => whnf
  have hbl : (b ++ numF k.toNat).length ≤ 140737000000000 := by rw [List.length_append]; omega
  by_cases h1 : hasF k = 1
  · refine CaseB.of_true (decide_eq_true h1) ?_
    conv => whnf
    refine CallK.mk' (.s (.lf (.own 2 0 1 0 (b ++ numF k.toNat ++ numF s.length ++ s).length))) _ ((c138 (b ++ numF k.toNat) s (by omega) hbl).madeL (fun _ => False) [some ⟨23, [.one (.int .i64 k), .one (.int .i64 n), .one (.str s)]⟩, some ⟨5, [.bytes (b ++ numF k.toNat).length (b ++ numF k.toNat)]⟩] (Hn := [some ⟨5, [.bytes (b ++ numF k.toNat ++ numF s.length ++ s).length (b ++ numF k.toNat ++ numF s.length ++ s)]⟩]) ⟨WV.lf (WL.lent rfl rfl ⟨fun h => h, fun i ob h => by simp at h⟩), freeF.wv trivial, trivial⟩ (WV.lf (WL.uown rfl rfl rfl)) ⟨rfl, ⟨.bytes rfl fun _ _ => rfl, trivial⟩, trivial⟩) ?_
    conv => whnf
    have e : putF b k n s = b ++ numF k.toNat ++ numF s.length ++ s := by unfold putF; rw [if_pos h1]
    rw [e]
    exact RetK.perm [2] ⟨⟨rfl, .bytes rfl fun _ _ => rfl, trivial⟩, trivial⟩ (WV.lf (WL.own rfl rfl rfl rfl)) rfl (by simp) rfl (by simp)
  · refine CaseB.of_false (decide_eq_false h1) ?_
    conv => whnf
    refine CallK.mk' (.s (.lf (.own 2 0 1 0 (b ++ numF k.toNat ++ numF n.toNat).length))) _ ((c137 (b ++ numF k.toNat) n n.toNat (by omega) (by omega) (by omega)).madeL (fun _ => False) [some ⟨23, [.one (.int .i64 k), .one (.int .i64 n), .one (.str s)]⟩, some ⟨5, [.bytes (b ++ numF k.toNat).length (b ++ numF k.toNat)]⟩] (Hn := [some ⟨5, [.bytes (b ++ numF k.toNat ++ numF n.toNat).length (b ++ numF k.toNat ++ numF n.toNat)]⟩]) ⟨WV.lf (WL.lent rfl rfl ⟨fun h => h, fun i ob h => by simp at h⟩), freeF.wv trivial, trivial⟩ (WV.lf (WL.uown rfl rfl rfl)) ⟨rfl, ⟨.bytes rfl fun _ _ => rfl, trivial⟩, trivial⟩) ?_
    conv => whnf
    have e : putF b k n s = b ++ numF k.toNat ++ numF n.toNat := by unfold putF; rw [if_neg h1]
    rw [e]
    exact RetK.perm [2] ⟨⟨rfl, .bytes rfl fun _ _ => rfl, trivial⟩, trivial⟩ (WV.lf (WL.own rfl rfl rfl rfl)) rfl (by simp) rfl (by simp)
end Go.Sym.Md

