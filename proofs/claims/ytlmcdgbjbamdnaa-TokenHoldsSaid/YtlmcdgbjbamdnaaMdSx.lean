/- Contracts of the program's functions, proved by the framework (text MdSx), without conditions but those that each theorem states. -/
import Derived.Test.YtlmcdgbjbamdnaaMdTx
set_option linter.unusedVariables false
set_option linter.unusedSimpArgs false
set_option maxRecDepth 10000
namespace Go.Sym.Md
open Go Go.Sym Go.Sym.Sh
attribute [local irreducible] ws acc rs addUp Kw highA highB Sh.choose most lowA lowB ror blockF

/-! ### Sums of texts of any length that a text can have -/
theorem wrap_big (n : Nat) (h : 9223372036854775808 ≤ n) (h' : n < 18446744073709551616) : IntKind.i64.wrap (n : Int) = (n : Int) - 18446744073709551616 := by
  simp only [IntKind.wrap, IntKind.bits, IntKind.signed, Bool.true_and, decide_eq_true_eq, ge_iff_le]
  split <;> omega

theorem wrap_mod (n : Nat) (h : n < 9223372036854775808 ∨ n % 64 = 0) (h' : n < 18446744073709551616) : Int.tmod (IntKind.i64.wrap (n : Int)) 64 = ((n % 64 : Nat) : Int) := by
  by_cases hb : n < 9223372036854775808
  · rw [wrap_i64 (by omega) (by omega)]; rfl
  · rw [wrap_big n (by omega) h']
    have : n % 64 = 0 := by omega
    obtain ⟨k, rfl⟩ : ∃ k, n = 64 * k := ⟨n / 64, by omega⟩
    rw [show ((64 * k : Nat) : Int) - 18446744073709551616 = 64 * ((k : Int) - 288230376151711744) by omega, Int.mul_tmod_right]
    omega
theorem wrap_mod_ne (n : Nat) (h : ¬ n % 64 = 0) (h' : n < 18446744073709551616) : ¬ Int.tmod (IntKind.i64.wrap (n : Int)) 64 = 0 := by
  intro he
  obtain ⟨k, hk⟩ := Int.dvd_of_tmod_eq_zero he
  by_cases hb : n < 9223372036854775808
  · rw [wrap_i64 (by omega) (by omega)] at hk; omega
  · rw [wrap_big n (by omega) h'] at hk; omega
theorem wrap_add (n m : Nat) : IntKind.i64.wrap (IntKind.i64.wrap (n : Int) + (m : Int)) = IntKind.i64.wrap ((n + m : Nat) : Int) := by
  simp only [IntKind.wrap, IntKind.bits, IntKind.signed, Bool.true_and, decide_eq_true_eq, ge_iff_le]
  split <;> split <;> split <;> omega

abbrev obW (s : St) : OB := ⟨201, [.ints .u32 8 (Us s.h), .bytes 64 s.p, .one (.int .i64 (IntKind.i64.wrap (s.n : Int))), .one .tt]⟩

theorem c186g (s : St) (hs : s.ok) (b : List UInt8) (hn : s.n < 9223372036854775808) (hb : s.n + b.length < 9223373136366403584) : SCalls Proofs.Try.prog 186 [.s (.lf (.ptr 0 0)), .s (.lf (.rob false false b))] [some (obW s)] (.tup []) [some (obW (writeF s b))] := by
  refine SCalls.intro tok Proofs.Try.func186 ?_
  conv => whnf
  refine LoopK.mk2 (fun (r : List UInt8) (t : St) => [(0, .s (.lf (.ptr 0 0))), (1, .s (.lf (.rob false false r)))]) (fun r t => [some (obW t)])
    (fun r t => writeF t r = writeF s b ∧ t.ok ∧ t.n + r.length = s.n + b.length ∧ (0 < r.length → t.n < 9223372036854775808 ∨ t.n % 64 = 0)) (fun r t => r.length) b s ⟨rfl, hs, rfl, fun _ => .inl hn⟩ ?_ ?_
  · exact Weak.of ⟨rfl, okGs.ws (by exact ⟨trivial, trivial, trivial, trivial, trivial⟩), trivial⟩ (by simp) ⟨okF.wv rfl, okF.wv trivial, trivial⟩
  · rintro r t ⟨h1, h2, h3, h4⟩
    conv => whnf
    by_cases hr : 0 < r.length
    · refine CaseB.of_true (decide_eq_true (by omega)) ?_
      conv => whnf
      refine ⟨by omega, ?_⟩
      conv => whnf
      have e1 : Int.tmod (IntKind.i64.wrap (t.n : Int)) 64 = ((t.n % 64 : Nat) : Int) := wrap_mod t.n (h4 hr) (by omega)
      rw [e1]
      refine ⟨⟨by omega, by simp [maxLen]⟩, ?_⟩
      conv => whnf
      refine ⟨⟨by omega, by rw [h2.p]; omega⟩, ?_⟩
      conv => whnf
      have hm : ∃ m : Nat, m = min r.length (64 - t.n % 64) ∧ min r.length (((64 : Nat) : Int).toNat - (((t.n % 64 : Nat)) : Int).toNat) = m := ⟨_, rfl, by congr 1⟩
      obtain ⟨m, hm1, hm2⟩ := hm
      rw [hm2]
      refine ⟨by omega, ?_⟩
      conv => whnf
      refine ⟨by omega, ?_⟩
      conv => whnf
      have e2 : IntKind.i64.wrap (IntKind.i64.wrap (t.n : Int) + (m : Int)) = IntKind.i64.wrap ((t.n + m : Nat) : Int) := wrap_add t.n m
      rw [e2]
      have hsp : spl t.p (((t.n % 64 : Nat)) : Int).toNat (List.take (((64 : Nat) : Int).toNat - (((t.n % 64 : Nat)) : Int).toNat) r) = spl t.p (t.n % 64) (r.take m) := by
        rw [Int.toNat_natCast, Int.toNat_natCast]
        congr 1
        rw [hm1]
        rcases Nat.le_total r.length (64 - t.n % 64) with h | h
        · rw [Nat.min_eq_left h, List.take_of_length_le h, List.take_of_length_le (Nat.le_refl _)]
        · rw [Nat.min_eq_right h]
      rw [hsp]
      have hpl : (spl t.p (t.n % 64) (r.take m)).length = 64 := by
        have := h2.p
        simp only [spl, List.length_append, List.length_take, List.length_drop]; omega
      have hpc := writeF_piece (r.take m) t h2.p (by rw [List.length_take]; omega) (by rw [List.length_take]; omega)
      rw [List.length_take, Nat.min_eq_left (by omega)] at hpc
      have hgo : writeF (writeF t (r.take m)) (r.drop m) = writeF s b := by rw [← writeF_append, List.take_append_drop]; exact h1
      have hok := writeF_ok h2 (r.take m)
      by_cases hz : (t.n + m) % 64 = 0
      · refine CaseB.of_true (decide_eq_true (by rw [wrap_mod (t.n + m) (.inr hz) (by omega), hz]; rfl)) ?_
        conv => whnf
        refine DrawK.mk1 tok mixed [0, 0, 2, 6, 14, 0, 32, 96, 224, 510, 1023, 2047, 4095] [(0, 0, []), (1, 0, []), (5, 0, []), (2, 1, [0]), (3, 1, [0]), (4, 1, [0]), (6, 1, [0]), (7, 1, [0]), (8, 1, [0]), (9, 1, [0]), (10, 1, [0]), (11, 1, [0]), (12, 2, [])] (by kernel_rfl) ?_
        conv => whnf
        refine CallR.mk' _ ((c214 t.h h2.h _ hpl).free _ ⟨⟨trivial, trivial⟩, ⟨trivial, trivial⟩, trivial⟩ ⟨trivial, trivial⟩) ?_
        conv => whnf
        rw [if_pos hz] at hpc
        refine ⟨(r.drop m, writeF t (r.take m)), ⟨hgo, hok, by rw [hpc, List.length_drop]; show t.n + m + (r.length - m) = _; omega, fun _ => by rw [hpc]; exact .inr hz⟩, by show (r.drop m).length < r.length; rw [List.length_drop]; omega, ?_⟩
        rw [hpc]
        exact Weak.of ⟨rfl, okGs.ws (by exact ⟨trivial, trivial, trivial, trivial, trivial⟩), trivial⟩ (by simp) ⟨okF.wv rfl, WV.lf (WL.rob (by simp) (by simp) (by simp)), trivial⟩
      · refine CaseB.of_false (decide_eq_false (wrap_mod_ne (t.n + m) hz (by omega))) ?_
        conv => whnf
        rw [if_neg hz] at hpc
        refine ⟨(r.drop m, writeF t (r.take m)), ⟨hgo, hok, by rw [hpc, List.length_drop]; show t.n + m + (r.length - m) = _; omega, fun h0 => by rw [List.length_drop] at h0; omega⟩, by show (r.drop m).length < r.length; rw [List.length_drop]; omega, ?_⟩
        rw [hpc]
        exact Weak.of ⟨rfl, okGs.ws (by exact ⟨trivial, trivial, trivial, trivial, trivial⟩), trivial⟩ (by simp) ⟨okF.wv rfl, WV.lf (WL.rob (by simp) (by simp) (by simp)), trivial⟩
    · refine CaseB.of_false (decide_eq_false (by omega)) ?_
      conv => whnf
      obtain rfl : r = [] := List.length_eq_zero_iff.1 (by omega)
      have h1 : t = writeF s b := h1
      refine RetK.of (H := [some (obW t)]) ⟨rfl, ?_, trivial⟩ (by simp) (okF.wv trivial)
      subst h1
      exact okGs.ws (by exact ⟨trivial, trivial, trivial, trivial, trivial⟩)

def sumG (s : St) : List UInt8 := toldF (writeF s (padF (min s.n 576460752303423488))).h
def shaG (b : List UInt8) : List UInt8 := sumG (writeF st0 b)
theorem shaG_length (b : List UInt8) : (shaG b).length = 32 := by rw [shaG, sumG, toldF_length]
attribute [local irreducible] writeF padF toldF

theorem c132g (s : St) (hs : s.ok) (hn : s.n < 9223372036854775808) : SCalls Proofs.Try.prog 132 [.s (.lf (.ptr 0 0))] [some (obW s)] (.s (.lf (.str (sumG s)))) [some (obW s)] := by
  have hw : IntKind.i64.wrap (s.n : Int) = (s.n : Int) := wrap_i64 (by omega) (by omega)
  refine SCalls.intro tok Proofs.Try.func132 ?_
  conv => whnf
  refine CallK.mk' _ _ ((c187i (IntKind.i64.wrap (s.n : Int)) (min s.n 576460752303423488) (by rw [hw]; omega) (by omega)).free _ ⟨trivial, trivial⟩ trivial) ?_
  conv => whnf
  have hz := zeros_lt (min s.n 576460752303423488)
  refine CallK.mk' _ [some (obW s), some (obW (writeF s (padF (min s.n 576460752303423488))))] ((c186g s hs (padF (min s.n 576460752303423488)) hn (by rw [padF_length]; omega)).frame1 (nm := 1) rfl rfl (freeGs.ws ⟨trivial, trivial, trivial, trivial, trivial⟩) ⟨WV.lf (WL.ptr rfl rfl), WV.lf (WL.rob rfl (by simp) (by simp)), trivial⟩ rfl (freeGs.ws ⟨trivial, trivial, trivial, trivial, trivial⟩) (freeF.wv trivial)) ?_
  conv => whnf
  refine CallK.mk' _ _ ((c188 _ (writeF_ok hs _).h).free _ ⟨⟨trivial, trivial⟩, trivial⟩ trivial) ?_
  conv => whnf
  exact RetK.of ⟨rfl, okGs.ws (by exact ⟨trivial, trivial, trivial, trivial, trivial⟩), trivial⟩ (by simp) (okF.wv trivial)

/-- sha.Sum, of any text -/
theorem c235g (b : List UInt8) (hb : b.length ≤ maxLen) : SCalls Proofs.Try.prog 235 [.s (.lf (.rob false false b))] [] (.s (.lf (.str (shaG b)))) [] := by
  have hm : maxLen = 9223372036854775807 := rfl
  have e0 : obSt st0 = obW st0 := rfl
  have k0 := c185
  rw [e0] at k0
  have hl : (writeF st0 b).n = b.length := by rw [writeF_n]; simp [st0]
  refine SCalls.intro tok Proofs.Try.func235 ?_
  conv => whnf
  refine CallK.mk' _ _ k0 ?_
  conv => whnf
  refine CallK.mk' _ [some (obW (writeF st0 b))] (c186g st0 st0_ok b (by simp [st0]) (by show 0 + b.length < _; omega)) ?_
  conv => whnf
  refine CallK.mk' _ [some (obW (writeF st0 b))] (c132g _ (writeF_ok st0_ok b) (by rw [hl]; omega)) ?_
  conv => whnf
  exact RetK.empty (okF.wv trivial)

def blkG (key : List UInt8) (x : UInt8) : List UInt8 := bF (shaG key) x 64
theorem blkG_length (key : List UInt8) (x : UInt8) : (blkG key x).length = 64 := bF_length _ _ _
def tagG (key text : List UInt8) : List UInt8 := shaF (blkG key 92 ++ shaF (blkG key 54 ++ text))
attribute [local irreducible] shaF bF shaG

/-- hmac.pad, of a long key -/
theorem c224g (key : List UInt8) (hk : key.length ≤ maxLen) (hl : 64 < (key.length : Int)) (x : UInt8) : SCalls Proofs.Try.prog 224 [.s (.lf (.str key)), .s (.lf (.int .u8 (x.toNat : Int)))] [] (vBlk (blkG key x)) [] := by
  have hkl : (shaG key).length ≤ 64 := by rw [shaG_length]; omega
  have hb0 := bF_zero (shaG key) x hkl
  have hfull : bF (shaG key) x 64 = blkG key x := rfl
  refine SCalls.intro tok Proofs.Try.func224 ?_
  conv => whnf
  refine CaseB.of_true (decide_eq_true hl) ?_
  conv => whnf
  refine Or.inr ?_
  conv => whnf
  refine CallK.mk' _ _ ((c235g key hk).lend (cs := [.s (.lf (.rob true false key))]) (fun _ => True) _ ⟨WV.lf (WL.rob rfl (by simp) (by simp)), trivial⟩ (plainF.wv trivial)) ?_
  conv => whnf
  refine ⟨by simp [maxLen], ?_⟩
  conv => whnf
  refine ⟨by simp, ?_⟩
  conv => whnf
  refine LoopK.upTo 64 (fun i => [(1, .s (.lf (.int .u8 (x.toNat : Int)))), (4, .s (.lf (.ptr 0 0))), (5, .s (.lf (.ptr 1 0))), (16, vI i)]) (fun i => [some ⟨199, [.bytes 64 (List.replicate 64 0)]⟩, some ⟨199, [.bytes 64 (bF (shaG key) x i)]⟩]) ?_ ?_
  · exact Weak.of ⟨rfl, ⟨.bytes rfl fun _ _ => rfl, trivial⟩, rfl, ⟨.bytes rfl fun _ _ => by rw [spl_pad _ hkl, hb0], trivial⟩, trivial⟩ (by simp) ⟨okF.wv trivial, okF.wv rfl, okF.wv rfl, okF.wv trivial, trivial⟩
  intro i hi
  conv => whnf
  by_cases hi' : i < 64
  · refine CaseB.of_true (decide_eq_true (by omega)) ?_
    conv => whnf
    have hbl : Int.toNat (i : Int) < (bF (shaG key) x i).length := by rw [bF_length]; omega
    repeat (refine And.intro (by omega) ?_; conv => whnf)
    refine next_round hi' (Weak.of ⟨rfl, ⟨.bytes rfl fun _ _ => rfl, trivial⟩, rfl, ⟨.bytes rfl fun o _ => ?_, trivial⟩, trivial⟩ (by simp) ⟨okF.wv trivial, okF.wv rfl, okF.wv rfl, WV.lf (WL.int (by rw [wrap_i64 (by omega) (by omega)]; omega)), trivial⟩)
    rw [Int.toNat_natCast, u8_xor, Int.toNat_natCast, UInt8.ofNat_toNat, bF_set _ _ _ hi']
  refine CaseB.of_false (decide_eq_false (by omega)) ?_
  conv => whnf
  obtain rfl : i = 64 := by omega
  exact RetK.empty (WV.agg ⟨.bytes rfl fun _ _ => by rw [hfull], trivial⟩)
/-- hmac.Tag -/
theorem c204g (key text : List UInt8) (hk : key.length ≤ maxLen) (hl : 64 < (key.length : Int)) (ht : text.length ≤ 288230376151711744) : SCalls Proofs.Try.prog 204 [.s (.lf (.str key)), .s (.lf (.rob false false text))] [] (.s (.lf (.str (tagG key text)))) [] := by
  have h45 := c223 (blkG key 54) (blkG_length _ _) text ht
  have h45' := (c223 (blkG key 92) (blkG_length _ _) (shaF (blkG key 54 ++ text)) (by rw [shaF_length]; omega)).lend (cs := [vBlk (blkG key 92), .s (.lf (.rob true false (shaF (blkG key 54 ++ text))))]) (fun _ => True) [] ⟨freeF.wv ⟨trivial, trivial⟩, WV.lf (WL.rob rfl (by simp) (by simp)), trivial⟩ (plainF.wv trivial)
  refine SCalls.intro tok Proofs.Try.func204 ?_
  conv => whnf
  refine CallK.mk' _ _ (c224g key hk hl 54) ?_
  conv => whnf
  refine CallK.mk' _ _ h45 ?_
  conv => whnf
  refine CallK.mk' _ _ (c224g key hk hl 92) ?_
  conv => whnf
  refine Or.inr ?_
  conv => whnf
  refine CallK.mk' _ _ h45' ?_
  conv => whnf
  exact RetK.empty (okF.wv trivial)
end Go.Sym.Md

set_option linter.unusedVariables false
set_option linter.unusedSimpArgs false
set_option maxRecDepth 10000
namespace Go.Sym.Md
open Go Go.Sym Go.Sym.Sh

def firstG (key : List UInt8) (l i e : Int) : List UInt8 := tagG key (textT l i e)
def mintG (key : List UInt8) (l i e : Int) : TkS := if headF l i e then ⟨l, i, e, [], firstG key l i e⟩ else tk0
attribute [local irreducible] numF checkF hasF okC boundF numR textR readC putC codeC parseC tagF nn headF firstF chainF tagG

/-- token.first -/
theorem c159g (key : List UInt8) (l i e : Int) (hk : key.length ≤ maxLen) (hk5 : 500 < (key.length : Int)) (hl : l ≤ 9223372036854775807) (hi : i ≤ 9223372036854775807) (he : e ≤ 9223372036854775807) : SCalls Proofs.Try.prog 159 [.s (.lf (.str key)), vI l, vI i, vI e] [] (.s (.lf (.str (firstG key l i e)))) [] := by
  have hx : (textT l i e).length ≤ 32 := (textP_len l i e 3).2
  refine SCalls.intro tok Proofs.Try.func159 ?_
  conv => whnf
  refine CallK.mk' _ _ (c105 l i e hl hi he) ?_
  conv => whnf
  refine CallK.mk' _ _ ((c204g key (textT l i e) hk (by omega) (by omega)).pure [] (cs := [.s (.lf (.str key)), .s (.lf (.rob true false (textT l i e)))]) ⟨freeF.wv trivial, WV.lf toRob, trivial⟩ (freeF.wv trivial)) ?_
  conv => whnf
  exact RetK.empty (okF.wv trivial)
/-- token.Mint -/
theorem c97g (key : List UInt8) (l i e : Int) (hk : key.length ≤ maxLen) (hk5 : 500 < (key.length : Int)) : SCalls Proofs.Try.prog 97 [.s (.lf (.str key)), vI l, vI i, vI e] [] (.tup [.agg (segsU (mintG key l i e) .sl0), .lf (.int .i64 (if headF l i e then 0 else 1))]) [] := by
  refine SCalls.intro tok Proofs.Try.func97 ?_
  conv => whnf
  refine CallK.mk' _ _ ((c158 l i e).free _ ⟨trivial, trivial, trivial, trivial⟩ trivial) ?_
  conv => whnf
  cases hh : headF l i e with
  | false =>
    refine CaseB.of_true rfl ?_
    conv => whnf
    rw [show mintG key l i e = tk0 by unfold mintG; rw [hh]; rfl]
    exact RetK.empty (WV.tup ⟨WV.agg ⟨.one (WL.int rfl), .one (WL.int rfl), .one (WL.int rfl), .one WL.sl0, .one (WL.str rfl), trivial⟩, WL.int rfl, trivial⟩)
  | true =>
    obtain ⟨h1, h2, h3, h4, h5, h6⟩ := headF_facts hh
    refine CaseB.of_false rfl ?_
    conv => whnf
    rw [show mintG key l i e = ⟨l, i, e, [], firstG key l i e⟩ by unfold mintG; rw [hh]; rfl]
    refine CallK.mk' _ _ ((c159g key l i e hk hk5 (by omega) (by omega) (by omega)).free _ ⟨trivial, trivial, trivial, trivial, trivial⟩ trivial) ?_
    conv => whnf
    exact RetK.empty (WV.tup ⟨WV.agg ⟨.one (WL.int rfl), .one (WL.int rfl), .one (WL.int rfl), .one WL.sl0, .one (WL.str rfl), trivial⟩, WL.int rfl, trivial⟩)

/-- token.Weaker, of what is full -/
theorem c99f (t : TkS) (c : CV) (h : okT t = true) (hw : okW c = true) (h8 : t.cs.length = 8) : SCalls Proofs.Try.prog 99 [vTu t (rowT t.cs), vCc c] [] (.tup [.agg (segsU tk0 .sl0), .lf (.int .i64 7)]) [] := by
  have hm : maxLen = 9223372036854775807 := rfl
  have hg : t.tag.length = 32 := by
    unfold okT at h
    simp only [Bool.and_eq_true, decide_eq_true_eq] at h
    exact h.2.2.2
  have k160 := (c160 t (by omega)).pure [some ⟨52, segsU t (rowT t.cs)⟩, some (obC c), some ⟨52, segsU tk0 .sl0⟩] (cs := [vTu t (rowT t.cs)]) ⟨WV.agg ⟨.one (WL.int rfl), .one (WL.int rfl), .one (WL.int rfl), .one rowT_vR, .one (WL.str rfl), trivial⟩, trivial⟩ (freeF.wv trivial)
  have k161 := (c161 c).free [some ⟨52, segsU t (rowT t.cs)⟩, some (obC c), some ⟨52, segsU tk0 .sl0⟩] ⟨⟨trivial, trivial, trivial, trivial⟩, trivial⟩ trivial
  rw [hw] at k161
  have hc0 : ¬ checkT t ≠ 0 := fun h' => h' (by unfold checkT; rw [h]; rfl)
  refine SCalls.intro tok Proofs.Try.func99 ?_
  conv => whnf
  refine CallK.mk' _ _ k160 ?_
  conv => whnf
  repeat ((first | refine CaseB.of_false (decide_eq_false hc0) ?_ | refine CallK.mk' _ _ k161 ?_ | refine CaseB.of_false rfl ?_); conv => whnf)
  refine CaseB.of_true (decide_eq_true (by omega)) ?_
  conv => whnf
  exact RetK.empty (WV.tup ⟨WV.agg ⟨.one (WL.int rfl), .one (WL.int rfl), .one (WL.int rfl), .one WL.sl0, .one (WL.str rfl), trivial⟩, WL.int rfl, trivial⟩)

end Go.Sym.Md

set_option linter.unusedVariables false
set_option linter.unusedSimpArgs false
set_option maxRecDepth 10000
namespace Go.Sym.Md
open Go Go.Sym Go.Sym.Sh

def uC : List CV → LV
  | [] => .sl0
  | a :: l => rowT (a :: l)
theorem uC_free (cs : List CV) : freeL (uC cs) := by
  cases cs with
  | nil => trivial
  | cons a l => exact rowT_free
theorem uC_wl {D : Rel} [ROk D] (cs : List CV) : WL D (uC cs) (vRl cs) := by
  cases cs with
  | nil => exact WL.sl0ro
  | cons a l => exact rowT_vR
theorem mintF_eq {key : List UInt8} {i : Int} (h : headF 1 i 0 = true) : mintF key 1 i 0 = ⟨1, i, 0, [], firstF key 1 i 0⟩ := by unfold mintF; rw [h]; rfl
theorem chainF_nil (F : List UInt8) : chainF F [] = F := rfl
theorem chainF_32 (F : List UInt8) (h : F.length = 32) (cs : List CV) : (chainF F cs).length = 32 := by
  induction cs generalizing F with
  | nil => exact h
  | cons c cs ih => exact ih _ (tagF_length _ _)
theorem headF_of {i : Int} (h : 1 ≤ i) (h' : i ≤ 2147483648) : headF 1 i 0 = true := by unfold headF; simp [h, h']
theorem chainF_snoc (F : List UInt8) (cs : List CV) (c : CV) : chainF F (cs ++ [c]) = tagF (chainF F cs) (putC [] c) := by
  unfold chainF; rw [List.foldl_append]; rfl
attribute [local irreducible] numF checkF hasF okC boundF numR textR readC putC codeC parseC tagF nn headF firstF chainF tagG mintF mintG

def tkH (F : List UInt8) (i : Int) (cs : List CV) : TkS := ⟨1, i, 0, cs, chainF F cs⟩

/-- baileylaw08.TokenHolds, of a long key -/
theorem c18g (key : List UInt8) (i : Int) (ls : List CV) (hk : key.length ≤ maxLen) (h1 : 500 < (key.length : Int)) : SCalls Proofs.Try.prog 18 [.s (.lf (.str key)), vI i, vR ls] [] (.s (.lf .tt)) [] := by
  refine SCalls.intro tok Proofs.Try.func18 ?_
  conv => whnf
  refine CallK.mk' _ _ (c97g key 1 i 0 hk h1) ?_
  conv => whnf
  repeat (refine CaseB.of_true (decide_eq_true h1) ?_; conv => whnf)
  refine CallK.mk' _ _ (c98.free _ trivial trivial) ?_
  conv => whnf
  exact RetK.empty (okF.wv trivial)

/-- baileylaw08.TokenHolds -/
theorem c18 (key : List UInt8) (i : Int) (ls : List CV) (h1 : ¬ 500 < (key.length : Int)) (hll : ls.length ≤ maxLen) : SCalls Proofs.Try.prog 18 [.s (.lf (.str key)), vI i, vR ls] [] (.s (.lf .tt)) [] := by
  have hm : maxLen = 9223372036854775807 := rfl
  refine SCalls.intro tok Proofs.Try.func18 ?_
  conv => whnf
  refine CallK.mk' _ _ (c97 key 1 i 0 (by omega)) ?_
  conv => whnf
  cases hh : headF 1 i 0 with
  | false =>
    repeat ((first | refine CaseB.of_false (decide_eq_false h1) ?_ | refine CaseB.of_true (by decide) ?_); conv => whnf)
    by_cases h2 : i < 1
    · repeat ((first | refine CaseB.of_true (decide_eq_true h2) ?_ | refine CallK.mk' _ _ (c98.free _ trivial trivial) ?_); conv => whnf)
      exact RetK.empty (okF.wv trivial)
    · have h3 : 2147483648 < i := by
        by_cases h : 2147483648 < i
        · exact h
        · exact absurd hh (by rw [headF_of (by omega) (by omega)]; simp)
      repeat ((first | refine CaseB.of_false (decide_eq_false h2) ?_ | refine CaseB.of_true (decide_eq_true h3) ?_ | refine CallK.mk' _ _ (c98.free _ trivial trivial) ?_); conv => whnf)
      exact RetK.empty (okF.wv trivial)
  | true =>
    repeat ((first | refine CaseB.of_false (decide_eq_false h1) ?_ | refine CaseB.of_false (by decide) ?_); conv => whnf)
    rw [mintF_eq hh]
    obtain ⟨F, hF⟩ : ∃ F, firstF key 1 i 0 = F := ⟨_, rfl⟩
    have hFl : F.length = 32 := by rw [← hF]; exact firstF_len _ _ _ _
    have hcl : ∀ cs, (chainF F cs).length = 32 := fun cs => chainF_32 F hFl cs
    rw [hF]
    have hT0 : (⟨1, i, 0, [], F⟩ : TkS) = tkH F i [] := by unfold tkH; rw [chainF_nil]
    rw [hT0]
    have hok : ∀ cs : List CV, cs.length ≤ 8 → cs.all okW = true → okT (tkH F i cs) = true := fun cs h8 ha => by
      unfold okT
      rw [show headF (tkH F i cs).l (tkH F i cs).i (tkH F i cs).e = true from hh, show (tkH F i cs).cs = cs from rfl, ha, show (tkH F i cs).tag = chainF F cs from rfl, hcl, decide_eq_true h8]
      rfl
    have hwk : ∀ (cs : List CV) (c : CV), weakT (tkH F i cs) c = tkH F i (cs ++ [c]) := fun cs c => by unfold weakT tkH; rw [chainF_snoc]
    have hop : ∀ cs : List CV, cs.length ≤ 8 → cs.all okW = true → openF key (tkH F i cs) = true := fun cs h8 ha => by
      unfold openF
      rw [hok cs h8 ha, Bool.true_and]
      refine decide_eq_true ?_
      show chainF (firstF key 1 i 0) cs = chainF F cs
      rw [hF]
    refine LoopK.mk2 (fun (j : Nat) (cs : List CV) => [(46, vI j), (45, vI ls.length), (44, vR ls), (10, accV 1 cs), (9, .s (.lf (.str F))), (7, .s (.lf (.ptr 0 0))), (0, .s (.lf (.str key)))]) (fun j cs => some ⟨52, segsU (tkH F i cs) (uC cs)⟩ :: accH cs)
      (fun j cs => j ≤ ls.length ∧ cs.length ≤ 8 ∧ cs.all okW = true) (fun j cs => ls.length - j) 0 [] ⟨by omega, by simp, rfl⟩ ?_ ?_
    · exact Weak.of ⟨rfl, ⟨.one (WL.int rfl), .one (WL.int rfl), .one (WL.int rfl), .one WL.sl0, .one (WL.str rfl), trivial⟩, trivial⟩ (by simp) ⟨okF.wv trivial, okF.wv trivial, okF.wv rowC_ok, okF.wv trivial, WV.lf (WL.str (chainF_nil F)), okF.wv rfl, okF.wv trivial, trivial⟩
    rintro j cs ⟨hj, h8, ha⟩
    cases cs with
    | nil =>
      conv => whnf
      by_cases hi' : j < ls.length
      · refine CaseB.of_true (decide_eq_true (by omega)) ?_
        conv => whnf
        refine And.intro (by omega) ?_
        conv => whnf
        obtain ⟨c, hc⟩ : ∃ c, ls.getD j cv0 = c := ⟨_, rfl⟩
        have hi0 : ls.getD (Int.toNat (j : Int)) cv0 = c := by rw [Int.toNat_natCast]; exact hc
        rw [hi0]
        by_cases hx : 10 ≤ (j : Int)
        · repeat (refine CaseB.of_true (decide_eq_true hx) ?_; conv => whnf)
          have k101 := (c101 F [] (by omega) (by show ([] : List CV).length ≤ _; omega)).lend (cs := [.s (.lf (.str F)), .s (.lf .sl0)]) (fun _ => False) [some ⟨52, segsU (tkH F i []) .sl0⟩, some (obC c)] ⟨freeF.wv trivial, WV.lf (WL.sl0ro), trivial⟩ (plainF.wv trivial)
          have k98 := c98.free [some ⟨52, segsU (tkH F i []) .sl0⟩, some (obC c)] trivial trivial
          refine DrawK.mk1 tok mixed [0, 1, 0, 0, 12, 31, 63, 127, 255, 511] [(2, 0, []), (3, 0, []), (0, 1, [0]), (1, 1, [0]), (4, 1, [0]), (5, 0, []), (6, 0, []), (7, 1, [0]), (8, 0, []), (9, 0, [])] (by kernel_rfl) ?_
          conv => whnf
          repeat ((first | refine CallR.mk' _ k101 ?_ | refine CallR.mk' _ k98 ?_ | refine CaseB.of_true (decide_eq_true rfl) ?_ | refine And.intro rfl ?_); conv => whnf)
          exact RetK.empty (okF.wv trivial)
        by_cases hy : 200 < (c.s.length : Int)
        · repeat ((first | refine CaseB.of_false (decide_eq_false hx) ?_ | refine CaseB.of_true (decide_eq_true hy) ?_); conv => whnf)
          have k101 := (c101 F [] (by omega) (by show ([] : List CV).length ≤ _; omega)).lend (cs := [.s (.lf (.str F)), .s (.lf .sl0)]) (fun _ => False) [some ⟨52, segsU (tkH F i []) .sl0⟩, some (obC c)] ⟨freeF.wv trivial, WV.lf (WL.sl0ro), trivial⟩ (plainF.wv trivial)
          have k98 := c98.free [some ⟨52, segsU (tkH F i []) .sl0⟩, some (obC c)] trivial trivial
          refine DrawK.mk1 tok mixed [0, 1, 0, 0, 12, 31, 63, 127, 255, 511] [(2, 0, []), (3, 0, []), (0, 1, [0]), (1, 1, [0]), (4, 1, [0]), (5, 0, []), (6, 0, []), (7, 1, [0]), (8, 0, []), (9, 0, [])] (by kernel_rfl) ?_
          conv => whnf
          repeat ((first | refine CallR.mk' _ k101 ?_ | refine CallR.mk' _ k98 ?_ | refine CaseB.of_true (decide_eq_true rfl) ?_ | refine And.intro rfl ?_); conv => whnf)
          exact RetK.empty (okF.wv trivial)
        repeat ((first | refine CaseB.of_false (decide_eq_false hx) ?_ | refine CaseB.of_false (decide_eq_false hy) ?_); conv => whnf)
        cases hw : okW c with
        | false =>
          have k99 := (c99bn (tkH F i []) c (by show ([] : List CV).length ≤ _; omega) (by rw [hw, Bool.and_false]) rfl).free [some ⟨52, segsU (tkH F i []) .sl0⟩, some (obC c)] ⟨⟨trivial, trivial, trivial, trivial, trivial, trivial⟩, ⟨trivial, trivial, trivial, trivial⟩, trivial⟩ ⟨⟨trivial, trivial, trivial, trivial, trivial, trivial⟩, trivial, trivial⟩
          have k27 := (c27 c.k c.n c.s).free [some ⟨52, segsU (tkH F i []) .sl0⟩, some (obC c), some ⟨52, segsU tk0 .sl0⟩] ⟨⟨trivial, trivial, trivial, trivial⟩, trivial⟩ trivial
          refine CallK.mk' _ _ k99 ?_
          conv => whnf
          repeat ((first | refine CaseB.of_true (decide_eq_true (show (1 : Int) ≠ 0 by decide)) ?_ | refine CaseB.of_false (decide_eq_false (show ¬ (1 : Int) = 7 by decide)) ?_ | refine CaseB.of_true (decide_eq_true (rfl : (1 : Int) = 1)) ?_ | refine CallK.mk' _ _ k27 ?_ | refine CaseB.of_false (decide_eq_false (show ¬ checkF c.k c.n c.s = 0 by rw [checkF_bad hw]; decide)) ?_); conv => whnf)
          refine ⟨(j + 1, []), ⟨by show j + 1 ≤ ls.length; omega, h8, ha⟩, by show ls.length - (j + 1) < ls.length - j; omega, ?_⟩
          exact Weak.perm [0] ⟨⟨rfl, .one (WL.int rfl), .one (WL.int rfl), .one (WL.int rfl), .one WL.sl0, .one (WL.str rfl), trivial⟩, trivial⟩ ⟨WV.lf (WL.int (by rw [wrap_i64 (by omega) (by omega)]; show (j : Int) + 1 = ((j + 1 : Nat) : Int); omega)), freeF.wv trivial, freeF.wv rowC_free, freeF.wv trivial, freeF.wv trivial, WV.lf (WL.ptr rfl rfl), freeF.wv trivial, trivial⟩ rfl (by show 1 ≤ 1; omega) rfl (Nat.zero_le _)
        | true =>
          have k99 := (c99n (tkH F i []) c (hok _ h8 ha) hw (by show ([] : List CV).length < 8; decide) rfl).free [some ⟨52, segsU (tkH F i []) .sl0⟩, some (obC c)] ⟨⟨trivial, trivial, trivial, trivial, trivial, trivial⟩, ⟨trivial, trivial, trivial, trivial⟩, trivial⟩ ⟨⟨trivial, trivial, trivial, rowT_free (cs := ([] ++ [c])), trivial, trivial⟩, trivial, trivial⟩
          rw [hwk] at k99
          refine CallK.mk' _ _ k99 ?_
          conv => whnf
          repeat ((first | refine CaseB.of_false (decide_eq_false (fun h => h rfl)) ?_ | refine Or.inr ?_); conv => whnf)
          refine And.intro (by show (0 + 1) * 32 ≤ _; omega) ?_
          conv => whnf
          have hM8 : ([c] : List CV).length ≤ 8 := by show 1 ≤ 8; omega
          have hMa : ([c] : List CV).all okW = true := by simp [hw]
          have hlc : 0 + 1 = ([c] : List CV).length := by simp
          have k100 := c100 key (tkH F i [c]) (by omega) (by show ([c] : List CV).length ≤ _; omega) (by show (chainF F [c]).length ≤ _; rw [hcl]; omega)
          rw [hop _ hM8 hMa] at k100
          refine CallK.mk' _ _ (k100.pure _ (cs := [.s (.lf (.str key)), vTu (tkH F i [c]) (rowT [c])]) ⟨freeF.wv trivial, WV.agg ⟨.one (WL.int rfl), .one (WL.int rfl), .one (WL.int rfl), .one rowT_vR, .one (WL.str rfl), trivial⟩, trivial⟩ (freeF.wv trivial)) ?_
          conv => whnf
          repeat (refine CaseB.of_false rfl ?_; conv => whnf)
          have k32 := c32 [c] [c] (by omega)
          rw [show decide ([c] = [c]) = true from decide_eq_true rfl] at k32
          refine CallK.mk' _ _ (k32.lend (cs := [.s (.lf (rowT [c])), .s (.lf (.own 3 0 3 0 (0 + 1)))]) (fun _ => False) _ ⟨WV.lf rowT_vR, WV.lf (WL.lentC (ty := 23) rfl rfl rfl (fun i j hi hj => by
              have hi : i < 1 := hi
              obtain rfl : i = 0 := by omega
              have : j = 0 ∨ j = 1 ∨ j = 2 := by omega
              rcases this with rfl | rfl | rfl <;> rfl) ⟨fun h => h, fun i ob h => by simp at h⟩), trivial⟩ (plainF.wv trivial)) ?_
          conv => whnf
          repeat (refine CaseB.of_false rfl ?_; conv => whnf)
          refine ⟨(j + 1, [c]), ⟨by show j + 1 ≤ ls.length; omega, hM8, hMa⟩, by show ls.length - (j + 1) < ls.length - j; omega, ?_⟩
          exact Weak.perm [0, 3] ⟨⟨rfl, .one (WL.int rfl), .one (WL.int rfl), .one (WL.int rfl), .one rowT_wl, .one (WL.str rfl), trivial⟩, ⟨rfl, ⟨.recs rfl fun i hi j hj => by
                have hi : i < 1 := hi
                have hj : j < 3 := hj
                obtain rfl : i = 0 := by omega
                have : j = 0 ∨ j = 1 ∨ j = 2 := by omega
                rcases this with rfl | rfl | rfl
                · exact plainL.wl (v := .int .i64 c.k) trivial
                · exact plainL.wl (v := .int .i64 c.n) trivial
                · exact plainL.wl (v := .str c.s) trivial, trivial⟩⟩, trivial⟩ ⟨WV.lf (WL.int (by rw [wrap_i64 (by omega) (by omega)]; show (j : Int) + 1 = ((j + 1 : Nat) : Int); omega)), freeF.wv trivial, freeF.wv rowC_free, WV.lf (WL.own rfl rfl rfl hlc), freeF.wv trivial, WV.lf (WL.ptr rfl rfl), freeF.wv trivial, trivial⟩ rfl (by show 2 ≤ 2; omega) rfl (Nat.zero_le _)
      · refine CaseB.of_false (decide_eq_false (by omega)) ?_
        conv => whnf
        have k101 := (c101 F [] (by omega) (by show ([] : List CV).length ≤ _; omega)).lend (cs := [.s (.lf (.str F)), .s (.lf .sl0)]) (fun _ => False) [some ⟨52, segsU (tkH F i []) .sl0⟩] ⟨freeF.wv trivial, WV.lf (WL.sl0ro), trivial⟩ (plainF.wv trivial)
        have k98 := c98.free [some ⟨52, segsU (tkH F i []) .sl0⟩] trivial trivial
        refine DrawK.mk1 tok mixed [0, 1, 0, 0, 12, 31, 63, 127, 255, 511] [(2, 0, []), (3, 0, []), (0, 1, [0]), (1, 1, [0]), (4, 1, [0]), (5, 0, []), (6, 0, []), (7, 1, [0]), (8, 0, []), (9, 0, [])] (by kernel_rfl) ?_
        conv => whnf
        repeat ((first | refine CallR.mk' _ k101 ?_ | refine CallR.mk' _ k98 ?_ | refine CaseB.of_true (decide_eq_true rfl) ?_ | refine And.intro rfl ?_); conv => whnf)
        exact RetK.empty (okF.wv trivial)
    | cons a l =>
      conv => whnf
      by_cases hi' : j < ls.length
      · refine CaseB.of_true (decide_eq_true (by omega)) ?_
        conv => whnf
        refine And.intro (by omega) ?_
        conv => whnf
        obtain ⟨c, hc⟩ : ∃ c, ls.getD j cv0 = c := ⟨_, rfl⟩
        have hi0 : ls.getD (Int.toNat (j : Int)) cv0 = c := by rw [Int.toNat_natCast]; exact hc
        rw [hi0]
        by_cases hx : 10 ≤ (j : Int)
        · repeat (refine CaseB.of_true (decide_eq_true hx) ?_; conv => whnf)
          have k101 := (c101 F (a :: l) (by omega) (by show ((a :: l) : List CV).length ≤ _; omega)).lend (cs := [.s (.lf (.str F)), .s (.lf (.own 1 0 3 0 (a :: l).length))]) (fun _ => False) [some ⟨52, segsU (tkH F i (a :: l)) (rowT (a :: l))⟩, some ⟨23, [.recs 3 (a :: l).length (rowC (a :: l))]⟩, some (obC c)] ⟨freeF.wv trivial, WV.lf (WL.lentC (ty := 23) rfl rfl rfl (fun _ _ _ _ => rfl) (gone_none fun h => h)), trivial⟩ (plainF.wv trivial)
          have k98 := c98.free [some ⟨52, segsU (tkH F i (a :: l)) (rowT (a :: l))⟩, some ⟨23, [.recs 3 (a :: l).length (rowC (a :: l))]⟩, some (obC c)] trivial trivial
          refine DrawK.mk1 tok mixed [0, 1, 0, 0, 12, 31, 63, 127, 255, 511] [(2, 0, []), (3, 0, []), (0, 1, [0]), (1, 1, [0]), (4, 1, [0]), (5, 0, []), (6, 0, []), (7, 1, [0]), (8, 0, []), (9, 0, [])] (by kernel_rfl) ?_
          conv => whnf
          repeat ((first | refine CallR.mk' _ k101 ?_ | refine CallR.mk' _ k98 ?_ | refine CaseB.of_true (decide_eq_true rfl) ?_ | refine And.intro rfl ?_); conv => whnf)
          exact RetK.empty (okF.wv trivial)
        by_cases hy : 200 < (c.s.length : Int)
        · repeat ((first | refine CaseB.of_false (decide_eq_false hx) ?_ | refine CaseB.of_true (decide_eq_true hy) ?_); conv => whnf)
          have k101 := (c101 F (a :: l) (by omega) (by show ((a :: l) : List CV).length ≤ _; omega)).lend (cs := [.s (.lf (.str F)), .s (.lf (.own 1 0 3 0 (a :: l).length))]) (fun _ => False) [some ⟨52, segsU (tkH F i (a :: l)) (rowT (a :: l))⟩, some ⟨23, [.recs 3 (a :: l).length (rowC (a :: l))]⟩, some (obC c)] ⟨freeF.wv trivial, WV.lf (WL.lentC (ty := 23) rfl rfl rfl (fun _ _ _ _ => rfl) (gone_none fun h => h)), trivial⟩ (plainF.wv trivial)
          have k98 := c98.free [some ⟨52, segsU (tkH F i (a :: l)) (rowT (a :: l))⟩, some ⟨23, [.recs 3 (a :: l).length (rowC (a :: l))]⟩, some (obC c)] trivial trivial
          refine DrawK.mk1 tok mixed [0, 1, 0, 0, 12, 31, 63, 127, 255, 511] [(2, 0, []), (3, 0, []), (0, 1, [0]), (1, 1, [0]), (4, 1, [0]), (5, 0, []), (6, 0, []), (7, 1, [0]), (8, 0, []), (9, 0, [])] (by kernel_rfl) ?_
          conv => whnf
          repeat ((first | refine CallR.mk' _ k101 ?_ | refine CallR.mk' _ k98 ?_ | refine CaseB.of_true (decide_eq_true rfl) ?_ | refine And.intro rfl ?_); conv => whnf)
          exact RetK.empty (okF.wv trivial)
        repeat ((first | refine CaseB.of_false (decide_eq_false hx) ?_ | refine CaseB.of_false (decide_eq_false hy) ?_); conv => whnf)
        cases hw : okW c with
        | false =>
          have k99 := (c99bt (tkH F i (a :: l)) c (by show ((a :: l) : List CV).length ≤ _; omega) (by rw [hw, Bool.and_false])).free [some ⟨52, segsU (tkH F i (a :: l)) (rowT (a :: l))⟩, some ⟨23, [.recs 3 (a :: l).length (rowC (a :: l))]⟩, some (obC c)] ⟨⟨trivial, trivial, trivial, rowT_free (cs := a :: l), trivial, trivial⟩, ⟨trivial, trivial, trivial, trivial⟩, trivial⟩ ⟨⟨trivial, trivial, trivial, trivial, trivial, trivial⟩, trivial, trivial⟩
          have k27 := (c27 c.k c.n c.s).free [some ⟨52, segsU (tkH F i (a :: l)) (rowT (a :: l))⟩, some ⟨23, [.recs 3 (a :: l).length (rowC (a :: l))]⟩, some (obC c), some ⟨52, segsU tk0 .sl0⟩] ⟨⟨trivial, trivial, trivial, trivial⟩, trivial⟩ trivial
          refine CallK.mk' _ _ k99 ?_
          conv => whnf
          repeat ((first | refine CaseB.of_true (decide_eq_true (show (1 : Int) ≠ 0 by decide)) ?_ | refine CaseB.of_false (decide_eq_false (show ¬ (1 : Int) = 7 by decide)) ?_ | refine CaseB.of_true (decide_eq_true (rfl : (1 : Int) = 1)) ?_ | refine CallK.mk' _ _ k27 ?_ | refine CaseB.of_false (decide_eq_false (show ¬ checkF c.k c.n c.s = 0 by rw [checkF_bad hw]; decide)) ?_); conv => whnf)
          refine ⟨(j + 1, (a :: l)), ⟨by show j + 1 ≤ ls.length; omega, h8, ha⟩, by show ls.length - (j + 1) < ls.length - j; omega, ?_⟩
          exact Weak.perm [0, 1] ⟨⟨rfl, .one (WL.int rfl), .one (WL.int rfl), .one (WL.int rfl), .one rowT_wl, .one (WL.str rfl), trivial⟩, ⟨rfl, .recs rfl fun i hi j hj => rowC_wl hj, trivial⟩, trivial⟩ ⟨WV.lf (WL.int (by rw [wrap_i64 (by omega) (by omega)]; show (j : Int) + 1 = ((j + 1 : Nat) : Int); omega)), freeF.wv trivial, freeF.wv rowC_free, WV.lf (WL.own rfl rfl rfl rfl), freeF.wv trivial, WV.lf (WL.ptr rfl rfl), freeF.wv trivial, trivial⟩ rfl (by show 2 ≤ 2; omega) rfl (Nat.zero_le _)
        | true =>
          by_cases h9 : (a :: l).length = 8
          · have k99 := (c99f (tkH F i (a :: l)) c (hok _ h8 ha) hw h9).free [some ⟨52, segsU (tkH F i (a :: l)) (rowT (a :: l))⟩, some ⟨23, [.recs 3 (a :: l).length (rowC (a :: l))]⟩, some (obC c)] ⟨⟨trivial, trivial, trivial, rowT_free (cs := a :: l), trivial, trivial⟩, ⟨trivial, trivial, trivial, trivial⟩, trivial⟩ ⟨⟨trivial, trivial, trivial, trivial, trivial, trivial⟩, trivial, trivial⟩
            refine CallK.mk' _ _ k99 ?_
            conv => whnf
            repeat ((first | refine CaseB.of_true (decide_eq_true (show (7 : Int) ≠ 0 by decide)) ?_ | refine CaseB.of_true (decide_eq_true (rfl : (7 : Int) = 7)) ?_ | refine CaseB.of_false (decide_eq_false (fun h => h (by show ((a :: l).length : Int) = 8; omega))) ?_ | refine CaseB.of_false (decide_eq_false (show ¬ (7 : Int) = 1 by decide)) ?_); conv => whnf)
            refine ⟨(j + 1, (a :: l)), ⟨by show j + 1 ≤ ls.length; omega, h8, ha⟩, by show ls.length - (j + 1) < ls.length - j; omega, ?_⟩
            exact Weak.perm [0, 1] ⟨⟨rfl, .one (WL.int rfl), .one (WL.int rfl), .one (WL.int rfl), .one rowT_wl, .one (WL.str rfl), trivial⟩, ⟨rfl, .recs rfl fun i hi j hj => rowC_wl hj, trivial⟩, trivial⟩ ⟨WV.lf (WL.int (by rw [wrap_i64 (by omega) (by omega)]; show (j : Int) + 1 = ((j + 1 : Nat) : Int); omega)), freeF.wv trivial, freeF.wv rowC_free, WV.lf (WL.own rfl rfl rfl rfl), freeF.wv trivial, WV.lf (WL.ptr rfl rfl), freeF.wv trivial, trivial⟩ rfl (by show 2 ≤ 2; omega) rfl (Nat.zero_le _)
          · have k99 := (c99t (tkH F i (a :: l)) c (hok _ h8 ha) hw (by show ((a :: l) : List CV).length < 8; omega)).free [some ⟨52, segsU (tkH F i (a :: l)) (rowT (a :: l))⟩, some ⟨23, [.recs 3 (a :: l).length (rowC (a :: l))]⟩, some (obC c)] ⟨⟨trivial, trivial, trivial, rowT_free (cs := a :: l), trivial, trivial⟩, ⟨trivial, trivial, trivial, trivial⟩, trivial⟩ ⟨⟨trivial, trivial, trivial, rowT_free (cs := ((a :: l) ++ [c])), trivial, trivial⟩, trivial, trivial⟩
            rw [hwk] at k99
            refine CallK.mk' _ _ k99 ?_
            conv => whnf
            repeat ((first | refine CaseB.of_false (decide_eq_false (fun h => h rfl)) ?_ | refine Or.inr ?_); conv => whnf)
            refine And.intro (by omega) ?_
            conv => whnf
            refine And.intro ⟨rfl, by show ((a :: l).length + 1) * 32 ≤ _; omega⟩ ?_
            conv => whnf
            have hM8 : ((a :: (l ++ [c])) : List CV).length ≤ 8 := by have hx9 : (a :: l).length ≤ 8 := h8; simp only [List.length_cons, List.length_append, List.length_nil] at hx9 h9 ⊢; omega
            have hMa : ((a :: (l ++ [c])) : List CV).all okW = true := by simp only [List.all_cons, List.all_append, List.all_nil, Bool.and_true] at ha ⊢; rw [hw, Bool.and_true]; exact ha
            have hlc : (a :: l).length + 1 = ((a :: (l ++ [c])) : List CV).length := by simp
            have k100 := c100 key (tkH F i (a :: (l ++ [c]))) (by omega) (by show ((a :: (l ++ [c])) : List CV).length ≤ _; omega) (by show (chainF F (a :: (l ++ [c]))).length ≤ _; rw [hcl]; omega)
            rw [hop _ hM8 hMa] at k100
            refine CallK.mk' _ _ (k100.pure _ (cs := [.s (.lf (.str key)), vTu (tkH F i (a :: (l ++ [c]))) (rowT (a :: (l ++ [c])))]) ⟨freeF.wv trivial, WV.agg ⟨.one (WL.int rfl), .one (WL.int rfl), .one (WL.int rfl), .one rowT_vR, .one (WL.str rfl), trivial⟩, trivial⟩ (freeF.wv trivial)) ?_
            conv => whnf
            repeat (refine CaseB.of_false rfl ?_; conv => whnf)
            have k32 := c32 (a :: (l ++ [c])) (a :: (l ++ [c])) (by omega)
            rw [show decide ((a :: (l ++ [c])) = (a :: (l ++ [c]))) = true from decide_eq_true rfl] at k32
            refine CallK.mk' _ _ (k32.lend (cs := [.s (.lf (rowT (a :: (l ++ [c])))), .s (.lf (.own 4 0 3 0 ((a :: l).length + 1)))]) (fun _ => False) _ ⟨WV.lf rowT_vR, WV.lf (WL.lentC (ty := 23) rfl rfl (by simp) (fun i j hi hj => rowC_snoc (a :: l) c i j hi hj) ⟨fun h => h, fun i ob h => by simp at h⟩), trivial⟩ (plainF.wv trivial)) ?_
            conv => whnf
            repeat (refine CaseB.of_false rfl ?_; conv => whnf)
            refine ⟨(j + 1, (a :: (l ++ [c]))), ⟨by show j + 1 ≤ ls.length; omega, hM8, hMa⟩, by show ls.length - (j + 1) < ls.length - j; omega, ?_⟩
            exact Weak.perm [0, 4] ⟨⟨rfl, .one (WL.int rfl), .one (WL.int rfl), .one (WL.int rfl), .one rowT_wl, .one (WL.str rfl), trivial⟩, ⟨rfl, ⟨.recs hlc fun i hi j hj => wl_of_eq (rowC_snoc (a :: l) c i j hi hj) (rowC_wl hj), trivial⟩⟩, trivial⟩ ⟨WV.lf (WL.int (by rw [wrap_i64 (by omega) (by omega)]; show (j : Int) + 1 = ((j + 1 : Nat) : Int); omega)), freeF.wv trivial, freeF.wv rowC_free, WV.lf (WL.own rfl rfl rfl hlc), freeF.wv trivial, WV.lf (WL.ptr rfl rfl), freeF.wv trivial, trivial⟩ rfl (by show 2 ≤ 2; omega) rfl (Nat.zero_le _)
      · refine CaseB.of_false (decide_eq_false (by omega)) ?_
        conv => whnf
        have k101 := (c101 F (a :: l) (by omega) (by show ((a :: l) : List CV).length ≤ _; omega)).lend (cs := [.s (.lf (.str F)), .s (.lf (.own 1 0 3 0 (a :: l).length))]) (fun _ => False) [some ⟨52, segsU (tkH F i (a :: l)) (rowT (a :: l))⟩, some ⟨23, [.recs 3 (a :: l).length (rowC (a :: l))]⟩] ⟨freeF.wv trivial, WV.lf (WL.lentC (ty := 23) rfl rfl rfl (fun _ _ _ _ => rfl) (gone_none fun h => h)), trivial⟩ (plainF.wv trivial)
        have k98 := c98.free [some ⟨52, segsU (tkH F i (a :: l)) (rowT (a :: l))⟩, some ⟨23, [.recs 3 (a :: l).length (rowC (a :: l))]⟩] trivial trivial
        refine DrawK.mk1 tok mixed [0, 1, 0, 0, 12, 31, 63, 127, 255, 511] [(2, 0, []), (3, 0, []), (0, 1, [0]), (1, 1, [0]), (4, 1, [0]), (5, 0, []), (6, 0, []), (7, 1, [0]), (8, 0, []), (9, 0, [])] (by kernel_rfl) ?_
        conv => whnf
        repeat ((first | refine CallR.mk' _ k101 ?_ | refine CallR.mk' _ k98 ?_ | refine CaseB.of_true (decide_eq_true rfl) ?_ | refine And.intro rfl ?_); conv => whnf)
        exact RetK.empty (okF.wv trivial)
end Go.Sym.Md

