/- Contracts of the program's functions, proved by the framework (text TxH), without conditions but those that each theorem states. -/
import Derived.Test.YtlmcdgbjbamdnaaTxG
import Derived.KernelRfl
import Derived.Test.YtlmcdgbjbamdnaaFw7
set_option linter.unusedVariables false
set_option linter.unusedSimpArgs false
set_option maxRecDepth 10000
namespace Go.Sym.Md
open Go Go.Sym Go.Sym.Sh

theorem c88e (m : List UInt8) (d : Nat → Bool) (z : Int) (h : ¬ (0 ≤ z ∧ z < 5)) : SCalls Proofs.Try.prog 88 [.s (.lf (.ptr 0 0)), vI z] (hR m d) (.tup [.lf (.str []), .lf (.int .i64 1)]) (hR m d) := by
  refine SCalls.intro tok Proofs.Try.func88 ?_
  conv => whnf
  refine CallK.mk' _ _ (c154e m d z h) ?_
  conv => whnf
  refine CaseB.of_true rfl ?_
  conv => whnf
  exact RetK.same (H := hR m d) rfl (by simp) (okF.wv ⟨trivial, trivial, trivial⟩)
theorem c88n (z : Int) : SCalls Proofs.Try.prog 88 [.s (.lf .nilp), vI z] [] (.tup [.lf (.str []), .lf (.int .i64 2)]) [] := by
  refine SCalls.intro tok Proofs.Try.func88 ?_
  conv => whnf
  refine CallK.mk' _ _ (c154n z) ?_
  conv => whnf
  refine CaseB.of_true rfl ?_
  conv => whnf
  exact RetK.empty (okF.wv ⟨trivial, trivial, trivial⟩)
theorem c88z (z : Int) : SCalls Proofs.Try.prog 88 [.s (.lf (.ptr 0 0)), vI z] [some zR] (.tup [.lf (.str []), .lf (.int .i64 2)]) [some zR] := by
  refine SCalls.intro tok Proofs.Try.func88 ?_
  conv => whnf
  refine CallK.mk' _ _ (c154z z) ?_
  conv => whnf
  refine CaseB.of_true rfl ?_
  conv => whnf
  exact RetK.same (H := [some zR]) rfl (by simp) (okF.wv ⟨trivial, trivial, trivial⟩)
theorem c89e (m : List UInt8) (d : Nat → Bool) (z : Int) (h : ¬ (0 ≤ z ∧ z < 5)) : SCalls Proofs.Try.prog 89 [.s (.lf (.ptr 0 0)), vI z] (hR m d) (.tup [.lf (.str []), .lf (.int .i64 1)]) (hR m d) := by
  refine SCalls.intro tok Proofs.Try.func89 ?_
  conv => whnf
  refine CallK.mk' _ _ (c154e m d z h) ?_
  conv => whnf
  refine CaseB.of_true rfl ?_
  conv => whnf
  exact RetK.same (H := hR m d) rfl (by simp) (okF.wv ⟨trivial, trivial, trivial⟩)
theorem c89n (z : Int) : SCalls Proofs.Try.prog 89 [.s (.lf .nilp), vI z] [] (.tup [.lf (.str []), .lf (.int .i64 2)]) [] := by
  refine SCalls.intro tok Proofs.Try.func89 ?_
  conv => whnf
  refine CallK.mk' _ _ (c154n z) ?_
  conv => whnf
  refine CaseB.of_true rfl ?_
  conv => whnf
  exact RetK.empty (okF.wv ⟨trivial, trivial, trivial⟩)
theorem c89z (z : Int) : SCalls Proofs.Try.prog 89 [.s (.lf (.ptr 0 0)), vI z] [some zR] (.tup [.lf (.str []), .lf (.int .i64 2)]) [some zR] := by
  refine SCalls.intro tok Proofs.Try.func89 ?_
  conv => whnf
  refine CallK.mk' _ _ (c154z z) ?_
  conv => whnf
  refine CaseB.of_true rfl ?_
  conv => whnf
  exact RetK.same (H := [some zR]) rfl (by simp) (okF.wv ⟨trivial, trivial, trivial⟩)
theorem c90e (m : List UInt8) (d : Nat → Bool) (z : Int) (h : ¬ (0 ≤ z ∧ z < 5)) : SCalls Proofs.Try.prog 90 [.s (.lf (.ptr 0 0)), vI z] (hR m d) (.tup [.lf (.str []), .lf (.int .i64 1)]) (hR m d) := by
  refine SCalls.intro tok Proofs.Try.func90 ?_
  conv => whnf
  refine CallK.mk' _ _ (c154e m d z h) ?_
  conv => whnf
  refine CaseB.of_true rfl ?_
  conv => whnf
  exact RetK.same (H := hR m d) rfl (by simp) (okF.wv ⟨trivial, trivial, trivial⟩)
theorem c90n (z : Int) : SCalls Proofs.Try.prog 90 [.s (.lf .nilp), vI z] [] (.tup [.lf (.str []), .lf (.int .i64 2)]) [] := by
  refine SCalls.intro tok Proofs.Try.func90 ?_
  conv => whnf
  refine CallK.mk' _ _ (c154n z) ?_
  conv => whnf
  refine CaseB.of_true rfl ?_
  conv => whnf
  exact RetK.empty (okF.wv ⟨trivial, trivial, trivial⟩)
theorem c90z (z : Int) : SCalls Proofs.Try.prog 90 [.s (.lf (.ptr 0 0)), vI z] [some zR] (.tup [.lf (.str []), .lf (.int .i64 2)]) [some zR] := by
  refine SCalls.intro tok Proofs.Try.func90 ?_
  conv => whnf
  refine CallK.mk' _ _ (c154z z) ?_
  conv => whnf
  refine CaseB.of_true rfl ?_
  conv => whnf
  exact RetK.same (H := [some zR]) rfl (by simp) (okF.wv ⟨trivial, trivial, trivial⟩)

def kyM : List UInt8 := [109]
theorem eqB_self : ∀ l : List UInt8, eqB l l = true
  | [] => rfl
  | a :: l => by simp only [eqB, Nat.beq_refl, eqB_self l, Bool.and_self]
theorem eqB_ne {a b : List UInt8} (h : eqB a b = false) : a ≠ b := fun e => by rw [e, eqB_self] at h; exact Bool.noConfusion h
theorem aw_ne : kyF [109] tokenB 0 ≠ kyF [109] putB 0 := eqB_ne (by kernel_rfl)
theorem kyF_length (m p : List UInt8) (j : Nat) : (kyF m p j).length = 32 := tagF_length _ _

attribute [local irreducible] kyF tagF dF

/-- baileylaw07.awake -/
theorem c87 : SCalls Proofs.Try.prog 87 [] [] (.s (.lf .tt)) [] := by
  refine SCalls.intro tok Proofs.Try.func87 ?_
  conv => whnf
  refine CallK.mk' _ _ (c86 [109]) ?_
  conv => whnf
  refine CallK.mk' _ _ (c92 [109] _) ?_
  conv => whnf
  refine CaseB.of_false rfl ?_
  conv => whnf
  refine CallK.mk' _ _ (c88_0 [109] _ (by decide)) ?_
  conv => whnf
  refine CallK.mk' _ _ (c89_0 [109] _ (by decide)) ?_
  conv => whnf
  refine CallK.mk' _ _ (c88e [109] _ 5 (by decide)) ?_
  conv => whnf
  repeat (refine CaseB.of_true rfl ?_; conv => whnf)
  refine CaseB.of_true (decide_eq_true (show ((kyF [109] tokenB 0).length : Int) = 32 by rw [kyF_length]; rfl)) ?_
  conv => whnf
  repeat (refine CaseB.of_true rfl ?_; conv => whnf)
  refine CaseB.of_true (decide_eq_true aw_ne) ?_
  conv => whnf
  repeat (refine CaseB.of_true rfl ?_; conv => whnf)
  refine CallK.mk' _ _ (c92 [109] _) ?_
  conv => whnf
  exact RetK.empty (WV.lf (WL.btt (by decide)))

/-- baileylaw07.KeyringNobody -/
theorem c16 (z : Int) : SCalls Proofs.Try.prog 16 [vI z] [] (.s (.lf .tt)) [] := by
  refine SCalls.intro tok Proofs.Try.func16 ?_
  conv => whnf
  refine CallK.mk' _ _ ((c88n z).free _ ⟨trivial, trivial, trivial⟩ ⟨trivial, trivial, trivial⟩) ?_
  conv => whnf
  refine CallK.mk' _ _ (c89z z) ?_
  conv => whnf
  refine CallK.mk' _ _ ((c90n z).free _ ⟨trivial, trivial, trivial⟩ ⟨trivial, trivial, trivial⟩) ?_
  conv => whnf
  repeat (refine CaseB.of_true rfl ?_; conv => whnf)
  refine CallK.mk' _ _ (c92n.free _ ⟨trivial, trivial⟩ trivial) ?_
  conv => whnf
  repeat (refine CaseB.of_true rfl ?_; conv => whnf)
  refine CallK.mk' _ _ c92z ?_
  conv => whnf
  repeat (refine CaseB.of_true rfl ?_; conv => whnf)
  refine CallK.mk' _ _ (c87.free _ trivial trivial) ?_
  conv => whnf
  exact RetK.more (H := []) [_] rfl (by simp) (okF.wv trivial)
end Go.Sym.Md

set_option linter.unusedVariables false
set_option linter.unusedSimpArgs false
set_option maxRecDepth 10000
namespace Go.Sym.Md
open Go Go.Sym Go.Sym.Sh

attribute [local irreducible] kyF tagF dF
theorem up_self {d : Nat → Bool} {z : Nat} (h : d z = true) : up d z = d := by
  funext i
  unfold up
  split
  · rename_i hi
    rw [Nat.eq_of_beq_eq_true hi, h]
  · rfl
theorem cnt_up {d : Nat → Bool} {z : Nat} (hz : z < 5) (h : d z = false) : cnt (up d z) = cnt d + 1 := by
  have : z = 0 ∨ z = 1 ∨ z = 2 ∨ z = 3 ∨ z = 4 := by omega
  rcases this with rfl | rfl | rfl | rfl | rfl <;> (unfold cnt; rw [h]; simp [up, b2, Nat.beq] <;> omega)
attribute [local irreducible] cnt
abbrev sO (d : Nat → Bool) : OB := ⟨97, [.recs 1 5 fun i _ => .bool (d i)]⟩
/-- A ring, and the row of the lanes that were seen. -/
abbrev hS (m : List UInt8) (d : Nat → Bool) : Hp := [some (rgO m (cnt d)), some rwO, some (kO (kS m 0 (d 0))), some (kO (kS m 1 (d 1))), some (kO (kS m 2 (d 2))), some (kO (kS m 3 (d 3))), some (kO (kS m 4 (d 4))), some (sO d)]
theorem c92t (m : List UInt8) (d : Nat → Bool) (k : Hp) : SCalls Proofs.Try.prog 92 [.s (.lf (.ptr 0 0))] (hR m d ++ k) (vI (cnt d)) (hR m d ++ k) := (c92 m d).tail k rfl rfl rfl rfl rfl trivial
theorem c90t (m : List UInt8) (d : Nat → Bool) (hm : m.length ≤ 1000) (z : Nat) (h : z < 5) (k : Hp) : SCalls Proofs.Try.prog 90 [.s (.lf (.ptr 0 0)), vI z] (hR m d ++ k) (.tup [.lf (.str (kyF m getB z)), .lf (.int .i64 0)]) (hR m (up d z) ++ k) := (c90 m d hm z (by omega)).tail k rfl rfl rfl rfl rfl ⟨trivial, trivial, trivial⟩
theorem c90et (m : List UInt8) (d : Nat → Bool) (z : Int) (h : ¬ (0 ≤ z ∧ z < 5)) (k : Hp) : SCalls Proofs.Try.prog 90 [.s (.lf (.ptr 0 0)), vI z] (hR m d ++ k) (.tup [.lf (.str []), .lf (.int .i64 1)]) (hR m d ++ k) := (c90e m d z h).tail k rfl rfl rfl rfl rfl ⟨trivial, trivial, trivial⟩
/-- baileylaw07.KeyringCounts -/
theorem c15 (l : List UInt8) (hl : l.length ≤ maxLen) : SCalls Proofs.Try.prog 15 [.s (.lf (.rob false false l))] [] (.s (.lf .tt)) [] := by
  have hm : maxLen = 9223372036854775807 := rfl
  refine SCalls.intro tok Proofs.Try.func15 ?_
  conv => whnf
  refine CallK.mk' _ _ (c86 [107]) ?_
  conv => whnf
  refine LoopK.mk2 (fun (i : Nat) (d : Nat → Bool) => [(13, vI i), (12, vI l.length), (11, .s (.lf (.rob false false l))), (5, vI (cnt d)), (4, .s (.lf (.ptr 7 0))), (3, .s (.lf (.ptr 0 0))), (2, .s (.lf .ff))]) (fun i d => hS [107] d) (fun i d => i ≤ l.length ∧ i ≤ 20) (fun i d => l.length - i) 0 (fun _ => false) ⟨by omega, by omega⟩ ?_ ?_
  · have e0 : (0 : Int) = cnt (fun _ : Nat => false) := by unfold cnt; rfl
    refine Weak.of ⟨rfl, ⟨.one (WL.str rfl), .one (WL.own rfl rfl rfl rfl), .one (WL.int rfl), trivial⟩, rfl, (okGsB_ok rfl).ws, rfl, kO_ws, rfl, kO_ws, rfl, kO_ws, rfl, kO_ws, rfl, kO_ws, rfl, ⟨.recs rfl fun i hi j hj => ?_, trivial⟩, trivial⟩ (by simp) ⟨okF.wv trivial, okF.wv trivial, okF.wv trivial, WV.lf (WL.int e0), okF.wv rfl, okF.wv rfl, okF.wv trivial, trivial⟩
    obtain rfl : j = 0 := by have : j < 1 := hj; omega
    exact fun w L L' x h hx => hx
  rintro i d ⟨hi, h20⟩
  conv => whnf
  by_cases hi' : i < l.length
  · refine CaseB.of_true (decide_eq_true (by omega)) ?_
    conv => whnf
    refine And.intro (by omega) ?_
    conv => whnf
    by_cases hx : 20 ≤ (i : Int)
    · refine CaseB.of_true (decide_eq_true hx) ?_
      conv => whnf
      refine CallK.mk' _ _ (c92t [107] d [some (sO d)]) ?_
      conv => whnf
      refine CaseB.of_true (decide_eq_true rfl) ?_
      conv => whnf
      refine CallK.mk' _ _ (c87.free _ trivial trivial) ?_
      conv => whnf
      exact RetK.empty (okF.wv trivial)
    refine CaseB.of_false (decide_eq_false hx) ?_
    conv => whnf
    refine And.intro (by decide) ?_
    conv => whnf
    obtain ⟨z, hz7, hz⟩ : ∃ z : Nat, z < 7 ∧ Int.tmod (((l.getD (Int.toNat (i : Int)) 0).toNat : Nat) : Int) 7 = (z : Int) := ⟨(l.getD (Int.toNat (i : Int)) 0).toNat % 7, Nat.mod_lt _ (by omega), rfl⟩
    rw [hz, wrap_i64 (n := (z : Int)) (by omega) (by omega)]
    by_cases h5 : z < 5
    · refine CallK.mk' _ _ (c90t [107] d (by decide) z h5 [some (sO d)]) ?_
      conv => whnf
      refine And.intro (by decide) ?_
      conv => whnf
      rw [hz]
      refine CaseB.of_true (decide_eq_true (by omega)) ?_
      conv => whnf
      refine And.intro (by decide) ?_
      conv => whnf
      rw [hz]
      refine And.intro (by omega) ?_
      conv => whnf
      refine And.intro (by omega) ?_
      conv => whnf
      have hd : ∀ b : Bool, d z = b → d (Int.toNat (z : Int)) = b := fun b h => by rw [Int.toNat_natCast]; exact h
      cases hdz : d z with
      | true =>
        refine CaseB.of_false (by rw [hd _ hdz]; rfl) ?_
        conv => whnf
        rw [up_self hdz]
        refine ⟨(i + 1, d), ⟨by show i + 1 ≤ _; omega, by show i + 1 ≤ _; omega⟩, by show l.length - (i + 1) < _; omega, ?_⟩
        exact Weak.of (HpW.okB rfl) (by simp) ⟨WV.lf (WL.int (by rw [wrap_i64 (by omega) (by omega)]; rfl)), okF.wv trivial, okF.wv trivial, okF.wv trivial, okF.wv rfl, okF.wv rfl, okF.wv trivial, trivial⟩
      | false =>
        refine CaseB.of_true (by rw [hd _ hdz]; rfl) ?_
        conv => whnf
        refine And.intro (by decide) ?_
        conv => whnf
        rw [hz]
        refine And.intro ⟨by omega, by show (z : Int) < 5; omega⟩ ?_
        conv => whnf
        refine And.intro (by omega) ?_
        conv => whnf
        refine ⟨(i + 1, up d z), ⟨by show i + 1 ≤ _; omega, by show i + 1 ≤ _; omega⟩, by show l.length - (i + 1) < _; omega, ?_⟩
        have hc := cnt_up h5 hdz
        refine Weak.of ⟨rfl, (okGsB_ok rfl).ws, rfl, (okGsB_ok rfl).ws, rfl, kO_ws, rfl, kO_ws, rfl, kO_ws, rfl, kO_ws, rfl, kO_ws, rfl, ⟨.recs rfl fun i hi j hj => ?_, trivial⟩, trivial⟩ (by simp) ⟨WV.lf (WL.int (by rw [wrap_i64 (by omega) (by omega)]; rfl)), okF.wv trivial, okF.wv trivial, WV.lf (WL.int ?_), okF.wv rfl, okF.wv rfl, okF.wv trivial, trivial⟩
        · obtain rfl : j = 0 := by have : j < 1 := hj; omega
          show WL _ (match decide (i = Int.toNat (z : Int)) with | true => LV.tt | false => LV.bool (d i)) (LV.bool (up d z i))
          by_cases e : i = z
          · rw [decide_eq_true (show i = Int.toNat (z : Int) by omega)]
            have : up d z i = true := by unfold up; rw [e, Nat.beq_refl]
            rw [this]
            exact fun w L L' x h hx => hx
          · rw [decide_eq_false (show ¬ i = Int.toNat (z : Int) by omega)]
            have : up d z i = d i := by
              unfold up
              split
              · rename_i hi
                exact absurd (Nat.eq_of_beq_eq_true hi) e
              · rfl
            rw [this]
            exact fun w L L' x h hx => hx
        · have hle := cnt_le d
          have hge := cnt_nonneg d
          show IntKind.i64.wrap (cnt d + 1) = cnt (up d z)
          rw [hc, wrap_i64 (by omega) (by omega)]
    · refine CallK.mk' _ _ (c90et [107] d z (by omega) [some (sO d)]) ?_
      conv => whnf
      refine And.intro (by decide) ?_
      conv => whnf
      rw [hz]
      refine CaseB.of_false (decide_eq_false (by omega)) ?_
      conv => whnf
      refine ⟨(i + 1, d), ⟨by show i + 1 ≤ _; omega, by show i + 1 ≤ _; omega⟩, by show l.length - (i + 1) < _; omega, ?_⟩
      exact Weak.of (HpW.okB rfl) (by simp) ⟨WV.lf (WL.int (by rw [wrap_i64 (by omega) (by omega)]; rfl)), okF.wv trivial, okF.wv trivial, okF.wv trivial, okF.wv rfl, okF.wv rfl, okF.wv trivial, trivial⟩
  · refine CaseB.of_false (decide_eq_false (by omega)) ?_
    conv => whnf
    refine CallK.mk' _ _ (c92t [107] d [some (sO d)]) ?_
    conv => whnf
    refine CaseB.of_true (decide_eq_true rfl) ?_
    conv => whnf
    refine CallK.mk' _ _ (c87.free _ trivial trivial) ?_
    conv => whnf
    exact RetK.empty (okF.wv trivial)
end Go.Sym.Md


set_option linter.unusedVariables false
set_option linter.unusedSimpArgs false
set_option maxRecDepth 10000
namespace Go.Sym.Md
open Go Go.Sym Go.Sym.Sh

/-- A row of ints. -/
abbrev vXs (n : Nat) (x : Nat → Int) : FV := .s (.lf (.ro false false 1 n fun i _ => .int .i64 (x i)))

theorem c137f (b : List UInt8) (z : Int) (hz : z ≤ 9223372036854775807) (hb : b.length ≤ 1000000000) : SCalls Proofs.Try.prog 137 [.s (.lf (.rob false false b)), vI z] [] (.s (.lf (.rob true false (b ++ nn z)))) [] := (c137z b z hz hb).frozen rfl
theorem c133f (b : List UInt8) (z : Int) (hz : z ≤ 9223372036854775807) (hb : b.length ≤ 1000000000) : SCalls Proofs.Try.prog 133 [.s (.lf (.rob false false b)), vI z] [] (.s (.lf (.rob true false (b ++ nn z)))) [] := (c133z b z hz hb).frozen rfl
theorem c138f (b s : List UInt8) (hs : s.length ≤ 100000000) (hb : b.length ≤ 1000000000) : SCalls Proofs.Try.prog 138 [.s (.lf (.rob false false b)), .s (.lf (.str s))] [] (.s (.lf (.rob true false (b ++ numF s.length ++ s)))) [] := (c138 b s hs (by omega)).frozen rfl
theorem c139f (b s : List UInt8) (hs : s.length ≤ 100000000) (hb : b.length ≤ 1000000000) : SCalls Proofs.Try.prog 139 [.s (.lf (.rob false false b)), .s (.lf (.str s))] [] (.s (.lf (.rob true false (b ++ numF s.length ++ s)))) [] := (c139 b s hs (by omega)).frozen rfl

/-- A text, and some numbers behind it. -/
def tx (p : List UInt8) (x : Nat → Int) : Nat → List UInt8
  | 0 => p
  | k + 1 => tx p x k ++ nn (x k)
theorem nn_le (z : Int) (hz : z ≤ 9223372036854775807) : (nn z).length ≤ 10 := Nat.le_trans (nn_len z) (by omega)
theorem tx_le (p : List UInt8) (x : Nat → Int) : ∀ n, (∀ i, i < n → x i ≤ 9223372036854775807) → (tx p x n).length ≤ p.length + 10 * n
  | 0, _ => by simp [tx]
  | n + 1, h => by
    have h1 := tx_le p x n fun i hi => h i (by omega)
    have h2 := nn_le (x n) (h n (by omega))
    simp only [tx, List.length_append]
    omega
theorem tx5 (p : List UInt8) (a b c d e : Int) : tx p (fun i => [a, b, c, d, e].getD i 0) 5 = p ++ nn a ++ nn b ++ nn c ++ nn d ++ nn e := rfl
theorem tx2 (p : List UInt8) (a b : Int) : tx p (fun i => [a, b].getD i 0) 2 = p ++ nn a ++ nn b := rfl
attribute [local irreducible] numF nn tx

/-- keyring.text -/
theorem c157 (p : List UInt8) (n : Nat) (x : Nat → Int) (hn : n ≤ 5) (hx : ∀ i, i < n → x i ≤ 9223372036854775807) (hp : p.length ≤ 1000) : SCalls Proofs.Try.prog 157 [.s (.lf (.str p)), vXs n x] [] (.s (.lf (.rob false false (tx p x n)))) [] := by
  have ht0 : tx p x 0 = p := by unfold tx; rfl
  have hts : ∀ k, tx p x (k + 1) = tx p x k ++ nn (x k) := fun k => by conv => lhs; unfold tx
  refine SCalls.intro tok Proofs.Try.func157 ?_
  conv => whnf
  refine Or.inr ?_
  conv => whnf
  refine LoopK.mk1 (fun k : Nat => [(12, vI k), (11, vI n), (10, vXs n x), (5, .s (.lf (.rob false false (tx p x k)))), (4, .s (.lf .sl0))]) (fun k => []) (fun k => k ≤ n) (fun k => n - k) 0 (by omega) ?_ ?_
  · exact Weak.of HpW.nil (by simp) ⟨okF.wv trivial, okF.wv trivial, okF.wv fun i hi j hj => trivial, WV.lf (WL.rob (by rw [ht0]) (by simp) (by simp)), okF.wv trivial, trivial⟩
  intro k hk
  conv => whnf
  by_cases hk' : k < n
  · refine CaseB.of_true (decide_eq_true (by omega)) ?_
    conv => whnf
    refine And.intro (by omega) ?_
    conv => whnf
    obtain ⟨z, hz⟩ : ∃ z, x (Int.toNat (k : Int)) = z := ⟨_, rfl⟩
    have hz' : x k = z := by rw [← hz, Int.toNat_natCast]
    have hl := tx_le p x k fun i hi => hx i (by omega)
    have hzx := hx k hk'
    rw [hz]
    refine CallK.mk' _ _ (c137f (tx p x k) z (by omega) (by omega)) ?_
    conv => whnf
    refine ⟨k + 1, by omega, by omega, ?_⟩
    exact Weak.of HpW.nil (by simp) ⟨WV.lf (WL.int (by rw [wrap_i64 (by omega) (by omega)]; rfl)), okF.wv trivial, okF.wv fun i hi j hj => trivial, WV.lf (WL.rob (by rw [hts, hz']) (by simp) (by simp)), okF.wv trivial, trivial⟩
  · refine CaseB.of_false (decide_eq_false (by omega)) ?_
    conv => whnf
    obtain rfl : k = n := by omega
    exact RetK.empty (okF.wv trivial)
/-- keyring.PutText -/
theorem c93 (a b c d e : Int) (ha : a ≤ 9223372036854775807) (hb : b ≤ 9223372036854775807) (hc : c ≤ 9223372036854775807) (hd : d ≤ 9223372036854775807) (he : e ≤ 9223372036854775807) : SCalls Proofs.Try.prog 93 [vI a, vI b, vI c, vI d, vI e] [] (.s (.lf (.rob false false (putB ++ nn a ++ nn b ++ nn c ++ nn d ++ nn e)))) [] := by
  refine SCalls.intro tok Proofs.Try.func93 ?_
  conv => whnf
  refine Or.inr ?_
  conv => whnf
  have k157 := c157 putB 5 (fun i => [a, b, c, d, e].getD i 0) (by omega) (fun i hi => by
    have : i = 0 ∨ i = 1 ∨ i = 2 ∨ i = 3 ∨ i = 4 := by omega
    rcases this with rfl | rfl | rfl | rfl | rfl <;> assumption) (by decide)
  rw [tx5] at k157
  refine CallK.mk' _ _ (k157.pure [] (cs := [.s (.lf (.str putB)), .s (.lf (.ro true true 1 5 fun i _ => .int .i64 ([a, b, c, d, e].getD i 0)))]) ⟨freeF.wv trivial, WV.lf (WL.ro rfl (by simp) (by simp) fun i hi j hj => WL.int rfl), trivial⟩ (freeF.wv trivial)) ?_
  conv => whnf
  exact RetK.empty (okF.wv trivial)
/-- baileyref07.PutText -/
theorem c94 (a b c d e : Int) (ha : a ≤ 9223372036854775807) (hb : b ≤ 9223372036854775807) (hc : c ≤ 9223372036854775807) (hd : d ≤ 9223372036854775807) (he : e ≤ 9223372036854775807) : SCalls Proofs.Try.prog 94 [vI a, vI b, vI c, vI d, vI e] [] (.s (.lf (.rob false false (putB ++ nn a ++ nn b ++ nn c ++ nn d ++ nn e)))) [] := by
  refine SCalls.intro tok Proofs.Try.func94 ?_
  conv => whnf
  have he' := nn_le e he
  have hd' := nn_le d hd
  have hc' := nn_le c hc
  have hb' := nn_le b hb
  have ha' := nn_le a ha
  refine Or.inl ?_
  conv => whnf
  refine CallK.mk' (.s (.lf (.own 1 0 1 0 (putB ++ nn a).length))) _ ((c133z (putB) a ha (by decide)).madeL (cs := [.s (.lf (.own 0 0 1 0 3)), vI a]) (fun _ => False) [some ⟨5, [.bytes 3 putB]⟩] (Hn := [some ⟨5, [.bytes (putB ++ nn a).length (putB ++ nn a)]⟩]) ⟨WV.lf (WL.lent (ty := 5) rfl rfl ⟨fun h => h, fun i ob h => by simp at h⟩), freeF.wv trivial, trivial⟩ (WV.lf (WL.uown rfl rfl rfl)) ⟨rfl, ⟨.bytes rfl fun _ _ => rfl, trivial⟩, trivial⟩) ?_
  conv => whnf
  refine CallK.mk' (.s (.lf (.own 2 0 1 0 (putB ++ nn a ++ nn b).length))) _ ((c133z (putB ++ nn a) b hb (by simp only [List.length_append, show putB.length = 3 from rfl]; omega)).madeL (cs := [.s (.lf (.own 1 0 1 0 (putB ++ nn a).length)), vI b]) (fun _ => False) [some ⟨5, [.bytes 3 putB]⟩, some ⟨5, [.bytes (putB ++ nn a).length (putB ++ nn a)]⟩] (Hn := [some ⟨5, [.bytes (putB ++ nn a ++ nn b).length (putB ++ nn a ++ nn b)]⟩]) ⟨WV.lf (WL.lent (ty := 5) rfl rfl ⟨fun h => h, fun i ob h => by simp at h⟩), freeF.wv trivial, trivial⟩ (WV.lf (WL.uown rfl rfl rfl)) ⟨rfl, ⟨.bytes rfl fun _ _ => rfl, trivial⟩, trivial⟩) ?_
  conv => whnf
  refine CallK.mk' (.s (.lf (.own 3 0 1 0 (putB ++ nn a ++ nn b ++ nn c).length))) _ ((c133z (putB ++ nn a ++ nn b) c hc (by simp only [List.length_append, show putB.length = 3 from rfl]; omega)).madeL (cs := [.s (.lf (.own 2 0 1 0 (putB ++ nn a ++ nn b).length)), vI c]) (fun _ => False) [some ⟨5, [.bytes 3 putB]⟩, some ⟨5, [.bytes (putB ++ nn a).length (putB ++ nn a)]⟩, some ⟨5, [.bytes (putB ++ nn a ++ nn b).length (putB ++ nn a ++ nn b)]⟩] (Hn := [some ⟨5, [.bytes (putB ++ nn a ++ nn b ++ nn c).length (putB ++ nn a ++ nn b ++ nn c)]⟩]) ⟨WV.lf (WL.lent (ty := 5) rfl rfl ⟨fun h => h, fun i ob h => by simp at h⟩), freeF.wv trivial, trivial⟩ (WV.lf (WL.uown rfl rfl rfl)) ⟨rfl, ⟨.bytes rfl fun _ _ => rfl, trivial⟩, trivial⟩) ?_
  conv => whnf
  refine CallK.mk' (.s (.lf (.own 4 0 1 0 (putB ++ nn a ++ nn b ++ nn c ++ nn d).length))) _ ((c133z (putB ++ nn a ++ nn b ++ nn c) d hd (by simp only [List.length_append, show putB.length = 3 from rfl]; omega)).madeL (cs := [.s (.lf (.own 3 0 1 0 (putB ++ nn a ++ nn b ++ nn c).length)), vI d]) (fun _ => False) [some ⟨5, [.bytes 3 putB]⟩, some ⟨5, [.bytes (putB ++ nn a).length (putB ++ nn a)]⟩, some ⟨5, [.bytes (putB ++ nn a ++ nn b).length (putB ++ nn a ++ nn b)]⟩, some ⟨5, [.bytes (putB ++ nn a ++ nn b ++ nn c).length (putB ++ nn a ++ nn b ++ nn c)]⟩] (Hn := [some ⟨5, [.bytes (putB ++ nn a ++ nn b ++ nn c ++ nn d).length (putB ++ nn a ++ nn b ++ nn c ++ nn d)]⟩]) ⟨WV.lf (WL.lent (ty := 5) rfl rfl ⟨fun h => h, fun i ob h => by simp at h⟩), freeF.wv trivial, trivial⟩ (WV.lf (WL.uown rfl rfl rfl)) ⟨rfl, ⟨.bytes rfl fun _ _ => rfl, trivial⟩, trivial⟩) ?_
  conv => whnf
  refine CallK.mk' (.s (.lf (.own 5 0 1 0 (putB ++ nn a ++ nn b ++ nn c ++ nn d ++ nn e).length))) _ ((c133z (putB ++ nn a ++ nn b ++ nn c ++ nn d) e he (by simp only [List.length_append, show putB.length = 3 from rfl]; omega)).madeL (cs := [.s (.lf (.own 4 0 1 0 (putB ++ nn a ++ nn b ++ nn c ++ nn d).length)), vI e]) (fun _ => False) [some ⟨5, [.bytes 3 putB]⟩, some ⟨5, [.bytes (putB ++ nn a).length (putB ++ nn a)]⟩, some ⟨5, [.bytes (putB ++ nn a ++ nn b).length (putB ++ nn a ++ nn b)]⟩, some ⟨5, [.bytes (putB ++ nn a ++ nn b ++ nn c).length (putB ++ nn a ++ nn b ++ nn c)]⟩, some ⟨5, [.bytes (putB ++ nn a ++ nn b ++ nn c ++ nn d).length (putB ++ nn a ++ nn b ++ nn c ++ nn d)]⟩] (Hn := [some ⟨5, [.bytes (putB ++ nn a ++ nn b ++ nn c ++ nn d ++ nn e).length (putB ++ nn a ++ nn b ++ nn c ++ nn d ++ nn e)]⟩]) ⟨WV.lf (WL.lent (ty := 5) rfl rfl ⟨fun h => h, fun i ob h => by simp at h⟩), freeF.wv trivial, trivial⟩ (WV.lf (WL.uown rfl rfl rfl)) ⟨rfl, ⟨.bytes rfl fun _ _ => rfl, trivial⟩, trivial⟩) ?_
  conv => whnf
  exact RetK.empty (WV.lf (WL.lent (ty := 5) rfl rfl (gone_none fun h => h)))
theorem c95 (a b : Int) (s : List UInt8) (ha : a ≤ 9223372036854775807) (hb : b ≤ 9223372036854775807) (hs : s.length ≤ 500) : SCalls Proofs.Try.prog 95 [vI a, vI b, .s (.lf (.str s))] [] (.s (.lf (.rob false false (getB ++ nn a ++ nn b ++ numF s.length ++ s)))) [] := by
  refine SCalls.intro tok Proofs.Try.func95 ?_
  conv => whnf
  refine Or.inr ?_
  conv => whnf
  have k157 := c157 getB 2 (fun i => [a, b].getD i 0) (by omega) (fun i hi => by
    have : i = 0 ∨ i = 1 := by omega
    rcases this with rfl | rfl <;> assumption) (by decide)
  rw [tx2] at k157
  have ha' := nn_le a ha
  have hb' := nn_le b hb
  refine CallK.mk' _ _ (k157.pure [] (cs := [.s (.lf (.str getB)), .s (.lf (.ro true true 1 2 fun i _ => .int .i64 ([a, b].getD i 0)))]) ⟨freeF.wv trivial, WV.lf (WL.ro rfl (by simp) (by simp) fun i hi j hj => WL.int rfl), trivial⟩ (freeF.wv trivial)) ?_
  conv => whnf
  refine CallK.mk' _ _ (c138f (getB ++ nn a ++ nn b) s (by omega) (by simp only [List.length_append, show getB.length = 3 from rfl]; omega)) ?_
  conv => whnf
  exact RetK.empty (WV.lf (WL.rob rfl (by simp) (by simp)))
theorem c96 (a b : Int) (s : List UInt8) (ha : a ≤ 9223372036854775807) (hb : b ≤ 9223372036854775807) (hs : s.length ≤ 500) : SCalls Proofs.Try.prog 96 [vI a, vI b, .s (.lf (.str s))] [] (.s (.lf (.rob false false (getB ++ nn a ++ nn b ++ numF s.length ++ s)))) [] := by
  refine SCalls.intro tok Proofs.Try.func96 ?_
  conv => whnf
  have hb' := nn_le b hb
  have ha' := nn_le a ha
  refine Or.inl ?_
  conv => whnf
  refine CallK.mk' (.s (.lf (.own 1 0 1 0 (getB ++ nn a).length))) _ ((c133z (getB) a ha (by decide)).madeL (cs := [.s (.lf (.own 0 0 1 0 3)), vI a]) (fun _ => False) [some ⟨5, [.bytes 3 getB]⟩] (Hn := [some ⟨5, [.bytes (getB ++ nn a).length (getB ++ nn a)]⟩]) ⟨WV.lf (WL.lent (ty := 5) rfl rfl ⟨fun h => h, fun i ob h => by simp at h⟩), freeF.wv trivial, trivial⟩ (WV.lf (WL.uown rfl rfl rfl)) ⟨rfl, ⟨.bytes rfl fun _ _ => rfl, trivial⟩, trivial⟩) ?_
  conv => whnf
  refine CallK.mk' (.s (.lf (.own 2 0 1 0 (getB ++ nn a ++ nn b).length))) _ ((c133z (getB ++ nn a) b hb (by simp only [List.length_append, show getB.length = 3 from rfl]; omega)).madeL (cs := [.s (.lf (.own 1 0 1 0 (getB ++ nn a).length)), vI b]) (fun _ => False) [some ⟨5, [.bytes 3 getB]⟩, some ⟨5, [.bytes (getB ++ nn a).length (getB ++ nn a)]⟩] (Hn := [some ⟨5, [.bytes (getB ++ nn a ++ nn b).length (getB ++ nn a ++ nn b)]⟩]) ⟨WV.lf (WL.lent (ty := 5) rfl rfl ⟨fun h => h, fun i ob h => by simp at h⟩), freeF.wv trivial, trivial⟩ (WV.lf (WL.uown rfl rfl rfl)) ⟨rfl, ⟨.bytes rfl fun _ _ => rfl, trivial⟩, trivial⟩) ?_
  conv => whnf
  refine CallK.mk' (.s (.lf (.own 3 0 1 0 (getB ++ nn a ++ nn b ++ numF s.length ++ s).length))) _ ((c139 (getB ++ nn a ++ nn b) s (by omega) (by simp only [List.length_append, show getB.length = 3 from rfl]; omega)).madeL (cs := [.s (.lf (.own 2 0 1 0 (getB ++ nn a ++ nn b).length)), .s (.lf (.str s))]) (fun _ => False) [some ⟨5, [.bytes 3 getB]⟩, some ⟨5, [.bytes (getB ++ nn a).length (getB ++ nn a)]⟩, some ⟨5, [.bytes (getB ++ nn a ++ nn b).length (getB ++ nn a ++ nn b)]⟩] (Hn := [some ⟨5, [.bytes (getB ++ nn a ++ nn b ++ numF s.length ++ s).length (getB ++ nn a ++ nn b ++ numF s.length ++ s)]⟩]) ⟨WV.lf (WL.lent (ty := 5) rfl rfl ⟨fun h => h, fun i ob h => by simp at h⟩), freeF.wv trivial, trivial⟩ (WV.lf (WL.uown rfl rfl rfl)) ⟨rfl, ⟨.bytes rfl fun _ _ => rfl, trivial⟩, trivial⟩) ?_
  conv => whnf
  exact RetK.empty (WV.lf (WL.lent (ty := 5) rfl rfl (gone_none fun h => h)))
theorem c17 (a b c d e : Int) (s : List UInt8) (ha : a ≤ 9223372036854775807) (hb : b ≤ 9223372036854775807) (hc : c ≤ 9223372036854775807) (hd : d ≤ 9223372036854775807) (he : e ≤ 9223372036854775807) : SCalls Proofs.Try.prog 17 [vI a, vI b, vI c, vI d, vI e, .s (.lf (.str s))] [] (.s (.lf .tt)) [] := by
  refine SCalls.intro tok Proofs.Try.func17 ?_
  conv => whnf
  by_cases h5 : 500 < (s.length : Int)
  · refine CaseB.of_true (decide_eq_true h5) ?_
    conv => whnf
    refine CallK.mk' _ _ c87 ?_
    conv => whnf
    exact RetK.empty (okF.wv trivial)
  refine CaseB.of_false (decide_eq_false h5) ?_
  conv => whnf
  refine CallK.mk' _ _ (c93 a b c d e ha hb hc hd he) ?_
  conv => whnf
  refine CallK.mk' _ _ (c94 a b c d e ha hb hc hd he) ?_
  conv => whnf
  obtain ⟨X, hX⟩ : ∃ X, putB ++ nn a ++ nn b ++ nn c ++ nn d ++ nn e = X := ⟨_, rfl⟩
  have hXl : X.length ≤ maxLen := by
    rw [← hX]
    have := nn_le a ha; have := nn_le b hb; have := nn_le c hc; have := nn_le d hd; have := nn_le e he
    simp only [List.length_append, show putB.length = 3 from rfl, show maxLen = 9223372036854775807 from rfl]
    omega
  rw [hX]
  refine CallK.mk' _ _ (c57 X X hXl) ?_
  conv => whnf
  refine CaseB.of_true (decide_eq_true rfl) ?_
  conv => whnf
  refine CallK.mk' _ _ (c95 a b s ha hb (by omega)) ?_
  conv => whnf
  refine CallK.mk' _ _ (c96 a b s ha hb (by omega)) ?_
  conv => whnf
  obtain ⟨Y, hY⟩ : ∃ Y, getB ++ nn a ++ nn b ++ numF s.length ++ s = Y := ⟨_, rfl⟩
  have hYl : Y.length ≤ maxLen := by
    rw [← hY]
    have := nn_le a ha; have := nn_le b hb; have := numF_length s.length; have := sz_le s.length
    simp only [List.length_append, show getB.length = 3 from rfl, show maxLen = 9223372036854775807 from rfl]
    omega
  rw [hY]
  refine CallK.mk' _ _ (c57 Y Y hYl) ?_
  conv => whnf
  refine CaseB.of_true (decide_eq_true rfl) ?_
  conv => whnf
  refine CallK.mk' _ _ c87 ?_
  conv => whnf
  exact RetK.empty (okF.wv trivial)
end Go.Sym.Md

