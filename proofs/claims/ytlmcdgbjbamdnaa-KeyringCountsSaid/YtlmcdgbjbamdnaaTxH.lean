/- Contracts of the program's functions, proved by the framework (text TxH), without conditions but those that each theorem states. -/
import Derived.Test.YtlmcdgbjbamdnaaTxG
import Derived.KernelRfl
import Derived.Test.YtlmcdgbjbamdnaaFw7
set_option linter.unusedVariables false
set_option linter.unusedSimpArgs false
set_option maxRecDepth 10000
namespace Go.Sym.Md
open Go Go.Sym Go.Sym.Sh

theorem c88e (m : List UInt8) (d : Nat → Bool) (z : Int) (h : ¬ (0 ≤ z ∧ z < 5)) : SCalls Proofs.Try.prog 88 [.s (.lf (.ptr 0 0)), vI z] (hR m d) (.tup [.lf (.str []), .lf (.int .i64 1)]) (hR m d) := by
  refine SCalls.intro tok Proofs.Try.func88 ?_
  conv => whnf
  refine CallK.mk' _ _ (c154e m d z h) ?_
  conv => whnf
  refine CaseB.of_true rfl ?_
  conv => whnf
  exact RetK.same (H := hR m d) rfl (by simp) (okF.wv ⟨trivial, trivial, trivial⟩)
theorem c88n (z : Int) : SCalls Proofs.Try.prog 88 [.s (.lf .nilp), vI z] [] (.tup [.lf (.str []), .lf (.int .i64 2)]) [] := by
  refine SCalls.intro tok Proofs.Try.func88 ?_
  conv => whnf
  refine CallK.mk' _ _ (c154n z) ?_
  conv => whnf
  refine CaseB.of_true rfl ?_
  conv => whnf
  exact RetK.empty (okF.wv ⟨trivial, trivial, trivial⟩)
theorem c88z (z : Int) : SCalls Proofs.Try.prog 88 [.s (.lf (.ptr 0 0)), vI z] [some zR] (.tup [.lf (.str []), .lf (.int .i64 2)]) [some zR] := by
  refine SCalls.intro tok Proofs.Try.func88 ?_
  conv => whnf
  refine CallK.mk' _ _ (c154z z) ?_
  conv => whnf
  refine CaseB.of_true rfl ?_
  conv => whnf
  exact RetK.same (H := [some zR]) rfl (by simp) (okF.wv ⟨trivial, trivial, trivial⟩)
theorem c89e (m : List UInt8) (d : Nat → Bool) (z : Int) (h : ¬ (0 ≤ z ∧ z < 5)) : SCalls Proofs.Try.prog 89 [.s (.lf (.ptr 0 0)), vI z] (hR m d) (.tup [.lf (.str []), .lf (.int .i64 1)]) (hR m d) := by
  refine SCalls.intro tok Proofs.Try.func89 ?_
  conv => whnf
  refine CallK.mk' _ _ (c154e m d z h) ?_
  conv => whnf
  refine CaseB.of_true rfl ?_
  conv => whnf
  exact RetK.same (H := hR m d) rfl (by simp) (okF.wv ⟨trivial, trivial, trivial⟩)
theorem c89n (z : Int) : SCalls Proofs.Try.prog 89 [.s (.lf .nilp), vI z] [] (.tup [.lf (.str []), .lf (.int .i64 2)]) [] := by
  refine SCalls.intro tok Proofs.Try.func89 ?_
  conv => whnf
  refine CallK.mk' _ _ (c154n z) ?_
  conv => whnf
  refine CaseB.of_true rfl ?_
  conv => whnf
  exact RetK.empty (okF.wv ⟨trivial, trivial, trivial⟩)
theorem c89z (z : Int) : SCalls Proofs.Try.prog 89 [.s (.lf (.ptr 0 0)), vI z] [some zR] (.tup [.lf (.str []), .lf (.int .i64 2)]) [some zR] := by
  refine SCalls.intro tok Proofs.Try.func89 ?_
  conv => whnf
  refine CallK.mk' _ _ (c154z z) ?_
  conv => whnf
  refine CaseB.of_true rfl ?_
  conv => whnf
  exact RetK.same (H := [some zR]) rfl (by simp) (okF.wv ⟨trivial, trivial, trivial⟩)
theorem c90e (m : List UInt8) (d : Nat → Bool) (z : Int) (h : ¬ (0 ≤ z ∧ z < 5)) : SCalls Proofs.Try.prog 90 [.s (.lf (.ptr 0 0)), vI z] (hR m d) (.tup [.lf (.str []), .lf (.int .i64 1)]) (hR m d) := by
  refine SCalls.intro tok Proofs.Try.func90 ?_
  conv => whnf
  refine CallK.mk' _ _ (c154e m d z h) ?_
  conv => whnf
  refine CaseB.of_true rfl ?_
  conv => whnf
  exact RetK.same (H := hR m d) rfl (by simp) (okF.wv ⟨trivial, trivial, trivial⟩)
theorem c90n (z : Int) : SCalls Proofs.Try.prog 90 [.s (.lf .nilp), vI z] [] (.tup [.lf (.str []), .lf (.int .i64 2)]) [] := by
  refine SCalls.intro tok Proofs.Try.func90 ?_
  conv => whnf
  refine CallK.mk' _ _ (c154n z) ?_
  conv => whnf
  refine CaseB.of_true rfl ?_
  conv => whnf
  exact RetK.empty (okF.wv ⟨trivial, trivial, trivial⟩)
theorem c90z (z : Int) : SCalls Proofs.Try.prog 90 [.s (.lf (.ptr 0 0)), vI z] [some zR] (.tup [.lf (.str []), .lf (.int .i64 2)]) [some zR] := by
  refine SCalls.intro tok Proofs.Try.func90 ?_
  conv => whnf
  refine CallK.mk' _ _ (c154z z) ?_
  conv => whnf
  refine CaseB.of_true rfl ?_
  conv => whnf
  exact RetK.same (H := [some zR]) rfl (by simp) (okF.wv ⟨trivial, trivial, trivial⟩)

def kyM : List UInt8 := [109]
theorem eqB_self : ∀ l : List UInt8, eqB l l = true
  | [] => rfl
  | a :: l => by simp only [eqB, Nat.beq_refl, eqB_self l, Bool.and_self]
theorem eqB_ne {a b : List UInt8} (h : eqB a b = false) : a ≠ b := fun e => by rw [e, eqB_self] at h; exact Bool.noConfusion h
theorem aw_ne : kyF [109] tokenB 0 ≠ kyF [109] putB 0 := eqB_ne (by kernel_rfl)
theorem kyF_length (m p : List UInt8) (j : Nat) : (kyF m p j).length = 32 := tagF_length _ _

attribute [local irreducible] kyF tagF dF

/-- baileylaw07.awake -/
theorem c87 : SCalls Proofs.Try.prog 87 [] [] (.s (.lf .tt)) [] := by
  refine SCalls.intro tok Proofs.Try.func87 ?_
  conv => whnf
  refine CallK.mk' _ _ (c86 [109]) ?_
  conv => whnf
  refine CallK.mk' _ _ (c92 [109] _) ?_
  conv => whnf
  refine CaseB.of_false rfl ?_
  conv => whnf
  refine CallK.mk' _ _ (c88_0 [109] _ (by decide)) ?_
  conv => whnf
  refine CallK.mk' _ _ (c89_0 [109] _ (by decide)) ?_
  conv => whnf
  refine CallK.mk' _ _ (c88e [109] _ 5 (by decide)) ?_
  conv => whnf
  repeat (refine CaseB.of_true rfl ?_; conv => whnf)
  refine CaseB.of_true (decide_eq_true (show ((kyF [109] tokenB 0).length : Int) = 32 by rw [kyF_length]; rfl)) ?_
  conv => whnf
  repeat (refine CaseB.of_true rfl ?_; conv => whnf)
  refine CaseB.of_true (decide_eq_true aw_ne) ?_
  conv => whnf
  repeat (refine CaseB.of_true rfl ?_; conv => whnf)
  refine CallK.mk' _ _ (c92 [109] _) ?_
  conv => whnf
  exact RetK.empty (WV.lf (WL.btt (by decide)))

/-- baileylaw07.KeyringNobody -/
theorem c16 (z : Int) : SCalls Proofs.Try.prog 16 [vI z] [] (.s (.lf .tt)) [] := by
  refine SCalls.intro tok Proofs.Try.func16 ?_
  conv => whnf
  refine CallK.mk' _ _ ((c88n z).free _ ⟨trivial, trivial, trivial⟩ ⟨trivial, trivial, trivial⟩) ?_
  conv => whnf
  refine CallK.mk' _ _ (c89z z) ?_
  conv => whnf
  refine CallK.mk' _ _ ((c90n z).free _ ⟨trivial, trivial, trivial⟩ ⟨trivial, trivial, trivial⟩) ?_
  conv => whnf
  repeat (refine CaseB.of_true rfl ?_; conv => whnf)
  refine CallK.mk' _ _ (c92n.free _ ⟨trivial, trivial⟩ trivial) ?_
  conv => whnf
  repeat (refine CaseB.of_true rfl ?_; conv => whnf)
  refine CallK.mk' _ _ c92z ?_
  conv => whnf
  repeat (refine CaseB.of_true rfl ?_; conv => whnf)
  refine CallK.mk' _ _ (c87.free _ trivial trivial) ?_
  conv => whnf
  exact RetK.more (H := []) [_] rfl (by simp) (okF.wv trivial)
end Go.Sym.Md

set_option linter.unusedVariables false
set_option linter.unusedSimpArgs false
set_option maxRecDepth 10000
namespace Go.Sym.Md
open Go Go.Sym Go.Sym.Sh

attribute [local irreducible] kyF tagF dF
theorem up_self {d : Nat → Bool} {z : Nat} (h : d z = true) : up d z = d := by
  funext i
  unfold up
  split
  · rename_i hi
    rw [Nat.eq_of_beq_eq_true hi, h]
  · rfl
theorem cnt_up {d : Nat → Bool} {z : Nat} (hz : z < 5) (h : d z = false) : cnt (up d z) = cnt d + 1 := by
  have : z = 0 ∨ z = 1 ∨ z = 2 ∨ z = 3 ∨ z = 4 := by omega
  rcases this with rfl | rfl | rfl | rfl | rfl <;> (unfold cnt; rw [h]; simp [up, b2, Nat.beq] <;> omega)
attribute [local irreducible] cnt
abbrev sO (d : Nat → Bool) : OB := ⟨97, [.recs 1 5 fun i _ => .bool (d i)]⟩
/-- A ring, and the row of the lanes that were seen. -/
abbrev hS (m : List UInt8) (d : Nat → Bool) : Hp := [some (rgO m (cnt d)), some rwO, some (kO (kS m 0 (d 0))), some (kO (kS m 1 (d 1))), some (kO (kS m 2 (d 2))), some (kO (kS m 3 (d 3))), some (kO (kS m 4 (d 4))), some (sO d)]
theorem c92t (m : List UInt8) (d : Nat → Bool) (k : Hp) : SCalls Proofs.Try.prog 92 [.s (.lf (.ptr 0 0))] (hR m d ++ k) (vI (cnt d)) (hR m d ++ k) := (c92 m d).tail k rfl rfl rfl rfl rfl trivial
theorem c90t (m : List UInt8) (d : Nat → Bool) (hm : m.length ≤ 1000) (z : Nat) (h : z < 5) (k : Hp) : SCalls Proofs.Try.prog 90 [.s (.lf (.ptr 0 0)), vI z] (hR m d ++ k) (.tup [.lf (.str (kyF m getB z)), .lf (.int .i64 0)]) (hR m (up d z) ++ k) := (c90 m d hm z (by omega)).tail k rfl rfl rfl rfl rfl ⟨trivial, trivial, trivial⟩
theorem c90et (m : List UInt8) (d : Nat → Bool) (z : Int) (h : ¬ (0 ≤ z ∧ z < 5)) (k : Hp) : SCalls Proofs.Try.prog 90 [.s (.lf (.ptr 0 0)), vI z] (hR m d ++ k) (.tup [.lf (.str []), .lf (.int .i64 1)]) (hR m d ++ k) := (c90e m d z h).tail k rfl rfl rfl rfl rfl ⟨trivial, trivial, trivial⟩
/-- baileylaw07.KeyringCounts -/
theorem c15 (l : List UInt8) (hl : l.length ≤ maxLen) : SCalls Proofs.Try.prog 15 [.s (.lf (.rob false false l))] [] (.s (.lf .tt)) [] := by
  have hm : maxLen = 9223372036854775807 := rfl
  refine SCalls.intro tok Proofs.Try.func15 ?_
  conv => whnf
  refine CallK.mk' _ _ (c86 [107]) ?_
  conv => whnf
  refine LoopK.mk2 (fun (i : Nat) (d : Nat → Bool) => [(13, vI i), (12, vI l.length), (11, .s (.lf (.rob false false l))), (5, vI (cnt d)), (4, .s (.lf (.ptr 7 0))), (3, .s (.lf (.ptr 0 0))), (2, .s (.lf .ff))]) (fun i d => hS [107] d) (fun i d => i ≤ l.length ∧ i ≤ 20) (fun i d => l.length - i) 0 (fun _ => false) ⟨by omega, by omega⟩ ?_ ?_
  · have e0 : (0 : Int) = cnt (fun _ : Nat => false) := by unfold cnt; rfl
    refine Weak.of ⟨rfl, ⟨.one (WL.str rfl), .one (WL.own rfl rfl rfl rfl), .one (WL.int rfl), trivial⟩, rfl, (okGsB_ok rfl).ws, rfl, kO_ws, rfl, kO_ws, rfl, kO_ws, rfl, kO_ws, rfl, kO_ws, rfl, ⟨.recs rfl fun i hi j hj => ?_, trivial⟩, trivial⟩ (by simp) ⟨okF.wv trivial, okF.wv trivial, okF.wv trivial, WV.lf (WL.int e0), okF.wv rfl, okF.wv rfl, okF.wv trivial, trivial⟩
    obtain rfl : j = 0 := by have : j < 1 := hj; omega
    exact fun w L L' x h hx => hx
  rintro i d ⟨hi, h20⟩
  conv => whnf
  by_cases hi' : i < l.length
  · refine CaseB.of_true (decide_eq_true (by omega)) ?_
    conv => whnf
    refine And.intro (by omega) ?_
    conv => whnf
    by_cases hx : 20 ≤ (i : Int)
    · refine CaseB.of_true (decide_eq_true hx) ?_
      conv => whnf
      refine CallK.mk' _ _ (c92t [107] d [some (sO d)]) ?_
      conv => whnf
      refine CaseB.of_true (decide_eq_true rfl) ?_
      conv => whnf
      refine CallK.mk' _ _ (c87.free _ trivial trivial) ?_
      conv => whnf
      exact RetK.empty (okF.wv trivial)
    refine CaseB.of_false (decide_eq_false hx) ?_
    conv => whnf
    refine And.intro (by decide) ?_
    conv => whnf
    obtain ⟨z, hz7, hz⟩ : ∃ z : Nat, z < 7 ∧ Int.tmod (((l.getD (Int.toNat (i : Int)) 0).toNat : Nat) : Int) 7 = (z : Int) := ⟨(l.getD (Int.toNat (i : Int)) 0).toNat % 7, Nat.mod_lt _ (by omega), rfl⟩
    rw [hz, wrap_i64 (n := (z : Int)) (by omega) (by omega)]
    by_cases h5 : z < 5
    · refine CallK.mk' _ _ (c90t [107] d (by decide) z h5 [some (sO d)]) ?_
      conv => whnf
      refine And.intro (by decide) ?_
      conv => whnf
      rw [hz]
      refine CaseB.of_true (decide_eq_true (by omega)) ?_
      conv => whnf
      refine And.intro (by decide) ?_
      conv => whnf
      rw [hz]
      refine And.intro (by omega) ?_
      conv => whnf
      refine And.intro (by omega) ?_
      conv => whnf
      have hd : ∀ b : Bool, d z = b → d (Int.toNat (z : Int)) = b := fun b h => by rw [Int.toNat_natCast]; exact h
      cases hdz : d z with
      | true =>
        refine CaseB.of_false (by rw [hd _ hdz]; rfl) ?_
        conv => whnf
        rw [up_self hdz]
        refine ⟨(i + 1, d), ⟨by show i + 1 ≤ _; omega, by show i + 1 ≤ _; omega⟩, by show l.length - (i + 1) < _; omega, ?_⟩
        exact Weak.of (HpW.okB rfl) (by simp) ⟨WV.lf (WL.int (by rw [wrap_i64 (by omega) (by omega)]; rfl)), okF.wv trivial, okF.wv trivial, okF.wv trivial, okF.wv rfl, okF.wv rfl, okF.wv trivial, trivial⟩
      | false =>
        refine CaseB.of_true (by rw [hd _ hdz]; rfl) ?_
        conv => whnf
        refine And.intro (by decide) ?_
        conv => whnf
        rw [hz]
        refine And.intro ⟨by omega, by show (z : Int) < 5; omega⟩ ?_
        conv => whnf
        refine And.intro (by omega) ?_
        conv => whnf
        refine ⟨(i + 1, up d z), ⟨by show i + 1 ≤ _; omega, by show i + 1 ≤ _; omega⟩, by show l.length - (i + 1) < _; omega, ?_⟩
        have hc := cnt_up h5 hdz
        refine Weak.of ⟨rfl, (okGsB_ok rfl).ws, rfl, (okGsB_ok rfl).ws, rfl, kO_ws, rfl, kO_ws, rfl, kO_ws, rfl, kO_ws, rfl, kO_ws, rfl, ⟨.recs rfl fun i hi j hj => ?_, trivial⟩, trivial⟩ (by simp) ⟨WV.lf (WL.int (by rw [wrap_i64 (by omega) (by omega)]; rfl)), okF.wv trivial, okF.wv trivial, WV.lf (WL.int ?_), okF.wv rfl, okF.wv rfl, okF.wv trivial, trivial⟩
        · obtain rfl : j = 0 := by have : j < 1 := hj; omega
          show WL _ (match decide (i = Int.toNat (z : Int)) with | true => LV.tt | false => LV.bool (d i)) (LV.bool (up d z i))
          by_cases e : i = z
          · rw [decide_eq_true (show i = Int.toNat (z : Int) by omega)]
            have : up d z i = true := by unfold up; rw [e, Nat.beq_refl]
            rw [this]
            exact fun w L L' x h hx => hx
          · rw [decide_eq_false (show ¬ i = Int.toNat (z : Int) by omega)]
            have : up d z i = d i := by
              unfold up
              split
              · rename_i hi
                exact absurd (Nat.eq_of_beq_eq_true hi) e
              · rfl
            rw [this]
            exact fun w L L' x h hx => hx
        · have hle := cnt_le d
          have hge := cnt_nonneg d
          show IntKind.i64.wrap (cnt d + 1) = cnt (up d z)
          rw [hc, wrap_i64 (by omega) (by omega)]
    · refine CallK.mk' _ _ (c90et [107] d z (by omega) [some (sO d)]) ?_
      conv => whnf
      refine And.intro (by decide) ?_
      conv => whnf
      rw [hz]
      refine CaseB.of_false (decide_eq_false (by omega)) ?_
      conv => whnf
      refine ⟨(i + 1, d), ⟨by show i + 1 ≤ _; omega, by show i + 1 ≤ _; omega⟩, by show l.length - (i + 1) < _; omega, ?_⟩
      exact Weak.of (HpW.okB rfl) (by simp) ⟨WV.lf (WL.int (by rw [wrap_i64 (by omega) (by omega)]; rfl)), okF.wv trivial, okF.wv trivial, okF.wv trivial, okF.wv rfl, okF.wv rfl, okF.wv trivial, trivial⟩
  · refine CaseB.of_false (decide_eq_false (by omega)) ?_
    conv => whnf
    refine CallK.mk' _ _ (c92t [107] d [some (sO d)]) ?_
    conv => whnf
    refine CaseB.of_true (decide_eq_true rfl) ?_
    conv => whnf
    refine CallK.mk' _ _ (c87.free _ trivial trivial) ?_
    conv => whnf
    exact RetK.empty (okF.wv trivial)
end Go.Sym.Md

