/- Contracts of the program's functions, proved by the framework (text TxG), without conditions but those that each theorem states. -/
import Derived.Test.YtlmcdgbjbamdnaaTxF
import Derived.KernelRfl
set_option linter.unusedVariables false
set_option linter.unusedSimpArgs false
set_option maxRecDepth 10000
namespace Go.Sym.Md
open Go Go.Sym

/-! ### Tokens -/
structure TkS where
  l : Int
  i : Int
  e : Int
  cs : List CV
  tag : List UInt8

/-- What a list of caveats is told by: nil, or a row. -/
def isC (u : LV) (cs : List CV) : Prop := (u = .sl0 ∧ cs = []) ∨ u = .ro true false 3 cs.length (rowC cs) ∨ u = .ro false false 3 cs.length (rowC cs)
theorem isC.wl {D : Rel} [ROk D] {u : LV} {cs : List CV} (h : isC u cs) : WL D u (.ro false false 3 cs.length (rowC cs)) := by
  rcases h with ⟨rfl, rfl⟩ | rfl | rfl
  · exact WL.sl0ro
  · exact WL.ro rfl (by simp) (by simp) fun i hi j hj => rowC_wl hj
  · exact WL.ro rfl (by simp) (by simp) fun i hi j hj => rowC_wl hj
theorem isC.self {D : Rel} [ROk D] {u : LV} {cs : List CV} (h : isC u cs) : WL D u u := by
  rcases h with ⟨rfl, rfl⟩ | rfl | rfl
  · exact WL.sl0
  · exact WL.ro rfl (by simp) (by simp) fun i hi j hj => rowC_wl hj
  · exact WL.ro rfl (by simp) (by simp) fun i hi j hj => rowC_wl hj

abbrev vRl (cs : List CV) : LV := .ro false false 3 cs.length (rowC cs)
abbrev segsT (t : TkS) : List Seg := [.one (.int .i64 t.l), .one (.int .i64 t.i), .one (.int .i64 t.e), .one (vRl t.cs), .one (.str t.tag)]
abbrev vT (t : TkS) : FV := .s (.agg (segsT t))
abbrev obT (t : TkS) : OB := ⟨52, segsT t⟩
theorem vT_free (t : TkS) : freeF (vT t) := ⟨trivial, trivial, trivial, rowC_free (cs := t.cs), trivial, trivial⟩
theorem vT_ok (t : TkS) {H : Hp} : okF H (vT t) := ⟨trivial, trivial, trivial, rowC_ok (cs := t.cs), trivial, trivial⟩
theorem obT_ws {D : Rel} [ROk D] (t : TkS) : WSs D (segsT t) (segsT t) := ⟨.one (WL.int rfl), .one (WL.int rfl), .one (WL.int rfl), .one (WL.ro rfl (by simp) (by simp) fun i hi j hj => rowC_wl hj), .one (WL.str rfl), trivial⟩

def headF (l i e : Int) : Bool := decide (0 ≤ l ∧ l ≤ 4) && (decide (1 ≤ i ∧ i ≤ 2147483648) && decide (0 ≤ e ∧ e ≤ 2147483648))
def okW (c : CV) : Bool := okC c.k c.n c.s
def okT (t : TkS) : Bool := headF t.l t.i t.e && (decide (t.cs.length ≤ 8) && (t.cs.all okW && decide (t.tag.length = 32)))
def checkT (t : TkS) : Int := if okT t then 0 else 1

attribute [local irreducible] numF checkF hasF okC boundF numR textR readC putC codeC parseC

/-- token.head -/
theorem c158 (l i e : Int) : SCalls Proofs.Try.prog 158 [vI l, vI i, vI e] [] (.s (.lf (.bool (headF l i e)))) [] := by
  refine SCalls.intro tok Proofs.Try.func158 ?_
  conv => whnf
  refine CallK.mk' _ _ (c122 l 0 4) ?_
  conv => whnf
  by_cases h1 : 0 ≤ l ∧ l ≤ 4
  · by_cases h2 : 1 ≤ i ∧ i ≤ 2147483648
    · repeat ((first | refine CaseB.of_true (decide_eq_true h1) ?_ | refine CaseB.of_true (decide_eq_true h2) ?_ | refine CallK.mk' _ _ (c122 i 1 2147483648) ?_ | refine CallK.mk' _ _ (c122 e 0 2147483648) ?_); conv => whnf)
      exact RetK.empty (WV.lf (WL.bool (by unfold headF; rw [decide_eq_true h1, decide_eq_true h2]; rfl)))
    · repeat ((first | refine CaseB.of_true (decide_eq_true h1) ?_ | refine CaseB.of_false (decide_eq_false h2) ?_ | refine CallK.mk' _ _ (c122 i 1 2147483648) ?_ | refine CallK.mk' _ _ (c122 e 0 2147483648) ?_); conv => whnf)
      exact RetK.empty (WV.lf (WL.ff (by unfold headF; rw [decide_eq_false h2]; simp)))
  · repeat ((first | refine CaseB.of_false (decide_eq_false h1) ?_); conv => whnf)
    exact RetK.empty (WV.lf (WL.ff (by unfold headF; rw [decide_eq_false h1]; rfl)))

/-- baileyref08.head -/
theorem c165 (l i e : Int) : SCalls Proofs.Try.prog 165 [vI l, vI i, vI e] [] (.s (.lf (.bool (headF l i e)))) [] := by
  refine SCalls.intro tok Proofs.Try.func165 ?_
  conv => whnf
  by_cases h1 : 0 ≤ l
  · by_cases h2 : l ≤ 4
    · by_cases h3 : 1 ≤ i
      · by_cases h4 : i ≤ 2147483648
        · by_cases h5 : 0 ≤ e
          · repeat ((first | refine CaseB.of_true (decide_eq_true h1) ?_ | refine CaseB.of_true (decide_eq_true h2) ?_ | refine CaseB.of_true (decide_eq_true h3) ?_ | refine CaseB.of_true (decide_eq_true h4) ?_ | refine CaseB.of_true (decide_eq_true h5) ?_); conv => whnf)
            exact RetK.empty (WV.lf (WL.bool (by unfold headF; rw [decide_eq_true (⟨h1, h2⟩ : 0 ≤ l ∧ l ≤ 4), decide_eq_true (⟨h3, h4⟩ : 1 ≤ i ∧ i ≤ 2147483648)]; simp [h5])))
          · repeat ((first | refine CaseB.of_true (decide_eq_true h1) ?_ | refine CaseB.of_true (decide_eq_true h2) ?_ | refine CaseB.of_true (decide_eq_true h3) ?_ | refine CaseB.of_true (decide_eq_true h4) ?_ | refine CaseB.of_false (decide_eq_false h5) ?_); conv => whnf)
            exact RetK.empty (WV.lf (WL.ff (by unfold headF; simp [h5])))
        · repeat ((first | refine CaseB.of_true (decide_eq_true h1) ?_ | refine CaseB.of_true (decide_eq_true h2) ?_ | refine CaseB.of_true (decide_eq_true h3) ?_ | refine CaseB.of_false (decide_eq_false h4) ?_); conv => whnf)
          exact RetK.empty (WV.lf (WL.ff (by unfold headF; simp [h4])))
      · repeat ((first | refine CaseB.of_true (decide_eq_true h1) ?_ | refine CaseB.of_true (decide_eq_true h2) ?_ | refine CaseB.of_false (decide_eq_false h3) ?_); conv => whnf)
        exact RetK.empty (WV.lf (WL.ff (by unfold headF; simp [h3])))
    · repeat ((first | refine CaseB.of_true (decide_eq_true h1) ?_ | refine CaseB.of_false (decide_eq_false h2) ?_); conv => whnf)
      exact RetK.empty (WV.lf (WL.ff (by unfold headF; simp [h2])))
  · repeat (refine CaseB.of_false (decide_eq_false h1) ?_; conv => whnf)
    exact RetK.empty (WV.lf (WL.ff (by unfold headF; simp [h1])))

/-- token.wrong -/
theorem c161 (c : CV) : SCalls Proofs.Try.prog 161 [vCc c] [] (.s (.lf (.bool (!okW c)))) [] := by
  refine SCalls.intro tok Proofs.Try.func161 ?_
  conv => whnf
  refine CallK.mk' _ _ ((c26 c.k c.n c.s).free _ ⟨⟨trivial, trivial, trivial, trivial⟩, trivial⟩ trivial) ?_
  conv => whnf
  exact RetK.empty (WV.lf (WL.bool (by
      unfold okW
      cases h : okC c.k c.n c.s with
      | false => rw [checkF_bad h]; rfl
      | true => rw [checkF_good h]; rfl)))

def vWr : LV := .fn 161 0 fun _ => .any
theorem vWr_free : freeF (.s (.lf vWr)) := by intro i hi; omega
theorem vWr_ok {H : Hp} : okF H (.s (.lf vWr)) := by intro i hi; omega
def idxW : List CV → Nat → Int
  | [], _ => -1
  | c :: l, i => if okW c = false then (i : Int) else idxW l (i + 1)
theorem idxW_all : ∀ (cs : List CV) (i : Nat), decide (idxW cs i ≥ 0) = !(cs.all okW)
  | [], i => rfl
  | c :: l, i => by
    unfold idxW
    cases h : okW c with
    | false => simp [h]
    | true => rw [if_neg (by simp), List.all_cons, h, Bool.true_and]; exact idxW_all l (i + 1)

/-- slices.IndexFunc, with token.wrong -/
theorem c184w (cs : List CV) (hl : cs.length ≤ maxLen) : SCalls Proofs.Try.prog 184 [vR cs, .s (.lf vWr)] [] (vI (idxW cs 0)) [] := by
  have hm : maxLen = 9223372036854775807 := rfl
  refine SCalls.intro tok Proofs.Try.func184 ?_
  conv => whnf
  refine LoopK.mk1 (fun i : Nat => [(0, vR cs), (1, .s (.lf vWr)), (7, vI cs.length), (8, vI i)]) (fun i => []) (fun i => i ≤ cs.length ∧ idxW cs 0 = idxW (cs.drop i) i) (fun i => cs.length - i) 0 ⟨by omega, rfl⟩ ?_ ?_
  · exact Weak.of ⟨⟩ (by simp) ⟨okF.wv rowC_ok, okF.wv vWr_ok, okF.wv trivial, okF.wv trivial, trivial⟩
  intro i hi
  obtain ⟨hi, ht⟩ := hi
  conv => whnf
  by_cases hi' : i < cs.length
  · refine CaseB.of_true (decide_eq_true (by omega)) ?_
    conv => whnf
    refine And.intro (by omega) ?_
    conv => whnf
    have hd : cs.drop i = cs.getD i cv0 :: cs.drop (i + 1) := by rw [List.drop_eq_getElem_cons hi', List.getD_eq_getElem?_getD, List.getElem?_eq_getElem hi']; rfl
    rw [hd] at ht
    obtain ⟨c, hc⟩ : ∃ c, cs.getD i cv0 = c := ⟨_, rfl⟩
    have hi0 : cs.getD (Int.toNat (i : Int)) cv0 = c := by rw [Int.toNat_natCast]; exact hc
    rw [hi0]
    rw [hc] at ht
    conv at ht => rhs; unfold idxW
    refine CallK.mk' _ _ (c161 c) ?_
    conv => whnf
    cases hh : okW c with
    | false =>
      refine CaseB.of_true rfl ?_
      conv => whnf
      rw [hh, if_pos rfl] at ht
      exact RetK.empty (WV.lf (WL.int ht.symm))
    | true =>
      refine CaseB.of_false rfl ?_
      conv => whnf
      rw [hh, if_neg (by simp)] at ht
      refine ⟨i + 1, ⟨by omega, ht⟩, by show cs.length - (i + 1) < cs.length - i; omega, ?_⟩
      exact Weak.of ⟨⟩ (by simp) ⟨okF.wv rowC_ok, okF.wv vWr_ok, okF.wv trivial, WV.lf (WL.int (by rw [wrap_i64 (by omega) (by omega)]; omega)), trivial⟩
  · refine CaseB.of_false (decide_eq_false (by omega)) ?_
    conv => whnf
    rw [List.drop_of_length_le (by omega)] at ht
    exact RetK.empty (WV.lf (WL.int ht.symm))

/-- slices.ContainsFunc, with token.wrong -/
theorem c130w (cs : List CV) (hl : cs.length ≤ maxLen) : SCalls Proofs.Try.prog 130 [vR cs, .s (.lf vWr)] [] (.s (.lf (.bool (!(cs.all okW))))) [] := by
  refine SCalls.intro tok Proofs.Try.func130 ?_
  conv => whnf
  refine CallK.mk' _ _ (c184w cs hl) ?_
  conv => whnf
  exact RetK.empty (WV.lf (WL.bool (idxW_all cs 0)))

/-- token.Check -/
theorem c160 (t : TkS) (hl : t.cs.length ≤ maxLen) : SCalls Proofs.Try.prog 160 [vT t] [] (vI (checkT t)) [] := by
  refine SCalls.intro tok Proofs.Try.func160 ?_
  conv => whnf
  refine CallK.mk' _ _ ((c158 t.l t.i t.e).free _ ⟨trivial, trivial, trivial, trivial⟩ trivial) ?_
  conv => whnf
  cases hh : headF t.l t.i t.e with
  | false =>
    repeat (refine CaseB.of_true rfl ?_; conv => whnf)
    exact RetK.empty (WV.lf (WL.int (by unfold checkT okT; rw [hh]; rfl)))
  | true =>
  by_cases h8 : 8 < (t.cs.length : Int)
  · repeat ((first | refine CaseB.of_false rfl ?_ | refine CaseB.of_true (decide_eq_true h8) ?_); conv => whnf)
    exact RetK.empty (WV.lf (WL.int (by unfold checkT okT; rw [hh, decide_eq_false (by omega)]; rfl)))
  repeat ((first | refine CaseB.of_false rfl ?_ | refine CaseB.of_false (decide_eq_false h8) ?_); conv => whnf)
  refine CallK.mk' _ _ ((c130w t.cs hl).free _ ⟨rowC_free, vWr_free, trivial⟩ trivial) ?_
  conv => whnf
  repeat (refine CaseB.of_false (decide_eq_false h8) ?_; conv => whnf)
  cases ha : t.cs.all okW with
  | false =>
    refine CaseB.of_true rfl ?_
    conv => whnf
    exact RetK.empty (WV.lf (WL.int (by unfold checkT okT; rw [ha]; simp)))
  | true =>
  refine CaseB.of_false rfl ?_
  conv => whnf
  by_cases hg : (t.tag.length : Int) = 32
  · repeat (refine CaseB.of_false (decide_eq_false fun h => h hg) ?_; conv => whnf)
    exact RetK.empty (WV.lf (WL.int (by unfold checkT okT; rw [hh, ha, decide_eq_true (by omega : t.cs.length ≤ 8), decide_eq_true (by omega : t.tag.length = 32)]; rfl)))
  · repeat (refine CaseB.of_true (decide_eq_true hg) ?_; conv => whnf)
    exact RetK.empty (WV.lf (WL.int (by unfold checkT okT; rw [decide_eq_false (by omega : ¬ t.tag.length = 32)]; simp)))

/-- baileyref08.Check -/
theorem c167 (t : TkS) (hl : t.cs.length ≤ maxLen) : SCalls Proofs.Try.prog 167 [vT t] [] (vI (checkT t)) [] := by
  refine SCalls.intro tok Proofs.Try.func167 ?_
  conv => whnf
  refine CallK.mk' _ _ ((c165 t.l t.i t.e).free _ ⟨trivial, trivial, trivial, trivial⟩ trivial) ?_
  conv => whnf
  cases hh : headF t.l t.i t.e with
  | false =>
    repeat (refine CaseB.of_true rfl ?_; conv => whnf)
    exact RetK.empty (WV.lf (WL.int (by unfold checkT okT; rw [hh]; rfl)))
  | true =>
  by_cases h8 : 8 < (t.cs.length : Int)
  · repeat ((first | refine CaseB.of_false rfl ?_ | refine CaseB.of_true (decide_eq_true h8) ?_); conv => whnf)
    exact RetK.empty (WV.lf (WL.int (by unfold checkT okT; rw [hh, decide_eq_false (by omega)]; rfl)))
  by_cases hg : (t.tag.length : Int) = 32
  · repeat ((first | refine CaseB.of_false rfl ?_ | refine CaseB.of_false (decide_eq_false h8) ?_ | refine CaseB.of_false (decide_eq_false fun h => h hg) ?_); conv => whnf)
    have hm : maxLen = 9223372036854775807 := rfl
    refine LoopK.mk1 (fun i : Nat => [(3, vI i), (2, vI 0), (1, .s (.lf (.ptr 0 0)))]) (fun i => [some (obT t)]) (fun i => i ≤ t.cs.length ∧ (t.cs.take i).all okW = true) (fun i => t.cs.length - i) 0 ⟨by omega, rfl⟩ ?_ ?_
    · exact Weak.of ⟨rfl, obT_ws t, trivial⟩ (by simp) ⟨okF.wv trivial, okF.wv trivial, okF.wv rfl, trivial⟩
    rintro i ⟨hi, ht⟩
    conv => whnf
    by_cases hi' : i < t.cs.length
    · refine CaseB.of_true (decide_eq_true (by omega)) ?_
      conv => whnf
      refine And.intro (by omega) ?_
      conv => whnf
      obtain ⟨c, hc⟩ : ∃ c, t.cs.getD i cv0 = c := ⟨_, rfl⟩
      have hi0 : t.cs.getD (Int.toNat (i : Int)) cv0 = c := by rw [Int.toNat_natCast]; exact hc
      have hx0 : t.cs[i]? = some c := by rw [← hc, List.getD_eq_getElem?_getD, List.getElem?_eq_getElem hi']; rfl
      rw [hi0]
      refine CallK.mk' _ _ ((c27 c.k c.n c.s).free _ ⟨⟨trivial, trivial, trivial, trivial⟩, trivial⟩ trivial) ?_
      conv => whnf
      cases hh' : okW c with
      | false =>
        refine CaseB.of_true (by rw [checkF_bad hh']; rfl) ?_
        conv => whnf
        refine RetK.empty (WV.lf (WL.int ?_))
        have hall : t.cs.all okW = false := by
          cases ha : t.cs.all okW with
          | false => rfl
          | true =>
            rw [List.all_eq_true] at ha
            have := ha c (List.mem_of_getElem? hx0)
            rw [hh'] at this; simp at this
        unfold checkT okT; rw [hall]; simp
      | true =>
        refine CaseB.of_false (by rw [checkF_good hh']; rfl) ?_
        conv => whnf
        refine ⟨i + 1, ⟨by omega, by rw [List.take_add_one, hx0, List.all_append, ht]; simp [hh']⟩, by omega, ?_⟩
        exact Weak.of ⟨rfl, obT_ws t, trivial⟩ (by simp) ⟨WV.lf (WL.int (by rw [wrap_i64 (by omega) (by omega)]; omega)), okF.wv trivial, okF.wv rfl, trivial⟩
    · refine CaseB.of_false (decide_eq_false (by omega)) ?_
      conv => whnf
      obtain rfl : i = t.cs.length := by omega
      rw [List.take_length] at ht
      exact RetK.empty (WV.lf (WL.int (by unfold checkT okT; rw [hh, ht, decide_eq_true (by omega : t.cs.length ≤ 8), decide_eq_true (by omega : t.tag.length = 32)]; rfl)))
  · repeat ((first | refine CaseB.of_false rfl ?_ | refine CaseB.of_false (decide_eq_false h8) ?_ | refine CaseB.of_true (decide_eq_true hg) ?_); conv => whnf)
    exact RetK.empty (WV.lf (WL.int (by unfold checkT okT; rw [decide_eq_false (by omega : ¬ t.tag.length = 32)]; simp)))
end Go.Sym.Md

set_option linter.unusedVariables false
set_option linter.unusedSimpArgs false
set_option maxRecDepth 10000
namespace Go.Sym.Md
open Go Go.Sym Go.Sym.Sh

def tokL : List UInt8 := [116, 111, 107, 101, 110]
def nn (z : Int) : List UInt8 := numF (max z 0).toNat
def textT (l i e : Int) : List UInt8 := tokL ++ nn l ++ nn i ++ nn e
def textP (l i e : Int) : Nat → List UInt8
  | 0 => tokL
  | 1 => tokL ++ nn l
  | 2 => tokL ++ nn l ++ nn i
  | _ => tokL ++ nn l ++ nn i ++ nn e
def chainF (tag : List UInt8) (cs : List CV) : List UInt8 := cs.foldl (fun t c => tagF t (putC [] c)) tag
def firstF (key : List UInt8) (l i e : Int) : List UInt8 := tagF key (textT l i e)
def openF (key : List UInt8) (t : TkS) : Bool := okT t && decide (chainF (firstF key t.l t.i t.e) t.cs = t.tag)

theorem tagF_length (key text : List UInt8) : (tagF key text).length = 32 := shaF_length _
theorem nn_len (z : Int) : (nn z).length ≤ 9 := by unfold nn; rw [numF_length]; exact sz_le _
theorem textP_len (l i e : Int) (k : Nat) : 5 ≤ (textP l i e k).length ∧ (textP l i e k).length ≤ 32 := by
  have h1 := nn_len l
  have h2 := nn_len i
  have h3 := nn_len e
  have h0 : tokL.length = 5 := rfl
  unfold textP
  split <;> (try simp only [List.length_append]) <;> (constructor <;> omega)
theorem chainF_take (tag : List UInt8) (cs : List CV) (i : Nat) (hi : i < cs.length) : chainF tag (cs.take (i + 1)) = tagF (chainF tag (cs.take i)) (putC [] (cs.getD i cv0)) := by
  unfold chainF
  rw [List.take_add_one, List.foldl_append, List.getElem?_eq_getElem hi, List.getD_eq_getElem?_getD, List.getElem?_eq_getElem hi]
  rfl
theorem chainF_len (tag : List UInt8) (n : Nat) (h : 32 ≤ n) (ht : tag.length ≤ n) : ∀ cs : List CV, (chainF tag cs).length ≤ n := by
  intro cs
  induction cs generalizing tag with
  | nil => exact ht
  | cons c cs ih => exact ih _ (by rw [tagF_length]; exact h)
theorem putC_nil_len (c : CV) : (putC [] c).length ≤ 50 := by have := (putC_length [] c).2; simpa using this

theorem c137z (b : List UInt8) (z : Int) (hz : z ≤ 9223372036854775807) (hb : b.length ≤ 1000000000) : SCalls Proofs.Try.prog 137 [.s (.lf (.rob false false b)), vI z] [] (.s (.lf (.own 0 0 1 0 (b ++ nn z).length))) [some ⟨5, [.bytes (b ++ nn z).length (b ++ nn z)]⟩] :=
  c137 b z (max z 0).toNat (by omega) (by omega) (by omega)
theorem c133z (b : List UInt8) (z : Int) (hz : z ≤ 9223372036854775807) (hb : b.length ≤ 1000000000) : SCalls Proofs.Try.prog 133 [.s (.lf (.rob false false b)), vI z] [] (.s (.lf (.own 0 0 1 0 (b ++ nn z).length))) [some ⟨5, [.bytes (b ++ nn z).length (b ++ nn z)]⟩] :=
  c133 b z (max z 0).toNat (by omega) (by omega) (by omega)

attribute [local irreducible] numF checkF hasF okC boundF numR textR readC putC codeC parseC tagF nn

/-- token.Text -/
theorem c105 (l i e : Int) (hl : l ≤ 9223372036854775807) (hi : i ≤ 9223372036854775807) (he : e ≤ 9223372036854775807) : SCalls Proofs.Try.prog 105 [vI l, vI i, vI e] [] (.s (.lf (.rob true false (textT l i e)))) [] := by
  refine SCalls.intro tok Proofs.Try.func105 ?_
  conv => whnf
  refine Or.inl ?_
  conv => whnf
  refine Or.inr ?_
  conv => whnf
  obtain ⟨P, hP⟩ : ∃ P, textP l i e = P := ⟨_, rfl⟩
  have hP0 : P 0 = tokL := by rw [← hP]; rfl
  have hP3 : P 3 = textT l i e := by rw [← hP]; rfl
  have hPs : ∀ k, k < 3 → P (k + 1) = P k ++ nn ([l, i, e].getD k 0) := fun k hk => by
    have : k = 0 ∨ k = 1 ∨ k = 2 := by omega
    rw [← hP]
    rcases this with rfl | rfl | rfl <;> rfl
  have hPl : ∀ k, (P k).length ≤ 32 := fun k => by rw [← hP]; exact (textP_len l i e k).2
  have hz : ∀ k, k < 3 → [l, i, e].getD k 0 ≤ 9223372036854775807 := fun k hk => by
    have : k = 0 ∨ k = 1 ∨ k = 2 := by omega
    rcases this with rfl | rfl | rfl <;> assumption
  clear hP
  have hrow : ∀ (H : Hp), okF H (.s (.lf (.ro true true 1 3 fun (i_1 : Nat) (_ : Nat) => LV.int IntKind.i64 ([l, i, e].getD i_1 0)))) := fun H i hi j hj => trivial
  have hrowf : freeF (.s (.lf (.ro true true 1 3 fun (i_1 : Nat) (_ : Nat) => LV.int IntKind.i64 ([l, i, e].getD i_1 0)))) := fun i hi j hj => trivial
  refine LoopK.mk1 (fun k : Nat => [(17, vI k), (16, vI 3), (15, .s (.lf (.ro true true 1 3 fun (i_1 : Nat) (_ : Nat) => LV.int IntKind.i64 ([l, i, e].getD i_1 0)))), (7, .s (.lf (.own 0 0 1 0 (P k).length))), (6, .s (.lf .sl0))]) (fun k => [some ⟨5, [.bytes (P k).length (P k)]⟩]) (fun k => k ≤ 3) (fun k => 3 - k) 0 (by omega) ?_ ?_
  · exact Weak.of ⟨rfl, ⟨.bytes (by rw [hP0]; rfl) fun _ _ => by rw [hP0]; rfl, trivial⟩, trivial⟩ (by simp) ⟨okF.wv trivial, okF.wv trivial, okF.wv (hrow _), WV.lf (WL.own rfl rfl rfl (by rw [hP0]; rfl)), okF.wv trivial, trivial⟩
  intro k hk
  conv => whnf
  by_cases hl' : k < 3
  · refine CaseB.of_true (decide_eq_true (by omega)) ?_
    conv => whnf
    refine And.intro (by omega) ?_
    conv => whnf
    have hk0 : [l, i, e].getD (Int.toNat (k : Int)) 0 = [l, i, e].getD k 0 := by rw [Int.toNat_natCast]
    rw [hk0]
    have hps := hPs k hl'
    have hpl := hPl k
    have hzk := hz k hl'
    obtain ⟨z, hz'⟩ : ∃ z, [l, i, e].getD k 0 = z := ⟨_, rfl⟩
    rw [hz'] at hps hzk ⊢
    refine CallK.mk' (.s (.lf (.own 1 0 1 0 (P (k + 1)).length))) _ ((c137z (P k) z hzk (by omega)).madeL (cs := [.s (.lf (.own 0 0 1 0 (P k).length)), vI z]) (fun _ => False) [some ⟨5, [.bytes (P k).length (P k)]⟩] (Hn := [some ⟨5, [.bytes (P (k + 1)).length (P (k + 1))]⟩]) ⟨WV.lf (WL.lent (ty := 5) rfl rfl ⟨fun h => h, fun i ob h => by simp at h⟩), freeF.wv trivial, trivial⟩ (WV.lf (WL.uown rfl rfl (by rw [hps]))) ⟨rfl, ⟨.bytes (by rw [hps]) fun _ _ => by rw [hps], trivial⟩, trivial⟩) ?_
    conv => whnf
    refine ⟨k + 1, by omega, by omega, ?_⟩
    exact Weak.perm [1] ⟨⟨rfl, .bytes rfl fun _ _ => rfl, trivial⟩, trivial⟩ ⟨WV.lf (WL.int (by rw [wrap_i64 (by omega) (by omega)]; omega)), freeF.wv trivial, freeF.wv hrowf, WV.lf (WL.own rfl rfl rfl rfl), freeF.wv trivial, trivial⟩ rfl (by simp) rfl (by simp)
  · refine CaseB.of_false (decide_eq_false (by omega)) ?_
    conv => whnf
    obtain rfl : k = 3 := by omega
    rw [← hP3]
    exact RetK.empty (WV.lf (WL.lentT (ty := 5) rfl rfl (gone_none fun h => h)))

/-- baileyref08.Text -/
theorem c106 (l i e : Int) (hl : l ≤ 9223372036854775807) (hi : i ≤ 9223372036854775807) (he : e ≤ 9223372036854775807) : SCalls Proofs.Try.prog 106 [vI l, vI i, vI e] [] (.s (.lf (.rob true false (textT l i e)))) [] := by
  have q0 : tokL.length ≤ 32 := (textP_len l i e 0).2
  have q1 : (tokL ++ nn l).length ≤ 32 := (textP_len l i e 1).2
  have q2 : (tokL ++ nn l ++ nn i).length ≤ 32 := (textP_len l i e 2).2
  refine SCalls.intro tok Proofs.Try.func106 ?_
  conv => whnf
  refine Or.inl ?_
  conv => whnf
  refine CallK.mk' (.s (.lf (.own 1 0 1 0 (tokL ++ nn l).length))) _ ((c133z (tokL) l (by omega) (by omega)).madeL (cs := [.s (.lf (.own 0 0 1 0 (tokL).length)), vI l]) (fun _ => False) [some ⟨5, [.bytes (tokL).length (tokL)]⟩] (Hn := [some ⟨5, [.bytes (tokL ++ nn l).length (tokL ++ nn l)]⟩]) ⟨WV.lf (WL.lent (ty := 5) rfl rfl ⟨fun h => h, fun i ob h => by simp at h⟩), freeF.wv trivial, trivial⟩ (WV.lf (WL.uown rfl rfl rfl)) ⟨rfl, ⟨.bytes rfl fun _ _ => rfl, trivial⟩, trivial⟩) ?_
  conv => whnf
  refine CallK.mk' (.s (.lf (.own 2 0 1 0 (tokL ++ nn l ++ nn i).length))) _ ((c133z (tokL ++ nn l) i (by omega) (by omega)).madeL (cs := [.s (.lf (.own 1 0 1 0 (tokL ++ nn l).length)), vI i]) (fun _ => False) [some ⟨5, [.bytes (tokL).length (tokL)]⟩, some ⟨5, [.bytes (tokL ++ nn l).length (tokL ++ nn l)]⟩] (Hn := [some ⟨5, [.bytes (tokL ++ nn l ++ nn i).length (tokL ++ nn l ++ nn i)]⟩]) ⟨WV.lf (WL.lent (ty := 5) rfl rfl ⟨fun h => h, fun i ob h => by simp at h⟩), freeF.wv trivial, trivial⟩ (WV.lf (WL.uown rfl rfl rfl)) ⟨rfl, ⟨.bytes rfl fun _ _ => rfl, trivial⟩, trivial⟩) ?_
  conv => whnf
  refine CallK.mk' (.s (.lf (.own 3 0 1 0 (tokL ++ nn l ++ nn i ++ nn e).length))) _ ((c133z (tokL ++ nn l ++ nn i) e (by omega) (by omega)).madeL (cs := [.s (.lf (.own 2 0 1 0 (tokL ++ nn l ++ nn i).length)), vI e]) (fun _ => False) [some ⟨5, [.bytes (tokL).length (tokL)]⟩, some ⟨5, [.bytes (tokL ++ nn l).length (tokL ++ nn l)]⟩, some ⟨5, [.bytes (tokL ++ nn l ++ nn i).length (tokL ++ nn l ++ nn i)]⟩] (Hn := [some ⟨5, [.bytes (tokL ++ nn l ++ nn i ++ nn e).length (tokL ++ nn l ++ nn i ++ nn e)]⟩]) ⟨WV.lf (WL.lent (ty := 5) rfl rfl ⟨fun h => h, fun i ob h => by simp at h⟩), freeF.wv trivial, trivial⟩ (WV.lf (WL.uown rfl rfl rfl)) ⟨rfl, ⟨.bytes rfl fun _ _ => rfl, trivial⟩, trivial⟩) ?_
  conv => whnf
  exact RetK.empty (WV.lf (WL.lentT (ty := 5) rfl rfl (gone_none fun h => h)))

/-- token.link -/
theorem c163 (tag : List UInt8) (c : CV) (ht : tag.length ≤ 1000000) : SCalls Proofs.Try.prog 163 [.s (.lf (.str tag)), vCc c] [] (.s (.lf (.str (tagF tag (putC [] c))))) [] := by
  have h1 := putC_nil_len c
  refine SCalls.intro tok Proofs.Try.func163 ?_
  conv => whnf
  refine CallK.mk' _ _ ((c58f (u := .sl0) (.inl ⟨rfl, rfl⟩) c (by simp)).free _ ⟨trivial, ⟨trivial, trivial, trivial, trivial⟩, trivial⟩ trivial) ?_
  conv => whnf
  refine CallK.mk' _ _ ((c204 tag (putC [] c) (by omega) (by omega)).free _ ⟨trivial, trivial, trivial⟩ trivial) ?_
  conv => whnf
  exact RetK.empty (okF.wv trivial)

/-- token.Chain -/
theorem c101 (tag : List UInt8) (cs : List CV) (ht : tag.length ≤ 900000) (hl : cs.length ≤ maxLen) : SCalls Proofs.Try.prog 101 [.s (.lf (.str tag)), vR cs] [] (.s (.lf (.str (chainF tag cs)))) [] := by
  have hm : maxLen = 9223372036854775807 := rfl
  refine SCalls.intro tok Proofs.Try.func101 ?_
  conv => whnf
  have hcl : ∀ i, (chainF tag (cs.take i)).length ≤ 900000 := fun i => chainF_len tag 900000 (by omega) ht _
  refine LoopK.mk1 (fun i : Nat => [(9, vI i), (8, vI cs.length), (7, vR cs), (4, .s (.lf (.str []))), (0, .s (.lf (.str (chainF tag (cs.take i)))))]) (fun i => []) (fun i => i ≤ cs.length) (fun i => cs.length - i) 0 (by omega) ?_ ?_
  · exact Weak.of ⟨⟩ (by simp) ⟨okF.wv trivial, okF.wv trivial, okF.wv rowC_ok, okF.wv trivial, okF.wv trivial, trivial⟩
  intro i hi
  conv => whnf
  by_cases hi' : i < cs.length
  · refine CaseB.of_true (decide_eq_true (by omega)) ?_
    conv => whnf
    refine And.intro (by omega) ?_
    conv => whnf
    obtain ⟨c, hc⟩ : ∃ c, cs.getD i cv0 = c := ⟨_, rfl⟩
    have hi0 : cs.getD (Int.toNat (i : Int)) cv0 = c := by rw [Int.toNat_natCast]; exact hc
    have hts := chainF_take tag cs i hi'
    have htl := hcl i
    have hpn := putC_nil_len c
    rw [hc] at hts
    rw [hi0]
    refine CallK.mk' _ _ ((c163 (chainF tag (cs.take i)) c (by omega)).free _ ⟨trivial, ⟨trivial, trivial, trivial, trivial⟩, trivial⟩ trivial) ?_
    conv => whnf
    refine ⟨i + 1, by omega, by omega, ?_⟩
    exact Weak.of HpW.nil (by simp) ⟨WV.lf (WL.int (by rw [wrap_i64 (by omega) (by omega)]; omega)), freeF.wv trivial, freeF.wv rowC_free, freeF.wv trivial, WV.lf (WL.str hts.symm), trivial⟩
  · refine CaseB.of_false (decide_eq_false (by omega)) ?_
    conv => whnf
    obtain rfl : i = cs.length := by omega
    exact RetK.empty (WV.lf (WL.str (by rw [List.take_length])))

/-- baileyref08.Chain -/
theorem c108 (tag : List UInt8) (cs : List CV) (ht : tag.length ≤ 900000) (hl : cs.length ≤ maxLen) : SCalls Proofs.Try.prog 108 [.s (.lf (.str tag)), vR cs] [] (.s (.lf (.str (chainF tag cs)))) [] := by
  have hm : maxLen = 9223372036854775807 := rfl
  refine SCalls.intro tok Proofs.Try.func108 ?_
  conv => whnf
  have hcl : ∀ i, (chainF tag (cs.take i)).length ≤ 900000 := fun i => chainF_len tag 900000 (by omega) ht _
  refine LoopK.mk1 (fun i : Nat => [(5, vI i), (4, .s (.lf (.str []))), (0, .s (.lf (.str (chainF tag (cs.take i))))), (1, vR cs)]) (fun i => []) (fun i => i ≤ cs.length) (fun i => cs.length - i) 0 (by omega) ?_ ?_
  · exact Weak.of ⟨⟩ (by simp) ⟨okF.wv trivial, okF.wv trivial, okF.wv trivial, okF.wv rowC_ok, trivial⟩
  intro i hi
  conv => whnf
  by_cases hi' : i < cs.length
  · refine CaseB.of_true (decide_eq_true (by omega)) ?_
    conv => whnf
    refine And.intro (by omega) ?_
    conv => whnf
    obtain ⟨c, hc⟩ : ∃ c, cs.getD i cv0 = c := ⟨_, rfl⟩
    have hi0 : cs.getD (Int.toNat (i : Int)) cv0 = c := by rw [Int.toNat_natCast]; exact hc
    have hts := chainF_take tag cs i hi'
    have htl := hcl i
    have hpn := putC_nil_len c
    rw [hc] at hts
    rw [hi0]
    refine CallK.mk' _ _ ((c59f [] c (by simp)).pure [] (cs := [.s (.lf .sl0), vCc c]) (rc := .s (.lf (.rob false false (putC [] c)))) ⟨WV.lf WL.sl0rob', freeF.wv ⟨trivial, trivial, trivial, trivial⟩, trivial⟩ (WV.lf (WL.rob rfl (by simp) (by simp)))) ?_
    conv => whnf
    refine CallK.mk' _ _ (c166 (chainF tag (cs.take i)) (putC [] c) (by omega) (by omega)) ?_
    conv => whnf
    refine ⟨i + 1, by omega, by omega, ?_⟩
    exact Weak.of HpW.nil (by simp) ⟨WV.lf (WL.int (by rw [wrap_i64 (by omega) (by omega)]; omega)), freeF.wv trivial, WV.lf (WL.str hts.symm), freeF.wv rowC_free, trivial⟩
  · refine CaseB.of_false (decide_eq_false (by omega)) ?_
    conv => whnf
    obtain rfl : i = cs.length := by omega
    exact RetK.empty (WV.lf (WL.str (by rw [List.take_length])))

/-- token.first -/
theorem c159 (key : List UInt8) (l i e : Int) (hk : key.length ≤ 1000000) (hl : l ≤ 9223372036854775807) (hi : i ≤ 9223372036854775807) (he : e ≤ 9223372036854775807) : SCalls Proofs.Try.prog 159 [.s (.lf (.str key)), vI l, vI i, vI e] [] (.s (.lf (.str (firstF key l i e)))) [] := by
  have hx : (textT l i e).length ≤ 32 := (textP_len l i e 3).2
  refine SCalls.intro tok Proofs.Try.func159 ?_
  conv => whnf
  refine CallK.mk' _ _ (c105 l i e hl hi he) ?_
  conv => whnf
  refine CallK.mk' _ _ ((c204 key (textT l i e) (by omega) (by omega)).pure [] (cs := [.s (.lf (.str key)), .s (.lf (.rob true false (textT l i e)))]) ⟨freeF.wv trivial, WV.lf toRob, trivial⟩ (freeF.wv trivial)) ?_
  conv => whnf
  exact RetK.empty (okF.wv trivial)
end Go.Sym.Md

set_option linter.unusedVariables false
set_option linter.unusedSimpArgs false
set_option maxRecDepth 10000
namespace Go.Sym.Md
open Go Go.Sym Go.Sym.Sh

def tk0 : TkS := ⟨0, 0, 0, [], []⟩
def mintF (key : List UInt8) (l i e : Int) : TkS := if headF l i e then ⟨l, i, e, [], firstF key l i e⟩ else tk0
theorem firstF_len (key : List UInt8) (l i e : Int) : (firstF key l i e).length = 32 := tagF_length _ _
theorem okT_head {t : TkS} (h : okT t = true) : headF t.l t.i t.e = true := by
  unfold okT at h
  simp only [Bool.and_eq_true] at h
  exact h.1
theorem firstF_eq (key : List UInt8) (l i e : Int) : tagF key (textT l i e) = firstF key l i e := rfl
attribute [local irreducible] numF checkF hasF okC boundF numR textR readC putC codeC parseC tagF nn headF firstF chainF

theorem headF_facts {l i e : Int} (h : headF l i e = true) : 0 ≤ l ∧ l ≤ 4 ∧ 1 ≤ i ∧ i ≤ 2147483648 ∧ 0 ≤ e ∧ e ≤ 2147483648 := by
  unfold headF at h
  simp only [Bool.and_eq_true, decide_eq_true_eq] at h
  omega

abbrev segsU (t : TkS) (u : LV) : List Seg := [.one (.int .i64 t.l), .one (.int .i64 t.i), .one (.int .i64 t.e), .one u, .one (.str t.tag)]
/-- token.Mint -/
theorem c97 (key : List UInt8) (l i e : Int) (hk : key.length ≤ 1000000) : SCalls Proofs.Try.prog 97 [.s (.lf (.str key)), vI l, vI i, vI e] [] (.tup [.agg (segsU (mintF key l i e) .sl0), .lf (.int .i64 (if headF l i e then 0 else 1))]) [] := by
  refine SCalls.intro tok Proofs.Try.func97 ?_
  conv => whnf
  refine CallK.mk' _ _ ((c158 l i e).free _ ⟨trivial, trivial, trivial, trivial⟩ trivial) ?_
  conv => whnf
  cases hh : headF l i e with
  | false =>
    refine CaseB.of_true rfl ?_
    conv => whnf
    rw [show mintF key l i e = tk0 by unfold mintF; rw [hh]; rfl]
    exact RetK.empty (WV.tup ⟨WV.agg ⟨.one (WL.int rfl), .one (WL.int rfl), .one (WL.int rfl), .one WL.sl0, .one (WL.str rfl), trivial⟩, WL.int rfl, trivial⟩)
  | true =>
    obtain ⟨h1, h2, h3, h4, h5, h6⟩ := headF_facts hh
    refine CaseB.of_false rfl ?_
    conv => whnf
    rw [show mintF key l i e = ⟨l, i, e, [], firstF key l i e⟩ by unfold mintF; rw [hh]; rfl]
    refine CallK.mk' _ _ ((c159 key l i e hk (by omega) (by omega) (by omega)).free _ ⟨trivial, trivial, trivial, trivial, trivial⟩ trivial) ?_
    conv => whnf
    exact RetK.empty (WV.tup ⟨WV.agg ⟨.one (WL.int rfl), .one (WL.int rfl), .one (WL.int rfl), .one WL.sl0, .one (WL.str rfl), trivial⟩, WL.int rfl, trivial⟩)

/-- baileyref08.Mint -/
theorem c103 (key : List UInt8) (l i e : Int) (hk : key.length ≤ 1000000) : SCalls Proofs.Try.prog 103 [.s (.lf (.str key)), vI l, vI i, vI e] [] (.tup [.agg (segsU (mintF key l i e) .sl0), .lf (.int .i64 (if headF l i e then 0 else 1))]) [] := by
  refine SCalls.intro tok Proofs.Try.func103 ?_
  conv => whnf
  refine CallK.mk' _ _ ((c165 l i e).free _ ⟨trivial, trivial, trivial, trivial⟩ trivial) ?_
  conv => whnf
  cases hh : headF l i e with
  | false =>
    refine CaseB.of_true rfl ?_
    conv => whnf
    rw [show mintF key l i e = tk0 by unfold mintF; rw [hh]; rfl]
    exact RetK.empty (WV.tup ⟨WV.agg ⟨.one (WL.int rfl), .one (WL.int rfl), .one (WL.int rfl), .one WL.sl0, .one (WL.str rfl), trivial⟩, WL.int rfl, trivial⟩)
  | true =>
    obtain ⟨h1, h2, h3, h4, h5, h6⟩ := headF_facts hh
    refine CaseB.of_false rfl ?_
    conv => whnf
    rw [show mintF key l i e = ⟨l, i, e, [], firstF key l i e⟩ by unfold mintF; rw [hh]; rfl]
    refine CallK.mk' _ _ ((c106 l i e (by omega) (by omega) (by omega)).pure _ (rc := .s (.lf (.rob true false (textT l i e)))) (freeFs.wvs ⟨trivial, trivial, trivial, trivial⟩) (WV.lf (WL.rob rfl (by simp) (by simp)))) ?_
    conv => whnf
    refine CallK.mk' _ _ ((c166 key (textT l i e) (by omega) (by have := (textP_len l i e 3).2; show (textP l i e 3).length ≤ _; omega)).pure _ (cs := [.s (.lf (.str key)), .s (.lf (.rob true false (textT l i e)))]) ⟨freeF.wv trivial, WV.lf toRob, trivial⟩ (freeF.wv trivial)) ?_
    conv => whnf
    exact RetK.empty (WV.tup ⟨WV.agg ⟨.one (WL.int rfl), .one (WL.int rfl), .one (WL.int rfl), .one WL.sl0, .one (WL.str (firstF_eq _ _ _ _)), trivial⟩, WL.int rfl, trivial⟩)

/-- token.Open -/
theorem c100 (key : List UInt8) (t : TkS) (hk : key.length ≤ 1000000) (hl : t.cs.length ≤ maxLen) (hg : t.tag.length ≤ maxLen) : SCalls Proofs.Try.prog 100 [.s (.lf (.str key)), vT t] [] (.s (.lf (.bool (openF key t)))) [] := by
  refine SCalls.intro tok Proofs.Try.func100 ?_
  conv => whnf
  refine CallK.mk' _ _ ((c160 t hl).free _ ⟨vT_free t, trivial⟩ trivial) ?_
  conv => whnf
  cases ho : okT t with
  | false =>
    refine CaseB.of_true (by unfold checkT; rw [ho]; rfl) ?_
    conv => whnf
    exact RetK.empty (WV.lf (WL.ff (by unfold openF; rw [ho]; rfl)))
  | true =>
    refine CaseB.of_false (by unfold checkT; rw [ho]; rfl) ?_
    conv => whnf
    obtain ⟨h1, h2, h3, h4, h5, h6⟩ := headF_facts (okT_head ho)
    have k159 := (c159 key t.l t.i t.e hk (by omega) (by omega) (by omega)).free [some (obT t)] ⟨trivial, trivial, trivial, trivial, trivial⟩ trivial
    have k101 := (c101 (firstF key t.l t.i t.e) t.cs (by rw [firstF_len]; omega) hl).free [some (obT t)] ⟨trivial, rowC_free, trivial⟩ trivial
    refine DrawK.mk1 tok mixed [0, 0, 2, 0, 8, 0, 32, 127, 0, 256, 1023, 2047] [(0, 0, []), (1, 1, [0]), (2, 1, [0]), (3, 1, [0]), (4, 1, [0]), (5, 1, [0]), (6, 1, [0]), (7, 1, [0]), (8, 1, [0]), (9, 1, [0]), (10, 1, [0]), (11, 0, [])] (by kernel_rfl) ?_
    conv => whnf
    repeat ((first | refine CallR.mk' _ k159 ?_ | refine CallR.mk' _ k101 ?_ | refine And.intro rfl ?_); conv => whnf)
    have hcl := chainF_len (firstF key t.l t.i t.e) 32 (by omega) (by rw [firstF_len]; omega) t.cs
    refine CallK.mk' _ _ ((c164 (chainF (firstF key t.l t.i t.e) t.cs) t.tag (by have : maxLen = 9223372036854775807 := rfl; omega) hg).free _ ⟨trivial, trivial, trivial⟩ trivial) ?_
    conv => whnf
    exact RetK.empty (WV.lf (WL.bool (by unfold openF; rw [ho]; rfl)))

/-- baileyref08.Open -/
theorem c107 (key : List UInt8) (t : TkS) (hk : key.length ≤ 1000000) (hl : t.cs.length ≤ maxLen) : SCalls Proofs.Try.prog 107 [.s (.lf (.str key)), vT t] [] (.s (.lf (.bool (openF key t)))) [] := by
  refine SCalls.intro tok Proofs.Try.func107 ?_
  conv => whnf
  refine DrawK.mk1 tok mixed [0, 1, 3, 7, 15, 31, 15, 15, 143, 15, 527, 15, 2063, 8079, 16335, 15, 32783, 131023, 262143, 524287, 1048575] [(0, 1, [0]), (1, 1, [0]), (2, 0, []), (3, 0, []), (6, 0, []), (4, 1, [0]), (5, 1, [0]), (7, 1, [0]), (8, 1, [0]), (9, 1, [0]), (10, 1, [0]), (11, 1, [0]), (12, 1, [0]), (13, 1, [0]), (14, 1, [0]), (15, 1, [0]), (16, 1, [0]), (17, 1, [0]), (18, 0, []), (19, 0, []), (20, 0, [])] (by kernel_rfl) ?_
  conv => whnf
  refine CallR.mk' _ ((c167 t hl).free _ ⟨vT_free t, trivial⟩ trivial) ?_
  conv => whnf
  cases ho : okT t with
  | false =>
    repeat (refine CaseB.of_false (decide_eq_false (by unfold checkT; rw [ho]; decide)) ?_; conv => whnf)
    exact RetK.empty (WV.lf (WL.ff (by unfold openF; rw [ho]; rfl)))
  | true =>
    have hc0 : checkT t = 0 := by unfold checkT; rw [ho]; rfl
    obtain ⟨h1, h2, h3, h4, h5, h6⟩ := headF_facts (okT_head ho)
    have k106 := (c106 t.l t.i t.e (by omega) (by omega) (by omega)).pure [some (obT t)] (rc := .s (.lf (.rob true false (textT t.l t.i t.e)))) (freeFs.wvs ⟨trivial, trivial, trivial, trivial⟩) (WV.lf (WL.rob rfl (by simp) (by simp)))
    have k166 := (c166 key (textT t.l t.i t.e) (by omega) (by have := (textP_len t.l t.i t.e 3).2; show (textP t.l t.i t.e 3).length ≤ _; omega)).pure [some (obT t)] (cs := [.s (.lf (.str key)), .s (.lf (.rob true false (textT t.l t.i t.e)))]) ⟨freeF.wv trivial, WV.lf toRob, trivial⟩ (freeF.wv trivial)
    have k108 := (c108 (tagF key (textT t.l t.i t.e)) t.cs (by rw [tagF_length]; omega) hl).free [some (obT t)] ⟨trivial, rowC_free, trivial⟩ trivial
    repeat ((first | refine CaseB.of_true (decide_eq_true hc0) ?_ | refine CallR.mk' _ k106 ?_ | refine CallR.mk' _ k166 ?_ | refine CallR.mk' _ k108 ?_ | refine And.intro rfl ?_); conv => whnf)
    exact RetK.empty (WV.lf (WL.bool (by
      unfold openF; rw [ho, firstF_eq, Bool.true_and]
      exact decide_eq_decide.2 ⟨Eq.symm, Eq.symm⟩)))

/-- baileyref08.Same -/
def sameT (a b : TkS) : Bool := decide (a.l = b.l) && (decide (a.i = b.i) && (decide (a.e = b.e) && (decide (a.cs = b.cs) && decide (a.tag = b.tag))))
theorem c104 (a b : TkS) (hl : a.cs.length ≤ maxLen) : SCalls Proofs.Try.prog 104 [vT a, vT b] [] (.s (.lf (.bool (sameT a b)))) [] := by
  refine SCalls.intro tok Proofs.Try.func104 ?_
  conv => whnf
  have k32 := (c32 a.cs b.cs hl).free [some (obT a), some (obT b)] ⟨rowC_free, rowC_free, trivial⟩ trivial
  by_cases h1 : a.l = b.l
  · by_cases h2 : a.i = b.i
    · by_cases h3 : a.e = b.e
      · by_cases h0 : a.cs = b.cs
        · repeat ((first | refine CaseB.of_true (decide_eq_true h1) ?_ | refine CaseB.of_true (decide_eq_true h2) ?_ | refine CaseB.of_true (decide_eq_true h3) ?_ | refine CaseB.of_true (decide_eq_true h0) ?_ | refine CallK.mk' _ _ k32 ?_); conv => whnf)
          exact RetK.empty (WV.lf (WL.bool (by unfold sameT; rw [decide_eq_true h0, decide_eq_true h1, decide_eq_true h2, decide_eq_true h3]; rfl)))
        · repeat ((first | refine CaseB.of_true (decide_eq_true h1) ?_ | refine CaseB.of_true (decide_eq_true h2) ?_ | refine CaseB.of_true (decide_eq_true h3) ?_ | refine CaseB.of_false (decide_eq_false h0) ?_ | refine CallK.mk' _ _ k32 ?_); conv => whnf)
          exact RetK.empty (WV.lf (WL.ff (by unfold sameT; rw [decide_eq_false h0]; simp)))
      · repeat ((first | refine CaseB.of_true (decide_eq_true h1) ?_ | refine CaseB.of_true (decide_eq_true h2) ?_ | refine CaseB.of_false (decide_eq_false h3) ?_); conv => whnf)
        exact RetK.empty (WV.lf (WL.ff (by unfold sameT; rw [decide_eq_false h3]; simp)))
    · repeat ((first | refine CaseB.of_true (decide_eq_true h1) ?_ | refine CaseB.of_false (decide_eq_false h2) ?_); conv => whnf)
      exact RetK.empty (WV.lf (WL.ff (by unfold sameT; rw [decide_eq_false h2]; simp)))
  · repeat ((first | refine CaseB.of_false (decide_eq_false h1) ?_); conv => whnf)
    exact RetK.empty (WV.lf (WL.ff (by unfold sameT; rw [decide_eq_false h1]; simp)))

/-- token.Same -/
theorem c109 (a b : TkS) (hl : a.cs.length ≤ maxLen) : SCalls Proofs.Try.prog 109 [vT a, vT b] [] (.s (.lf (.bool (sameT a b)))) [] := by
  refine SCalls.intro tok Proofs.Try.func109 ?_
  conv => whnf
  refine CallK.mk' _ _ ((c31 a.cs b.cs hl).free _ ⟨rowC_free, rowC_free, trivial⟩ trivial) ?_
  conv => whnf
  by_cases h0 : a.cs = b.cs
  · refine CaseB.of_false (by simp [h0]) ?_
    conv => whnf
    by_cases h1 : a.l = b.l
    · by_cases h2 : a.i = b.i
      · by_cases h3 : a.e = b.e
        · repeat ((first | refine CaseB.of_true (decide_eq_true h1) ?_ | refine CaseB.of_true (decide_eq_true h2) ?_ | refine CaseB.of_true (decide_eq_true h3) ?_); conv => whnf)
          exact RetK.empty (WV.lf (WL.bool (by unfold sameT; rw [decide_eq_true h0, decide_eq_true h1, decide_eq_true h2, decide_eq_true h3]; rfl)))
        · repeat ((first | refine CaseB.of_true (decide_eq_true h1) ?_ | refine CaseB.of_true (decide_eq_true h2) ?_ | refine CaseB.of_false (decide_eq_false h3) ?_); conv => whnf)
          exact RetK.empty (WV.lf (WL.ff (by unfold sameT; rw [decide_eq_false h3]; simp)))
      · repeat ((first | refine CaseB.of_true (decide_eq_true h1) ?_ | refine CaseB.of_false (decide_eq_false h2) ?_); conv => whnf)
        exact RetK.empty (WV.lf (WL.ff (by unfold sameT; rw [decide_eq_false h2]; simp)))
    · repeat ((first | refine CaseB.of_false (decide_eq_false h1) ?_); conv => whnf)
      exact RetK.empty (WV.lf (WL.ff (by unfold sameT; rw [decide_eq_false h1]; simp)))
  · refine CaseB.of_true (by simp [h0]) ?_
    conv => whnf
    exact RetK.empty (WV.lf (WL.ff (by unfold sameT; rw [decide_eq_false h0]; simp)))
end Go.Sym.Md

set_option linter.unusedVariables false
set_option linter.unusedSimpArgs false
set_option maxRecDepth 10000
namespace Go.Sym.Md
open Go Go.Sym Go.Sym.Sh

def weakT (t : TkS) (c : CV) : TkS := ⟨t.l, t.i, t.e, t.cs ++ [c], tagF t.tag (putC [] c)⟩
attribute [local irreducible] numF checkF hasF okC boundF numR textR readC putC codeC parseC tagF nn headF firstF chainF

abbrev vTu (t : TkS) (u : LV) : FV := .s (.agg (segsU t u))
/-- A row of caveats, told apart from nil. -/
abbrev rowT (cs : List CV) : LV := .ro true false 3 cs.length (rowC cs)
theorem rowT_wl {D : Rel} [ROk D] {cs : List CV} : WL D (rowT cs) (rowT cs) := WL.ro rfl (by simp) (by simp) fun i hi j hj => rowC_wl hj
theorem rowT_vR {D : Rel} [ROk D] {cs : List CV} : WL D (rowT cs) (vRl cs) := WL.ro rfl (by simp) (by simp) fun i hi j hj => rowC_wl hj
theorem rowT_free {cs : List CV} : freeL (rowT cs) := rowC_free (cs := cs)
theorem rowT_ok {cs : List CV} {H : Hp} : okL H (rowT cs) := rowC_ok (cs := cs)

theorem WL.lentCT {H H' : Hp} {μ : Nat → Nat} {hid : Nat → Prop} {nm len n : Nat} {f : Nat → Nat → LV} {ty : TypeId} {cs : List CV} (hob : hget H nm = some ⟨ty, [.recs 3 n f]⟩) (hn : len = n) (hl : len = cs.length)
    (hf : ∀ i j, i < len → j < 3 → f i j = rowC cs i j) (hg : gone H' μ hid nm) : WL (Down H H' μ hid) (.own nm 0 3 0 len) (rowT cs) := by
  subst hn
  intro w L L' x h hx
  show rep _ _ (.ro true false 3 cs.length (rowC cs)) _
  rw [← hl]
  refine WL.freezeR (ob := ⟨ty, [.recs 3 len f]⟩) (p := []) (q := []) hob rfl rfl (fun i hi j hj => ⟨?_, ?_⟩) hg w L L' x h hx
  · show 0 * 3 + (i * 3 + j) < len * 3
    omega
  · show WL _ (f ((0 * 3 + (i * 3 + j)) / 3) ((0 * 3 + (i * 3 + j)) % 3)) _
    rw [show (0 * 3 + (i * 3 + j)) / 3 = i by omega, show (0 * 3 + (i * 3 + j)) % 3 = j by omega, hf i j hi hj]
    exact rowC_wl hj

/-- slices.Clone, its row handed on -/
theorem c39f (cs : List CV) (hl : cs.length ≤ 1000000) : SCalls Proofs.Try.prog 39 [.s (.lf (rowT cs))] [] (.s (.lf (rowT cs))) [] :=
  (c39 cs hl).after (RetK.empty (WV.lf (WL.freezeR (ob := ⟨23, [.recs 3 cs.length (rowC cs)]⟩) (p := []) (q := []) rfl rfl rfl (fun i hi j hj => ⟨by show 0 * 3 + (i * 3 + j) < cs.length * 3; omega, by
    show WL _ (rowC cs ((0 * 3 + (i * 3 + j)) / 3) ((0 * 3 + (i * 3 + j)) % 3)) _
    rw [show (0 * 3 + (i * 3 + j)) / 3 = i by omega, show (0 * 3 + (i * 3 + j)) % 3 = j by omega]
    exact rowC_wl hj⟩) (gone_none fun h => h))))

/-- slices.Clip -/
theorem c162n : SCalls Proofs.Try.prog 162 [.s (.lf .sl0)] [] (.s (.lf .sl0)) [] := by
  refine SCalls.intro tok Proofs.Try.func162 ?_
  conv => whnf
  refine And.intro (by omega) ?_
  conv => whnf
  exact RetK.empty (okF.wv trivial)
theorem c162 (cs : List CV) : SCalls Proofs.Try.prog 162 [.s (.lf (rowT cs))] [] (.s (.lf (.ro true true 3 cs.length (rowC cs)))) [] := by
  refine SCalls.intro tok Proofs.Try.func162 ?_
  conv => whnf
  refine And.intro (by omega) ?_
  conv => whnf
  exact RetK.empty (WV.lf (WL.ro (by simp) (by simp) (fun _ => decide_eq_true rfl) fun i hi j hj => by rw [show Int.toNat 0 + i = i from Nat.zero_add i]; exact rowC_wl hj))

/-- token.Weaker, of what may not be, or is full -/
theorem c99bn (t : TkS) (c : CV) (hl : t.cs.length ≤ maxLen) (h : (okT t && okW c) = false) (hcs : t.cs = []) : SCalls Proofs.Try.prog 99 [vTu t (.sl0), vCc c] [] (.tup [.agg (segsU tk0 .sl0), .lf (.int .i64 1)]) [] := by
  have k160 := (c160 t hl).pure [some ⟨52, segsU t (.sl0)⟩, some (obC c), some ⟨52, segsU tk0 .sl0⟩] (cs := [vTu t (.sl0)]) ⟨WV.agg ⟨.one (WL.int rfl), .one (WL.int rfl), .one (WL.int rfl), .one (by rw [hcs]; exact WL.sl0ro), .one (WL.str rfl), trivial⟩, trivial⟩ (freeF.wv trivial)
  have k161 := (c161 c).free [some ⟨52, segsU t (.sl0)⟩, some (obC c), some ⟨52, segsU tk0 .sl0⟩] ⟨⟨trivial, trivial, trivial, trivial⟩, trivial⟩ trivial
  refine SCalls.intro tok Proofs.Try.func99 ?_
  conv => whnf
  refine CallK.mk' _ _ k160 ?_
  conv => whnf
  cases ho : okT t with
  | false =>
    repeat (refine CaseB.of_true (decide_eq_true (by unfold checkT; rw [ho]; decide)) ?_; conv => whnf)
    exact RetK.empty (WV.tup ⟨WV.agg ⟨.one (WL.int rfl), .one (WL.int rfl), .one (WL.int rfl), .one WL.sl0, .one (WL.str rfl), trivial⟩, WL.int rfl, trivial⟩)
  | true =>
    rw [ho, Bool.true_and] at h
    rw [h] at k161
    have hc0 : ¬ checkT t ≠ 0 := fun h => h (by unfold checkT; rw [ho]; rfl)
    repeat ((first | refine CaseB.of_false (decide_eq_false hc0) ?_ | refine CallK.mk' _ _ k161 ?_ | refine CaseB.of_true rfl ?_); conv => whnf)
    exact RetK.empty (WV.tup ⟨WV.agg ⟨.one (WL.int rfl), .one (WL.int rfl), .one (WL.int rfl), .one WL.sl0, .one (WL.str rfl), trivial⟩, WL.int rfl, trivial⟩)

/-- token.Weaker, of what may not be, or is full -/
theorem c99bt (t : TkS) (c : CV) (hl : t.cs.length ≤ maxLen) (h : (okT t && okW c) = false) : SCalls Proofs.Try.prog 99 [vTu t (rowT t.cs), vCc c] [] (.tup [.agg (segsU tk0 .sl0), .lf (.int .i64 1)]) [] := by
  have k160 := (c160 t hl).pure [some ⟨52, segsU t (rowT t.cs)⟩, some (obC c), some ⟨52, segsU tk0 .sl0⟩] (cs := [vTu t (rowT t.cs)]) ⟨WV.agg ⟨.one (WL.int rfl), .one (WL.int rfl), .one (WL.int rfl), .one rowT_vR, .one (WL.str rfl), trivial⟩, trivial⟩ (freeF.wv trivial)
  have k161 := (c161 c).free [some ⟨52, segsU t (rowT t.cs)⟩, some (obC c), some ⟨52, segsU tk0 .sl0⟩] ⟨⟨trivial, trivial, trivial, trivial⟩, trivial⟩ trivial
  refine SCalls.intro tok Proofs.Try.func99 ?_
  conv => whnf
  refine CallK.mk' _ _ k160 ?_
  conv => whnf
  cases ho : okT t with
  | false =>
    repeat (refine CaseB.of_true (decide_eq_true (by unfold checkT; rw [ho]; decide)) ?_; conv => whnf)
    exact RetK.empty (WV.tup ⟨WV.agg ⟨.one (WL.int rfl), .one (WL.int rfl), .one (WL.int rfl), .one WL.sl0, .one (WL.str rfl), trivial⟩, WL.int rfl, trivial⟩)
  | true =>
    rw [ho, Bool.true_and] at h
    rw [h] at k161
    have hc0 : ¬ checkT t ≠ 0 := fun h => h (by unfold checkT; rw [ho]; rfl)
    repeat ((first | refine CaseB.of_false (decide_eq_false hc0) ?_ | refine CallK.mk' _ _ k161 ?_ | refine CaseB.of_true rfl ?_); conv => whnf)
    exact RetK.empty (WV.tup ⟨WV.agg ⟨.one (WL.int rfl), .one (WL.int rfl), .one (WL.int rfl), .one WL.sl0, .one (WL.str rfl), trivial⟩, WL.int rfl, trivial⟩)

/-- token.Weaker, of what may be -/
theorem c99n (t : TkS) (c : CV) (h : okT t = true) (hw : okW c = true) (h8 : t.cs.length < 8) (hcs : t.cs = []) : SCalls Proofs.Try.prog 99 [vTu t (.sl0), vCc c] [] (.tup [.agg (segsU (weakT t c) (rowT (t.cs ++ [c]))), .lf (.int .i64 0)]) [] := by
  have hm : maxLen = 9223372036854775807 := rfl
  have hg : t.tag.length = 32 := by
    unfold okT at h
    simp only [Bool.and_eq_true, decide_eq_true_eq] at h
    exact h.2.2.2
  have k160 := (c160 t (by omega)).pure [some ⟨52, segsU t (.sl0)⟩, some (obC c), some ⟨52, segsU tk0 .sl0⟩] (cs := [vTu t (.sl0)]) ⟨WV.agg ⟨.one (WL.int rfl), .one (WL.int rfl), .one (WL.int rfl), .one (by rw [hcs]; exact WL.sl0ro), .one (WL.str rfl), trivial⟩, trivial⟩ (freeF.wv trivial)
  have k161 := (c161 c).free [some ⟨52, segsU t (.sl0)⟩, some (obC c), some ⟨52, segsU tk0 .sl0⟩] ⟨⟨trivial, trivial, trivial, trivial⟩, trivial⟩ trivial
  rw [hw] at k161
  have hc0 : ¬ checkT t ≠ 0 := fun h' => h' (by unfold checkT; rw [h]; rfl)
  refine SCalls.intro tok Proofs.Try.func99 ?_
  conv => whnf
  refine CallK.mk' _ _ k160 ?_
  conv => whnf
  repeat ((first | refine CaseB.of_false (decide_eq_false hc0) ?_ | refine CallK.mk' _ _ k161 ?_ | refine CaseB.of_false rfl ?_); conv => whnf)
  have hz8 : ¬ ((0 : Int) = 8) := by decide
  have k39 := c39n.free [some ⟨52, segsU t .sl0⟩, some (obC c), some ⟨52, segsU tk0 .sl0⟩] ⟨trivial, trivial⟩ trivial
  have k162 := c162n.free [some ⟨52, segsU t .sl0⟩, some (obC c), some ⟨52, segsU tk0 .sl0⟩] ⟨trivial, trivial⟩ trivial
  refine DrawK.mk1 tok mixed [0, 1, 3, 7, 0, 16, 63, 127, 255] [(4, 1, [0]), (5, 2, []), (0, 1, [0, 1]), (1, 1, [0, 1]), (2, 1, [0, 1]), (3, 1, [0, 1]), (6, 2, []), (7, 1, [0]), (8, 2, [])] (by kernel_rfl) ?_
  conv => whnf
  refine Or.inr ?_
  conv => whnf
  repeat (refine And.intro rfl ?_; conv => whnf)
  repeat ((first | refine CallR.mk' _ k39 ?_ | refine CallR.mk' _ k162 ?_ | refine And.intro rfl ?_); conv => whnf)
  refine And.intro (by show (0 + 1) * 32 ≤ _; omega) ?_
  conv => whnf
  repeat (refine And.intro rfl ?_; conv => whnf)
  refine CallK.mk' _ _ ((c163 t.tag c (by omega)).free _ ⟨trivial, ⟨trivial, trivial, trivial, trivial⟩, trivial⟩ trivial) ?_
  conv => whnf
  refine RetK.empty (WV.tup ⟨WV.agg ⟨.one (WL.int rfl), .one (WL.int rfl), .one (WL.int rfl), .one (WL.lentCT (ty := 23) rfl rfl (by rw [hcs]; rfl) (fun i j hi hj => ?_) (gone_none fun h => h)), .one (WL.str rfl), trivial⟩, WL.int rfl, trivial⟩)
  rw [hcs]
  have hi : i < 1 := hi
  obtain rfl : i = 0 := by omega
  have : j = 0 ∨ j = 1 ∨ j = 2 := by omega
  rcases this with rfl | rfl | rfl <;> rfl

/-- token.Weaker, of what may be -/
theorem c99t (t : TkS) (c : CV) (h : okT t = true) (hw : okW c = true) (h8 : t.cs.length < 8) : SCalls Proofs.Try.prog 99 [vTu t (rowT t.cs), vCc c] [] (.tup [.agg (segsU (weakT t c) (rowT (t.cs ++ [c]))), .lf (.int .i64 0)]) [] := by
  have hm : maxLen = 9223372036854775807 := rfl
  have hg : t.tag.length = 32 := by
    unfold okT at h
    simp only [Bool.and_eq_true, decide_eq_true_eq] at h
    exact h.2.2.2
  have k160 := (c160 t (by omega)).pure [some ⟨52, segsU t (rowT t.cs)⟩, some (obC c), some ⟨52, segsU tk0 .sl0⟩] (cs := [vTu t (rowT t.cs)]) ⟨WV.agg ⟨.one (WL.int rfl), .one (WL.int rfl), .one (WL.int rfl), .one rowT_vR, .one (WL.str rfl), trivial⟩, trivial⟩ (freeF.wv trivial)
  have k161 := (c161 c).free [some ⟨52, segsU t (rowT t.cs)⟩, some (obC c), some ⟨52, segsU tk0 .sl0⟩] ⟨⟨trivial, trivial, trivial, trivial⟩, trivial⟩ trivial
  rw [hw] at k161
  have hc0 : ¬ checkT t ≠ 0 := fun h' => h' (by unfold checkT; rw [h]; rfl)
  refine SCalls.intro tok Proofs.Try.func99 ?_
  conv => whnf
  refine CallK.mk' _ _ k160 ?_
  conv => whnf
  repeat ((first | refine CaseB.of_false (decide_eq_false hc0) ?_ | refine CallK.mk' _ _ k161 ?_ | refine CaseB.of_false rfl ?_); conv => whnf)
  have hz8 : ¬ ((t.cs.length : Int) = 8) := by omega
  refine CaseB.of_false (decide_eq_false hz8) ?_
  conv => whnf
  have k39 := (c39f t.cs (by omega)).free [some ⟨52, segsU t (rowT t.cs)⟩, some (obC c), some ⟨52, segsU tk0 .sl0⟩] ⟨rowT_free, trivial⟩ rowT_free
  have k162 := (c162 t.cs).free [some ⟨52, segsU t (rowT t.cs)⟩, some (obC c), some ⟨52, segsU tk0 .sl0⟩] ⟨rowT_free, trivial⟩ (rowC_free (cs := t.cs))
  refine DrawK.mk1 tok mixed [0, 1, 3, 7, 0, 16, 63, 127, 255] [(4, 1, [0]), (5, 2, []), (0, 1, [0, 1]), (1, 1, [0, 1]), (2, 1, [0, 1]), (3, 1, [0, 1]), (6, 2, []), (7, 1, [0]), (8, 2, [])] (by kernel_rfl) ?_
  conv => whnf
  refine Or.inr ?_
  conv => whnf
  repeat (refine And.intro rfl ?_; conv => whnf)
  repeat ((first | refine CallR.mk' _ k39 ?_ | refine CallR.mk' _ k162 ?_ | refine And.intro rfl ?_); conv => whnf)
  refine And.intro ⟨rfl, by show (t.cs.length + (0 + 1)) * 32 ≤ _; omega⟩ ?_
  conv => whnf
  repeat (refine And.intro rfl ?_; conv => whnf)
  refine CallK.mk' _ _ ((c163 t.tag c (by omega)).free _ ⟨trivial, ⟨trivial, trivial, trivial, trivial⟩, trivial⟩ trivial) ?_
  conv => whnf
  refine RetK.empty (WV.tup ⟨WV.agg ⟨.one (WL.int rfl), .one (WL.int rfl), .one (WL.int rfl), .one (WL.lentCT (ty := 23) rfl rfl (by simp) (fun i j hi hj => ?_) (gone_none fun h => h)), .one (WL.str rfl), trivial⟩, WL.int rfl, trivial⟩)
  have := rowC_snoc t.cs c i j hi hj
  rw [show (fun i j => rowC t.cs (0 + i) j) = rowC t.cs from by funext i j; rw [Nat.zero_add]] at this
  exact this
end Go.Sym.Md

set_option linter.unusedVariables false
set_option linter.unusedSimpArgs false
set_option maxRecDepth 10000
namespace Go.Sym.Md
open Go Go.Sym

/-! ### Lists of pieces -/
abbrev rowQ (ps : List PcV) : LV := .ro true false 2 ps.length (rowP ps)
theorem rowQ_wl {D : Rel} [ROk D] {ps : List PcV} : WL D (rowQ ps) (rowQ ps) := WL.ro rfl (by simp) (by simp) fun i hi j hj => rowP_wl hj
theorem rowQ_vQ {D : Rel} [ROk D] {ps : List PcV} : WL D (rowQ ps) (vQl ps) := WL.ro rfl (by simp) (by simp) fun i hi j hj => rowP_wl hj
theorem rowQ_free {ps : List PcV} : freeL (rowQ ps) := rowP_free (ps := ps)
theorem rowQ_ok {ps : List PcV} {H : Hp} : okL H (rowQ ps) := rowP_ok (ps := ps)

/-- slices.Clone, of no pieces. -/
theorem c52n : SCalls Proofs.Try.prog 52 [.s (.lf .sl0)] [] (.s (.lf .sl0)) [] := by
  refine SCalls.intro tok Proofs.Try.func52 ?_
  conv => whnf
  exact RetK.empty (okF.wv trivial)
/-- slices.Clone, of pieces. -/
theorem c52 (ps : List PcV) (hl : ps.length ≤ 1000000) : SCalls Proofs.Try.prog 52 [.s (.lf (rowQ ps))] [] (.s (.lf (.own 0 0 2 0 ps.length))) [some ⟨58, [.recs 2 ps.length (rowP ps)]⟩] := by
  refine SCalls.intro tok Proofs.Try.func52 ?_
  conv => whnf
  refine Or.inl ?_
  conv => whnf
  refine And.intro (by omega) ?_
  conv => whnf
  refine And.intro ⟨rfl, by show (0 + ps.length) * 24 ≤ _; omega⟩ ?_
  conv => whnf
  refine RetK.perm [1] ⟨⟨rfl, .recs (Nat.zero_add _) fun i hi j hj => ?_, trivial⟩, trivial⟩ (WV.lf (WL.own rfl rfl rfl (Nat.zero_add _))) rfl (by simp) rfl (by simp)
  exact rowP_wl hj
theorem freezeP {H H' : Hp} {μ : Nat → Nat} {hid : Nat → Prop} {nm len n : Nat} {f : Nat → Nat → LV} {ty : TypeId} {ps : List PcV} (hob : hget H nm = some ⟨ty, [.recs 2 n f]⟩) (hn : len = n) (hl : len = ps.length)
    (hf : ∀ i j, i < len → j < 2 → f i j = rowP ps i j) (hg : gone H' μ hid nm) : WL (Down H H' μ hid) (.own nm 0 2 0 len) (rowQ ps) := by
  subst hn
  intro w L L' x h hx
  show rep _ _ (.ro true false 2 ps.length (rowP ps)) _
  rw [← hl]
  refine WL.freezeR (ob := ⟨ty, [.recs 2 len f]⟩) (p := []) (q := []) hob rfl rfl (fun i hi j hj => ⟨?_, ?_⟩) hg w L L' x h hx
  · show 0 * 2 + (i * 2 + j) < len * 2
    omega
  · show WL _ (f ((0 * 2 + (i * 2 + j)) / 2) ((0 * 2 + (i * 2 + j)) % 2)) _
    rw [show (0 * 2 + (i * 2 + j)) / 2 = i by omega, show (0 * 2 + (i * 2 + j)) % 2 = j by omega, hf i j hi hj]
    have : j = 0 ∨ j = 1 := by omega
    rcases this with rfl | rfl
    · exact plainL.wl trivial
    · exact plainL.wl trivial
/-- The same, its row handed on. -/
theorem c52f (ps : List PcV) (hl : ps.length ≤ 1000000) : SCalls Proofs.Try.prog 52 [.s (.lf (rowQ ps))] [] (.s (.lf (rowQ ps))) [] :=
  (c52 ps hl).after (RetK.empty (WV.lf (freezeP (ty := 58) rfl rfl rfl (fun _ _ _ _ => rfl) (gone_none fun h => h))))

theorem pc_eq (a b : PcV) : a = b ↔ a.s = b.s ∧ a.z = b.z := by
  cases a; cases b; simp
theorem pc_neq_f {x y : PcV} (h : x = y) : (!(decide (x.s = y.s) && (decide (x.z = y.z) && true))) = false := by subst h; simp
theorem pc_neq_t {x y : PcV} (h : ¬ x = y) : (!(decide (x.s = y.s) && (decide (x.z = y.z) && true))) = true := by
  rw [pc_eq] at h
  simp only [Bool.and_true]
  by_cases h1 : x.s = y.s <;> by_cases h2 : x.z = y.z <;> simp_all

/-- baileyref20.SamePieces -/
theorem c56 (a b : List PcV) (ha : a.length ≤ maxLen) : SCalls Proofs.Try.prog 56 [vQ a, vQ b] [] (.s (.lf (.bool (decide (a = b))))) [] := by
  have hm : maxLen = 9223372036854775807 := rfl
  refine SCalls.intro tok Proofs.Try.func56 ?_
  conv => whnf
  by_cases hl : a.length = b.length
  · refine CaseB.of_false (by simp [hl]) ?_
    conv => whnf
    refine LoopK.mk1 (fun i : Nat => [(0, vQ a), (1, vQ b), (5, vI i)]) (fun i => []) (fun i => i ≤ a.length ∧ a.take i = b.take i) (fun i => a.length - i) 0 ⟨by omega, rfl⟩ ?_ ?_
    · exact Weak.of ⟨⟩ (by simp) ⟨okF.wv rowP_ok, okF.wv rowP_ok, okF.wv trivial, trivial⟩
    intro i hi
    obtain ⟨hi, ht⟩ := hi
    conv => whnf
    by_cases hi' : i < a.length
    · refine CaseB.of_true (decide_eq_true (by omega)) ?_
      conv => whnf
      refine DrawK.mk1 tok mixed [0, 0, 3, 7, 0, 0, 48, 112, 255] [(0, 0, []), (1, 0, []), (4, 0, []), (5, 0, []), (2, 1, [0]), (3, 1, [0]), (6, 1, [0]), (7, 1, [0]), (8, 1, [0])] (by kernel_rfl) ?_
      conv => whnf
      repeat (refine And.intro (by omega) ?_; conv => whnf)
      have hx0 : a[i]? = some (a.getD i pc0) := by rw [List.getD_eq_getElem?_getD, List.getElem?_eq_getElem hi']; rfl
      have hy0 : b[i]? = some (b.getD i pc0) := by rw [List.getD_eq_getElem?_getD, List.getElem?_eq_getElem (by omega)]; rfl
      by_cases he : a.getD i pc0 = b.getD i pc0
      · refine CaseB.of_false (pc_neq_f (by rw [Int.toNat_natCast]; exact he)) ?_
        conv => whnf
        refine ⟨i + 1, ⟨by omega, ?_⟩, by show a.length - (i + 1) < a.length - i; omega, Weak.of ⟨⟩ (by simp) ⟨okF.wv rowP_ok, okF.wv rowP_ok, WV.lf (WL.int (by rw [wrap_i64 (by omega) (by omega)]; omega)), trivial⟩⟩
        rw [List.take_add_one, List.take_add_one, ht, hx0, hy0, he]
      · refine CaseB.of_true (pc_neq_t (by rw [Int.toNat_natCast]; exact he)) ?_
        conv => whnf
        refine RetK.empty (WV.lf (WL.ff (decide_eq_false fun e => he (by rw [e]))))
    · refine CaseB.of_false (decide_eq_false (by omega)) ?_
      conv => whnf
      refine RetK.empty (WV.lf (WL.tt (decide_eq_true ?_)))
      rw [List.take_of_length_le (by omega), List.take_of_length_le (by omega)] at ht
      exact ht
  · refine CaseB.of_true (by simp; omega) ?_
    conv => whnf
    exact RetK.empty (WV.lf (WL.ff (decide_eq_false fun e => hl (by rw [e]))))

/-! ### Whether two commands are the same -/
instance : DecidableEq CmS := fun a b => by
  cases a; cases b
  simp only [CmS.mk.injEq]
  exact inferInstance
theorem cm_eq (a b : CmS) : a = b ↔ a.cl = b.cl ∧ a.sq = b.sq ∧ a.kd = b.kd ∧ a.id = b.id ∧ a.ep = b.ep ∧ a.cs = b.cs ∧ a.sp = b.sp ∧ a.nm = b.nm ∧ a.nu = b.nu ∧ a.by' = b.by' ∧ a.tm = b.tm ∧ a.ps = b.ps := by
  cases a; cases b; simp
/-- baileyref23.Same -/
theorem c55 (a b : CmS) (ha : a.cs.length ≤ maxLen) (hp : a.ps.length ≤ maxLen) : SCalls Proofs.Try.prog 55 [vM a, vM b] [] (.s (.lf (.bool (decide (a = b))))) [] := by
  refine SCalls.intro tok Proofs.Try.func55 ?_
  conv => whnf
  by_cases hcl : a.cl = b.cl
  rotate_left
  · refine CaseB.of_false (decide_eq_false hcl) ?_
    conv => whnf
    exact RetK.empty (WV.lf (WL.ff (decide_eq_false fun e => hcl (by rw [e]))))
  refine CaseB.of_true (decide_eq_true hcl) ?_
  conv => whnf
  by_cases hsq : a.sq = b.sq
  rotate_left
  · refine CaseB.of_false (decide_eq_false hsq) ?_
    conv => whnf
    exact RetK.empty (WV.lf (WL.ff (decide_eq_false fun e => hsq (by rw [e]))))
  refine CaseB.of_true (decide_eq_true hsq) ?_
  conv => whnf
  by_cases hkd : a.kd = b.kd
  rotate_left
  · refine CaseB.of_false (decide_eq_false hkd) ?_
    conv => whnf
    exact RetK.empty (WV.lf (WL.ff (decide_eq_false fun e => hkd (by rw [e]))))
  refine CaseB.of_true (decide_eq_true hkd) ?_
  conv => whnf
  by_cases hid : a.id = b.id
  rotate_left
  · refine CaseB.of_false (decide_eq_false hid) ?_
    conv => whnf
    exact RetK.empty (WV.lf (WL.ff (decide_eq_false fun e => hid (by rw [e]))))
  refine CaseB.of_true (decide_eq_true hid) ?_
  conv => whnf
  by_cases hep : a.ep = b.ep
  rotate_left
  · refine CaseB.of_false (decide_eq_false hep) ?_
    conv => whnf
    exact RetK.empty (WV.lf (WL.ff (decide_eq_false fun e => hep (by rw [e]))))
  refine CaseB.of_true (decide_eq_true hep) ?_
  conv => whnf
  refine CallK.mk' _ _ ((c32 a.cs b.cs ha).free _ ⟨rowC_free (cs := a.cs), rowC_free (cs := b.cs), trivial⟩ trivial) ?_
  conv => whnf
  by_cases hcs : a.cs = b.cs
  rotate_left
  · refine CaseB.of_false (decide_eq_false hcs) ?_
    conv => whnf
    exact RetK.empty (WV.lf (WL.ff (decide_eq_false fun e => hcs (by rw [e]))))
  refine CaseB.of_true (decide_eq_true hcs) ?_
  conv => whnf
  by_cases hsp : a.sp = b.sp
  rotate_left
  · refine CaseB.of_false (decide_eq_false hsp) ?_
    conv => whnf
    exact RetK.empty (WV.lf (WL.ff (decide_eq_false fun e => hsp (by rw [e]))))
  refine CaseB.of_true (decide_eq_true hsp) ?_
  conv => whnf
  by_cases hnm : a.nm = b.nm
  rotate_left
  · refine CaseB.of_false (decide_eq_false hnm) ?_
    conv => whnf
    exact RetK.empty (WV.lf (WL.ff (decide_eq_false fun e => hnm (by rw [e]))))
  refine CaseB.of_true (decide_eq_true hnm) ?_
  conv => whnf
  by_cases hnu : a.nu = b.nu
  rotate_left
  · refine CaseB.of_false (decide_eq_false hnu) ?_
    conv => whnf
    exact RetK.empty (WV.lf (WL.ff (decide_eq_false fun e => hnu (by rw [e]))))
  refine CaseB.of_true (decide_eq_true hnu) ?_
  conv => whnf
  by_cases hby : a.by' = b.by'
  rotate_left
  · refine CaseB.of_false (decide_eq_false hby) ?_
    conv => whnf
    exact RetK.empty (WV.lf (WL.ff (decide_eq_false fun e => hby (by rw [e]))))
  refine CaseB.of_true (decide_eq_true hby) ?_
  conv => whnf
  by_cases htm : a.tm = b.tm
  rotate_left
  · refine CaseB.of_false (decide_eq_false htm) ?_
    conv => whnf
    exact RetK.empty (WV.lf (WL.ff (decide_eq_false fun e => htm (by rw [e]))))
  refine CaseB.of_true (decide_eq_true htm) ?_
  conv => whnf
  refine CallK.mk' _ _ ((c56 a.ps b.ps hp).free _ ⟨rowP_free (ps := a.ps), rowP_free (ps := b.ps), trivial⟩ trivial) ?_
  conv => whnf
  exact RetK.empty (WV.lf (WL.bool (by rw [decide_eq_decide, cm_eq]; simp [hcl, hsq, hkd, hid, hep, hcs, hsp, hnm, hnu, hby, htm])))
end Go.Sym.Md

set_option linter.unusedVariables false
set_option linter.unusedSimpArgs false
set_option maxRecDepth 10000
namespace Go.Sym.Md
open Go Go.Sym

/-! ### Requests -/
structure RqS where
  ln : Int
  cl : Int
  sq : Int
  kd : Int
  tk : TkS
  sp : List UInt8
  nm : List UInt8
  nu : Int
  by' : Int
  tm : Int
  ps : List PcV
  dt : List UInt8
  tc : List UInt8
abbrev segsR (r : RqS) (u v : LV) : List Seg := [.one (.int .i64 r.ln), .one (.int .i64 r.cl), .one (.int .i64 r.sq), .one (.int .i64 r.kd), .one (.int .i64 r.tk.l), .one (.int .i64 r.tk.i), .one (.int .i64 r.tk.e), .one u, .one (.str r.tk.tag), .one (.str r.sp), .one (.str r.nm), .one (.int .i64 r.nu), .one (.int .i64 r.by'), .one (.int .i64 r.tm), .one v, .one (.rob false false r.dt), .one (.str r.tc)]
abbrev vRq (r : RqS) (u v : LV) : FV := .s (.agg (segsR r u v))
abbrev obRq (r : RqS) (u v : LV) : OB := ⟨55, segsR r u v⟩
def cmdOf (r : RqS) : CmS := ⟨r.cl, r.sq, r.kd, r.tk.i, r.tk.e, r.tk.cs, r.sp, r.nm, r.nu, r.by', r.tm, r.ps⟩
abbrev blC (cs : List CV) : OB := ⟨23, [.recs 3 cs.length (rowC cs)]⟩
abbrev blP (ps : List PcV) : OB := ⟨58, [.recs 2 ps.length (rowP ps)]⟩

theorem lentP {H H' : Hp} {μ : Nat → Nat} {hid : Nat → Prop} {nm len n : Nat} {f : Nat → Nat → LV} {ty : TypeId} {ps : List PcV} (hob : hget H nm = some ⟨ty, [.recs 2 n f]⟩) (hn : len = n) (hl : len = ps.length)
    (hf : ∀ i j, i < len → j < 2 → f i j = rowP ps i j) (hg : gone H' μ hid nm) : WL (Down H H' μ hid) (.own nm 0 2 0 len) (vQl ps) :=
  fun w L L' x h hx => rep_ro_weak (freezeP hob hn hl hf hg w L L' x h hx)
/-- command.Of -/
theorem c53tt (r : RqS) (hc : r.tk.cs.length ≤ 1000000) (hp : r.ps.length ≤ 1000000) : SCalls Proofs.Try.prog 53 [vRq r (rowT r.tk.cs) (rowQ r.ps)] [] (.s (.agg (segsMu (cmdOf r) (.own 0 0 3 0 r.tk.cs.length) (.own 1 0 2 0 r.ps.length)))) [some (blC r.tk.cs), some (blP r.ps)] := by
  refine SCalls.intro tok Proofs.Try.func53 ?_
  conv => whnf
  refine DrawK.mk1 tok mixed [0, 1, 3, 0, 8, 24, 7, 71, 255, 511] [(0, 1, [0]), (1, 1, [0]), (2, 1, [0]), (6, 1, [0]), (7, 2, []), (3, 1, [0, 1]), (4, 1, [0, 1]), (5, 1, [0, 1]), (8, 1, [0]), (9, 2, [])] (by kernel_rfl) ?_
  conv => whnf
  repeat (refine And.intro rfl ?_; conv => whnf)
  refine CallK.mk' (.s (.lf (.own 3 0 3 0 r.tk.cs.length))) _ ((c39 r.tk.cs hc).made _ (cs := [.s (.lf (rowT r.tk.cs))]) (Hn := [some (blC r.tk.cs)]) ⟨WV.lf rowT_wl, trivial⟩ (WV.lf (WL.uown rfl rfl rfl)) ⟨rfl, ⟨.recs rfl fun i hi j hj => rowC_wl hj, trivial⟩, trivial⟩) ?_
  conv => whnf
  refine DrawK.mk1 tok mixed [0, 1, 0, 4, 3, 19, 63, 127] [(0, 1, [0]), (1, 1, [0]), (4, 1, [0]), (5, 2, []), (2, 1, [0, 1]), (3, 1, [0, 1]), (6, 1, [0]), (7, 2, [])] (by kernel_rfl) ?_
  conv => whnf
  repeat (refine And.intro rfl ?_; conv => whnf)
  refine DrawK.mk1 tok mixed [0, 1, 0, 4, 0, 16, 3, 67, 207, 463, 1023, 2047] [(0, 1, [0]), (1, 1, [0]), (6, 1, [0]), (7, 2, []), (2, 1, [0, 1]), (3, 1, [0, 1]), (8, 1, [0]), (9, 2, []), (4, 1, [0, 1, 2]), (5, 1, [0, 1, 2]), (10, 1, [0]), (11, 2, [])] (by kernel_rfl) ?_
  conv => whnf
  repeat (refine And.intro rfl ?_; conv => whnf)
  refine CallK.mk' (.s (.lf (.own 4 0 2 0 r.ps.length))) _ ((c52 r.ps hp).made _ (cs := [.s (.lf (rowQ r.ps))]) (Hn := [some (blP r.ps)]) ⟨WV.lf rowQ_wl, trivial⟩ (WV.lf (WL.uown rfl rfl rfl)) ⟨rfl, ⟨.recs rfl fun i hi j hj => rowP_wl hj, trivial⟩, trivial⟩) ?_
  conv => whnf
  exact RetK.perm [3, 4] ⟨⟨rfl, .recs rfl fun i hi j hj => rowC_wl hj, trivial⟩, ⟨rfl, .recs rfl fun i hi j hj => rowP_wl hj, trivial⟩, trivial⟩ (WV.agg ⟨.one (WL.int rfl), .one (WL.int rfl), .one (WL.int rfl), .one (WL.int rfl), .one (WL.int rfl), .one (WL.own rfl rfl rfl rfl), .one (WL.str rfl), .one (WL.str rfl), .one (WL.int rfl), .one (WL.int rfl), .one (WL.int rfl), .one (WL.own rfl rfl rfl rfl), trivial⟩) rfl (by simp) rfl (by simp)
/-- command.Of -/
theorem c53tn (r : RqS) (hc : r.tk.cs.length ≤ 1000000) (hp : r.ps.length ≤ 1000000) : SCalls Proofs.Try.prog 53 [vRq r (rowT r.tk.cs) .sl0] [] (.s (.agg (segsMu (cmdOf r) (.own 0 0 3 0 r.tk.cs.length) .sl0))) [some (blC r.tk.cs)] := by
  refine SCalls.intro tok Proofs.Try.func53 ?_
  conv => whnf
  refine DrawK.mk1 tok mixed [0, 1, 3, 0, 8, 24, 7, 71, 255, 511] [(0, 1, [0]), (1, 1, [0]), (2, 1, [0]), (6, 1, [0]), (7, 2, []), (3, 1, [0, 1]), (4, 1, [0, 1]), (5, 1, [0, 1]), (8, 1, [0]), (9, 2, [])] (by kernel_rfl) ?_
  conv => whnf
  repeat (refine And.intro rfl ?_; conv => whnf)
  refine CallK.mk' (.s (.lf (.own 3 0 3 0 r.tk.cs.length))) _ ((c39 r.tk.cs hc).made _ (cs := [.s (.lf (rowT r.tk.cs))]) (Hn := [some (blC r.tk.cs)]) ⟨WV.lf rowT_wl, trivial⟩ (WV.lf (WL.uown rfl rfl rfl)) ⟨rfl, ⟨.recs rfl fun i hi j hj => rowC_wl hj, trivial⟩, trivial⟩) ?_
  conv => whnf
  refine DrawK.mk1 tok mixed [0, 1, 0, 4, 3, 19, 63, 127] [(0, 1, [0]), (1, 1, [0]), (4, 1, [0]), (5, 2, []), (2, 1, [0, 1]), (3, 1, [0, 1]), (6, 1, [0]), (7, 2, [])] (by kernel_rfl) ?_
  conv => whnf
  repeat (refine And.intro rfl ?_; conv => whnf)
  refine DrawK.mk1 tok mixed [0, 1, 0, 4, 0, 16, 3, 67, 207, 463, 1023, 2047] [(0, 1, [0]), (1, 1, [0]), (6, 1, [0]), (7, 2, []), (2, 1, [0, 1]), (3, 1, [0, 1]), (8, 1, [0]), (9, 2, []), (4, 1, [0, 1, 2]), (5, 1, [0, 1, 2]), (10, 1, [0]), (11, 2, [])] (by kernel_rfl) ?_
  conv => whnf
  repeat (refine And.intro rfl ?_; conv => whnf)
  refine CallK.mk' _ _ (c52n.free _ ⟨trivial, trivial⟩ trivial) ?_
  conv => whnf
  exact RetK.perm [3] ⟨⟨rfl, .recs rfl fun i hi j hj => rowC_wl hj, trivial⟩, trivial⟩ (WV.agg ⟨.one (WL.int rfl), .one (WL.int rfl), .one (WL.int rfl), .one (WL.int rfl), .one (WL.int rfl), .one (WL.own rfl rfl rfl rfl), .one (WL.str rfl), .one (WL.str rfl), .one (WL.int rfl), .one (WL.int rfl), .one (WL.int rfl), .one (freeL.wl trivial), trivial⟩) rfl (by simp) rfl (by simp)
/-- command.Of -/
theorem c53nt (r : RqS) (hc : r.tk.cs.length ≤ 1000000) (hp : r.ps.length ≤ 1000000) : SCalls Proofs.Try.prog 53 [vRq r .sl0 (rowQ r.ps)] [] (.s (.agg (segsMu (cmdOf r) .sl0 (.own 0 0 2 0 r.ps.length)))) [some (blP r.ps)] := by
  refine SCalls.intro tok Proofs.Try.func53 ?_
  conv => whnf
  refine DrawK.mk1 tok mixed [0, 1, 3, 0, 8, 24, 7, 71, 255, 511] [(0, 1, [0]), (1, 1, [0]), (2, 1, [0]), (6, 1, [0]), (7, 2, []), (3, 1, [0, 1]), (4, 1, [0, 1]), (5, 1, [0, 1]), (8, 1, [0]), (9, 2, [])] (by kernel_rfl) ?_
  conv => whnf
  repeat (refine And.intro rfl ?_; conv => whnf)
  refine CallK.mk' _ _ (c39n.free _ ⟨trivial, trivial⟩ trivial) ?_
  conv => whnf
  refine DrawK.mk1 tok mixed [0, 1, 0, 4, 3, 19, 63, 127] [(0, 1, [0]), (1, 1, [0]), (4, 1, [0]), (5, 2, []), (2, 1, [0, 1]), (3, 1, [0, 1]), (6, 1, [0]), (7, 2, [])] (by kernel_rfl) ?_
  conv => whnf
  repeat (refine And.intro rfl ?_; conv => whnf)
  refine DrawK.mk1 tok mixed [0, 1, 0, 4, 0, 16, 3, 67, 207, 463, 1023, 2047] [(0, 1, [0]), (1, 1, [0]), (6, 1, [0]), (7, 2, []), (2, 1, [0, 1]), (3, 1, [0, 1]), (8, 1, [0]), (9, 2, []), (4, 1, [0, 1, 2]), (5, 1, [0, 1, 2]), (10, 1, [0]), (11, 2, [])] (by kernel_rfl) ?_
  conv => whnf
  repeat (refine And.intro rfl ?_; conv => whnf)
  refine CallK.mk' (.s (.lf (.own 3 0 2 0 r.ps.length))) _ ((c52 r.ps hp).made _ (cs := [.s (.lf (rowQ r.ps))]) (Hn := [some (blP r.ps)]) ⟨WV.lf rowQ_wl, trivial⟩ (WV.lf (WL.uown rfl rfl rfl)) ⟨rfl, ⟨.recs rfl fun i hi j hj => rowP_wl hj, trivial⟩, trivial⟩) ?_
  conv => whnf
  exact RetK.perm [3] ⟨⟨rfl, .recs rfl fun i hi j hj => rowP_wl hj, trivial⟩, trivial⟩ (WV.agg ⟨.one (WL.int rfl), .one (WL.int rfl), .one (WL.int rfl), .one (WL.int rfl), .one (WL.int rfl), .one (freeL.wl trivial), .one (WL.str rfl), .one (WL.str rfl), .one (WL.int rfl), .one (WL.int rfl), .one (WL.int rfl), .one (WL.own rfl rfl rfl rfl), trivial⟩) rfl (by simp) rfl (by simp)
/-- command.Of -/
theorem c53nn (r : RqS) (hc : r.tk.cs.length ≤ 1000000) (hp : r.ps.length ≤ 1000000) : SCalls Proofs.Try.prog 53 [vRq r .sl0 .sl0] [] (.s (.agg (segsMu (cmdOf r) .sl0 .sl0))) [] := by
  refine SCalls.intro tok Proofs.Try.func53 ?_
  conv => whnf
  refine DrawK.mk1 tok mixed [0, 1, 3, 0, 8, 24, 7, 71, 255, 511] [(0, 1, [0]), (1, 1, [0]), (2, 1, [0]), (6, 1, [0]), (7, 2, []), (3, 1, [0, 1]), (4, 1, [0, 1]), (5, 1, [0, 1]), (8, 1, [0]), (9, 2, [])] (by kernel_rfl) ?_
  conv => whnf
  repeat (refine And.intro rfl ?_; conv => whnf)
  refine CallK.mk' _ _ (c39n.free _ ⟨trivial, trivial⟩ trivial) ?_
  conv => whnf
  refine DrawK.mk1 tok mixed [0, 1, 0, 4, 3, 19, 63, 127] [(0, 1, [0]), (1, 1, [0]), (4, 1, [0]), (5, 2, []), (2, 1, [0, 1]), (3, 1, [0, 1]), (6, 1, [0]), (7, 2, [])] (by kernel_rfl) ?_
  conv => whnf
  repeat (refine And.intro rfl ?_; conv => whnf)
  refine DrawK.mk1 tok mixed [0, 1, 0, 4, 0, 16, 3, 67, 207, 463, 1023, 2047] [(0, 1, [0]), (1, 1, [0]), (6, 1, [0]), (7, 2, []), (2, 1, [0, 1]), (3, 1, [0, 1]), (8, 1, [0]), (9, 2, []), (4, 1, [0, 1, 2]), (5, 1, [0, 1, 2]), (10, 1, [0]), (11, 2, [])] (by kernel_rfl) ?_
  conv => whnf
  repeat (refine And.intro rfl ?_; conv => whnf)
  refine CallK.mk' _ _ (c52n.free _ ⟨trivial, trivial⟩ trivial) ?_
  conv => whnf
  exact RetK.empty (WV.agg ⟨.one (WL.int rfl), .one (WL.int rfl), .one (WL.int rfl), .one (WL.int rfl), .one (WL.int rfl), .one (freeL.wl trivial), .one (WL.str rfl), .one (WL.str rfl), .one (WL.int rfl), .one (WL.int rfl), .one (WL.int rfl), .one (freeL.wl trivial), trivial⟩)
theorem c54nn (ln cl sq kd tl ti te : Int) (tag sp nm : List UInt8) (nu by' tm : Int) (dt tc : List UInt8)  : SCalls Proofs.Try.prog 54 [vRq ⟨ln, cl, sq, kd, ⟨tl, ti, te, [], tag⟩, sp, nm, nu, by', tm, [], dt, tc⟩ (vKl []) (vQl [])] [] (vM (cmdOf ⟨ln, cl, sq, kd, ⟨tl, ti, te, [], tag⟩, sp, nm, nu, by', tm, [], dt, tc⟩)) [] := by
  refine SCalls.intro tok Proofs.Try.func54 ?_
  conv => whnf
  refine DrawK.mk1 tok mixed [0, 1, 0, 4, 0, 16, 0, 64, 192, 0, 512, 1536, 0, 4096, 12288, 28672, 0, 65536, 0, 262144, 0, 1048576, 0, 4194304, 0, 16777216, 0, 67108864, 201388032, 536870911, 1073741823] [(12, 1, [0]), (13, 1, [0]), (14, 1, [0]), (15, 2, []), (26, 1, [0, 1]), (27, 1, [0, 1]), (28, 2, []), (0, 1, [0, 1, 2]), (1, 1, [0, 1, 2]), (2, 1, [0, 1, 2]), (3, 1, [0, 1, 2]), (4, 1, [0, 1, 2]), (5, 1, [0, 1, 2]), (6, 1, [0, 1, 2]), (7, 1, [0, 1, 2]), (8, 1, [0, 1, 2]), (9, 1, [0, 1, 2]), (10, 1, [0, 1, 2]), (11, 1, [0, 1, 2]), (16, 1, [0, 1, 2]), (17, 1, [0, 1, 2]), (18, 1, [0, 1, 2]), (19, 1, [0, 1, 2]), (20, 1, [0, 1, 2]), (21, 1, [0, 1, 2]), (22, 1, [0, 1, 2]), (23, 1, [0, 1, 2]), (24, 1, [0, 1, 2]), (25, 1, [0, 1, 2]), (29, 0, []), (30, 2, [])] (by kernel_rfl) ?_
  conv => whnf
  repeat (refine And.intro rfl ?_; conv => whnf)
  exact RetK.empty (WV.agg ⟨.one (WL.int rfl), .one (WL.int rfl), .one (WL.int rfl), .one (WL.int rfl), .one (WL.int rfl), .one (WL.sl0ro), .one (WL.str rfl), .one (WL.str rfl), .one (WL.int rfl), .one (WL.int rfl), .one (WL.int rfl), .one (WL.sl0ro), trivial⟩)
theorem c54nc (ln cl sq kd tl ti te : Int) (tag sp nm : List UInt8) (nu by' tm : Int) (dt tc : List UInt8) (p : PcV) (ps : List PcV) (hp : ps.length + 1 ≤ 1000000) : SCalls Proofs.Try.prog 54 [vRq ⟨ln, cl, sq, kd, ⟨tl, ti, te, [], tag⟩, sp, nm, nu, by', tm, p :: ps, dt, tc⟩ (vKl []) (vQl (p :: ps))] [] (vM (cmdOf ⟨ln, cl, sq, kd, ⟨tl, ti, te, [], tag⟩, sp, nm, nu, by', tm, p :: ps, dt, tc⟩)) [] := by
  refine SCalls.intro tok Proofs.Try.func54 ?_
  conv => whnf
  refine DrawK.mk1 tok mixed [0, 1, 0, 4, 0, 16, 0, 64, 192, 0, 512, 1536, 0, 4096, 12288, 28672, 0, 65536, 0, 262144, 0, 1048576, 0, 4194304, 0, 16777216, 0, 67108864, 201388032, 536870911, 1073741823] [(12, 1, [0]), (13, 1, [0]), (14, 1, [0]), (15, 2, []), (26, 1, [0, 1]), (27, 1, [0, 1]), (28, 2, []), (0, 1, [0, 1, 2]), (1, 1, [0, 1, 2]), (2, 1, [0, 1, 2]), (3, 1, [0, 1, 2]), (4, 1, [0, 1, 2]), (5, 1, [0, 1, 2]), (6, 1, [0, 1, 2]), (7, 1, [0, 1, 2]), (8, 1, [0, 1, 2]), (9, 1, [0, 1, 2]), (10, 1, [0, 1, 2]), (11, 1, [0, 1, 2]), (16, 1, [0, 1, 2]), (17, 1, [0, 1, 2]), (18, 1, [0, 1, 2]), (19, 1, [0, 1, 2]), (20, 1, [0, 1, 2]), (21, 1, [0, 1, 2]), (22, 1, [0, 1, 2]), (23, 1, [0, 1, 2]), (24, 1, [0, 1, 2]), (25, 1, [0, 1, 2]), (29, 0, []), (30, 2, [])] (by kernel_rfl) ?_
  conv => whnf
  repeat (refine And.intro rfl ?_; conv => whnf)
  refine And.intro (by show (ps.length + 1) * 24 ≤ _; omega) ?_
  conv => whnf
  repeat (refine And.intro rfl ?_; conv => whnf)
  exact RetK.empty (WV.agg ⟨.one (WL.int rfl), .one (WL.int rfl), .one (WL.int rfl), .one (WL.int rfl), .one (WL.int rfl), .one (WL.sl0ro), .one (WL.str rfl), .one (WL.str rfl), .one (WL.int rfl), .one (WL.int rfl), .one (WL.int rfl), .one (lentP rfl rfl rfl (fun i j _ _ => by first | rfl | (show rowP _ (0 + i) j = _; rw [Nat.zero_add])) (gone_none fun h => h)), trivial⟩)
theorem c54cn (ln cl sq kd tl ti te : Int) (tag sp nm : List UInt8) (nu by' tm : Int) (dt tc : List UInt8) (a : CV) (cs : List CV) (hc : cs.length + 1 ≤ 1000000) : SCalls Proofs.Try.prog 54 [vRq ⟨ln, cl, sq, kd, ⟨tl, ti, te, a :: cs, tag⟩, sp, nm, nu, by', tm, [], dt, tc⟩ (vKl (a :: cs)) (vQl [])] [] (vM (cmdOf ⟨ln, cl, sq, kd, ⟨tl, ti, te, a :: cs, tag⟩, sp, nm, nu, by', tm, [], dt, tc⟩)) [] := by
  refine SCalls.intro tok Proofs.Try.func54 ?_
  conv => whnf
  refine DrawK.mk1 tok mixed [0, 1, 0, 4, 0, 16, 0, 64, 192, 0, 512, 1536, 0, 4096, 12288, 28672, 0, 65536, 0, 262144, 0, 1048576, 0, 4194304, 0, 16777216, 0, 67108864, 201388032, 536870911, 1073741823] [(12, 1, [0]), (13, 1, [0]), (14, 1, [0]), (15, 2, []), (26, 1, [0, 1]), (27, 1, [0, 1]), (28, 2, []), (0, 1, [0, 1, 2]), (1, 1, [0, 1, 2]), (2, 1, [0, 1, 2]), (3, 1, [0, 1, 2]), (4, 1, [0, 1, 2]), (5, 1, [0, 1, 2]), (6, 1, [0, 1, 2]), (7, 1, [0, 1, 2]), (8, 1, [0, 1, 2]), (9, 1, [0, 1, 2]), (10, 1, [0, 1, 2]), (11, 1, [0, 1, 2]), (16, 1, [0, 1, 2]), (17, 1, [0, 1, 2]), (18, 1, [0, 1, 2]), (19, 1, [0, 1, 2]), (20, 1, [0, 1, 2]), (21, 1, [0, 1, 2]), (22, 1, [0, 1, 2]), (23, 1, [0, 1, 2]), (24, 1, [0, 1, 2]), (25, 1, [0, 1, 2]), (29, 0, []), (30, 2, [])] (by kernel_rfl) ?_
  conv => whnf
  repeat (refine And.intro rfl ?_; conv => whnf)
  refine And.intro (by show (cs.length + 1) * 32 ≤ _; omega) ?_
  conv => whnf
  repeat (refine And.intro rfl ?_; conv => whnf)
  exact RetK.empty (WV.agg ⟨.one (WL.int rfl), .one (WL.int rfl), .one (WL.int rfl), .one (WL.int rfl), .one (WL.int rfl), .one (WL.lentC rfl rfl rfl (fun i j _ _ => by first | rfl | (show rowC _ (0 + i) j = _; rw [Nat.zero_add])) (gone_none fun h => h)), .one (WL.str rfl), .one (WL.str rfl), .one (WL.int rfl), .one (WL.int rfl), .one (WL.int rfl), .one (WL.sl0ro), trivial⟩)
theorem c54cc (ln cl sq kd tl ti te : Int) (tag sp nm : List UInt8) (nu by' tm : Int) (dt tc : List UInt8) (a : CV) (cs : List CV) (hc : cs.length + 1 ≤ 1000000) (p : PcV) (ps : List PcV) (hp : ps.length + 1 ≤ 1000000) : SCalls Proofs.Try.prog 54 [vRq ⟨ln, cl, sq, kd, ⟨tl, ti, te, a :: cs, tag⟩, sp, nm, nu, by', tm, p :: ps, dt, tc⟩ (vKl (a :: cs)) (vQl (p :: ps))] [] (vM (cmdOf ⟨ln, cl, sq, kd, ⟨tl, ti, te, a :: cs, tag⟩, sp, nm, nu, by', tm, p :: ps, dt, tc⟩)) [] := by
  refine SCalls.intro tok Proofs.Try.func54 ?_
  conv => whnf
  refine DrawK.mk1 tok mixed [0, 1, 0, 4, 0, 16, 0, 64, 192, 0, 512, 1536, 0, 4096, 12288, 28672, 0, 65536, 0, 262144, 0, 1048576, 0, 4194304, 0, 16777216, 0, 67108864, 201388032, 536870911, 1073741823] [(12, 1, [0]), (13, 1, [0]), (14, 1, [0]), (15, 2, []), (26, 1, [0, 1]), (27, 1, [0, 1]), (28, 2, []), (0, 1, [0, 1, 2]), (1, 1, [0, 1, 2]), (2, 1, [0, 1, 2]), (3, 1, [0, 1, 2]), (4, 1, [0, 1, 2]), (5, 1, [0, 1, 2]), (6, 1, [0, 1, 2]), (7, 1, [0, 1, 2]), (8, 1, [0, 1, 2]), (9, 1, [0, 1, 2]), (10, 1, [0, 1, 2]), (11, 1, [0, 1, 2]), (16, 1, [0, 1, 2]), (17, 1, [0, 1, 2]), (18, 1, [0, 1, 2]), (19, 1, [0, 1, 2]), (20, 1, [0, 1, 2]), (21, 1, [0, 1, 2]), (22, 1, [0, 1, 2]), (23, 1, [0, 1, 2]), (24, 1, [0, 1, 2]), (25, 1, [0, 1, 2]), (29, 0, []), (30, 2, [])] (by kernel_rfl) ?_
  conv => whnf
  repeat (refine And.intro rfl ?_; conv => whnf)
  refine And.intro (by show (cs.length + 1) * 32 ≤ _; omega) ?_
  conv => whnf
  repeat (refine And.intro rfl ?_; conv => whnf)
  refine And.intro (by show (ps.length + 1) * 24 ≤ _; omega) ?_
  conv => whnf
  repeat (refine And.intro rfl ?_; conv => whnf)
  exact RetK.empty (WV.agg ⟨.one (WL.int rfl), .one (WL.int rfl), .one (WL.int rfl), .one (WL.int rfl), .one (WL.int rfl), .one (WL.lentC rfl rfl rfl (fun i j _ _ => by first | rfl | (show rowC _ (0 + i) j = _; rw [Nat.zero_add])) (gone_none fun h => h)), .one (WL.str rfl), .one (WL.str rfl), .one (WL.int rfl), .one (WL.int rfl), .one (WL.int rfl), .one (lentP rfl rfl rfl (fun i j _ _ => by first | rfl | (show rowP _ (0 + i) j = _; rw [Nat.zero_add])) (gone_none fun h => h)), trivial⟩)
/-- baileyref23.Of -/
theorem c54 (r : RqS) (hc : r.tk.cs.length ≤ 1000000) (hp : r.ps.length ≤ 1000000) : SCalls Proofs.Try.prog 54 [vRq r (vKl r.tk.cs) (vQl r.ps)] [] (vM (cmdOf r)) [] := by
  obtain ⟨ln, cl, sq, kd, ⟨tl, ti, te, cs, tag⟩, sp, nm, nu, by', tm, ps, dt, tc⟩ := r
  cases cs with
  | nil =>
    cases ps with
    | nil => exact c54nn ln cl sq kd tl ti te tag sp nm nu by' tm dt tc
    | cons p ps => exact c54nc ln cl sq kd tl ti te tag sp nm nu by' tm dt tc p ps hp
  | cons a cs =>
    cases ps with
    | nil => exact c54cn ln cl sq kd tl ti te tag sp nm nu by' tm dt tc a cs hc
    | cons p ps => exact c54cc ln cl sq kd tl ti te tag sp nm nu by' tm dt tc a cs hc p ps hp
end Go.Sym.Md

set_option linter.unusedVariables false
set_option linter.unusedSimpArgs false
set_option maxRecDepth 10000
namespace Go.Sym.Md
open Go Go.Sym Go.Sym.Sh

def awC : CV := ⟨4, 5, []⟩
def awF : List UInt8 := [114, 90, 138, 252, 26, 191, 224, 72, 193, 124, 25, 14, 18, 118, 160, 240, 150, 110, 176, 88, 78, 181, 191, 59, 202, 238, 102, 156, 47, 136, 41, 56]
def awG : List UInt8 := [65, 78, 80, 37, 76, 38, 196, 79, 138, 157, 30, 243, 54, 146, 35, 40, 242, 174, 200, 1, 81, 238, 72, 161, 98, 26, 74, 46, 224, 127, 227, 233]
def awJ : List UInt8 := [11, 102, 103, 42, 14, 24, 58, 7, 27, 147, 13, 202, 229, 66, 20, 26, 149, 131, 33, 229, 150, 244, 96, 185, 172, 83, 158, 64, 42, 5, 241, 30]
def awJ2 : List UInt8 := [59, 94, 18, 159, 147, 47, 207, 242, 85, 86, 76, 204, 130, 100, 210, 54, 17, 230, 80, 224, 209, 128, 106, 241, 188, 153, 162, 114, 146, 246, 96, 32]
theorem aw_text : textT 1 2 3 = [116, 111, 107, 101, 110, 1, 2, 3] := eqB_sound (by kernel_rfl)
theorem aw_put : putC [] awC = [4, 5] := eqB_sound (by kernel_rfl)
theorem aw_1 : tagF [107] [116, 111, 107, 101, 110, 1, 2, 3] = awF := eqB_sound (by kernel_rfl)
theorem aw_2 : tagF awF [4, 5] = awG := eqB_sound (by kernel_rfl)
theorem aw_3 : tagF [106] [116, 111, 107, 101, 110, 1, 2, 3] = awJ := eqB_sound (by kernel_rfl)
theorem aw_4 : tagF awJ [4, 5] = awJ2 := eqB_sound (by kernel_rfl)
theorem aw_k : firstF [107] 1 2 3 = awF := by unfold firstF; rw [aw_text, aw_1]
theorem aw_j : firstF [106] 1 2 3 = awJ := by unfold firstF; rw [aw_text, aw_3]
theorem aw_ok : okW awC = true := by decide
theorem aw_head : headF 1 2 3 = true := by decide
def awT : TkS := ⟨1, 2, 3, [], awF⟩
def awU : TkS := ⟨1, 2, 3, [awC], awG⟩
theorem aw_mint : mintF [107] 1 2 3 = awT := by unfold mintF; rw [aw_head, if_pos rfl, aw_k]; rfl
theorem aw_weak : weakT awT awC = awU := by unfold weakT; rw [aw_put]; show (⟨1, 2, 3, [] ++ [awC], tagF awF [4, 5]⟩ : TkS) = _; rw [aw_2]; rfl
theorem aw_okT : okT awT = true := by unfold okT; rw [show headF awT.l awT.i awT.e = true from aw_head]; decide
theorem aw_okU : okT awU = true := by unfold okT; rw [show headF awU.l awU.i awU.e = true from aw_head]; decide
theorem aw_o1 : openF [107] awT = true := by
  unfold openF; rw [aw_okT, Bool.true_and]
  refine decide_eq_true ?_
  show chainF (firstF [107] 1 2 3) [] = awF
  rw [aw_k]; rfl
theorem aw_o2 : openF [107] awU = true := by
  unfold openF; rw [aw_okU, Bool.true_and]
  refine decide_eq_true ?_
  show tagF (firstF [107] 1 2 3) (putC [] awC) = awG
  rw [aw_k, aw_put, aw_2]
theorem aw_o3 : openF [106] awU = false := by
  unfold openF; rw [aw_okU, Bool.true_and]
  refine decide_eq_false ?_
  show ¬ tagF (firstF [106] 1 2 3) (putC [] awC) = awG
  rw [aw_j, aw_put, aw_4]
  decide
end Go.Sym.Md

set_option linter.unusedVariables false
set_option linter.unusedSimpArgs false
set_option maxRecDepth 10000
namespace Go.Sym.Md
open Go Go.Sym Go.Sym.Sh

attribute [local irreducible] numF checkF hasF okC boundF numR textR readC putC codeC parseC tagF nn headF firstF chainF mintF weakT openF

/-- baileylaw08.awake -/
theorem c98 : SCalls Proofs.Try.prog 98 [] [] (.s (.lf .tt)) [] := by
  have hm : maxLen = 9223372036854775807 := rfl
  have k97 := c97 [107] 1 2 3 (by simp)
  rw [aw_mint, aw_head, if_pos rfl] at k97
  have k99 := c99n awT awC aw_okT aw_ok (by decide) rfl
  rw [aw_weak, show awT.cs ++ [awC] = [awC] from rfl] at k99
  refine SCalls.intro tok Proofs.Try.func98 ?_
  conv => whnf
  refine CallK.mk' _ _ k97 ?_
  conv => whnf
  obtain ⟨H1, hH1⟩ : ∃ H1 : Hp, H1 = [some ⟨52, segsU awT .sl0⟩] := ⟨_, rfl⟩
  obtain ⟨H2, hH2⟩ : ∃ H2 : Hp, H2 = [some ⟨52, segsU awT .sl0⟩, some ⟨52, segsU awU (rowT [awC])⟩] := ⟨_, rfl⟩
  have q99 := k99.free H1 ⟨⟨trivial, trivial, trivial, trivial, trivial, trivial⟩, ⟨trivial, trivial, trivial, trivial⟩, trivial⟩ ⟨⟨trivial, trivial, trivial, rowT_free (cs := [awC]), trivial, trivial⟩, trivial, trivial⟩
  have q1 := (c100 [107] awT (by simp) (by decide) (by decide)).pure H2 (cs := [.s (.lf (.str [107])), vTu awT .sl0]) ⟨freeF.wv trivial, WV.agg ⟨.one (WL.int rfl), .one (WL.int rfl), .one (WL.int rfl), .one WL.sl0ro, .one (WL.str rfl), trivial⟩, trivial⟩ (freeF.wv trivial)
  have q2 := (c100 [107] awU (by simp) (by decide) (by decide)).pure H2 (cs := [.s (.lf (.str [107])), vTu awU (rowT [awC])]) ⟨freeF.wv trivial, WV.agg ⟨.one (WL.int rfl), .one (WL.int rfl), .one (WL.int rfl), .one rowT_vR, .one (WL.str rfl), trivial⟩, trivial⟩ (freeF.wv trivial)
  have q3 := (c100 [106] awU (by simp) (by decide) (by decide)).pure H2 (cs := [.s (.lf (.str [106])), vTu awU (rowT [awC])]) ⟨freeF.wv trivial, WV.agg ⟨.one (WL.int rfl), .one (WL.int rfl), .one (WL.int rfl), .one rowT_vR, .one (WL.str rfl), trivial⟩, trivial⟩ (freeF.wv trivial)
  rw [aw_o1] at q1
  rw [aw_o2] at q2
  rw [aw_o3] at q3
  subst hH1 hH2
  refine CallK.mk' _ _ q99 ?_
  conv => whnf
  repeat ((first | refine CallK.mk' _ _ q1 ?_ | refine CallK.mk' _ _ q2 ?_ | refine CallK.mk' _ _ q3 ?_ | refine CaseB.of_true rfl ?_ | refine CaseB.of_true (by decide) ?_); conv => whnf)
  exact RetK.empty (WV.lf (WL.btt (by decide)))

def fewT (t : TkS) : Bool := decide (t.cs.length ≤ 20 ∧ ∀ i, i < t.cs.length → (t.cs.getD i cv0).s.length ≤ 200) && decide ((t.tag.length : Int) ≤ 200)
theorem fewT_facts {t : TkS} (h : fewT t = true) : t.cs.length ≤ 20 ∧ t.tag.length ≤ 200 := by
  unfold fewT at h
  simp only [Bool.and_eq_true, decide_eq_true_eq] at h
  omega

/-- baileylaw08.few -/
theorem c102 (t : TkS) (hl : t.cs.length ≤ maxLen) : SCalls Proofs.Try.prog 102 [vT t] [] (.s (.lf (.bool (fewT t)))) [] := by
  have hm : maxLen = 9223372036854775807 := rfl
  refine SCalls.intro tok Proofs.Try.func102 ?_
  conv => whnf
  refine LoopK.mk1 (fun i : Nat => [(8, vI i), (7, vI t.cs.length), (6, vR t.cs), (2, .s (.lf .ff)), (1, .s (.lf (.ptr 0 0)))]) (fun i => [some (obT t)]) (fun i => i ≤ t.cs.length ∧ i ≤ 20 ∧ ∀ j, j < i → (t.cs.getD j cv0).s.length ≤ 200) (fun i => t.cs.length - i) 0 ⟨by omega, by omega, by omega⟩ ?_ ?_
  · exact Weak.of ⟨rfl, obT_ws t, trivial⟩ (by simp) ⟨okF.wv trivial, okF.wv trivial, okF.wv rowC_ok, okF.wv trivial, okF.wv rfl, trivial⟩
  rintro i ⟨hi, h20, hs⟩
  conv => whnf
  by_cases hi' : i < t.cs.length
  · refine CaseB.of_true (decide_eq_true (by omega)) ?_
    conv => whnf
    refine And.intro (by omega) ?_
    conv => whnf
    obtain ⟨c, hc⟩ : ∃ c, t.cs.getD i cv0 = c := ⟨_, rfl⟩
    have hi0 : t.cs.getD (Int.toNat (i : Int)) cv0 = c := by rw [Int.toNat_natCast]; exact hc
    rw [hi0]
    by_cases hx : 20 ≤ (i : Int)
    · repeat (refine CaseB.of_true (decide_eq_true hx) ?_; conv => whnf)
      exact RetK.empty (WV.lf (WL.ff (by unfold fewT; rw [decide_eq_false (fun h => by omega)]; rfl)))
    · by_cases hy : 200 < (c.s.length : Int)
      · repeat ((first | refine CaseB.of_false (decide_eq_false hx) ?_ | refine CaseB.of_true (decide_eq_true hy) ?_); conv => whnf)
        exact RetK.empty (WV.lf (WL.ff (by unfold fewT; rw [decide_eq_false (fun h => by have := h.2 i hi'; rw [hc] at this; omega)]; rfl)))
      · repeat ((first | refine CaseB.of_false (decide_eq_false hx) ?_ | refine CaseB.of_false (decide_eq_false hy) ?_); conv => whnf)
        refine ⟨i + 1, ⟨by omega, by omega, fun j hj => ?_⟩, by omega, ?_⟩
        · by_cases hji : j = i
          · subst hji; rw [hc]; omega
          · exact hs j (by omega)
        · exact Weak.of ⟨rfl, obT_ws t, trivial⟩ (by simp) ⟨WV.lf (WL.int (by rw [wrap_i64 (by omega) (by omega)]; omega)), okF.wv trivial, okF.wv rowC_ok, okF.wv trivial, okF.wv rfl, trivial⟩
  · refine CaseB.of_false (decide_eq_false (by omega)) ?_
    conv => whnf
    obtain rfl : i = t.cs.length := by omega
    exact RetK.empty (WV.lf (WL.bool (by unfold fewT; rw [decide_eq_true (⟨by omega, hs⟩ : t.cs.length ≤ 20 ∧ ∀ i, i < t.cs.length → (t.cs.getD i cv0).s.length ≤ 200), Bool.true_and])))
end Go.Sym.Md

