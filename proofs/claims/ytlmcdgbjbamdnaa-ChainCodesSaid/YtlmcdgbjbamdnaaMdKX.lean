/- Contracts of the program's functions, proved by the framework (text MdKX), without conditions but those that each theorem states. -/
import Derived.Test.YtlmcdgbjbamdnaaMdGJ
import Derived.Test.YtlmcdgbjbamdnaaMdMO
import Derived.Test.YtlmcdgbjbamdnaaFw7
set_option linter.unusedVariables false
set_option linter.unusedSimpArgs false
set_option maxRecDepth 10000
namespace Go.Sym.Md
open Go Go.Sym Go.Sym.Sh

/-! ### Chains -/
structure ChS where
  n : Int
  h : List UInt8
  deriving DecidableEq
abbrev vCh (c : ChS) : FV := .s (.agg [.one (.int .i64 c.n), .one (.str c.h)])
abbrev obCh (c : ChS) : OB := ⟨40, [.one (.int .i64 c.n), .one (.str c.h)]⟩
theorem obCh_ws {D : Rel} (c : ChS) : WSs D (obCh c).segs (obCh c).segs := plainGs.ws ⟨trivial, trivial, trivial⟩

def linkF (c : ChS) (t : List UInt8) : ChS := ⟨min c.n 4611686018427387903 + 1, shaF (c.h ++ numF (max c.n 0).toNat ++ t)⟩
def allF (c : ChS) (l : List (List UInt8)) : ChS := l.foldl linkF c

attribute [local irreducible] ws acc rs addUp Kw highA highB Sh.choose most lowA lowB ror blockF writeF padF toldF shaF numF sz

/-- chain.linked, and Sum -/
theorem c131 (c : ChS) (t : List UInt8) (hh : c.h.length ≤ 1000000) (ht : t.length ≤ 1000000) (hlo : -9223372036854775808 ≤ c.n ∧ c.n ≤ 9223372036854775807) : SCalls Proofs.Try.prog 131 [vCh c, .s (.lf (.rob false false t))] [] (.s (.lf (.ptr 0 0))) [some (obSt (writeF (writeF (writeF st0 c.h) (numF (max c.n 0).toNat)) t))] := by
  obtain ⟨m, hm⟩ : ∃ m : Nat, max c.n 0 = m := ⟨(max c.n 0).toNat, by omega⟩
  rw [hm, Int.toNat_natCast]
  have hnl := numF_length m
  have h9 := sz_le m
  have k1 := writeF_ok st0_ok c.h
  have k2 := writeF_ok k1 (numF m)
  have n1 : (writeF st0 c.h).n = c.h.length := by rw [writeF_n]; show 0 + _ = _; omega
  have n2 : (writeF (writeF st0 c.h) (numF m)).n = c.h.length + sz m := by rw [writeF_n, n1, hnl]
  refine SCalls.intro tok Proofs.Try.func131 ?_
  conv => whnf
  refine CallK.mk' (.s (.lf (.ptr 1 0))) _ (c185.made [some (obCh c)] (Hn := [some (obSt st0)]) trivial (WV.lf (WL.uptr rfl)) ⟨rfl, obSt_ws _, trivial⟩) ?_
  conv => whnf
  refine Or.inr ?_
  conv => whnf
  refine CallK.mk' _ [some (obCh c), some (obSt (writeF st0 c.h))] ((c186 st0 st0_ok c.h (by show 0 + _ < _; omega)).frame1 (H := [some (obCh c), some (obSt st0)]) (nm := 1) (rc := .tup []) rfl rfl (obSt_ws _) ⟨WV.lf (WL.ptr rfl rfl), WV.lf (WL.rob rfl (by simp) (by simp)), trivial⟩ rfl (obSt_ws _) (freeF.wv trivial)) ?_
  conv => whnf
  refine CallK.mk' (.s (.lf (.own 2 0 1 0 (numF m).length))) _ ((c137 [] c.n m hm (by omega) (by simp)).made [some (obCh c), some (obSt (writeF st0 c.h))] (Hn := [some ⟨5, [.bytes (numF m).length (numF m)]⟩]) ⟨WV.lf WL.sl0rob', freeF.wv trivial, trivial⟩ (WV.lf (WL.uown rfl rfl rfl)) ⟨rfl, ⟨.bytes rfl fun _ _ => rfl, trivial⟩, trivial⟩) ?_
  conv => whnf
  refine CallK.mk' _ [some (obCh c), some (obSt (writeF (writeF st0 c.h) (numF m))), some ⟨5, [.bytes (numF m).length (numF m)]⟩] ((c186 _ k1 (numF m) (by rw [n1]; omega)).frame1l (H := [some (obCh c), some (obSt (writeF st0 c.h)), some ⟨5, [.bytes (numF m).length (numF m)]⟩]) (fun _ => False) (nm := 1) (rc := .tup []) rfl rfl (fun h => h) (obSt_ws _)
    ⟨WV.lf (WL.ptr rfl rfl), WV.lf (WL.lent (ty := 5) rfl rfl ⟨fun h => h, fun i ob h => by simp⟩), trivial⟩ rfl (obSt_ws _) (plainF.wv trivial)) ?_
  conv => whnf
  refine CallK.mk' _ [some (obCh c), some (obSt (writeF (writeF (writeF st0 c.h) (numF m)) t)), some ⟨5, [.bytes (numF m).length (numF m)]⟩] ((c186 _ k2 t (by rw [n2]; omega)).frame1 (H := [some (obCh c), some (obSt (writeF (writeF st0 c.h) (numF m))), some ⟨5, [.bytes (numF m).length (numF m)]⟩]) (nm := 1) (rc := .tup []) rfl rfl (obSt_ws _) ⟨WV.lf (WL.ptr rfl rfl), freeF.wv trivial, trivial⟩ rfl (obSt_ws _) (freeF.wv trivial)) ?_
  conv => whnf
  exact RetK.perm [1] ⟨⟨rfl, obSt_ws _⟩, trivial⟩ (WV.lf (WL.ptr rfl rfl)) rfl (by simp) rfl (by simp)

/-- chain.Link -/
theorem c42 (c : ChS) (t : List UInt8) (hh : c.h.length ≤ 1000000) (ht : t.length ≤ 1000000) (hlo : -9223372036854775808 ≤ c.n ∧ c.n ≤ 9223372036854775807) : SCalls Proofs.Try.prog 42 [vCh c, .s (.lf (.rob false false t))] [] (vCh (linkF c t)) [] := by
  have hnl := numF_length (max c.n 0).toNat
  have h9 := sz_le (max c.n 0).toNat
  have k1 := writeF_ok st0_ok c.h
  have k2 := writeF_ok k1 (numF (max c.n 0).toNat)
  have k3 := writeF_ok k2 t
  have n1 : (writeF st0 c.h).n = c.h.length := by rw [writeF_n]; show 0 + _ = _; omega
  have n2 : (writeF (writeF st0 c.h) (numF (max c.n 0).toNat)).n = c.h.length + sz (max c.n 0).toNat := by rw [writeF_n, n1, hnl]
  have n3 : (writeF (writeF (writeF st0 c.h) (numF (max c.n 0).toNat)) t).n = c.h.length + sz (max c.n 0).toNat + t.length := by rw [writeF_n, n2]
  have hs : shaF (c.h ++ numF (max c.n 0).toNat ++ t) = sumF (writeF (writeF (writeF st0 c.h) (numF (max c.n 0).toNat)) t) := by
    rw [shaF, writeF_append, writeF_append]
  refine SCalls.intro tok Proofs.Try.func42 ?_
  conv => whnf
  refine CallK.mk' (.s (.lf (.ptr 2 0))) _ ((c131 c t hh ht hlo).made [some (obCh c), some (obCh ⟨0, []⟩)] (Hn := [some (obSt (writeF (writeF (writeF st0 c.h) (numF (max c.n 0).toNat)) t))]) ⟨freeF.wv ⟨trivial, trivial, trivial⟩, freeF.wv trivial, trivial⟩ (WV.lf (WL.uptr rfl)) ⟨rfl, obSt_ws _, trivial⟩) ?_
  conv => whnf
  refine CallK.mk' _ [some (obCh c), some (obCh ⟨0, []⟩), some (obSt (writeF (writeF (writeF st0 c.h) (numF (max c.n 0).toNat)) t))] ((c132 _ k3 (by rw [n3]; omega)).frame1 (H := [some (obCh c), some (obCh ⟨0, []⟩), some (obSt (writeF (writeF (writeF st0 c.h) (numF (max c.n 0).toNat)) t))]) (nm := 2) rfl rfl (obSt_ws _) ⟨WV.lf (WL.ptr rfl rfl), trivial⟩ rfl (obSt_ws _) (freeF.wv trivial)) ?_
  conv => whnf
  exact RetK.empty (WV.agg ⟨.one (WL.int (by rw [wrap_i64 (by omega) (by omega)]; rfl)), .one (WL.str hs.symm), trivial⟩)

/-- baileyref22.Link -/
theorem c43 (c : ChS) (t : List UInt8) (hh : c.h.length ≤ 400000) (ht : t.length ≤ 400000) (hlo : -9223372036854775808 ≤ c.n ∧ c.n ≤ 9223372036854775807) : SCalls Proofs.Try.prog 43 [vCh c, .s (.lf (.rob false false t))] [] (vCh (linkF c t)) [] := by
  obtain ⟨m, hm⟩ : ∃ m : Nat, max c.n 0 = m := ⟨(max c.n 0).toNat, by omega⟩
  have hnl := numF_length m
  have h9 := sz_le m
  refine SCalls.intro tok Proofs.Try.func43 ?_
  conv => whnf
  refine Or.inr ?_
  conv => whnf
  refine CallK.mk' (.s (.lf (.own 2 0 1 0 (c.h ++ numF m).length))) _ ((c133 c.h c.n m hm (by omega) (by omega)).made [some (obCh c), some (obCh ⟨0, []⟩)] (Hn := [some ⟨5, [.bytes (c.h ++ numF m).length (c.h ++ numF m)]⟩]) ⟨WV.lf (WL.rob rfl (by simp) (by simp)), freeF.wv trivial, trivial⟩ (WV.lf (WL.uown rfl rfl rfl)) ⟨rfl, ⟨.bytes rfl fun _ _ => rfl, trivial⟩, trivial⟩) ?_
  conv => whnf
  refine And.intro ⟨rfl, rfl, by rw [List.length_append, List.length_append]; omega⟩ ?_
  conv => whnf
  refine DrawK.mk1 tok mixed [0, 1, 3, 7, 0, 16, 63, 127] [(4, 0, []), (5, 2, []), (0, 1, [0, 1]), (1, 1, [0, 1]), (2, 1, [0, 1]), (3, 0, []), (6, 0, []), (7, 2, [])] (by kernel_rfl) ?_
  conv => whnf
  refine CallK.mk' _ _ ((c134 (c.h ++ numF m ++ t) (by rw [List.length_append, List.length_append]; omega)).lend (cs := [.s (.lf (.own 3 0 1 0 (c.h ++ numF m ++ t).length))]) (fun _ => False) [some (obCh c), some (obCh ⟨0, []⟩), none, some ⟨5, [.bytes (c.h ++ numF m ++ t).length (c.h ++ numF m ++ t)]⟩] ⟨WV.lf (WL.lent (ty := 5) rfl rfl ⟨fun h => h, fun i ob h => by simp at h⟩), trivial⟩ (plainF.wv trivial)) ?_
  conv => whnf
  refine And.intro rfl ?_
  conv => whnf
  refine And.intro rfl ?_
  conv => whnf
  repeat (refine And.intro rfl ?_; conv => whnf)
  refine RetK.empty (WV.agg ⟨.one (WL.int (by rw [wrap_i64 (by omega) (by omega)]; rfl)), .one (WL.str ?_), trivial⟩)
  show _ = shaF _
  rw [hm, Int.toNat_natCast]

/-- chain.Start -/
theorem c48 : SCalls Proofs.Try.prog 48 [] [] (vCh ⟨0, List.replicate 32 0⟩) [] := by
  refine SCalls.intro tok Proofs.Try.func48 ?_
  conv => whnf
  refine And.intro (by simp [maxLen]) ?_
  conv => whnf
  refine And.intro ⟨by decide, by decide⟩ ?_
  conv => whnf
  exact RetK.empty (okF.wv ⟨trivial, trivial, trivial⟩)

/-- baileyref22.Start -/
theorem c49 : SCalls Proofs.Try.prog 49 [] [] (vCh ⟨0, List.replicate 32 0⟩) [] := by
  refine SCalls.intro tok Proofs.Try.func49 ?_
  conv => whnf
  refine And.intro ⟨by decide, by decide, by decide⟩ ?_
  conv => whnf
  refine And.intro ⟨by decide, by decide⟩ ?_
  conv => whnf
  exact RetK.empty (okF.wv ⟨trivial, trivial, trivial⟩)

/-! ### Links in a list -/
structure Pcs (len : Nat) (f : Nat → Nat → LV) (xs : Nat → List UInt8) : Prop where
  el : ∀ i, i < len → (f i 0 = .sl0 ∧ xs i = []) ∨ f i 0 = .rob true false (xs i)
abbrev vP (len : Nat) (f : Nat → Nat → LV) : FV := .s (.lf (.ro false false 1 len f))
def upF (c : ChS) (xs : Nat → List UInt8) : Nat → ChS
  | 0 => c
  | i + 1 => linkF (upF c xs i) (xs i)

theorem Pcs.ok {len : Nat} {f : Nat → Nat → LV} {xs : Nat → List UInt8} (h : Pcs len f xs) {H : Hp} : okF H (vP len f) := by
  intro i hi j hj
  obtain rfl : j = 0 := by omega
  rcases h.el i hi with ⟨e, _⟩ | e <;> rw [e] <;> trivial
theorem Pcs.wl {D : Rel} [ROk D] {len : Nat} {f : Nat → Nat → LV} {xs : Nat → List UInt8} (h : Pcs len f xs) {i j : Nat} (hi : i < len) (hj : j < 1) : WL D (f i j) (f i j) := by
  obtain rfl : j = 0 := by omega
  rcases h.el i hi with ⟨e, _⟩ | e <;> rw [e]
  · exact WL.sl0
  · exact WL.rob rfl (by simp) (by simp)
theorem Pcs.wl' {D : Rel} [ROk D] {len : Nat} {f : Nat → Nat → LV} {xs : Nat → List UInt8} (h : Pcs len f xs) {i : Nat} (hi : i < len) : WL D (f i 0) (.rob false false (xs i)) := by
  rcases h.el i hi with ⟨e, e'⟩ | e
  · rw [e, e']; exact WL.sl0rob'
  · rw [e]; exact WL.rob rfl (by simp) (by simp)

theorem linkF_range (c : ChS) (h : -9223372036854775808 ≤ c.n ∧ c.n ≤ 9223372036854775807) (t : List UInt8) : -9223372036854775808 ≤ (linkF c t).n ∧ (linkF c t).n ≤ 9223372036854775807 ∧ (linkF c t).h.length = 32 := by
  refine ⟨?_, ?_, shaF_length _⟩
  · show _ ≤ min c.n 4611686018427387903 + 1; omega
  · show min c.n 4611686018427387903 + 1 ≤ _; omega
theorem upF_range (c : ChS) (xs : Nat → List UInt8) (h : -9223372036854775808 ≤ c.n ∧ c.n ≤ 9223372036854775807) (hh : c.h.length ≤ 400000) (i : Nat) : (-9223372036854775808 ≤ (upF c xs i).n ∧ (upF c xs i).n ≤ 9223372036854775807) ∧ (upF c xs i).h.length ≤ 400000 := by
  induction i with
  | zero => exact ⟨h, hh⟩
  | succ i ih =>
    have := linkF_range _ ih.1 (xs i)
    exact ⟨⟨this.1, this.2.1⟩, by show (linkF _ _).h.length ≤ _; omega⟩

/-- chain.links -/
theorem c135 (c : ChS) (len : Nat) (f : Nat → Nat → LV) (xs : Nat → List UInt8) (hp : Pcs len f xs) (hl : len ≤ 1000000) (hx : ∀ i, i < len → (xs i).length ≤ 400000) (hh : c.h.length ≤ 400000) (hlo : -9223372036854775808 ≤ c.n ∧ c.n ≤ 9223372036854775807) : SCalls Proofs.Try.prog 135 [vCh c, vP len f] [] (vCh (upF c xs len)) [] := by
  refine SCalls.intro tok Proofs.Try.func135 ?_
  conv => whnf
  refine LoopK.mk1 (fun i : Nat => [(2, .s (.lf (.ptr 0 0))), (4, .s (.lf (.ptr 1 0))), (7, vP len f), (8, vI len), (9, vI i)]) (fun i => [some (obCh (upF c xs i)), some (obCh ⟨0, []⟩)]) (fun i => i ≤ len) (fun i => len - i) 0 (by omega) ?_ ?_
  · exact Weak.of ⟨rfl, okGs.ws (by exact ⟨trivial, trivial, trivial⟩), rfl, okGs.ws (by exact ⟨trivial, trivial, trivial⟩), trivial⟩ (by simp) ⟨okF.wv rfl, okF.wv rfl, okF.wv hp.ok, okF.wv trivial, okF.wv trivial, trivial⟩
  intro i hi
  conv => whnf
  by_cases hl : i < len
  · refine CaseB.of_true (decide_eq_true (by omega)) ?_
    conv => whnf
    refine And.intro (by omega) ?_
    conv => whnf
    have hr := upF_range c xs hlo hh i
    have hxi := hx i hl
    have hL : ∀ u : LV, (∀ D : Rel, ROk D → WL D u (.rob false false (xs i))) → SCalls Proofs.Try.prog 42 [vCh (upF c xs i), .s (.lf u)] [some (obCh (upF c xs i)), some (obCh ⟨0, []⟩)] (vCh (upF c xs (i + 1))) [some (obCh (upF c xs i)), some (obCh ⟨0, []⟩)] := fun u hu =>
      (c42 (upF c xs i) (xs i) (by omega) (by omega) (by omega)).lend (fun _ => True) _ ⟨freeF.wv ⟨trivial, trivial, trivial⟩, WV.lf (hu _ inferInstance), trivial⟩ (plainF.wv ⟨trivial, trivial, trivial⟩)
    rcases hp.el i hl with ⟨e1, e2⟩ | e1
    · rw [show f (Int.toNat (i : Int)) 0 = .sl0 from e1]
      conv => whnf
      refine CallK.mk' _ _ (hL .sl0 (fun D _ => by rw [e2]; exact WL.sl0rob')) ?_
      conv => whnf
      refine ⟨i + 1, by omega, by omega, ?_⟩
      exact Weak.of ⟨rfl, ⟨.one (WL.int rfl), .one (WL.str rfl), trivial⟩, rfl, okGs.ws (by exact ⟨trivial, trivial, trivial⟩), trivial⟩ (by simp) ⟨okF.wv rfl, okF.wv rfl, okF.wv hp.ok, okF.wv trivial, WV.lf (WL.int (by rw [wrap_i64 (by omega) (by omega)]; omega)), trivial⟩
    · rw [show f (Int.toNat (i : Int)) 0 = .rob true false (xs i) from e1]
      conv => whnf
      refine CallK.mk' _ _ (hL _ (fun D _ => WL.rob rfl (by simp) (by simp))) ?_
      conv => whnf
      refine ⟨i + 1, by omega, by omega, ?_⟩
      exact Weak.of ⟨rfl, ⟨.one (WL.int rfl), .one (WL.str rfl), trivial⟩, rfl, okGs.ws (by exact ⟨trivial, trivial, trivial⟩), trivial⟩ (by simp) ⟨okF.wv rfl, okF.wv rfl, okF.wv hp.ok, okF.wv trivial, WV.lf (WL.int (by rw [wrap_i64 (by omega) (by omega)]; omega)), trivial⟩
  · refine CaseB.of_false (decide_eq_false (by omega)) ?_
    conv => whnf
    obtain rfl : i = len := by omega
    exact RetK.empty (okF.wv ⟨trivial, trivial, trivial⟩)

/-- baileyref22.All -/
theorem c45 (c : ChS) (len : Nat) (f : Nat → Nat → LV) (xs : Nat → List UInt8) (hp : Pcs len f xs) (hl : len ≤ 1000000) (hx : ∀ i, i < len → (xs i).length ≤ 400000) (hh : c.h.length ≤ 400000) (hlo : -9223372036854775808 ≤ c.n ∧ c.n ≤ 9223372036854775807) : SCalls Proofs.Try.prog 45 [vCh c, vP len f] [] (vCh (upF c xs len)) [] := by
  refine SCalls.intro tok Proofs.Try.func45 ?_
  conv => whnf
  refine LoopK.mk1 (fun i : Nat => [(2, .s (.lf (.ptr 0 0))), (4, .s (.lf (.ptr 1 0))), (1, vP len f), (5, vI i)]) (fun i => [some (obCh (upF c xs i)), some (obCh ⟨0, []⟩)]) (fun i => i ≤ len) (fun i => len - i) 0 (by omega) ?_ ?_
  · exact Weak.of ⟨rfl, okGs.ws (by exact ⟨trivial, trivial, trivial⟩), rfl, okGs.ws (by exact ⟨trivial, trivial, trivial⟩), trivial⟩ (by simp) ⟨okF.wv rfl, okF.wv rfl, okF.wv hp.ok, okF.wv trivial, trivial⟩
  intro i hi
  conv => whnf
  by_cases hl : i < len
  · refine CaseB.of_true (decide_eq_true (by omega)) ?_
    conv => whnf
    refine DrawK.mk1 tok mixed [0, 0, 0, 6, 14, 31, 63] [(1, 0, []), (2, 0, []), (0, 1, [0]), (3, 1, [0]), (4, 1, [0]), (5, 2, []), (6, 2, [])] (by kernel_rfl) ?_
    conv => whnf
    refine And.intro (by omega) ?_
    conv => whnf
    have hr := upF_range c xs hlo hh i
    have hxi := hx i hl
    have hL : ∀ u : LV, (∀ D : Rel, ROk D → WL D u (.rob false false (xs i))) → SCalls Proofs.Try.prog 43 [vCh (upF c xs i), .s (.lf u)] [some (obCh (upF c xs i)), some (obCh ⟨0, []⟩)] (vCh (upF c xs (i + 1))) [some (obCh (upF c xs i)), some (obCh ⟨0, []⟩)] := fun u hu =>
      (c43 (upF c xs i) (xs i) (by omega) (by omega) (by omega)).lend (fun _ => True) _ ⟨freeF.wv ⟨trivial, trivial, trivial⟩, WV.lf (hu _ inferInstance), trivial⟩ (plainF.wv ⟨trivial, trivial, trivial⟩)
    rcases hp.el i hl with ⟨e1, e2⟩ | e1
    · rw [show f (Int.toNat (i : Int)) 0 = .sl0 from e1]
      conv => whnf
      refine CallK.mk' _ _ (hL .sl0 (fun D _ => by rw [e2]; exact WL.sl0rob')) ?_
      conv => whnf
      refine ⟨i + 1, by omega, by omega, ?_⟩
      exact Weak.of ⟨rfl, ⟨.one (WL.int rfl), .one (WL.str rfl), trivial⟩, rfl, okGs.ws (by exact ⟨trivial, trivial, trivial⟩), trivial⟩ (by simp) ⟨okF.wv rfl, okF.wv rfl, okF.wv hp.ok, WV.lf (WL.int (by rw [wrap_i64 (by omega) (by omega)]; omega)), trivial⟩
    · rw [show f (Int.toNat (i : Int)) 0 = .rob true false (xs i) from e1]
      conv => whnf
      refine CallK.mk' _ _ (hL _ (fun D _ => WL.rob rfl (by simp) (by simp))) ?_
      conv => whnf
      refine ⟨i + 1, by omega, by omega, ?_⟩
      exact Weak.of ⟨rfl, ⟨.one (WL.int rfl), .one (WL.str rfl), trivial⟩, rfl, okGs.ws (by exact ⟨trivial, trivial, trivial⟩), trivial⟩ (by simp) ⟨okF.wv rfl, okF.wv rfl, okF.wv hp.ok, WV.lf (WL.int (by rw [wrap_i64 (by omega) (by omega)]; omega)), trivial⟩
  · refine CaseB.of_false (decide_eq_false (by omega)) ?_
    conv => whnf
    obtain rfl : i = len := by omega
    exact RetK.empty (okF.wv ⟨trivial, trivial, trivial⟩)

/-- chain.All -/
theorem c44 (c : ChS) (len : Nat) (f : Nat → Nat → LV) (xs : Nat → List UInt8) (hp : Pcs len f xs) (hl : len ≤ 1000000) (hx : ∀ i, i < len → (xs i).length ≤ 400000) (hh : c.h.length ≤ 400000) (hlo : -9223372036854775808 ≤ c.n ∧ c.n ≤ 9223372036854775807) : SCalls Proofs.Try.prog 44 [vCh c, vP len f] [] (vCh (upF c xs len)) [] := by
  have hL := (c135 c len f xs hp hl hx hh hlo).lend (cs := [vCh c, vP len f]) (fun _ => True) [some (obCh c), some (obCh ⟨0, []⟩)] ⟨freeF.wv ⟨trivial, trivial, trivial⟩, WV.lf (WL.ro rfl (by simp) (by simp) fun i hi j hj => hp.wl hi hj), trivial⟩ (plainF.wv ⟨trivial, trivial, trivial⟩)
  refine SCalls.intro tok Proofs.Try.func44 ?_
  conv => whnf
  refine CallK.mk' _ _ hL ?_
  conv => whnf
  exact RetK.empty (okF.wv ⟨trivial, trivial, trivial⟩)

theorem ch_eq (a b : ChS) : a = b ↔ a.n = b.n ∧ a.h = b.h := by cases a; cases b; simp
theorem ch_neq_f {x y : ChS} (h : x = y) : (!(decide (x.n = y.n) && (decide (x.h = y.h) && true))) = false := by subst h; simp
theorem ch_neq_t {x y : ChS} (h : ¬ x = y) : (!(decide (x.n = y.n) && (decide (x.h = y.h) && true))) = true := by
  rw [ch_eq] at h
  simp only [Bool.and_true]
  by_cases h1 : x.n = y.n <;> by_cases h2 : x.h = y.h <;> simp_all

/-- chain.Check -/
theorem c46 (c d : ChS) (len : Nat) (f : Nat → Nat → LV) (xs : Nat → List UInt8) (hp : Pcs len f xs) (hl : len ≤ 1000000) (hx : ∀ i, i < len → (xs i).length ≤ 400000) (hh : c.h.length ≤ 400000) (hlo : -9223372036854775808 ≤ c.n ∧ c.n ≤ 9223372036854775807) : SCalls Proofs.Try.prog 46 [vCh c, vP len f, vCh d] [] (vI (if upF c xs len = d then 0 else 23)) [] := by
  have hL := (c135 c len f xs hp hl hx hh hlo).lend (cs := [vCh c, vP len f]) (fun _ => True) [some (obCh c), some (obCh d)] ⟨freeF.wv ⟨trivial, trivial, trivial⟩, WV.lf (WL.ro rfl (by simp) (by simp) fun i hi j hj => hp.wl hi hj), trivial⟩ (plainF.wv ⟨trivial, trivial, trivial⟩)
  refine SCalls.intro tok Proofs.Try.func46 ?_
  conv => whnf
  refine CallK.mk' _ _ hL ?_
  conv => whnf
  have hcm : maxLen = 9223372036854775807 := rfl
  by_cases he : upF c xs len = d
  · rw [if_pos he]
    refine CaseB.of_false (ch_neq_f he) ?_
    conv => whnf
    exact RetK.empty (okF.wv trivial)
  · rw [if_neg he]
    refine CaseB.of_true (ch_neq_t he) ?_
    conv => whnf
    exact RetK.empty (okF.wv trivial)

/-- baileyref22.Check -/
theorem c47 (c d : ChS) (len : Nat) (f : Nat → Nat → LV) (xs : Nat → List UInt8) (hp : Pcs len f xs) (hl : len ≤ 1000000) (hx : ∀ i, i < len → (xs i).length ≤ 400000) (hh : c.h.length ≤ 400000) (hlo : -9223372036854775808 ≤ c.n ∧ c.n ≤ 9223372036854775807) : SCalls Proofs.Try.prog 47 [vCh c, vP len f, vCh d] [] (vI (if upF c xs len = d then 0 else 23)) [] := by
  have hL := (c45 c len f xs hp hl hx hh hlo).lend (cs := [vCh c, vP len f]) (fun _ => True) [some (obCh c), some (obCh d)] ⟨freeF.wv ⟨trivial, trivial, trivial⟩, WV.lf (WL.ro rfl (by simp) (by simp) fun i hi j hj => hp.wl hi hj), trivial⟩ (plainF.wv ⟨trivial, trivial, trivial⟩)
  refine SCalls.intro tok Proofs.Try.func47 ?_
  conv => whnf
  refine DrawK.mk1 tok mixed [0, 0, 3, 0, 15] [(1, 0, []), (0, 1, [0]), (2, 2, []), (3, 1, [0, 1]), (4, 1, [0])] (by kernel_rfl) ?_
  conv => whnf
  refine CallK.mk' _ _ hL ?_
  conv => whnf
  repeat (refine And.intro rfl ?_; conv => whnf)
  have hcm : maxLen = 9223372036854775807 := rfl
  by_cases he : upF c xs len = d
  · rw [if_pos he]
    refine CaseB.of_false (ch_neq_f he) ?_
    conv => whnf
    exact RetK.empty (okF.wv trivial)
  · rw [if_neg he]
    refine CaseB.of_true (ch_neq_t he) ?_
    conv => whnf
    exact RetK.empty (okF.wv trivial)

/-- baileylaw22.few -/
theorem c40 (len : Nat) (f : Nat → Nat → LV) (xs : Nat → List UInt8) (hp : Pcs len f xs) (hl : len ≤ maxLen) : ∃ b : Bool, (b = true → len ≤ 20 ∧ ∀ i, i < len → (xs i).length ≤ 300) ∧ SCalls Proofs.Try.prog 40 [vP len f] [] (.s (.lf (.bool b))) [] := by
  refine ⟨decide (len ≤ 20 ∧ ∀ i, i < len → (xs i).length ≤ 300), by simp, ?_⟩
  refine SCalls.intro tok Proofs.Try.func40 ?_
  conv => whnf
  have hm : maxLen = 9223372036854775807 := rfl
  refine LoopK.mk1 (fun i : Nat => [(5, vP len f), (6, vI len), (7, vI i), (2, .s (.lf .ff))]) (fun _ => []) (fun i => i ≤ len ∧ i ≤ 20 ∧ ∀ j, j < i → (xs j).length ≤ 300) (fun i => len - i) 0 ⟨by omega, by omega, by omega⟩ ?_ ?_
  · exact Weak.of ⟨⟩ (by simp) ⟨okF.wv hp.ok, okF.wv trivial, okF.wv trivial, okF.wv trivial, trivial⟩
  intro i hi
  obtain ⟨hi, hi20, hs⟩ := hi
  conv => whnf
  by_cases hl : i < len
  · refine CaseB.of_true (decide_eq_true (by omega)) ?_
    conv => whnf
    refine And.intro (by omega) ?_
    conv => whnf
    rcases hp.el i hl with ⟨e1, e2⟩ | e1
    · rw [show f (Int.toNat (i : Int)) 0 = .sl0 from e1]
      conv => whnf
      by_cases h20 : i = 20
      · refine CaseB.of_true (decide_eq_true (by omega)) ?_
        conv => whnf
        exact RetK.empty (WV.lf (WL.ff (decide_eq_false fun h => by omega)))
      · refine CaseB.of_false (decide_eq_false (by omega)) ?_
        conv => whnf
        refine CaseB.of_false (by decide) ?_
        conv => whnf
        refine ⟨i + 1, ⟨by omega, by omega, fun j hj => ?_⟩, by omega, ?_⟩
        · by_cases hji : j = i
          · subst hji; rw [e2]; simp
          · exact hs j (by omega)
        · exact Weak.of ⟨⟩ (by simp) ⟨okF.wv hp.ok, okF.wv trivial, WV.lf (WL.int (by rw [wrap_i64 (by omega) (by omega)]; omega)), okF.wv trivial, trivial⟩
    · rw [show f (Int.toNat (i : Int)) 0 = .rob true false (xs i) from e1]
      conv => whnf
      by_cases h20 : i = 20
      · refine CaseB.of_true (decide_eq_true (by omega)) ?_
        conv => whnf
        exact RetK.empty (WV.lf (WL.ff (decide_eq_false fun h => by omega)))
      · refine CaseB.of_false (decide_eq_false (by omega)) ?_
        conv => whnf
        by_cases hx : 300 < (xs i).length
        · refine CaseB.of_true (decide_eq_true (by omega)) ?_
          conv => whnf
          exact RetK.empty (WV.lf (WL.ff (decide_eq_false fun h => by have := h.2 i hl; omega)))
        · refine CaseB.of_false (decide_eq_false (by omega)) ?_
          conv => whnf
          refine ⟨i + 1, ⟨by omega, by omega, fun j hj => ?_⟩, by omega, ?_⟩
          · by_cases hji : j = i
            · subst hji; omega
            · exact hs j (by omega)
          · exact Weak.of ⟨⟩ (by simp) ⟨okF.wv hp.ok, okF.wv trivial, WV.lf (WL.int (by rw [wrap_i64 (by omega) (by omega)]; omega)), okF.wv trivial, trivial⟩
  · refine CaseB.of_false (decide_eq_false (by omega)) ?_
    conv => whnf
    obtain rfl : i = len := by omega
    exact RetK.empty (WV.lf (WL.tt (decide_eq_true ⟨by omega, hs⟩)))
end Go.Sym.Md

set_option linter.unusedVariables false
set_option linter.unusedSimpArgs false
set_option maxRecDepth 10000
namespace Go.Sym.Md
open Go Go.Sym Go.Sym.Sh
attribute [local irreducible] shaF numF sz

def chZ : ChS := ⟨0, List.replicate 32 0⟩

theorem linkZ_n (t : List UInt8) : (linkF chZ t).n = 1 := by show min (0 : Int) 4611686018427387903 + 1 = 1; decide
theorem linkF_h (c : ChS) (t : List UInt8) : (linkF c t).h.length = 32 := shaF_length _
theorem linkF_hi (c : ChS) (t : List UInt8) : ((linkF c t).h.length : Int) = 32 := by rw [linkF_h]; rfl
attribute [local irreducible] linkF

/-- baileylaw22.awake -/
theorem c41 : SCalls Proofs.Try.prog 41 [] [] (.s (.lf .tt)) [] := by
  have hp1 : Pcs 1 (fun _ _ => .rob true false [97]) (fun _ => [97]) := ⟨fun i hi => .inr rfl⟩
  have hp0 : Pcs 0 (fun _ _ => .rob true false [97]) (fun _ => [97]) := ⟨fun i hi => .inr rfl⟩
  have k1 := c46 chZ (linkF chZ [97]) 1 _ _ hp1 (by omega) (fun _ _ => by simp) (by simp [chZ]) (by simp [chZ])
  have k0 := c46 chZ (linkF chZ [97]) 0 _ _ hp0 (by omega) (fun _ _ => by simp) (by simp [chZ]) (by simp [chZ])
  rw [if_pos (by rfl)] at k1
  rw [if_neg (fun h : upF chZ (fun _ => [97]) 0 = linkF chZ [97] => by
    change chZ = _ at h; have := linkZ_n [97]; rw [← h] at this; exact absurd this (by decide))] at k0
  have hE := k1.lend (cs := [vCh chZ, .s (.lf (.ro true true 1 1 fun i j => cellD [Seg.one (LV.own 2 0 1 0 1)] (i * 1 + j))), vCh (linkF chZ [97])]) (fun _ => False) [some ⟨5, [.bytes 1 [97]]⟩, some (obCh (linkF chZ [97])), some ⟨5, [.bytes 1 [97]]⟩]
    ⟨freeF.wv ⟨trivial, trivial, trivial⟩, WV.lf (WL.ro rfl (by simp) (by simp) fun i hi j hj => by
      obtain rfl : i = 0 := by omega
      obtain rfl : j = 0 := by omega
      exact WL.freezeB (ob := ⟨5, [.bytes 1 [97]]⟩) (p := []) (q := []) rfl rfl rfl (by omega) (by simp) rfl ⟨fun h => h, fun i ob h => by simp at h⟩), freeF.wv ⟨trivial, trivial, trivial⟩, trivial⟩ (plainF.wv trivial)
  have hF := k0.lend (cs := [vCh chZ, .s (.lf .sl0), vCh (linkF chZ [97])]) (fun _ => True) [some ⟨5, [.bytes 1 [97]]⟩, some (obCh (linkF chZ [97])), some ⟨5, [.bytes 1 [97]]⟩]
    ⟨freeF.wv ⟨trivial, trivial, trivial⟩, WV.lf WL.sl0ro, freeF.wv ⟨trivial, trivial, trivial⟩, trivial⟩ (plainF.wv trivial)
  refine SCalls.intro tok Proofs.Try.func41 ?_
  conv => whnf
  refine CallK.mk' _ _ c48 ?_
  conv => whnf
  refine Or.inl ?_
  conv => whnf
  refine CallK.mk' (vCh (linkF chZ [97])) _ ((c42 chZ [97] (by simp [chZ]) (by simp) (by simp [chZ])).lend (cs := [vCh chZ, .s (.lf (.own 0 0 1 0 1))]) (fun _ => False) [some ⟨5, [.bytes 1 [97]]⟩] ⟨freeF.wv ⟨trivial, trivial, trivial⟩, WV.lf (WL.lent (ty := 5) rfl rfl ⟨fun h => h, fun i ob h => by simp at h⟩), trivial⟩ (plainF.wv ⟨trivial, trivial, trivial⟩)) ?_
  conv => whnf
  refine DrawK.mk1 tok mixed [0, 1, 3, 7, 15, 31, 63, 127, 255, 511, 1023, 1023, 3071, 7167, 1023, 32767, 65535, 131071, 262143, 524287, 524287, 2097151, 4194303, 8388607, 16777215] [(0, 1, [0]), (1, 1, [0]), (2, 0, []), (3, 0, []), (4, 1, [0]), (5, 1, [0]), (6, 1, [0]), (7, 0, []), (8, 0, []), (9, 0, []), (11, 2, []), (12, 2, []), (13, 2, []), (10, 1, [0, 1, 2, 3]), (14, 1, [0, 1, 2, 3]), (15, 1, [0]), (16, 0, []), (17, 0, []), (18, 0, []), (19, 1, [0]), (20, 1, [0]), (21, 1, [0]), (22, 0, []), (23, 0, []), (24, 0, [])] (by kernel_rfl) ?_
  conv => whnf
  repeat ((first | refine CaseB.of_true (decide_eq_true (linkZ_n _)) ?_ | refine CaseB.of_true (decide_eq_true (linkF_hi _ _)) ?_); conv => whnf)
  refine Or.inl ?_
  conv => whnf
  repeat ((first | refine CaseB.of_true (decide_eq_true (linkZ_n _)) ?_ | refine CaseB.of_true (decide_eq_true (linkF_hi _ _)) ?_); conv => whnf)
  refine Or.inr ?_
  conv => whnf
  repeat ((first | refine CaseB.of_true (decide_eq_true (linkZ_n _)) ?_ | refine CaseB.of_true (decide_eq_true (linkF_hi _ _)) ?_); conv => whnf)
  repeat ((first | refine CallR.mk' _ (c48.free _ trivial ⟨trivial, trivial, trivial⟩) ?_ | refine And.intro rfl ?_ | refine CaseB.of_true (decide_eq_true (linkZ_n _)) ?_ | refine CaseB.of_true (decide_eq_true (linkF_hi _ _)) ?_); conv => whnf)
  refine CallR.mk' _ hE ?_
  conv => whnf
  repeat ((first | refine CallR.mk' _ hE ?_ | refine CallR.mk' _ hF ?_ | refine CallR.mk' _ (c48.free _ trivial ⟨trivial, trivial, trivial⟩) ?_ | refine And.intro rfl ?_ | refine CaseB.of_true (decide_eq_true (linkZ_n _)) ?_ | refine CaseB.of_true (decide_eq_true (linkF_hi _ _)) ?_ | refine CaseB.of_true (decide_eq_true (rfl : (0 : Int) = 0)) ?_); conv => whnf)
  exact RetK.empty (WV.lf (WL.btt rfl))
end Go.Sym.Md

set_option linter.unusedVariables false
set_option linter.unusedSimpArgs false
set_option maxRecDepth 10000
namespace Go.Sym.Md
open Go Go.Sym Go.Sym.Sh
attribute [local irreducible] shaF numF sz linkF upF

theorem chEq_t {x y : ChS} (h : x = y) : (decide (x.n = y.n) && (decide (x.h = y.h) && true)) = true := by subst h; simp

/-- baileylaw22.ChainLinks -/
theorem c7 (c d : ChS) (t : List UInt8) (len : Nat) (f : Nat → Nat → LV) (xs : Nat → List UInt8) (hp : Pcs len f xs) (hl : len ≤ maxLen) (hlo : -9223372036854775808 ≤ c.n ∧ c.n ≤ 9223372036854775807) : SCalls Proofs.Try.prog 7 [vCh c, vCh d, .s (.lf (.rob false false t)), vP len f] [] (.s (.lf .tt)) [] := by
  obtain ⟨b, hb, h40⟩ := c40 len f xs hp hl
  have hwP : ∀ D : Rel, ROk D → WL D (.ro false false 1 len f) (.ro false false 1 len f) := fun D _ => WL.ro rfl (by simp) (by simp) fun i hi j hj => hp.wl hi hj
  have k40 := h40.lend (cs := [vP len f]) (fun _ => True) [some (obCh c), some (obCh d)] ⟨WV.lf (hwP _ inferInstance), trivial⟩ (plainF.wv trivial)
  have k41 := c41.free [some (obCh c), some (obCh d)] trivial trivial
  refine SCalls.intro tok Proofs.Try.func7 ?_
  conv => whnf
  by_cases h1 : 300 < (c.h.length : Int)
  · repeat (refine CaseB.of_true (decide_eq_true h1) ?_; conv => whnf)
    refine CallK.mk' _ _ k41 ?_
    conv => whnf
    exact RetK.empty (okF.wv trivial)
  by_cases h2 : 300 < (d.h.length : Int)
  · repeat ((first | refine CaseB.of_false (decide_eq_false h1) ?_ | refine CaseB.of_true (decide_eq_true h2) ?_); conv => whnf)
    refine CallK.mk' _ _ k41 ?_
    conv => whnf
    exact RetK.empty (okF.wv trivial)
  by_cases h3 : 1000 < (t.length : Int)
  · repeat ((first | refine CaseB.of_false (decide_eq_false h1) ?_ | refine CaseB.of_false (decide_eq_false h2) ?_ | refine CaseB.of_true (decide_eq_true h3) ?_); conv => whnf)
    refine CallK.mk' _ _ k41 ?_
    conv => whnf
    exact RetK.empty (okF.wv trivial)
  repeat ((first | refine CaseB.of_false (decide_eq_false h1) ?_ | refine CaseB.of_false (decide_eq_false h2) ?_ | refine CaseB.of_false (decide_eq_false h3) ?_ | refine CallK.mk' _ _ k40 ?_); conv => whnf)
  cases b with
  | false =>
    refine CaseB.of_true rfl ?_
    conv => whnf
    refine CallK.mk' _ _ k41 ?_
    conv => whnf
    exact RetK.empty (okF.wv trivial)
  | true =>
    obtain ⟨hn, hx⟩ := hb rfl
    refine CaseB.of_false rfl ?_
    conv => whnf
    have hh : c.h.length ≤ 300 := by omega
    have hx' : ∀ i, i < len → (xs i).length ≤ 400000 := fun i hi => by have := hx i hi; omega
    have w1 : WVs' (Down [some (obCh c), some (obCh d)] [] id fun _ => True) [vCh c, .s (.lf (.rob false false t))] [vCh c, .s (.lf (.rob false false t))] := ⟨freeF.wv ⟨trivial, trivial, trivial⟩, freeF.wv trivial, trivial⟩
    have w2 : WVs' (Down [some (obCh c), some (obCh d)] [] id fun _ => True) [vCh c, vP len f] [vCh c, vP len f] := ⟨freeF.wv ⟨trivial, trivial, trivial⟩, WV.lf (hwP _ inferInstance), trivial⟩
    have w3 : WVs' (Down [some (obCh c), some (obCh d)] [] id fun _ => True) [vCh c, vP len f, vCh d] [vCh c, vP len f, vCh d] := ⟨freeF.wv ⟨trivial, trivial, trivial⟩, WV.lf (hwP _ inferInstance), freeF.wv ⟨trivial, trivial, trivial⟩, trivial⟩
    have k42 := (c42 c t (by omega) (by omega) hlo).lend (fun _ => True) _ w1 (plainF.wv ⟨trivial, trivial, trivial⟩)
    have k43 := (c43 c t (by omega) (by omega) hlo).lend (fun _ => True) _ w1 (plainF.wv ⟨trivial, trivial, trivial⟩)
    have k44 := (c44 c len f xs hp (by omega) hx' (by omega) hlo).lend (fun _ => True) _ w2 (plainF.wv ⟨trivial, trivial, trivial⟩)
    have k45 := (c45 c len f xs hp (by omega) hx' (by omega) hlo).lend (fun _ => True) _ w2 (plainF.wv ⟨trivial, trivial, trivial⟩)
    have k46 := (c46 c d len f xs hp (by omega) hx' (by omega) hlo).lend (fun _ => True) _ w3 (plainF.wv trivial)
    have k47 := (c47 c d len f xs hp (by omega) hx' (by omega) hlo).lend (fun _ => True) _ w3 (plainF.wv trivial)
    have k48 := c48.free [some (obCh c), some (obCh d)] trivial ⟨trivial, trivial, trivial⟩
    have k49 := c49.free [some (obCh c), some (obCh d)] trivial ⟨trivial, trivial, trivial⟩
    refine DrawK.mk1 tok mixed [0, 0, 3, 0, 0, 31, 63, 127, 255, 255, 1023, 255, 255, 8191, 16383, 32767, 65535, 131071, 131071, 131071, 1048575, 131071, 131071, 131071, 16777215, 33554431, 67108863, 134217727, 268435455, 536870911, 1073741823, 2147483647, 4294967295, 8589934591, 17179869183, 34359738367] [(1, 0, []), (4, 0, []), (0, 1, [0]), (2, 1, [0]), (3, 1, [0]), (5, 1, [0]), (6, 1, [0]), (7, 0, []), (9, 0, []), (12, 0, []), (8, 1, [0]), (10, 1, [0]), (11, 1, [0]), (13, 1, [0]), (14, 1, [0]), (15, 0, []), (16, 0, []), (18, 0, []), (22, 0, []), (17, 1, [0]), (19, 1, [0]), (20, 1, [0]), (21, 1, [0]), (23, 1, [0]), (24, 1, [0]), (25, 0, []), (26, 0, []), (27, 0, []), (28, 1, [0]), (29, 1, [0]), (30, 1, [0]), (31, 0, []), (32, 0, []), (33, 1, [0]), (34, 0, []), (35, 0, [])] (by kernel_rfl) ?_
    conv => whnf
    repeat ((first | refine CaseB.of_true (chEq_t rfl) ?_ | refine CallR.mk' _ k42 ?_ | refine CallR.mk' _ k43 ?_ | refine CallR.mk' _ k44 ?_ | refine CallR.mk' _ k45 ?_ | refine CallR.mk' _ k46 ?_ | refine CallR.mk' _ k47 ?_ | refine CallR.mk' _ k48 ?_ | refine CallR.mk' _ k49 ?_ | refine CallR.mk' _ k41 ?_ | refine CaseB.of_true (decide_eq_true rfl) ?_); conv => whnf)
    exact RetK.empty (okF.wv trivial)

abbrev vPt (len : Nat) (f : Nat → Nat → LV) : FV := .s (.lf (.ro true false 1 len f))

/-- slices.Clone, of no pieces. -/
theorem c50n : SCalls Proofs.Try.prog 50 [.s (.lf .sl0)] [] (.s (.lf .sl0)) [] := by
  refine SCalls.intro tok Proofs.Try.func50 ?_
  conv => whnf
  exact RetK.empty (okF.wv trivial)

/-- slices.Clone, of pieces. -/
theorem c50 (len : Nat) (f : Nat → Nat → LV) (xs : Nat → List UInt8) (hp : Pcs len f xs) (hl : len ≤ 1000000) : SCalls Proofs.Try.prog 50 [vPt len f] [] (.s (.lf (.own 0 0 1 0 len))) [some ⟨41, [.recs 1 len f]⟩] := by
  refine SCalls.intro tok Proofs.Try.func50 ?_
  conv => whnf
  refine Or.inl ?_
  conv => whnf
  refine And.intro (by omega) ?_
  conv => whnf
  refine And.intro ⟨rfl, by show (0 + len) * 24 ≤ _; omega⟩ ?_
  conv => whnf
  refine RetK.perm [1] ⟨⟨rfl, .recs (Nat.zero_add _) fun i hi j hj => ?_, trivial⟩, trivial⟩ (WV.lf (WL.own rfl rfl rfl (Nat.zero_add _))) rfl (by simp) rfl (by simp)
  exact hp.wl (by omega) hj

theorem cat_pcs {len len' : Nat} {f f' : Nat → Nat → LV} {xs xs' : Nat → List UInt8} (h : Pcs len f xs) (h' : Pcs len' f' xs') : Pcs (len + len') (catRow 1 len (fun i j => f (0 + i) j) f') (fun i => if i < len then xs i else xs' (i - len)) := by
  refine ⟨fun i hi => ?_⟩
  unfold catRow
  by_cases hl : i < len
  · rw [show Nat.blt i len = true by simp [Nat.blt, Nat.ble_eq]; omega]
    simp only [if_pos hl, Nat.zero_add]
    exact h.el i hl
  · rw [show Nat.blt i len = false by cases hb : Nat.blt i len <;> first | rfl | (have := blt_true hb; omega)]
    simp only [if_neg hl]
    exact h'.el (i - len) (by omega)

theorem upF_zero (c : ChS) (xs : Nat → List UInt8) : upF c xs 0 = c := by unfold upF; rfl
theorem upF_succ (c : ChS) (xs : Nat → List UInt8) (i : Nat) : upF c xs (i + 1) = linkF (upF c xs i) (xs i) := by conv => lhs; unfold upF

theorem upF_cat (c : ChS) (n m : Nat) (xs xs' : Nat → List UInt8) : upF c (fun i => if i < n then xs i else xs' (i - n)) (n + m) = upF (upF c xs n) xs' m := by
  have h0 : ∀ k, k ≤ n → upF c (fun i => if i < n then xs i else xs' (i - n)) k = upF c xs k := by
    intro k hk
    induction k with
    | zero => rw [upF_zero, upF_zero]
    | succ k ih => rw [upF_succ, upF_succ, ih (by omega), if_pos (by omega)]
  induction m with
  | zero => rw [Nat.add_zero, h0 n (Nat.le_refl _), upF_zero]
  | succ m ih =>
    rw [← Nat.add_assoc, upF_succ, upF_succ, ih, if_neg (by omega), Nat.add_sub_cancel_left]

/-- A row of pieces of the call's own, lent. -/
theorem WL.lentP {H H' : Hp} {μ : Nat → Nat} {hid : Nat → Prop} {nm len : Nat} {f : Nat → Nat → LV} {xs : Nat → List UInt8} {ty : TypeId} (hob : hget H nm = some ⟨ty, [.recs 1 len f]⟩) (hp : Pcs len f xs) (hg : gone H' μ hid nm) : WL (Down H H' μ hid) (.own nm 0 1 0 len) (.ro false false 1 len f) := by
  intro w L L' x h hx
  refine rep_ro_weak (WL.freezeR (ob := ⟨ty, [.recs 1 len f]⟩) (p := []) (q := []) hob rfl rfl (fun i hi j hj => ⟨?_, ?_⟩) hg w L L' x h hx)
  · show 0 * 1 + (i * 1 + j) < len * 1
    omega
  · show WL _ (f ((0 * 1 + (i * 1 + j)) / 1) ((0 * 1 + (i * 1 + j)) % 1)) _
    obtain rfl : j = 0 := by omega
    rw [show (0 * 1 + (i * 1 + 0)) / 1 = i by omega, show (0 * 1 + (i * 1 + 0)) % 1 = 0 by omega]
    exact hp.wl hi (by omega)

/-- baileylaw22.ChainParts -/
theorem c8 (c : ChS) (len : Nat) (f : Nat → Nat → LV) (xs : Nat → List UInt8) (hp : Pcs len f xs) (hl : len ≤ maxLen) (len' : Nat) (f' : Nat → Nat → LV) (xs' : Nat → List UInt8) (hp' : Pcs len' f' xs') (hl' : len' ≤ maxLen) (hlo : -9223372036854775808 ≤ c.n ∧ c.n ≤ 9223372036854775807) : SCalls Proofs.Try.prog 8 [vCh c, vPt len f, vP len' f'] [] (.s (.lf .tt)) [] := by
  obtain ⟨b, hb, h40⟩ := c40 len f xs hp hl
  obtain ⟨b', hb', h40'⟩ := c40 len' f' xs' hp' hl'
  have hwP : ∀ D : Rel, ROk D → WL D (.ro true false 1 len f) (.ro false false 1 len f) := fun D _ => WL.ro rfl (by simp) (by simp) fun i hi j hj => hp.wl hi hj
  have hwP' : ∀ D : Rel, ROk D → WL D (.ro false false 1 len' f') (.ro false false 1 len' f') := fun D _ => WL.ro rfl (by simp) (by simp) fun i hi j hj => hp'.wl hi hj
  have k40 := h40.lend (cs := [vPt len f]) (fun _ => True) [some (obCh c)] ⟨WV.lf (hwP _ inferInstance), trivial⟩ (plainF.wv trivial)
  have k40' := h40'.lend (cs := [vP len' f']) (fun _ => True) [some (obCh c)] ⟨WV.lf (hwP' _ inferInstance), trivial⟩ (plainF.wv trivial)
  have k41 := c41.free [some (obCh c)] trivial trivial
  refine SCalls.intro tok Proofs.Try.func8 ?_
  conv => whnf
  by_cases h1 : 300 < (c.h.length : Int)
  · repeat (refine CaseB.of_true (decide_eq_true h1) ?_; conv => whnf)
    refine CallK.mk' _ _ k41 ?_
    conv => whnf
    exact RetK.empty (okF.wv trivial)
  repeat ((first | refine CaseB.of_false (decide_eq_false h1) ?_ | refine CallK.mk' _ _ k40 ?_); conv => whnf)
  cases b with
  | false =>
    repeat ((first | refine CaseB.of_false (decide_eq_false h1) ?_ | refine CaseB.of_true rfl ?_); conv => whnf)
    refine CallK.mk' _ _ k41 ?_
    conv => whnf
    exact RetK.empty (okF.wv trivial)
  | true =>
  repeat ((first | refine CaseB.of_false rfl ?_ | refine CallK.mk' _ _ k40' ?_); conv => whnf)
  cases b' with
  | false =>
    refine CaseB.of_true rfl ?_
    conv => whnf
    refine CallK.mk' _ _ k41 ?_
    conv => whnf
    exact RetK.empty (okF.wv trivial)
  | true =>
  obtain ⟨hn, hx⟩ := hb rfl
  obtain ⟨hn', hx''⟩ := hb' rfl
  refine CaseB.of_false rfl ?_
  conv => whnf
  refine CallK.mk' (.s (.lf (.own 1 0 1 0 len))) _ ((c50 len f xs hp (by omega)).made [some (obCh c)] (Hn := [some ⟨41, [.recs 1 len f]⟩]) ⟨WV.lf (WL.ro rfl (by simp) (by simp) fun i hi j hj => hp.wl hi hj), trivial⟩ (WV.lf (WL.uown rfl rfl rfl)) ⟨rfl, ⟨.recs rfl fun i hi j hj => hp.wl hi hj, trivial⟩, trivial⟩) ?_
  conv => whnf
  refine And.intro (by omega) ?_
  conv => whnf
  refine And.intro ⟨rfl, by show (len + len') * 24 ≤ _; omega⟩ ?_
  conv => whnf
  obtain ⟨F, hF⟩ : ∃ F, catRow 1 len (fun i j => f (0 + i) j) f' = F := ⟨_, rfl⟩
  obtain ⟨ys, hys⟩ : ∃ ys, (fun i => if i < len then xs i else xs' (i - len)) = ys := ⟨_, rfl⟩
  have hpF : Pcs (len + len') F ys := by rw [← hF, ← hys]; exact cat_pcs hp hp'
  have hup := upF_cat c len len' xs xs'
  rw [hys] at hup
  obtain ⟨md, hmd⟩ : ∃ md, upF c xs len = md := ⟨_, rfl⟩
  obtain ⟨en, hen⟩ : ∃ en, upF md xs' len' = en := ⟨_, rfl⟩
  rw [hmd, hen] at hup
  have hx1 : ∀ i, i < len → (xs i).length ≤ 400000 := fun i hi => by have := hx i hi; omega
  have hx2 : ∀ i, i < len' → (xs' i).length ≤ 400000 := fun i hi => by have := hx'' i hi; omega
  have hx3 : ∀ i, i < len + len' → (ys i).length ≤ 400000 := fun i hi => by
    rw [← hys]
    by_cases h : i < len
    · simp only [if_pos h]; exact hx1 i h
    · simp only [if_neg h]; exact hx2 _ (by omega)
  have hr := upF_range c xs hlo (by omega) len
  rw [hmd] at hr
  have ka := c44 c len f xs hp (by omega) hx1 (by omega) hlo
  have kb := c44 md len' f' xs' hp' (by omega) hx2 (by omega) hr.1
  have kc := c44 c (len + len') F ys hpF (by omega) hx3 (by omega) hlo
  have kd := c46 c en (len + len') F ys hpF (by omega) hx3 (by omega) hlo
  rw [hmd] at ka
  rw [hen] at kb
  rw [hup] at kc kd
  rw [if_pos rfl] at kd
  have k1 := ka.lend (cs := [vCh c, vPt len f]) (fun _ => True) [some (obCh c), none, some ⟨41, [.recs 1 (len + len') F]⟩] ⟨freeF.wv ⟨trivial, trivial, trivial⟩, WV.lf (hwP _ inferInstance), trivial⟩ (plainF.wv ⟨trivial, trivial, trivial⟩)
  have k2 := kb.lend (cs := [vCh md, vP len' f']) (fun _ => True) [some (obCh c), none, some ⟨41, [.recs 1 (len + len') F]⟩] ⟨freeF.wv ⟨trivial, trivial, trivial⟩, WV.lf (hwP' _ inferInstance), trivial⟩ (plainF.wv ⟨trivial, trivial, trivial⟩)
  have k3 := kc.lend (cs := [vCh c, .s (.lf (.own 2 0 1 0 (len + len')))]) (fun _ => False) [some (obCh c), none, some ⟨41, [.recs 1 (len + len') F]⟩, some (obCh en)] ⟨freeF.wv ⟨trivial, trivial, trivial⟩, WV.lf (WL.lentP (ty := 41) rfl hpF ⟨fun h => h, fun i ob h => by simp at h⟩), trivial⟩ (plainF.wv ⟨trivial, trivial, trivial⟩)
  have k4 := kd.lend (cs := [vCh c, .s (.lf (.own 2 0 1 0 (len + len'))), vCh en]) (fun _ => False) [some (obCh c), none, some ⟨41, [.recs 1 (len + len') F]⟩, some (obCh en)] ⟨freeF.wv ⟨trivial, trivial, trivial⟩, WV.lf (WL.lentP (ty := 41) rfl hpF ⟨fun h => h, fun i ob h => by simp at h⟩), freeF.wv ⟨trivial, trivial, trivial⟩, trivial⟩ (plainF.wv trivial)
  have k5 := c41.free [some (obCh c), none, some ⟨41, [.recs 1 (len + len') F]⟩, some (obCh en)] trivial trivial
  subst hF
  refine CallK.mk' _ _ k1 ?_
  conv => whnf
  refine CallK.mk' _ _ k2 ?_
  conv => whnf
  refine DrawK.mk1 tok mixed [0, 0, 3, 0, 15, 31, 63, 63, 63, 511, 1023, 2047, 4095, 8191, 16383, 32767] [(1, 0, []), (0, 1, [0]), (2, 1, [0]), (3, 1, [0]), (4, 1, [0]), (5, 0, []), (7, 0, []), (6, 1, [0]), (8, 1, [0]), (9, 1, [0]), (10, 0, []), (11, 0, []), (12, 0, []), (13, 1, [0]), (14, 0, []), (15, 0, [])] (by kernel_rfl) ?_
  conv => whnf
  repeat ((first | refine CaseB.of_true (chEq_t rfl) ?_ | refine CallR.mk' _ k3 ?_ | refine CallR.mk' _ k4 ?_ | refine CallR.mk' _ k5 ?_ | refine CaseB.of_true (decide_eq_true rfl) ?_); conv => whnf)
  exact RetK.empty (okF.wv trivial)
/-- baileylaw22.ChainParts, of nil -/
theorem c8n (c : ChS) (len' : Nat) (f' : Nat → Nat → LV) (xs' : Nat → List UInt8) (hp' : Pcs len' f' xs') (hl' : len' ≤ maxLen) (hlo : -9223372036854775808 ≤ c.n ∧ c.n ≤ 9223372036854775807) : SCalls Proofs.Try.prog 8 [vCh c, .s (.lf .sl0), vP len' f'] [] (.s (.lf .tt)) [] := by
  have hp : Pcs 0 (fun _ _ => .sl0) (fun _ => []) := ⟨fun i hi => by omega⟩
  obtain ⟨b, hb, h40⟩ := c40 0 _ _ hp (by omega)
  obtain ⟨b', hb', h40'⟩ := c40 len' f' xs' hp' hl'
  have hwP' : ∀ D : Rel, ROk D → WL D (.ro false false 1 len' f') (.ro false false 1 len' f') := fun D _ => WL.ro rfl (by simp) (by simp) fun i hi j hj => hp'.wl hi hj
  have k40 := h40.lend (cs := [.s (.lf .sl0)]) (fun _ => True) [some (obCh c)] ⟨WV.lf WL.sl0ro, trivial⟩ (plainF.wv trivial)
  have k40' := h40'.lend (cs := [vP len' f']) (fun _ => True) [some (obCh c)] ⟨WV.lf (hwP' _ inferInstance), trivial⟩ (plainF.wv trivial)
  have k41 := c41.free [some (obCh c)] trivial trivial
  refine SCalls.intro tok Proofs.Try.func8 ?_
  conv => whnf
  by_cases h1 : 300 < (c.h.length : Int)
  · repeat (refine CaseB.of_true (decide_eq_true h1) ?_; conv => whnf)
    refine CallK.mk' _ _ k41 ?_
    conv => whnf
    exact RetK.empty (okF.wv trivial)
  repeat ((first | refine CaseB.of_false (decide_eq_false h1) ?_ | refine CallK.mk' _ _ k40 ?_); conv => whnf)
  cases b with
  | false =>
    repeat ((first | refine CaseB.of_false (decide_eq_false h1) ?_ | refine CaseB.of_true rfl ?_); conv => whnf)
    refine CallK.mk' _ _ k41 ?_
    conv => whnf
    exact RetK.empty (okF.wv trivial)
  | true =>
  repeat ((first | refine CaseB.of_false rfl ?_ | refine CallK.mk' _ _ k40' ?_); conv => whnf)
  cases b' with
  | false =>
    refine CaseB.of_true rfl ?_
    conv => whnf
    refine CallK.mk' _ _ k41 ?_
    conv => whnf
    exact RetK.empty (okF.wv trivial)
  | true =>
  obtain ⟨hn, hx⟩ := hb rfl
  obtain ⟨hn', hx''⟩ := hb' rfl
  refine CaseB.of_false rfl ?_
  conv => whnf
  refine CallK.mk' _ _ (c50n.free _ ⟨trivial, trivial⟩ trivial) ?_
  conv => whnf
  have hx2 : ∀ i, i < len' → (xs' i).length ≤ 400000 := fun i hi => by have := hx'' i hi; omega
  cases len' with
  | zero =>
    conv => whnf
    have ka := c44 c 0 _ _ hp (by omega) (fun i hi => by omega) (by omega) hlo
    have kb := c44 c 0 f' xs' hp' (by omega) hx2 (by omega) hlo
    have kd := c46 c (upF c xs' 0) 0 f' xs' hp' (by omega) hx2 (by omega) hlo
    rw [upF_zero] at ka
    rw [if_pos rfl] at kd
    obtain ⟨en, hen⟩ : ∃ en, upF c xs' 0 = en := ⟨_, rfl⟩
    rw [hen] at kb kd
    have k1 := ka.lend (cs := [vCh c, .s (.lf .sl0)]) (fun _ => True) [some (obCh c)] ⟨freeF.wv ⟨trivial, trivial, trivial⟩, WV.lf WL.sl0ro, trivial⟩ (plainF.wv ⟨trivial, trivial, trivial⟩)
    have k2 := kb.lend (cs := [vCh c, vP 0 f']) (fun _ => True) [some (obCh c)] ⟨freeF.wv ⟨trivial, trivial, trivial⟩, WV.lf (hwP' _ inferInstance), trivial⟩ (plainF.wv ⟨trivial, trivial, trivial⟩)
    have k3 := kb.lend (cs := [vCh c, .s (.lf .sl0)]) (fun _ => False) [some (obCh c), some (obCh en)] ⟨freeF.wv ⟨trivial, trivial, trivial⟩, WV.lf WL.sl0ro, trivial⟩ (plainF.wv ⟨trivial, trivial, trivial⟩)
    have k4 := kd.lend (cs := [vCh c, .s (.lf .sl0), vCh en]) (fun _ => False) [some (obCh c), some (obCh en)] ⟨freeF.wv ⟨trivial, trivial, trivial⟩, WV.lf WL.sl0ro, freeF.wv ⟨trivial, trivial, trivial⟩, trivial⟩ (plainF.wv trivial)
    have k5 := c41.free [some (obCh c), some (obCh en)] trivial trivial
    refine CallK.mk' _ _ k1 ?_
    conv => whnf
    refine CallK.mk' _ _ k2 ?_
    conv => whnf
    refine DrawK.mk1 tok mixed [0, 0, 3, 0, 15, 31, 63, 63, 63, 511, 1023, 2047, 4095, 8191, 16383, 32767] [(1, 0, []), (0, 1, [0]), (2, 1, [0]), (3, 1, [0]), (4, 1, [0]), (5, 0, []), (7, 0, []), (6, 1, [0]), (8, 1, [0]), (9, 1, [0]), (10, 0, []), (11, 0, []), (12, 0, []), (13, 1, [0]), (14, 0, []), (15, 0, [])] (by kernel_rfl) ?_
    conv => whnf
    repeat ((first | refine CaseB.of_true (chEq_t rfl) ?_ | refine CallR.mk' _ k3 ?_ | refine CallR.mk' _ k4 ?_ | refine CallR.mk' _ k5 ?_ | refine CaseB.of_true (decide_eq_true rfl) ?_); conv => whnf)
    exact RetK.empty (okF.wv trivial)
  | succ m =>
    conv => whnf
    refine And.intro (by show (m + 1) * 24 ≤ _; omega) ?_
    conv => whnf
    have ka := c44 c 0 _ _ hp (by omega) (fun i hi => by omega) (by omega) hlo
    have kb := c44 c (m + 1) f' xs' hp' (by omega) hx2 (by omega) hlo
    have kd := c46 c (upF c xs' (m + 1)) (m + 1) f' xs' hp' (by omega) hx2 (by omega) hlo
    rw [upF_zero] at ka
    rw [if_pos rfl] at kd
    obtain ⟨en, hen⟩ : ∃ en, upF c xs' (m + 1) = en := ⟨_, rfl⟩
    rw [hen] at kb kd
    have k1 := ka.lend (cs := [vCh c, .s (.lf .sl0)]) (fun _ => True) [some (obCh c), some ⟨41, [.recs 1 (m + 1) f']⟩] ⟨freeF.wv ⟨trivial, trivial, trivial⟩, WV.lf WL.sl0ro, trivial⟩ (plainF.wv ⟨trivial, trivial, trivial⟩)
    have k2 := kb.lend (cs := [vCh c, vP (m + 1) f']) (fun _ => True) [some (obCh c), some ⟨41, [.recs 1 (m + 1) f']⟩] ⟨freeF.wv ⟨trivial, trivial, trivial⟩, WV.lf (hwP' _ inferInstance), trivial⟩ (plainF.wv ⟨trivial, trivial, trivial⟩)
    have k3 := kb.lend (cs := [vCh c, .s (.lf (.own 1 0 1 0 (m + 1)))]) (fun _ => False) [some (obCh c), some ⟨41, [.recs 1 (m + 1) f']⟩, some (obCh en)] ⟨freeF.wv ⟨trivial, trivial, trivial⟩, WV.lf (WL.lentP (ty := 41) rfl hp' ⟨fun h => h, fun i ob h => by simp at h⟩), trivial⟩ (plainF.wv ⟨trivial, trivial, trivial⟩)
    have k4 := kd.lend (cs := [vCh c, .s (.lf (.own 1 0 1 0 (m + 1))), vCh en]) (fun _ => False) [some (obCh c), some ⟨41, [.recs 1 (m + 1) f']⟩, some (obCh en)] ⟨freeF.wv ⟨trivial, trivial, trivial⟩, WV.lf (WL.lentP (ty := 41) rfl hp' ⟨fun h => h, fun i ob h => by simp at h⟩), freeF.wv ⟨trivial, trivial, trivial⟩, trivial⟩ (plainF.wv trivial)
    have k5 := c41.free [some (obCh c), some ⟨41, [.recs 1 (m + 1) f']⟩, some (obCh en)] trivial trivial
    refine CallK.mk' _ _ k1 ?_
    conv => whnf
    refine CallK.mk' _ _ k2 ?_
    conv => whnf
    refine DrawK.mk1 tok mixed [0, 0, 3, 0, 15, 31, 63, 63, 63, 511, 1023, 2047, 4095, 8191, 16383, 32767] [(1, 0, []), (0, 1, [0]), (2, 1, [0]), (3, 1, [0]), (4, 1, [0]), (5, 0, []), (7, 0, []), (6, 1, [0]), (8, 1, [0]), (9, 1, [0]), (10, 0, []), (11, 0, []), (12, 0, []), (13, 1, [0]), (14, 0, []), (15, 0, [])] (by kernel_rfl) ?_
    conv => whnf
    repeat ((first | refine CaseB.of_true (chEq_t rfl) ?_ | refine CallR.mk' _ k3 ?_ | refine CallR.mk' _ k4 ?_ | refine CallR.mk' _ k5 ?_ | refine CaseB.of_true (decide_eq_true rfl) ?_); conv => whnf)
    exact RetK.empty (okF.wv trivial)
end Go.Sym.Md

set_option linter.unusedVariables false
set_option linter.unusedSimpArgs false
set_option maxRecDepth 10000
namespace Go.Sym.Md
open Go Go.Sym Go.Sym.Sh

/-! ### Chains as bytes -/
def ch0 : ChS := ⟨0, []⟩
def mayF (c : ChS) : Bool := decide (0 ≤ c.n) && (decide (c.n ≤ 4611686018427387904) && decide ((c.h.length : Int) = 32))
def putCh (b : List UInt8) (c : ChS) : List UInt8 := b ++ numF (max c.n 0).toNat ++ numF c.h.length ++ c.h
def tailCh (n : Int) (q : List UInt8 × Rd) : ChS × Rd := if q.2.e ≠ 0 then (ch0, q.2) else if mayF ⟨n, q.1⟩ then (⟨n, q.1⟩, q.2) else (ch0, ⟨[], 3⟩)
def readCh (r : Rd) : ChS × Rd := tailCh (numR r 4611686018427387904).1 (textR (numR r 4611686018427387904).2 32)

theorem mayF_short (n : Int) : mayF ⟨n, []⟩ = false := by simp [mayF]
theorem readCh_ok {r : Rd} (h : r.ok) : (readCh r).2.ok := by
  have h2 := textR_ok (numR_ok h 4611686018427387904) 32
  unfold readCh tailCh
  split
  · exact h2
  · split
    · exact h2
    · exact ⟨fun _ => rfl, by show IntKind.i64.min ≤ 3; decide, by show (3 : Int) ≤ IntKind.i64.max; decide, by simp⟩

theorem readCh_put (c : ChS) (h : mayF c = true) : readCh ⟨putCh [] c, 0⟩ = (c, ⟨[], 0⟩) := by
  simp only [mayF, Bool.and_eq_true, decide_eq_true_eq] at h
  have e : putCh [] c = numF (max c.n 0).toNat ++ (numF c.h.length ++ c.h ++ []) := by unfold putCh; simp
  unfold readCh
  rw [e, numR_num _ _ _ (by omega) (by omega)]
  simp only []
  rw [textR_text _ _ _ (by omega) (by omega)]
  unfold tailCh
  rw [if_neg (fun h => h rfl)]
  have ec : (⟨((max c.n 0).toNat : Int), c.h⟩ : ChS) = c := by cases c; simp only [ChS.mk.injEq, and_true] at h ⊢; omega
  simp only [ec]
  rw [if_pos (by simp only [mayF, Bool.and_eq_true, decide_eq_true_eq]; exact h)]

attribute [local irreducible] numF numR textR sz shaF linkF upF

/-- chain.May -/
theorem c81 (c : ChS) : SCalls Proofs.Try.prog 81 [vCh c] [] (.s (.lf (.bool (mayF c)))) [] := by
  refine SCalls.intro tok Proofs.Try.func81 ?_
  conv => whnf
  by_cases h1 : 0 ≤ c.n
  · by_cases h2 : c.n ≤ 4611686018427387904
    · repeat ((first | refine CaseB.of_true (decide_eq_true h1) ?_ | refine CaseB.of_true (decide_eq_true h2) ?_); conv => whnf)
      exact RetK.empty (WV.lf (WL.bool (by unfold mayF; rw [decide_eq_true h1, decide_eq_true h2]; rfl)))
    · repeat ((first | refine CaseB.of_true (decide_eq_true h1) ?_ | refine CaseB.of_false (decide_eq_false h2) ?_); conv => whnf)
      exact RetK.empty (WV.lf (WL.ff (by unfold mayF; rw [decide_eq_true h1, decide_eq_false h2]; rfl)))
  · repeat (refine CaseB.of_false (decide_eq_false h1) ?_; conv => whnf)
    exact RetK.empty (WV.lf (WL.ff (by unfold mayF; rw [decide_eq_false h1]; rfl)))

/-- chain.Put -/
theorem c83 (b : List UInt8) (c : ChS) (hb : b.length ≤ 100000000000) (hh : c.h.length ≤ 1000000) (hlo : -9223372036854775808 ≤ c.n ∧ c.n ≤ 9223372036854775807) : SCalls Proofs.Try.prog 83 [.s (.lf (.rob false false b)), vCh c] [] (.s (.lf (.rob true false (putCh b c)))) [] := by
  refine SCalls.intro tok Proofs.Try.func83 ?_
  conv => whnf
  refine DrawK.mk1 tok mixed [0, 0, 2, 7, 0, 16, 63, 127] [(0, 0, []), (1, 1, [0]), (2, 1, [0]), (3, 2, []), (4, 1, [0, 1]), (5, 1, [0, 1]), (6, 2, []), (7, 0, [])] (by kernel_rfl) ?_
  conv => whnf
  obtain ⟨m, hm⟩ : ∃ m : Nat, max c.n 0 = m := ⟨(max c.n 0).toNat, by omega⟩
  have hnl := numF_length m
  have h9 := sz_le m
  have hP : putCh b c = b ++ numF m ++ numF c.h.length ++ c.h := by unfold putCh; rw [hm, Int.toNat_natCast]
  have hbl : (b ++ numF m).length ≤ 140737000000000 := by rw [List.length_append]; omega
  refine CallK.mk' (.s (.lf (.own 1 0 1 0 (b ++ numF m).length))) _ ((c137 b c.n m hm (by omega) (by omega)).made [some (obCh c)] (Hn := [some ⟨5, [.bytes (b ++ numF m).length (b ++ numF m)]⟩]) ⟨freeF.wv trivial, freeF.wv trivial, trivial⟩ (WV.lf (WL.uown rfl rfl rfl)) ⟨rfl, ⟨.bytes rfl fun _ _ => rfl, trivial⟩, trivial⟩) ?_
  conv => whnf
  repeat (refine And.intro rfl ?_; conv => whnf)
  refine CallK.mk' (.s (.lf (.own 2 0 1 0 (putCh b c).length))) [some (obCh c), some ⟨5, [.bytes (b ++ numF m).length (b ++ numF m)]⟩, some ⟨5, [.bytes (putCh b c).length (putCh b c)]⟩] ((c138 (b ++ numF m) c.h (by omega) hbl).madeL (cs := [.s (.lf (.own 1 0 1 0 (b ++ numF m).length)), .s (.lf (.str c.h))]) (fun _ => False) [some (obCh c), some ⟨5, [.bytes (b ++ numF m).length (b ++ numF m)]⟩] (Hn := [some ⟨5, [.bytes (putCh b c).length (putCh b c)]⟩]) ⟨WV.lf (WL.lent (ty := 5) rfl rfl ⟨fun h => h, fun i ob h => by simp at h⟩), freeF.wv trivial, trivial⟩ (WV.lf (WL.uown rfl rfl (by rw [hP]))) ⟨rfl, ⟨.bytes (by rw [hP]) fun _ _ => by rw [hP], trivial⟩, trivial⟩) ?_
  conv => whnf
  repeat (refine And.intro rfl ?_; conv => whnf)
  exact RetK.empty (WV.lf (WL.freezeB (ob := ⟨5, [.bytes (putCh b c).length (putCh b c)]⟩) (p := []) (q := []) rfl rfl rfl (by omega) (by omega) (by rw [List.drop_zero, List.take_length]) (gone_none fun h => h)))

/-- baileyref22.May -/
theorem c82 (c : ChS) : SCalls Proofs.Try.prog 82 [vCh c] [] (.s (.lf (.bool (mayF c)))) [] := by
  refine SCalls.intro tok Proofs.Try.func82 ?_
  conv => whnf
  by_cases h1 : 0 ≤ c.n
  · by_cases h2 : c.n ≤ 4611686018427387904
    · repeat ((first | refine CaseB.of_true (decide_eq_true h1) ?_ | refine CaseB.of_true (decide_eq_true h2) ?_); conv => whnf)
      exact RetK.empty (WV.lf (WL.bool (by unfold mayF; rw [decide_eq_true h1, decide_eq_true h2]; rfl)))
    · repeat ((first | refine CaseB.of_true (decide_eq_true h1) ?_ | refine CaseB.of_false (decide_eq_false h2) ?_); conv => whnf)
      exact RetK.empty (WV.lf (WL.ff (by unfold mayF; rw [decide_eq_true h1, decide_eq_false h2]; rfl)))
  · repeat (refine CaseB.of_false (decide_eq_false h1) ?_; conv => whnf)
    exact RetK.empty (WV.lf (WL.ff (by unfold mayF; rw [decide_eq_false h1]; rfl)))

/-- baileyref22.Put -/
theorem c84 (b : List UInt8) (c : ChS) (hb : b.length ≤ 100000000000) (hh : c.h.length ≤ 1000000) (hlo : -9223372036854775808 ≤ c.n ∧ c.n ≤ 9223372036854775807) : SCalls Proofs.Try.prog 84 [.s (.lf (.rob false false b)), vCh c] [] (.s (.lf (.rob true false (putCh b c)))) [] := by
  refine SCalls.intro tok Proofs.Try.func84 ?_
  conv => whnf
  refine DrawK.mk1 tok mixed [0, 0, 2, 7, 0, 16, 63, 127] [(0, 0, []), (1, 1, [0]), (2, 1, [0]), (3, 2, []), (4, 1, [0, 1]), (5, 1, [0, 1]), (6, 2, []), (7, 0, [])] (by kernel_rfl) ?_
  conv => whnf
  obtain ⟨m, hm⟩ : ∃ m : Nat, max c.n 0 = m := ⟨(max c.n 0).toNat, by omega⟩
  have hnl := numF_length m
  have h9 := sz_le m
  have hP : putCh b c = b ++ numF m ++ numF c.h.length ++ c.h := by unfold putCh; rw [hm, Int.toNat_natCast]
  have hbl : (b ++ numF m).length ≤ 140737000000000 := by rw [List.length_append]; omega
  refine CallK.mk' (.s (.lf (.own 1 0 1 0 (b ++ numF m).length))) _ ((c133 b c.n m hm (by omega) (by omega)).made [some (obCh c)] (Hn := [some ⟨5, [.bytes (b ++ numF m).length (b ++ numF m)]⟩]) ⟨freeF.wv trivial, freeF.wv trivial, trivial⟩ (WV.lf (WL.uown rfl rfl rfl)) ⟨rfl, ⟨.bytes rfl fun _ _ => rfl, trivial⟩, trivial⟩) ?_
  conv => whnf
  repeat (refine And.intro rfl ?_; conv => whnf)
  refine CallK.mk' (.s (.lf (.own 2 0 1 0 (putCh b c).length))) [some (obCh c), some ⟨5, [.bytes (b ++ numF m).length (b ++ numF m)]⟩, some ⟨5, [.bytes (putCh b c).length (putCh b c)]⟩] ((c139 (b ++ numF m) c.h (by omega) hbl).madeL (cs := [.s (.lf (.own 1 0 1 0 (b ++ numF m).length)), .s (.lf (.str c.h))]) (fun _ => False) [some (obCh c), some ⟨5, [.bytes (b ++ numF m).length (b ++ numF m)]⟩] (Hn := [some ⟨5, [.bytes (putCh b c).length (putCh b c)]⟩]) ⟨WV.lf (WL.lent (ty := 5) rfl rfl ⟨fun h => h, fun i ob h => by simp at h⟩), freeF.wv trivial, trivial⟩ (WV.lf (WL.uown rfl rfl (by rw [hP]))) ⟨rfl, ⟨.bytes (by rw [hP]) fun _ _ => by rw [hP], trivial⟩, trivial⟩) ?_
  conv => whnf
  repeat (refine And.intro rfl ?_; conv => whnf)
  exact RetK.empty (WV.lf (WL.freezeB (ob := ⟨5, [.bytes (putCh b c).length (putCh b c)]⟩) (p := []) (q := []) rfl rfl rfl (by omega) (by omega) (by rw [List.drop_zero, List.take_length]) (gone_none fun h => h)))

/-- chain.Read -/
theorem c79 (r : Rd) (h : r.ok) : SCalls Proofs.Try.prog 79 [.s (.lf (.ptr 0 0))] [some (obR r)] (vCh (readCh r).1) [some (obR (readCh r).2)] := by
  have hn := numR_ok h 4611686018427387904
  have h140 := c140 r 4611686018427387904 h
  obtain ⟨n, hnn⟩ : ∃ n, (numR r 4611686018427387904).1 = n := ⟨_, rfl⟩
  obtain ⟨r1, hr1⟩ : ∃ r1, (numR r 4611686018427387904).2 = r1 := ⟨_, rfl⟩
  have hR : readCh r = tailCh n (textR r1 32) := by unfold readCh; rw [hr1, hnn]
  rw [hnn, hr1] at h140
  rw [hr1] at hn
  have hx := textR_ok hn 32
  have h145 := c145 r1 32 hn
  have hze := textR_err (r := r1) (m := 32)
  obtain ⟨q, hq⟩ : ∃ q, textR r1 32 = q := ⟨_, rfl⟩
  rw [hq] at h145 hR hx hze
  obtain ⟨s, r2⟩ := q
  refine SCalls.intro tok Proofs.Try.func79 ?_
  conv => whnf
  refine CallK.mk' _ _ (frR _ h140 ⟨trivial, trivial⟩ trivial) ?_
  conv => whnf
  refine CallK.mk' _ _ (frR _ h145 ⟨trivial, trivial⟩ trivial) ?_
  conv => whnf
  refine CallK.mk' _ _ ((c81 ⟨n, s⟩).free _ ⟨⟨trivial, trivial, trivial⟩, trivial⟩ trivial) ?_
  conv => whnf
  unfold tailCh at hR
  by_cases he : r2.e = 0
  · rw [if_neg (fun h => h he)] at hR
    cases hm : mayF ⟨n, s⟩ with
    | true =>
      rw [hm, if_pos rfl] at hR
      refine CaseB.of_false rfl ?_
      conv => whnf
      refine CallK.mk' _ _ (frR _ (c68 r2) trivial trivial) ?_
      conv => whnf
      refine CaseB.of_false (decide_eq_false (fun h => h he)) ?_
      conv => whnf
      rw [hR]
      exact RetK.of ⟨rfl, okGs.ws (by exact ⟨trivial, trivial, trivial, trivial⟩), trivial⟩ (by simp) (okF.wv ⟨trivial, trivial, trivial⟩)
    | false =>
      rw [hm, if_neg (by simp)] at hR
      refine CaseB.of_true rfl ?_
      conv => whnf
      refine CallK.mk' _ _ (frR _ (c146 r2 3) ⟨trivial, trivial⟩ trivial) ?_
      conv => whnf
      rw [failR_new he]
      refine CallK.mk' _ _ (frR _ (c68 ⟨[], 3⟩) trivial trivial) ?_
      conv => whnf
      refine CaseB.of_true (decide_eq_true (show (3 : Int) ≠ 0 by decide)) ?_
      conv => whnf
      rw [hR]
      exact RetK.of ⟨rfl, okGs.ws (by exact ⟨trivial, trivial, trivial, trivial⟩), trivial⟩ (by simp) (okF.wv ⟨trivial, trivial, trivial⟩)
  · rw [if_pos he] at hR
    have hs : s = [] := hze he
    subst hs
    rw [mayF_short]
    refine CaseB.of_true rfl ?_
    conv => whnf
    refine CallK.mk' _ _ (frR _ (c146 r2 3) ⟨trivial, trivial⟩ trivial) ?_
    conv => whnf
    rw [failR_err he]
    refine CallK.mk' _ _ (frR _ (c68 r2) trivial trivial) ?_
    conv => whnf
    refine CaseB.of_true (decide_eq_true he) ?_
    conv => whnf
    rw [hR]
    exact RetK.of ⟨rfl, okGs.ws (by exact ⟨trivial, trivial, trivial, trivial⟩), trivial⟩ (by simp) (okF.wv ⟨trivial, trivial, trivial⟩)

/-- baileyref22.Read -/
theorem c80 (r : Rd) (h : r.ok) : SCalls Proofs.Try.prog 80 [.s (.lf (.ptr 0 0))] [some (obQ r)] (vCh (readCh r).1) [some (obQ (readCh r).2)] := by
  have hn := numR_ok h 4611686018427387904
  have h140 := c147 r 4611686018427387904 h
  obtain ⟨n, hnn⟩ : ∃ n, (numR r 4611686018427387904).1 = n := ⟨_, rfl⟩
  obtain ⟨r1, hr1⟩ : ∃ r1, (numR r 4611686018427387904).2 = r1 := ⟨_, rfl⟩
  have hR : readCh r = tailCh n (textR r1 32) := by unfold readCh; rw [hr1, hnn]
  rw [hnn, hr1] at h140
  rw [hr1] at hn
  have hx := textR_ok hn 32
  have h145 := c149 r1 32 hn
  obtain ⟨q, hq⟩ : ∃ q, textR r1 32 = q := ⟨_, rfl⟩
  rw [hq] at h145 hR hx
  obtain ⟨s, r2⟩ := q
  refine SCalls.intro tok Proofs.Try.func80 ?_
  conv => whnf
  refine CallK.mk' _ _ (frQ _ h140 ⟨trivial, trivial⟩ trivial) ?_
  conv => whnf
  refine CallK.mk' _ _ (frQ _ h145 ⟨trivial, trivial⟩ trivial) ?_
  conv => whnf
  refine CallK.mk' _ _ (frQ _ (c69 r2) trivial trivial) ?_
  conv => whnf
  unfold tailCh at hR
  by_cases he : r2.e = 0
  · rw [if_neg (fun h => h he)] at hR
    repeat (refine CaseB.of_true (decide_eq_true he) ?_; conv => whnf)
    refine CallK.mk' _ _ ((c82 ⟨n, s⟩).free _ ⟨⟨trivial, trivial, trivial⟩, trivial⟩ trivial) ?_
    conv => whnf
    repeat (refine CaseB.of_true (decide_eq_true he) ?_; conv => whnf)
    cases hm : mayF ⟨n, s⟩ with
    | true =>
      rw [hm, if_pos rfl] at hR
      refine CaseB.of_false rfl ?_
      conv => whnf
      refine CallK.mk' _ _ (frQ _ (c69 r2) trivial trivial) ?_
      conv => whnf
      refine CaseB.of_false (decide_eq_false (fun h => h he)) ?_
      conv => whnf
      rw [hR]
      exact RetK.of ⟨rfl, okGs.ws (by exact ⟨trivial, trivial, trivial⟩), trivial⟩ (by simp) (okF.wv ⟨trivial, trivial, trivial⟩)
    | false =>
      rw [hm, if_neg (by simp)] at hR
      refine CaseB.of_true rfl ?_
      conv => whnf
      refine CallK.mk' _ _ (frQ _ (c148 r2 hx 3) ⟨trivial, trivial⟩ trivial) ?_
      conv => whnf
      rw [failR_new he]
      refine CallK.mk' _ _ (frQ _ (c69 ⟨[], 3⟩) trivial trivial) ?_
      conv => whnf
      refine CaseB.of_true (decide_eq_true (show (3 : Int) ≠ 0 by decide)) ?_
      conv => whnf
      rw [hR]
      exact RetK.of ⟨rfl, okGs.ws (by exact ⟨trivial, trivial, trivial⟩), trivial⟩ (by simp) (okF.wv ⟨trivial, trivial, trivial⟩)
  · rw [if_pos he] at hR
    repeat (refine CaseB.of_false (decide_eq_false he) ?_; conv => whnf)
    refine CallK.mk' _ _ (frQ _ (c69 r2) trivial trivial) ?_
    conv => whnf
    refine CaseB.of_true (decide_eq_true he) ?_
    conv => whnf
    rw [hR]
    exact RetK.of ⟨rfl, okGs.ws (by exact ⟨trivial, trivial, trivial⟩), trivial⟩ (by simp) (okF.wv ⟨trivial, trivial, trivial⟩)

theorem putCh_len (b : List UInt8) (c : ChS) : (putCh b c).length ≤ b.length + 18 + c.h.length := by
  have h1 := numF_length (max c.n 0).toNat
  have h2 := numF_length c.h.length
  have a1 := sz_le (max c.n 0).toNat
  have a2 := sz_le c.h.length
  unfold putCh
  simp only [List.length_append]
  omega
attribute [local irreducible] putCh mayF readCh

/-- baileylaw22.ChainCodes -/
theorem c13 (c : ChS) (b : List UInt8) (hlo : -9223372036854775808 ≤ c.n ∧ c.n ≤ 9223372036854775807) (hcl : c.h.length ≤ maxLen) (hbl : b.length ≤ maxLen) : SCalls Proofs.Try.prog 13 [vCh c, .s (.lf (.rob false false b))] [] (.s (.lf .tt)) [] := by
  have hm : maxLen = 9223372036854775807 := rfl
  have k41 := c41.free [some (obCh c)] trivial trivial
  refine SCalls.intro tok Proofs.Try.func13 ?_
  conv => whnf
  by_cases h1 : 300 < (c.h.length : Int)
  · repeat (refine CaseB.of_true (decide_eq_true h1) ?_; conv => whnf)
    refine CallK.mk' _ _ k41 ?_
    conv => whnf
    exact RetK.empty (okF.wv trivial)
  by_cases h2 : 1000 < (b.length : Int)
  · repeat ((first | refine CaseB.of_false (decide_eq_false h1) ?_ | refine CaseB.of_true (decide_eq_true h2) ?_); conv => whnf)
    refine CallK.mk' _ _ k41 ?_
    conv => whnf
    exact RetK.empty (okF.wv trivial)
  repeat ((first | refine CaseB.of_false (decide_eq_false h1) ?_ | refine CaseB.of_false (decide_eq_false h2) ?_); conv => whnf)
  have h0 : (⟨b, 0⟩ : Rd).ok := ⟨fun h => absurd rfl h, by show IntKind.i64.min ≤ 0; decide, by show (0 : Int) ≤ IntKind.i64.max; decide, by show b.length ≤ _; omega⟩
  have hqo := readCh_ok h0
  have k79 := c79 ⟨b, 0⟩ h0
  have k80 := c80 ⟨b, 0⟩ h0
  obtain ⟨p, hp⟩ : ∃ p, readCh ⟨b, 0⟩ = p := ⟨_, rfl⟩
  rw [hp] at k79 k80 hqo
  obtain ⟨x, q⟩ := p
  have k64 := (c64 b (by omega)).made [some (obCh c)] (Hn := [some (obR ⟨b, 0⟩)]) (cs := [.s (.lf (.rob false false b))]) (rc := .s (.lf (.ptr 1 0))) ⟨freeF.wv trivial, trivial⟩ (WV.lf (WL.uptr rfl)) ⟨rfl, obR_ws _, trivial⟩
  have k65 := (c65 b (by omega)).made [some (obCh c), some (obR ⟨b, 0⟩)] (Hn := [some (obQ ⟨b, 0⟩)]) (cs := [.s (.lf (.rob false false b))]) (rc := .s (.lf (.ptr 2 0))) ⟨freeF.wv trivial, trivial⟩ (WV.lf (WL.uptr rfl)) ⟨rfl, obQ_ws _, trivial⟩
  refine CallK.mk' _ _ k64 ?_
  conv => whnf
  refine CallK.mk' _ _ k65 ?_
  conv => whnf
  refine CallK.mk' _ _ (frRi _ 1 k79 rfl trivial ⟨trivial, trivial, trivial⟩) ?_
  conv => whnf
  refine CallK.mk' _ _ (frQi _ 2 k80 rfl trivial ⟨trivial, trivial, trivial⟩) ?_
  conv => whnf
  obtain ⟨H5, hH5⟩ : ∃ H5, H5 = [some (obCh c), some (obR q), some (obQ q), some (obCh x), some (obCh x)] := ⟨_, rfl⟩
  have k68 := frRi H5 1 (c68 q) (by rw [hH5]; rfl) trivial trivial
  have k70 := frRi H5 1 (c70 q hqo) (by rw [hH5]; rfl) trivial trivial
  have k69 := frQi H5 2 (c69 q) (by rw [hH5]; rfl) trivial trivial
  have k71 := frQi H5 2 (c71 q) (by rw [hH5]; rfl) trivial trivial
  have k81 := (c81 c).free H5 ⟨⟨trivial, trivial, trivial⟩, trivial⟩ trivial
  have k82 := (c82 c).free H5 ⟨⟨trivial, trivial, trivial⟩, trivial⟩ trivial
  have hpl := putCh_len b c
  have hpl' := putCh_len [] c
  have k83 := (c83 [] c (by simp) (by omega) hlo).pure H5 (cs := [.s (.lf .sl0), vCh c]) (rc := .s (.lf (.rob true false (putCh [] c)))) ⟨WV.lf WL.sl0rob', freeF.wv ⟨trivial, trivial, trivial⟩, trivial⟩ (WV.lf (WL.rob rfl (by simp) (by simp)))
  have k64' := (c64 (putCh [] c) (by simp only [List.length_nil] at hpl'; omega)).made H5 (Hn := [some (obR ⟨putCh [] c, 0⟩)]) (cs := [.s (.lf (.rob true false (putCh [] c)))]) (rc := .s (.lf (.ptr 5 0))) ⟨WV.lf toRob, trivial⟩ (WV.lf (WL.uptr (by rw [hH5]; rfl))) ⟨rfl, obR_ws _, trivial⟩
  obtain ⟨H6, hH6⟩ : ∃ H6, H6 = H5 ++ [some (obR ⟨putCh [] c, 0⟩)] := ⟨_, rfl⟩
  have k81b := (c81 c).free H6 ⟨⟨trivial, trivial, trivial⟩, trivial⟩ trivial
  have k83b := (c83 b c (by omega) (by omega) hlo).pure H6 (cs := [.s (.lf (.rob false false b)), vCh c]) (rc := .s (.lf (.rob true false (putCh b c)))) ⟨freeF.wv trivial, freeF.wv ⟨trivial, trivial, trivial⟩, trivial⟩ (WV.lf (WL.rob rfl (by simp) (by simp)))
  have k84b := (c84 b c (by omega) (by omega) hlo).pure H6 (cs := [.s (.lf (.rob false false b)), vCh c]) (rc := .s (.lf (.rob true false (putCh b c)))) ⟨freeF.wv trivial, freeF.wv ⟨trivial, trivial, trivial⟩, trivial⟩ (WV.lf (WL.rob rfl (by simp) (by simp)))
  have k57 := (c57 (putCh b c) (putCh b c) (by omega)).pure H6 (cs := [.s (.lf (.rob true false (putCh b c))), .s (.lf (.rob true false (putCh b c)))]) ⟨WV.lf toRob, WV.lf toRob, trivial⟩ (freeF.wv trivial)
  rw [show decide (putCh b c = putCh b c) = true from decide_eq_true rfl] at k57
  have k41b := c41.free H6 trivial trivial
  rw [hH5] at hH6
  subst hH5
  refine DrawK.mk1 tok mixed [0, 0, 3, 7, 15, 31, 15, 127, 255, 511, 1023, 2047, 4095, 2047, 16383, 32767, 65535, 131071, 262143, 524287, 262143, 2097151, 4194303, 8388607] [(0, 1, [0]), (1, 1, [0]), (2, 1, [0]), (3, 0, []), (4, 0, []), (5, 2, []), (6, 0, []), (7, 2, []), (8, 0, []), (9, 0, []), (10, 0, []), (11, 0, []), (12, 2, []), (13, 0, []), (14, 2, []), (15, 0, []), (16, 0, []), (17, 0, []), (18, 1, [0]), (19, 1, [0]), (20, 1, [0]), (21, 1, [0]), (22, 0, []), (23, 0, [])] (by kernel_rfl) ?_
  conv => whnf
  repeat ((first | refine CaseB.of_false (ch_neq_f rfl) ?_ | refine CallK.mk' _ _ k68 ?_ | refine CallK.mk' _ _ k69 ?_ | refine CallK.mk' _ _ k70 ?_ | refine CallK.mk' _ _ k71 ?_ | refine CallR.mk' _ k81 ?_ | refine CallR.mk' _ k82 ?_ | refine CaseB.of_false (decide_eq_false fun h => h rfl) ?_ | refine CaseB.of_false (by simp : (!mayF c == mayF c) = false) ?_ | refine And.intro rfl ?_); conv => whnf)
  refine CallK.mk' _ _ k83 ?_
  conv => whnf
  refine CallK.mk' _ _ k64' ?_
  conv => whnf
  refine DrawK.mk1 tok mixed [0, 0, 3, 0, 0, 31, 63, 127, 255, 511, 1023, 2047, 4095, 8191, 4095, 32767, 65535, 131071, 262143, 524287, 1048575, 2097151, 4194303, 8388607, 16777215, 33554431, 67108863] [(0, 0, []), (3, 0, []), (1, 1, [0]), (2, 1, [0]), (4, 1, [0]), (5, 1, [0]), (6, 1, [0]), (7, 0, []), (8, 1, [0]), (9, 1, [0]), (10, 0, []), (11, 0, []), (12, 0, []), (13, 2, []), (14, 1, [0, 1]), (15, 1, [0]), (16, 0, []), (17, 0, []), (18, 2, []), (19, 0, []), (20, 0, []), (21, 0, []), (22, 0, []), (23, 0, []), (24, 1, [0]), (25, 0, []), (26, 0, [])] (by kernel_rfl) ?_
  conv => whnf
  have hok6 : (⟨putCh [] c, 0⟩ : Rd).ok := ⟨fun h => absurd rfl h, by show IntKind.i64.min ≤ 0; decide, by show (0 : Int) ≤ IntKind.i64.max; decide, by show (putCh [] c).length ≤ _; simp only [List.length_nil] at hpl'; omega⟩
  have hokn : (⟨[], 0⟩ : Rd).ok := ⟨fun h => absurd rfl h, by show IntKind.i64.min ≤ 0; decide, by show (0 : Int) ≤ IntKind.i64.max; decide, by simp⟩
  cases hy : mayF c with
  | false =>
    rw [hy] at k81b
    subst hH6
    repeat ((first | refine CallR.mk' _ k83b ?_ | refine CallR.mk' _ k84b ?_ | refine CallR.mk' _ k57 ?_ | refine CallR.mk' _ k81b ?_ | refine CallR.mk' _ k41b ?_ | refine CaseB.of_true rfl ?_ | refine And.intro rfl ?_); conv => whnf)
    exact RetK.empty (okF.wv trivial)
  | true =>
    rw [hy] at k81b
    have k79b := c79 _ hok6
    rw [readCh_put c hy] at k79b
    have k79c := frRi H6 5 k79b (by rw [hH6]; rfl) trivial ⟨trivial, trivial, trivial⟩
    have k85 := frRi (H6.set 5 (some (obR ⟨[], 0⟩))) 5 (c85 ⟨[], 0⟩ hokn) (by rw [hH6]; rfl) trivial trivial
    have k41c := c41.free (H6.set 5 (some (obR ⟨[], 0⟩))) trivial trivial
    subst hH6
    repeat ((first | refine CallR.mk' _ k83b ?_ | refine CallR.mk' _ k84b ?_ | refine CallR.mk' _ k57 ?_ | refine CallR.mk' _ k81b ?_ | refine CallK.mk' _ _ k79c ?_ | refine CallK.mk' _ _ k85 ?_ | refine CallR.mk' _ k41c ?_ | refine CaseB.of_true rfl ?_ | refine CaseB.of_false rfl ?_ | refine CaseB.of_true (chEq_t rfl) ?_ | refine And.intro rfl ?_); conv => whnf)
    exact RetK.empty (okF.wv trivial)
end Go.Sym.Md

set_option linter.unusedVariables false
set_option linter.unusedSimpArgs false
namespace Go.Sym.Md
open Go Go.Sym

theorem rd_chain {w : World} {v : Value} {g : Nat → LV} (r : RdL Γ 6 40 g 0) (k : ∀ l, tot l = (tget Γ 40).size → (∀ o, o < tot l → cellD l o = g o) → repF w L0 (.s (.agg l)) v) : ∃ c : ChS, (-9223372036854775808 ≤ c.n ∧ c.n ≤ 9223372036854775807) ∧ c.h.length ≤ maxLen ∧ repF w L0 (vCh c) v := by
  obtain ⟨⟨a, h1, h2, e0⟩, ⟨s, hs, e1⟩, _⟩ := r
  refine ⟨⟨a, s⟩, ⟨h1, h2⟩, hs, k _ (by kernel_rfl) fun o ho => ?_⟩
  have ho : o < 2 := ho
  have : o = 0 ∨ o = 1 := by omega
  rcases this with rfl | rfl
  · exact e0.symm
  · exact e1.symm
end Go.Sym.Md

