/- Contracts of the program's functions, proved by the framework (text MdK), without conditions but those that each theorem states. -/
import Derived.Test.YtlmcdgbjbamdnaaMdJ
set_option linter.unusedVariables false
set_option linter.unusedSimpArgs false
set_option maxRecDepth 10000
namespace Go.Sym.Md
open Go Go.Sym Go.Sym.Sh

/-! ### Chains -/
structure ChS where
  n : Int
  h : List UInt8
  deriving DecidableEq
abbrev vCh (c : ChS) : FV := .s (.agg [.one (.int .i64 c.n), .one (.str c.h)])
abbrev obCh (c : ChS) : OB := ⟨40, [.one (.int .i64 c.n), .one (.str c.h)]⟩
theorem obCh_ws {D : Rel} (c : ChS) : WSs D (obCh c).segs (obCh c).segs := plainGs.ws ⟨trivial, trivial, trivial⟩

def linkF (c : ChS) (t : List UInt8) : ChS := ⟨min c.n 4611686018427387903 + 1, shaF (c.h ++ numF (max c.n 0).toNat ++ t)⟩
def allF (c : ChS) (l : List (List UInt8)) : ChS := l.foldl linkF c

attribute [local irreducible] ws acc rs addUp Kw highA highB Sh.choose most lowA lowB ror blockF writeF padF toldF shaF numF sz

/-- chain.linked, and Sum -/
theorem c131 (c : ChS) (t : List UInt8) (hh : c.h.length ≤ 1000000) (ht : t.length ≤ 1000000) (hlo : -9223372036854775808 ≤ c.n ∧ c.n ≤ 9223372036854775807) : SCalls Proofs.Try.prog 131 [vCh c, .s (.lf (.rob false false t))] [] (.s (.lf (.ptr 0 0))) [some (obSt (writeF (writeF (writeF st0 c.h) (numF (max c.n 0).toNat)) t))] := by
  obtain ⟨m, hm⟩ : ∃ m : Nat, max c.n 0 = m := ⟨(max c.n 0).toNat, by omega⟩
  rw [hm, Int.toNat_natCast]
  have hnl := numF_length m
  have h9 := sz_le m
  have k1 := writeF_ok st0_ok c.h
  have k2 := writeF_ok k1 (numF m)
  have n1 : (writeF st0 c.h).n = c.h.length := by rw [writeF_n]; show 0 + _ = _; omega
  have n2 : (writeF (writeF st0 c.h) (numF m)).n = c.h.length + sz m := by rw [writeF_n, n1, hnl]
  refine SCalls.intro tok Proofs.Try.func131 ?_
  conv => whnf
  refine CallK.mk' (.s (.lf (.ptr 1 0))) _ (c185.made [some (obCh c)] (Hn := [some (obSt st0)]) trivial (WV.lf (WL.uptr rfl)) ⟨rfl, obSt_ws _, trivial⟩) ?_
  conv => whnf
  refine Or.inr ?_
  conv => whnf
  refine CallK.mk' _ [some (obCh c), some (obSt (writeF st0 c.h))] ((c186 st0 st0_ok c.h (by show 0 + _ < _; omega)).frame1 (H := [some (obCh c), some (obSt st0)]) (nm := 1) (rc := .tup []) rfl rfl (obSt_ws _) ⟨WV.lf (WL.ptr rfl rfl), WV.lf (WL.rob rfl (by simp) (by simp)), trivial⟩ rfl (obSt_ws _) (freeF.wv trivial)) ?_
  conv => whnf
  refine CallK.mk' (.s (.lf (.own 2 0 1 0 (numF m).length))) _ ((c137 [] c.n m hm (by omega) (by simp)).made [some (obCh c), some (obSt (writeF st0 c.h))] (Hn := [some ⟨5, [.bytes (numF m).length (numF m)]⟩]) ⟨WV.lf WL.sl0rob', freeF.wv trivial, trivial⟩ (WV.lf (WL.uown rfl rfl rfl)) ⟨rfl, ⟨.bytes rfl fun _ _ => rfl, trivial⟩, trivial⟩) ?_
  conv => whnf
  refine CallK.mk' _ [some (obCh c), some (obSt (writeF (writeF st0 c.h) (numF m))), some ⟨5, [.bytes (numF m).length (numF m)]⟩] ((c186 _ k1 (numF m) (by rw [n1]; omega)).frame1l (H := [some (obCh c), some (obSt (writeF st0 c.h)), some ⟨5, [.bytes (numF m).length (numF m)]⟩]) (fun _ => False) (nm := 1) (rc := .tup []) rfl rfl (fun h => h) (obSt_ws _)
    ⟨WV.lf (WL.ptr rfl rfl), WV.lf (WL.lent (ty := 5) rfl rfl ⟨fun h => h, fun i ob h => by simp⟩), trivial⟩ rfl (obSt_ws _) (plainF.wv trivial)) ?_
  conv => whnf
  refine CallK.mk' _ [some (obCh c), some (obSt (writeF (writeF (writeF st0 c.h) (numF m)) t)), some ⟨5, [.bytes (numF m).length (numF m)]⟩] ((c186 _ k2 t (by rw [n2]; omega)).frame1 (H := [some (obCh c), some (obSt (writeF (writeF st0 c.h) (numF m))), some ⟨5, [.bytes (numF m).length (numF m)]⟩]) (nm := 1) (rc := .tup []) rfl rfl (obSt_ws _) ⟨WV.lf (WL.ptr rfl rfl), freeF.wv trivial, trivial⟩ rfl (obSt_ws _) (freeF.wv trivial)) ?_
  conv => whnf
  exact RetK.perm [1] ⟨⟨rfl, obSt_ws _⟩, trivial⟩ (WV.lf (WL.ptr rfl rfl)) rfl (by simp) rfl (by simp)

/-- chain.Link -/
theorem c42 (c : ChS) (t : List UInt8) (hh : c.h.length ≤ 1000000) (ht : t.length ≤ 1000000) (hlo : -9223372036854775808 ≤ c.n ∧ c.n ≤ 9223372036854775807) : SCalls Proofs.Try.prog 42 [vCh c, .s (.lf (.rob false false t))] [] (vCh (linkF c t)) [] := by
  have hnl := numF_length (max c.n 0).toNat
  have h9 := sz_le (max c.n 0).toNat
  have k1 := writeF_ok st0_ok c.h
  have k2 := writeF_ok k1 (numF (max c.n 0).toNat)
  have k3 := writeF_ok k2 t
  have n1 : (writeF st0 c.h).n = c.h.length := by rw [writeF_n]; show 0 + _ = _; omega
  have n2 : (writeF (writeF st0 c.h) (numF (max c.n 0).toNat)).n = c.h.length + sz (max c.n 0).toNat := by rw [writeF_n, n1, hnl]
  have n3 : (writeF (writeF (writeF st0 c.h) (numF (max c.n 0).toNat)) t).n = c.h.length + sz (max c.n 0).toNat + t.length := by rw [writeF_n, n2]
  have hs : shaF (c.h ++ numF (max c.n 0).toNat ++ t) = sumF (writeF (writeF (writeF st0 c.h) (numF (max c.n 0).toNat)) t) := by
    rw [shaF, writeF_append, writeF_append]
  refine SCalls.intro tok Proofs.Try.func42 ?_
  conv => whnf
  refine CallK.mk' (.s (.lf (.ptr 2 0))) _ ((c131 c t hh ht hlo).made [some (obCh c), some (obCh ⟨0, []⟩)] (Hn := [some (obSt (writeF (writeF (writeF st0 c.h) (numF (max c.n 0).toNat)) t))]) ⟨freeF.wv ⟨trivial, trivial, trivial⟩, freeF.wv trivial, trivial⟩ (WV.lf (WL.uptr rfl)) ⟨rfl, obSt_ws _, trivial⟩) ?_
  conv => whnf
  refine CallK.mk' _ [some (obCh c), some (obCh ⟨0, []⟩), some (obSt (writeF (writeF (writeF st0 c.h) (numF (max c.n 0).toNat)) t))] ((c132 _ k3 (by rw [n3]; omega)).frame1 (H := [some (obCh c), some (obCh ⟨0, []⟩), some (obSt (writeF (writeF (writeF st0 c.h) (numF (max c.n 0).toNat)) t))]) (nm := 2) rfl rfl (obSt_ws _) ⟨WV.lf (WL.ptr rfl rfl), trivial⟩ rfl (obSt_ws _) (freeF.wv trivial)) ?_
  conv => whnf
  exact RetK.empty (WV.agg ⟨.one (WL.int (by rw [wrap_i64 (by omega) (by omega)]; rfl)), .one (WL.str hs.symm), trivial⟩)

/-- baileyref22.Link -/
theorem c43 (c : ChS) (t : List UInt8) (hh : c.h.length ≤ 400000) (ht : t.length ≤ 400000) (hlo : -9223372036854775808 ≤ c.n ∧ c.n ≤ 9223372036854775807) : SCalls Proofs.Try.prog 43 [vCh c, .s (.lf (.rob false false t))] [] (vCh (linkF c t)) [] := by
  obtain ⟨m, hm⟩ : ∃ m : Nat, max c.n 0 = m := ⟨(max c.n 0).toNat, by omega⟩
  have hnl := numF_length m
  have h9 := sz_le m
  refine SCalls.intro tok Proofs.Try.func43 ?_
  conv => whnf
  refine Or.inr ?_
  conv => whnf
  refine CallK.mk' (.s (.lf (.own 2 0 1 0 (c.h ++ numF m).length))) _ ((c133 c.h c.n m hm (by omega) (by omega)).made [some (obCh c), some (obCh ⟨0, []⟩)] (Hn := [some ⟨5, [.bytes (c.h ++ numF m).length (c.h ++ numF m)]⟩]) ⟨WV.lf (WL.rob rfl (by simp) (by simp)), freeF.wv trivial, trivial⟩ (WV.lf (WL.uown rfl rfl rfl)) ⟨rfl, ⟨.bytes rfl fun _ _ => rfl, trivial⟩, trivial⟩) ?_
  conv => whnf
  refine And.intro ⟨rfl, rfl, by rw [List.length_append, List.length_append]; omega⟩ ?_
  conv => whnf
  refine DrawK.mk1 tok mixed [0, 1, 3, 7, 0, 16, 63, 127] [(4, 0, []), (5, 2, []), (0, 1, [0, 1]), (1, 1, [0, 1]), (2, 1, [0, 1]), (3, 0, []), (6, 0, []), (7, 2, [])] (by kernel_rfl) ?_
  conv => whnf
  refine CallK.mk' _ _ ((c134 (c.h ++ numF m ++ t) (by rw [List.length_append, List.length_append]; omega)).lend (cs := [.s (.lf (.own 3 0 1 0 (c.h ++ numF m ++ t).length))]) (fun _ => False) [some (obCh c), some (obCh ⟨0, []⟩), none, some ⟨5, [.bytes (c.h ++ numF m ++ t).length (c.h ++ numF m ++ t)]⟩] ⟨WV.lf (WL.lent (ty := 5) rfl rfl ⟨fun h => h, fun i ob h => by simp at h⟩), trivial⟩ (plainF.wv trivial)) ?_
  conv => whnf
  refine And.intro rfl ?_
  conv => whnf
  refine And.intro rfl ?_
  conv => whnf
  repeat (refine And.intro rfl ?_; conv => whnf)
  refine RetK.empty (WV.agg ⟨.one (WL.int (by rw [wrap_i64 (by omega) (by omega)]; rfl)), .one (WL.str ?_), trivial⟩)
  show _ = shaF _
  rw [hm, Int.toNat_natCast]

/-- chain.Start -/
theorem c48 : SCalls Proofs.Try.prog 48 [] [] (vCh ⟨0, List.replicate 32 0⟩) [] := by
  refine SCalls.intro tok Proofs.Try.func48 ?_
  conv => whnf
  refine And.intro (by simp [maxLen]) ?_
  conv => whnf
  refine And.intro ⟨by decide, by decide⟩ ?_
  conv => whnf
  exact RetK.empty (okF.wv ⟨trivial, trivial, trivial⟩)

/-- baileyref22.Start -/
theorem c49 : SCalls Proofs.Try.prog 49 [] [] (vCh ⟨0, List.replicate 32 0⟩) [] := by
  refine SCalls.intro tok Proofs.Try.func49 ?_
  conv => whnf
  refine And.intro ⟨by decide, by decide, by decide⟩ ?_
  conv => whnf
  refine And.intro ⟨by decide, by decide⟩ ?_
  conv => whnf
  exact RetK.empty (okF.wv ⟨trivial, trivial, trivial⟩)

/-! ### Links in a list -/
structure Pcs (len : Nat) (f : Nat → Nat → LV) (xs : Nat → List UInt8) : Prop where
  el : ∀ i, i < len → (f i 0 = .sl0 ∧ xs i = []) ∨ f i 0 = .rob true false (xs i)
abbrev vP (len : Nat) (f : Nat → Nat → LV) : FV := .s (.lf (.ro false false 1 len f))
def upF (c : ChS) (xs : Nat → List UInt8) : Nat → ChS
  | 0 => c
  | i + 1 => linkF (upF c xs i) (xs i)

theorem Pcs.ok {len : Nat} {f : Nat → Nat → LV} {xs : Nat → List UInt8} (h : Pcs len f xs) {H : Hp} : okF H (vP len f) := by
  intro i hi j hj
  obtain rfl : j = 0 := by omega
  rcases h.el i hi with ⟨e, _⟩ | e <;> rw [e] <;> trivial
theorem Pcs.wl {D : Rel} [ROk D] {len : Nat} {f : Nat → Nat → LV} {xs : Nat → List UInt8} (h : Pcs len f xs) {i j : Nat} (hi : i < len) (hj : j < 1) : WL D (f i j) (f i j) := by
  obtain rfl : j = 0 := by omega
  rcases h.el i hi with ⟨e, _⟩ | e <;> rw [e]
  · exact WL.sl0
  · exact WL.rob rfl (by simp) (by simp)
theorem Pcs.wl' {D : Rel} [ROk D] {len : Nat} {f : Nat → Nat → LV} {xs : Nat → List UInt8} (h : Pcs len f xs) {i : Nat} (hi : i < len) : WL D (f i 0) (.rob false false (xs i)) := by
  rcases h.el i hi with ⟨e, e'⟩ | e
  · rw [e, e']; exact WL.sl0rob'
  · rw [e]; exact WL.rob rfl (by simp) (by simp)

theorem linkF_range (c : ChS) (h : -9223372036854775808 ≤ c.n ∧ c.n ≤ 9223372036854775807) (t : List UInt8) : -9223372036854775808 ≤ (linkF c t).n ∧ (linkF c t).n ≤ 9223372036854775807 ∧ (linkF c t).h.length = 32 := by
  refine ⟨?_, ?_, shaF_length _⟩
  · show _ ≤ min c.n 4611686018427387903 + 1; omega
  · show min c.n 4611686018427387903 + 1 ≤ _; omega
theorem upF_range (c : ChS) (xs : Nat → List UInt8) (h : -9223372036854775808 ≤ c.n ∧ c.n ≤ 9223372036854775807) (hh : c.h.length ≤ 400000) (i : Nat) : (-9223372036854775808 ≤ (upF c xs i).n ∧ (upF c xs i).n ≤ 9223372036854775807) ∧ (upF c xs i).h.length ≤ 400000 := by
  induction i with
  | zero => exact ⟨h, hh⟩
  | succ i ih =>
    have := linkF_range _ ih.1 (xs i)
    exact ⟨⟨this.1, this.2.1⟩, by show (linkF _ _).h.length ≤ _; omega⟩

/-- chain.links -/
theorem c135 (c : ChS) (len : Nat) (f : Nat → Nat → LV) (xs : Nat → List UInt8) (hp : Pcs len f xs) (hl : len ≤ 1000000) (hx : ∀ i, i < len → (xs i).length ≤ 400000) (hh : c.h.length ≤ 400000) (hlo : -9223372036854775808 ≤ c.n ∧ c.n ≤ 9223372036854775807) : SCalls Proofs.Try.prog 135 [vCh c, vP len f] [] (vCh (upF c xs len)) [] := by
  refine SCalls.intro tok Proofs.Try.func135 ?_
  conv => whnf
  refine LoopK.mk1 (fun i : Nat => [(2, .s (.lf (.ptr 0 0))), (4, .s (.lf (.ptr 1 0))), (7, vP len f), (8, vI len), (9, vI i)]) (fun i => [some (obCh (upF c xs i)), some (obCh ⟨0, []⟩)]) (fun i => i ≤ len) (fun i => len - i) 0 (by omega) ?_ ?_
  · exact Weak.of ⟨rfl, okGs.ws (by exact ⟨trivial, trivial, trivial⟩), rfl, okGs.ws (by exact ⟨trivial, trivial, trivial⟩), trivial⟩ (by simp) ⟨okF.wv rfl, okF.wv rfl, okF.wv hp.ok, okF.wv trivial, okF.wv trivial, trivial⟩
  intro i hi
  conv => whnf
  by_cases hl : i < len
  · refine CaseB.of_true (decide_eq_true (by omega)) ?_
    conv => whnf
    refine And.intro (by omega) ?_
    conv => whnf
    have hr := upF_range c xs hlo hh i
    have hxi := hx i hl
    have hL : ∀ u : LV, (∀ D : Rel, ROk D → WL D u (.rob false false (xs i))) → SCalls Proofs.Try.prog 42 [vCh (upF c xs i), .s (.lf u)] [some (obCh (upF c xs i)), some (obCh ⟨0, []⟩)] (vCh (upF c xs (i + 1))) [some (obCh (upF c xs i)), some (obCh ⟨0, []⟩)] := fun u hu =>
      (c42 (upF c xs i) (xs i) (by omega) (by omega) (by omega)).lend (fun _ => True) _ ⟨freeF.wv ⟨trivial, trivial, trivial⟩, WV.lf (hu _ inferInstance), trivial⟩ (plainF.wv ⟨trivial, trivial, trivial⟩)
    rcases hp.el i hl with ⟨e1, e2⟩ | e1
    · rw [show f (Int.toNat (i : Int)) 0 = .sl0 from e1]
      conv => whnf
      refine CallK.mk' _ _ (hL .sl0 (fun D _ => by rw [e2]; exact WL.sl0rob')) ?_
      conv => whnf
      refine ⟨i + 1, by omega, by omega, ?_⟩
      exact Weak.of ⟨rfl, ⟨.one (WL.int rfl), .one (WL.str rfl), trivial⟩, rfl, okGs.ws (by exact ⟨trivial, trivial, trivial⟩), trivial⟩ (by simp) ⟨okF.wv rfl, okF.wv rfl, okF.wv hp.ok, okF.wv trivial, WV.lf (WL.int (by rw [wrap_i64 (by omega) (by omega)]; omega)), trivial⟩
    · rw [show f (Int.toNat (i : Int)) 0 = .rob true false (xs i) from e1]
      conv => whnf
      refine CallK.mk' _ _ (hL _ (fun D _ => WL.rob rfl (by simp) (by simp))) ?_
      conv => whnf
      refine ⟨i + 1, by omega, by omega, ?_⟩
      exact Weak.of ⟨rfl, ⟨.one (WL.int rfl), .one (WL.str rfl), trivial⟩, rfl, okGs.ws (by exact ⟨trivial, trivial, trivial⟩), trivial⟩ (by simp) ⟨okF.wv rfl, okF.wv rfl, okF.wv hp.ok, okF.wv trivial, WV.lf (WL.int (by rw [wrap_i64 (by omega) (by omega)]; omega)), trivial⟩
  · refine CaseB.of_false (decide_eq_false (by omega)) ?_
    conv => whnf
    obtain rfl : i = len := by omega
    exact RetK.empty (okF.wv ⟨trivial, trivial, trivial⟩)

/-- baileyref22.All -/
theorem c45 (c : ChS) (len : Nat) (f : Nat → Nat → LV) (xs : Nat → List UInt8) (hp : Pcs len f xs) (hl : len ≤ 1000000) (hx : ∀ i, i < len → (xs i).length ≤ 400000) (hh : c.h.length ≤ 400000) (hlo : -9223372036854775808 ≤ c.n ∧ c.n ≤ 9223372036854775807) : SCalls Proofs.Try.prog 45 [vCh c, vP len f] [] (vCh (upF c xs len)) [] := by
  refine SCalls.intro tok Proofs.Try.func45 ?_
  conv => whnf
  refine LoopK.mk1 (fun i : Nat => [(2, .s (.lf (.ptr 0 0))), (4, .s (.lf (.ptr 1 0))), (1, vP len f), (5, vI i)]) (fun i => [some (obCh (upF c xs i)), some (obCh ⟨0, []⟩)]) (fun i => i ≤ len) (fun i => len - i) 0 (by omega) ?_ ?_
  · exact Weak.of ⟨rfl, okGs.ws (by exact ⟨trivial, trivial, trivial⟩), rfl, okGs.ws (by exact ⟨trivial, trivial, trivial⟩), trivial⟩ (by simp) ⟨okF.wv rfl, okF.wv rfl, okF.wv hp.ok, okF.wv trivial, trivial⟩
  intro i hi
  conv => whnf
  by_cases hl : i < len
  · refine CaseB.of_true (decide_eq_true (by omega)) ?_
    conv => whnf
    refine DrawK.mk1 tok mixed [0, 0, 0, 6, 14, 31, 63] [(1, 0, []), (2, 0, []), (0, 1, [0]), (3, 1, [0]), (4, 1, [0]), (5, 2, []), (6, 2, [])] (by kernel_rfl) ?_
    conv => whnf
    refine And.intro (by omega) ?_
    conv => whnf
    have hr := upF_range c xs hlo hh i
    have hxi := hx i hl
    have hL : ∀ u : LV, (∀ D : Rel, ROk D → WL D u (.rob false false (xs i))) → SCalls Proofs.Try.prog 43 [vCh (upF c xs i), .s (.lf u)] [some (obCh (upF c xs i)), some (obCh ⟨0, []⟩)] (vCh (upF c xs (i + 1))) [some (obCh (upF c xs i)), some (obCh ⟨0, []⟩)] := fun u hu =>
      (c43 (upF c xs i) (xs i) (by omega) (by omega) (by omega)).lend (fun _ => True) _ ⟨freeF.wv ⟨trivial, trivial, trivial⟩, WV.lf (hu _ inferInstance), trivial⟩ (plainF.wv ⟨trivial, trivial, trivial⟩)
    rcases hp.el i hl with ⟨e1, e2⟩ | e1
    · rw [show f (Int.toNat (i : Int)) 0 = .sl0 from e1]
      conv => whnf
      refine CallK.mk' _ _ (hL .sl0 (fun D _ => by rw [e2]; exact WL.sl0rob')) ?_
      conv => whnf
      refine ⟨i + 1, by omega, by omega, ?_⟩
      exact Weak.of ⟨rfl, ⟨.one (WL.int rfl), .one (WL.str rfl), trivial⟩, rfl, okGs.ws (by exact ⟨trivial, trivial, trivial⟩), trivial⟩ (by simp) ⟨okF.wv rfl, okF.wv rfl, okF.wv hp.ok, WV.lf (WL.int (by rw [wrap_i64 (by omega) (by omega)]; omega)), trivial⟩
    · rw [show f (Int.toNat (i : Int)) 0 = .rob true false (xs i) from e1]
      conv => whnf
      refine CallK.mk' _ _ (hL _ (fun D _ => WL.rob rfl (by simp) (by simp))) ?_
      conv => whnf
      refine ⟨i + 1, by omega, by omega, ?_⟩
      exact Weak.of ⟨rfl, ⟨.one (WL.int rfl), .one (WL.str rfl), trivial⟩, rfl, okGs.ws (by exact ⟨trivial, trivial, trivial⟩), trivial⟩ (by simp) ⟨okF.wv rfl, okF.wv rfl, okF.wv hp.ok, WV.lf (WL.int (by rw [wrap_i64 (by omega) (by omega)]; omega)), trivial⟩
  · refine CaseB.of_false (decide_eq_false (by omega)) ?_
    conv => whnf
    obtain rfl : i = len := by omega
    exact RetK.empty (okF.wv ⟨trivial, trivial, trivial⟩)

/-- chain.All -/
theorem c44 (c : ChS) (len : Nat) (f : Nat → Nat → LV) (xs : Nat → List UInt8) (hp : Pcs len f xs) (hl : len ≤ 1000000) (hx : ∀ i, i < len → (xs i).length ≤ 400000) (hh : c.h.length ≤ 400000) (hlo : -9223372036854775808 ≤ c.n ∧ c.n ≤ 9223372036854775807) : SCalls Proofs.Try.prog 44 [vCh c, vP len f] [] (vCh (upF c xs len)) [] := by
  have hL := (c135 c len f xs hp hl hx hh hlo).lend (cs := [vCh c, vP len f]) (fun _ => True) [some (obCh c), some (obCh ⟨0, []⟩)] ⟨freeF.wv ⟨trivial, trivial, trivial⟩, WV.lf (WL.ro rfl (by simp) (by simp) fun i hi j hj => hp.wl hi hj), trivial⟩ (plainF.wv ⟨trivial, trivial, trivial⟩)
  refine SCalls.intro tok Proofs.Try.func44 ?_
  conv => whnf
  refine CallK.mk' _ _ hL ?_
  conv => whnf
  exact RetK.empty (okF.wv ⟨trivial, trivial, trivial⟩)

theorem ch_eq (a b : ChS) : a = b ↔ a.n = b.n ∧ a.h = b.h := by cases a; cases b; simp
theorem ch_neq_f {x y : ChS} (h : x = y) : (!(decide (x.n = y.n) && (decide (x.h = y.h) && true))) = false := by subst h; simp
theorem ch_neq_t {x y : ChS} (h : ¬ x = y) : (!(decide (x.n = y.n) && (decide (x.h = y.h) && true))) = true := by
  rw [ch_eq] at h
  simp only [Bool.and_true]
  by_cases h1 : x.n = y.n <;> by_cases h2 : x.h = y.h <;> simp_all

/-- chain.Check -/
theorem c46 (c d : ChS) (len : Nat) (f : Nat → Nat → LV) (xs : Nat → List UInt8) (hp : Pcs len f xs) (hl : len ≤ 1000000) (hx : ∀ i, i < len → (xs i).length ≤ 400000) (hh : c.h.length ≤ 400000) (hlo : -9223372036854775808 ≤ c.n ∧ c.n ≤ 9223372036854775807) : SCalls Proofs.Try.prog 46 [vCh c, vP len f, vCh d] [] (vI (if upF c xs len = d then 0 else 23)) [] := by
  have hL := (c135 c len f xs hp hl hx hh hlo).lend (cs := [vCh c, vP len f]) (fun _ => True) [some (obCh c), some (obCh d)] ⟨freeF.wv ⟨trivial, trivial, trivial⟩, WV.lf (WL.ro rfl (by simp) (by simp) fun i hi j hj => hp.wl hi hj), trivial⟩ (plainF.wv ⟨trivial, trivial, trivial⟩)
  refine SCalls.intro tok Proofs.Try.func46 ?_
  conv => whnf
  refine CallK.mk' _ _ hL ?_
  conv => whnf
  have hcm : maxLen = 9223372036854775807 := rfl
  by_cases he : upF c xs len = d
  · rw [if_pos he]
    refine CaseB.of_false (ch_neq_f he) ?_
    conv => whnf
    exact RetK.empty (okF.wv trivial)
  · rw [if_neg he]
    refine CaseB.of_true (ch_neq_t he) ?_
    conv => whnf
    exact RetK.empty (okF.wv trivial)

/-- baileyref22.Check -/
theorem c47 (c d : ChS) (len : Nat) (f : Nat → Nat → LV) (xs : Nat → List UInt8) (hp : Pcs len f xs) (hl : len ≤ 1000000) (hx : ∀ i, i < len → (xs i).length ≤ 400000) (hh : c.h.length ≤ 400000) (hlo : -9223372036854775808 ≤ c.n ∧ c.n ≤ 9223372036854775807) : SCalls Proofs.Try.prog 47 [vCh c, vP len f, vCh d] [] (vI (if upF c xs len = d then 0 else 23)) [] := by
  have hL := (c45 c len f xs hp hl hx hh hlo).lend (cs := [vCh c, vP len f]) (fun _ => True) [some (obCh c), some (obCh d)] ⟨freeF.wv ⟨trivial, trivial, trivial⟩, WV.lf (WL.ro rfl (by simp) (by simp) fun i hi j hj => hp.wl hi hj), trivial⟩ (plainF.wv ⟨trivial, trivial, trivial⟩)
  refine SCalls.intro tok Proofs.Try.func47 ?_
  conv => whnf
  refine DrawK.mk1 tok mixed [0, 0, 3, 0, 15] [(1, 0, []), (0, 1, [0]), (2, 2, []), (3, 1, [0, 1]), (4, 1, [0])] (by kernel_rfl) ?_
  conv => whnf
  refine CallK.mk' _ _ hL ?_
  conv => whnf
  repeat (refine And.intro rfl ?_; conv => whnf)
  have hcm : maxLen = 9223372036854775807 := rfl
  by_cases he : upF c xs len = d
  · rw [if_pos he]
    refine CaseB.of_false (ch_neq_f he) ?_
    conv => whnf
    exact RetK.empty (okF.wv trivial)
  · rw [if_neg he]
    refine CaseB.of_true (ch_neq_t he) ?_
    conv => whnf
    exact RetK.empty (okF.wv trivial)

/-- baileylaw22.few -/
theorem c40 (len : Nat) (f : Nat → Nat → LV) (xs : Nat → List UInt8) (hp : Pcs len f xs) (hl : len ≤ maxLen) : ∃ b : Bool, (b = true → len ≤ 20 ∧ ∀ i, i < len → (xs i).length ≤ 300) ∧ SCalls Proofs.Try.prog 40 [vP len f] [] (.s (.lf (.bool b))) [] := by
  refine ⟨decide (len ≤ 20 ∧ ∀ i, i < len → (xs i).length ≤ 300), by simp, ?_⟩
  refine SCalls.intro tok Proofs.Try.func40 ?_
  conv => whnf
  have hm : maxLen = 9223372036854775807 := rfl
  refine LoopK.mk1 (fun i : Nat => [(5, vP len f), (6, vI len), (7, vI i), (2, .s (.lf .ff))]) (fun _ => []) (fun i => i ≤ len ∧ i ≤ 20 ∧ ∀ j, j < i → (xs j).length ≤ 300) (fun i => len - i) 0 ⟨by omega, by omega, by omega⟩ ?_ ?_
  · exact Weak.of ⟨⟩ (by simp) ⟨okF.wv hp.ok, okF.wv trivial, okF.wv trivial, okF.wv trivial, trivial⟩
  intro i hi
  obtain ⟨hi, hi20, hs⟩ := hi
  conv => whnf
  by_cases hl : i < len
  · refine CaseB.of_true (decide_eq_true (by omega)) ?_
    conv => whnf
    refine And.intro (by omega) ?_
    conv => whnf
    rcases hp.el i hl with ⟨e1, e2⟩ | e1
    · rw [show f (Int.toNat (i : Int)) 0 = .sl0 from e1]
      conv => whnf
      by_cases h20 : i = 20
      · refine CaseB.of_true (decide_eq_true (by omega)) ?_
        conv => whnf
        exact RetK.empty (WV.lf (WL.ff (decide_eq_false fun h => by omega)))
      · refine CaseB.of_false (decide_eq_false (by omega)) ?_
        conv => whnf
        refine CaseB.of_false (by decide) ?_
        conv => whnf
        refine ⟨i + 1, ⟨by omega, by omega, fun j hj => ?_⟩, by omega, ?_⟩
        · by_cases hji : j = i
          · subst hji; rw [e2]; simp
          · exact hs j (by omega)
        · exact Weak.of ⟨⟩ (by simp) ⟨okF.wv hp.ok, okF.wv trivial, WV.lf (WL.int (by rw [wrap_i64 (by omega) (by omega)]; omega)), okF.wv trivial, trivial⟩
    · rw [show f (Int.toNat (i : Int)) 0 = .rob true false (xs i) from e1]
      conv => whnf
      by_cases h20 : i = 20
      · refine CaseB.of_true (decide_eq_true (by omega)) ?_
        conv => whnf
        exact RetK.empty (WV.lf (WL.ff (decide_eq_false fun h => by omega)))
      · refine CaseB.of_false (decide_eq_false (by omega)) ?_
        conv => whnf
        by_cases hx : 300 < (xs i).length
        · refine CaseB.of_true (decide_eq_true (by omega)) ?_
          conv => whnf
          exact RetK.empty (WV.lf (WL.ff (decide_eq_false fun h => by have := h.2 i hl; omega)))
        · refine CaseB.of_false (decide_eq_false (by omega)) ?_
          conv => whnf
          refine ⟨i + 1, ⟨by omega, by omega, fun j hj => ?_⟩, by omega, ?_⟩
          · by_cases hji : j = i
            · subst hji; omega
            · exact hs j (by omega)
          · exact Weak.of ⟨⟩ (by simp) ⟨okF.wv hp.ok, okF.wv trivial, WV.lf (WL.int (by rw [wrap_i64 (by omega) (by omega)]; omega)), okF.wv trivial, trivial⟩
  · refine CaseB.of_false (decide_eq_false (by omega)) ?_
    conv => whnf
    obtain rfl : i = len := by omega
    exact RetK.empty (WV.lf (WL.tt (decide_eq_true ⟨by omega, hs⟩)))
end Go.Sym.Md
