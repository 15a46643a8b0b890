/- Contracts of the program's functions, proved by the framework (text MdQ), without conditions but those that each theorem states. -/
import Derived.Test.YtlmcdgbjbamdnaaMdP
import Derived.Test.YtlmcdgbjbamdnaaFw7
set_option linter.unusedVariables false
set_option linter.unusedSimpArgs false
set_option maxRecDepth 10000
namespace Go.Sym.Md
open Go Go.Sym

theorem numF_length (n : Nat) : (numF n).length = sz n := nF_length n (sz n)

attribute [local irreducible] numF checkF hasF

/-- A row of the call's own, lent as bytes. -/
theorem WL.lent {H H' : Hp} {μ : Nat → Nat} {hid : Nat → Prop} {nm len : Nat} {xs : List UInt8} {ty : TypeId} (hob : hget H nm = some ⟨ty, [.bytes len xs]⟩) (hl : len = xs.length) (hg : gone H' μ hid nm) : WL (Down H H' μ hid) (.own nm 0 1 0 len) (.rob false false xs) := by
  intro w L L' x h hx
  exact rep_rob_weak (WL.freezeB (ob := ⟨ty, [.bytes len xs]⟩) (p := []) (q := []) hob rfl rfl (by omega) (by omega) (by rw [List.drop_zero, hl, List.take_length]) hg w L L' x h hx)

/-- pack.Num -/
theorem c137 (b : List UInt8) (z : Int) (n : Nat) (hz : max z 0 = (n : Int)) (hn : n < 9223372036854775808) (hb : b.length ≤ 140737480000000) : SCalls Proofs.Try.prog 137 [.s (.lf (.rob false false b)), vI z] [] (.s (.lf (.own 0 0 1 0 (b ++ numF n).length))) [some ⟨5, [.bytes (b ++ numF n).length (b ++ numF n)]⟩] := by
  refine SCalls.intro tok Proofs.Try.func137 ?_
  conv => whnf
  refine CallK.mk' _ _ (c143 b 9 (by omega)) ?_
  conv => whnf
  refine CallK.mk' _ _ (c193 b z n hz hn (by omega)) ?_
  conv => whnf
  exact RetK.perm [1] ⟨⟨rfl, .bytes rfl fun _ _ => rfl, trivial⟩, trivial⟩ (WV.lf (WL.own rfl rfl rfl rfl)) rfl (by simp) rfl (by simp)

/-- pack.Text -/
theorem c138 (b s : List UInt8) (hs : s.length ≤ 100000000) (hb : b.length ≤ 140737000000000) : SCalls Proofs.Try.prog 138 [.s (.lf (.rob false false b)), .s (.lf (.str s))] [] (.s (.lf (.own 0 0 1 0 (b ++ numF s.length ++ s).length))) [some ⟨5, [.bytes (b ++ numF s.length ++ s).length (b ++ numF s.length ++ s)]⟩] := by
  have e9 : IntKind.i64.wrap (9 + (s.length : Int)) = ((9 + s.length : Nat) : Int) := by rw [wrap_i64 (by omega) (by omega)]; omega
  have hl := numF_length s.length
  have h9 := sz_le s.length
  refine SCalls.intro tok Proofs.Try.func138 ?_
  conv => whnf
  rw [e9]
  refine CallK.mk' _ _ (c143 b (9 + s.length) (by omega)) ?_
  conv => whnf
  refine CallK.mk' _ _ (c193 b s.length s.length (by omega) (by omega) (by omega)) ?_
  conv => whnf
  refine And.intro ⟨rfl, rfl, by rw [List.length_append, List.length_append]; omega⟩ ?_
  conv => whnf
  exact RetK.perm [2] ⟨⟨rfl, .bytes rfl fun _ _ => rfl, trivial⟩, trivial⟩ (WV.lf (WL.own rfl rfl rfl rfl)) rfl (by simp) rfl (by simp)

/-- slices.Clone, of nil. -/
theorem c136n : SCalls Proofs.Try.prog 136 [.s (.lf .sl0)] [] (.s (.lf .sl0)) [] := by
  refine SCalls.intro tok Proofs.Try.func136 ?_
  conv => whnf
  exact RetK.empty (okF.wv trivial)

/-- slices.Clone, of bytes. -/
theorem c136 (xs : List UInt8) (hx : xs.length ≤ 140737488355328) : SCalls Proofs.Try.prog 136 [.s (.lf (.rob true false xs))] [] (.s (.lf (.own 0 0 1 0 xs.length))) [some ⟨5, [.bytes xs.length xs]⟩] := by
  refine SCalls.intro tok Proofs.Try.func136 ?_
  conv => whnf
  refine Or.inl ?_
  conv => whnf
  refine ⟨⟨rfl, rfl, hx⟩, ?_⟩
  conv => whnf
  exact RetK.perm [1] ⟨⟨rfl, .bytes rfl fun _ _ => rfl, trivial⟩, trivial⟩ (WV.lf (WL.own rfl rfl rfl rfl)) rfl (by simp) rfl (by simp)

/-- What a caveat's bytes are, behind bytes. -/
def putF (b : List UInt8) (k n : Int) (s : List UInt8) : List UInt8 := if hasF k = 1 then b ++ numF k.toNat ++ numF s.length ++ s else b ++ numF k.toNat ++ numF n.toNat

theorem okC_facts {k n : Int} {s : List UInt8} (h : okC k n s = true) : 1 ≤ k ∧ k ≤ 6 ∧ 0 ≤ n ∧ n ≤ 1099511627776 ∧ s.length ≤ 16 := by
  unfold okC at h
  split at h
  · rename_i h1
    have hk : k = 2 ∨ k = 3 := by
      by_cases e : k = 2 ∨ k = 3
      · exact e
      · unfold hasF at h1; rw [if_neg e] at h1; split at h1 <;> omega
    simp only [Bool.and_eq_true, decide_eq_true_eq, nameF] at h
    omega
  · rename_i h1
    split at h
    · rename_i h2
      have hk : 1 ≤ k ∧ k ≤ 6 := by
        unfold hasF at h2
        split at h2
        · omega
        · split at h2 <;> omega
      simp only [Bool.and_eq_true, decide_eq_true_eq] at h
      obtain ⟨h3, h4, h5⟩ := h
      have hb : boundF k ≤ 1099511627776 := by
        unfold boundF
        split
        · omega
        · split <;> omega
      rw [h3]
      simp only [List.length_nil]
      omega
    · simp at h

/-- caveat.Put, of what may be. -/
theorem c58 (b : List UInt8) (k n : Int) (s : List UInt8) (hok : okC k n s = true) (hb : b.length ≤ 1000000000000) : SCalls Proofs.Try.prog 58 [.s (.lf (.rob false false b)), vC k n s] [] (.s (.lf (.own 0 0 1 0 (putF b k n s).length))) [some ⟨5, [.bytes (putF b k n s).length (putF b k n s)]⟩] := by
  obtain ⟨hk1, hk6, hn0, hn1, hsl⟩ := okC_facts hok
  have hc : checkF k n s = 0 := by unfold checkF; rw [hok]; rfl
  have hl := numF_length k.toNat
  have h9 := sz_le k.toNat
  refine SCalls.intro tok Proofs.Try.func58 ?_
  conv => whnf
  refine CallK.mk' _ _ ((c26 k n s).free _ ⟨⟨trivial, trivial, trivial, trivial⟩, trivial⟩ trivial) ?_
  conv => whnf
  refine CaseB.of_false (by rw [hc]; rfl) ?_
  conv => whnf
  refine CallK.mk' (.s (.lf (.own 1 0 1 0 (b ++ numF k.toNat).length))) _ ((c137 b k k.toNat (by omega) (by omega) (by omega)).made [some ⟨23, [.one (.int .i64 k), .one (.int .i64 n), .one (.str s)]⟩] (Hn := [some ⟨5, [.bytes (b ++ numF k.toNat).length (b ++ numF k.toNat)]⟩]) ⟨freeF.wv trivial, freeF.wv trivial, trivial⟩ (WV.lf (WL.uown rfl rfl rfl)) ⟨rfl, ⟨.bytes rfl fun _ _ => rfl, trivial⟩, trivial⟩) ?_
  conv => whnf
  refine CallK.mk' _ _ ((c121 k).free _ ⟨trivial, trivial⟩ trivial) ?_
  conv => whnf
  have hbl : (b ++ numF k.toNat).length ≤ 140737000000000 := by rw [List.length_append]; omega
  by_cases h1 : hasF k = 1
  · refine CaseB.of_true (decide_eq_true h1) ?_
    conv => whnf
    refine CallK.mk' (.s (.lf (.own 2 0 1 0 (b ++ numF k.toNat ++ numF s.length ++ s).length))) _ ((c138 (b ++ numF k.toNat) s (by omega) hbl).madeL (fun _ => False) [some ⟨23, [.one (.int .i64 k), .one (.int .i64 n), .one (.str s)]⟩, some ⟨5, [.bytes (b ++ numF k.toNat).length (b ++ numF k.toNat)]⟩] (Hn := [some ⟨5, [.bytes (b ++ numF k.toNat ++ numF s.length ++ s).length (b ++ numF k.toNat ++ numF s.length ++ s)]⟩]) ⟨WV.lf (WL.lent rfl rfl ⟨fun h => h, fun i ob h => by simp at h⟩), freeF.wv trivial, trivial⟩ (WV.lf (WL.uown rfl rfl rfl)) ⟨rfl, ⟨.bytes rfl fun _ _ => rfl, trivial⟩, trivial⟩) ?_
    conv => whnf
    have e : putF b k n s = b ++ numF k.toNat ++ numF s.length ++ s := by unfold putF; rw [if_pos h1]
    rw [e]
    exact RetK.perm [2] ⟨⟨rfl, .bytes rfl fun _ _ => rfl, trivial⟩, trivial⟩ (WV.lf (WL.own rfl rfl rfl rfl)) rfl (by simp) rfl (by simp)
  · refine CaseB.of_false (decide_eq_false h1) ?_
    conv => whnf
    refine CallK.mk' (.s (.lf (.own 2 0 1 0 (b ++ numF k.toNat ++ numF n.toNat).length))) _ ((c137 (b ++ numF k.toNat) n n.toNat (by omega) (by omega) (by omega)).madeL (fun _ => False) [some ⟨23, [.one (.int .i64 k), .one (.int .i64 n), .one (.str s)]⟩, some ⟨5, [.bytes (b ++ numF k.toNat).length (b ++ numF k.toNat)]⟩] (Hn := [some ⟨5, [.bytes (b ++ numF k.toNat ++ numF n.toNat).length (b ++ numF k.toNat ++ numF n.toNat)]⟩]) ⟨WV.lf (WL.lent rfl rfl ⟨fun h => h, fun i ob h => by simp at h⟩), freeF.wv trivial, trivial⟩ (WV.lf (WL.uown rfl rfl rfl)) ⟨rfl, ⟨.bytes rfl fun _ _ => rfl, trivial⟩, trivial⟩) ?_
    conv => whnf
    have e : putF b k n s = b ++ numF k.toNat ++ numF n.toNat := by unfold putF; rw [if_neg h1]
    rw [e]
    exact RetK.perm [2] ⟨⟨rfl, .bytes rfl fun _ _ => rfl, trivial⟩, trivial⟩ (WV.lf (WL.own rfl rfl rfl rfl)) rfl (by simp) rfl (by simp)
end Go.Sym.Md
