/- Contracts of the program's functions, proved by the framework (text HmD), without conditions but those that each theorem states. -/
import Derived.Test.YtbmbklbijnpdfaaHmC
set_option linter.unusedVariables false
set_option linter.unusedSimpArgs false
set_option maxRecDepth 10000
namespace Go.Sym.Sh
open Go Go.Sym
attribute [local irreducible] padF shaF blkF keyF tagF

/-- A row of the call's own, lent as bytes. -/
theorem WL.lent {H H' : Hp} {μ : Nat → Nat} {hid : Nat → Prop} {nm len : Nat} {xs : List UInt8} {ty : TypeId} (hob : hget H nm = some ⟨ty, [.bytes len xs]⟩) (hl : len = xs.length) (hg : gone H' μ hid nm) : WL (Down H H' μ hid) (.own nm 0 1 0 len) (.rob false false xs) := by
  intro w L L' x h hx
  exact rep_rob_weak (WL.freezeB (ob := ⟨ty, [.bytes len xs]⟩) (p := []) (q := []) hob rfl rfl (by omega) (by omega) (by rw [List.drop_zero, hl, List.take_length]) hg w L L' x h hx)

/-- baileyref04.Tag -/
theorem c30 (key text : List UInt8) (hk : key.length ≤ 1000000) (ht : text.length ≤ 900000) : SCalls Proofs.Try.prog 30 [.s (.lf (.str key)), .s (.lf (.rob false false text))] [] (.s (.lf (.str (tagF key text)))) [] := by
  have h1 := blkF_length key 54
  have h2 := blkF_length key 92
  have h3 := shaF_length (blkF key 54 ++ text)
  refine SCalls.intro tok Proofs.Try.func30 ?_
  conv => whnf
  refine CallK.mk' _ _ (c47 key hk 54) ?_
  conv => whnf
  refine ⟨⟨by omega, by omega, by rw [List.length_append]; omega⟩, ?_⟩
  conv => whnf
  refine CallK.mk' _ _ ((c25 (blkF key 54 ++ text) (by rw [List.length_append]; omega)).lend (cs := [.s (.lf (.own 1 0 1 0 (blkF key 54 ++ text).length))]) (fun _ => False) [none, some ⟨5, [.bytes (blkF key 54 ++ text).length (blkF key 54 ++ text)]⟩] ⟨WV.lf (WL.lent rfl rfl ⟨fun h => h, fun i ob h => by simp at h⟩), trivial⟩ (plainF.wv trivial)) ?_
  conv => whnf
  refine CallK.mk' (.s (.lf (.own 2 0 1 0 64))) _ ((c47 key hk 92).made [none, some ⟨5, [.bytes (blkF key 54 ++ text).length (blkF key 54 ++ text)]⟩] (Hn := [some ⟨5, [.bytes 64 (blkF key 92)]⟩]) ⟨freeF.wv trivial, freeF.wv trivial, trivial⟩ (WV.lf (WL.uown rfl rfl rfl)) ⟨rfl, ⟨.bytes rfl fun _ _ => rfl, trivial⟩, trivial⟩) ?_
  conv => whnf
  refine ⟨⟨by omega, by omega, by rw [List.length_append]; omega⟩, ?_⟩
  conv => whnf
  refine CallK.mk' _ _ ((c25 (blkF key 92 ++ shaF (blkF key 54 ++ text)) (by rw [List.length_append]; omega)).lend (cs := [.s (.lf (.own 3 0 1 0 (blkF key 92 ++ shaF (blkF key 54 ++ text)).length))]) (fun _ => False) [none, some ⟨5, [.bytes (blkF key 54 ++ text).length (blkF key 54 ++ text)]⟩, none, some ⟨5, [.bytes (blkF key 92 ++ shaF (blkF key 54 ++ text)).length (blkF key 92 ++ shaF (blkF key 54 ++ text))]⟩] ⟨WV.lf (WL.lent rfl rfl ⟨fun h => h, fun i ob h => by simp at h⟩), trivial⟩ (plainF.wv trivial)) ?_
  conv => whnf
  exact RetK.empty (WV.lf (WL.str (by unfold tagF; rfl)))

/-- baileylaw04.HmacTags -/
theorem c8 (key text : List UInt8) : SCalls Proofs.Try.prog 8 [.s (.lf (.str key)), .s (.lf (.rob false false text))] [] (.s (.lf .tt)) [] := by
  refine SCalls.intro tok Proofs.Try.func8 ?_
  conv => whnf
  by_cases hl : 500 < (key.length : Int)
  · refine CaseB.of_true (decide_eq_true hl) ?_
    conv => whnf
    refine CallK.mk' _ _ c28 ?_
    conv => whnf
    exact RetK.empty (okF.wv trivial)
  refine CaseB.of_false (decide_eq_false hl) ?_
  conv => whnf
  by_cases hl2 : 1500 < (text.length : Int)
  · refine CaseB.of_true (decide_eq_true hl2) ?_
    conv => whnf
    refine CallK.mk' _ _ c28 ?_
    conv => whnf
    exact RetK.empty (okF.wv trivial)
  refine CaseB.of_false (decide_eq_false hl2) ?_
  conv => whnf
  refine CallK.mk' _ _ (c29 key text (by omega) (by omega)) ?_
  conv => whnf
  refine CallK.mk' _ _ (c30 key text (by omega) (by omega)) ?_
  conv => whnf
  refine CaseB.of_true (decide_eq_true rfl) ?_
  conv => whnf
  refine CallK.mk' _ _ c28 ?_
  conv => whnf
  exact RetK.empty (okF.wv trivial)

/-- A key with bytes 0 behind it is as good as the key. -/
theorem keyF_padded (key : List UInt8) (n : Nat) (h : key.length + n ≤ 64) (i : Nat) : (keyF (key ++ List.replicate n 0)).getD i 0 = (keyF key).getD i 0 := by
  unfold keyF
  rw [if_neg (by simp; omega), if_neg (by omega), List.getD_eq_getElem?_getD, List.getD_eq_getElem?_getD]
  by_cases hi : i < key.length
  · rw [List.getElem?_append_left hi]
  · rw [List.getElem?_append_right (by omega), List.getElem?_replicate, List.getElem?_eq_none (l := key) (by omega)]
    split <;> rfl

theorem tagF_padded (key text : List UInt8) (n : Nat) (h : key.length + n ≤ 64) : tagF (key ++ List.replicate n 0) text = tagF key text := by
  have hb : ∀ x, blkF (key ++ List.replicate n 0) x = blkF key x := fun x => by
    unfold blkF
    exact List.map_congr_left fun i _ => by rw [keyF_padded key n h]
  unfold tagF
  rw [hb, hb]

/-- baileylaw04.HmacPadded -/
theorem c9 (key text : List UInt8) (m : UInt8) : SCalls Proofs.Try.prog 9 [.s (.lf (.str key)), .s (.lf (.int .u8 (m.toNat : Int))), .s (.lf (.rob false false text))] [] (.s (.lf .tt)) [] := by
  have hm := m.toNat_lt
  refine SCalls.intro tok Proofs.Try.func9 ?_
  conv => whnf
  by_cases hl : 64 < (key.length : Int)
  · refine CaseB.of_true (decide_eq_true hl) ?_
    conv => whnf
    refine CallK.mk' _ _ c28 ?_
    conv => whnf
    exact RetK.empty (okF.wv trivial)
  refine CaseB.of_false (decide_eq_false hl) ?_
  conv => whnf
  by_cases hl2 : 1500 < (text.length : Int)
  · refine CaseB.of_true (decide_eq_true hl2) ?_
    conv => whnf
    refine CallK.mk' _ _ c28 ?_
    conv => whnf
    exact RetK.empty (okF.wv trivial)
  refine CaseB.of_false (decide_eq_false hl2) ?_
  conv => whnf
  have e1 : IntKind.i64.wrap (65 - (key.length : Int)) = ((65 - key.length : Nat) : Int) := by rw [wrap_i64 (by omega) (by omega)]; omega
  have e0 : IntKind.i64.wrap (m.toNat : Int) = (m.toNat : Int) := wrap_i64 (by omega) (by omega)
  obtain ⟨n, hn⟩ : ∃ n, n = m.toNat % (65 - key.length) := ⟨_, rfl⟩
  have hn' : n < 65 - key.length := by rw [hn]; exact Nat.mod_lt _ (by omega)
  have e2 : (IntKind.i64.wrap (m.toNat : Int)).tmod (IntKind.i64.wrap (65 - (key.length : Int))) = (n : Int) := by rw [e1, e0, hn]; rfl
  refine And.intro (by omega) ?_
  conv => whnf
  rw [e2]
  refine And.intro ⟨by omega, by omega, by show (n : Int) * 1 ≤ _; omega⟩ ?_
  conv => whnf
  refine And.intro ⟨by omega, by rw [List.length_replicate]; omega⟩ ?_
  conv => whnf
  have e3 : List.take (Int.toNat (n : Int)) (List.drop 0 (List.replicate (Int.toNat (n : Int)) (0 : UInt8))) = List.replicate n 0 := by rw [Int.toNat_natCast, List.drop_zero, List.take_of_length_le (by simp)]
  refine And.intro (by rw [e3, List.length_replicate]; show _ ≤ 9223372036854775807; omega) ?_
  conv => whnf
  rw [e3]
  have hpl : (key ++ List.replicate n 0).length = key.length + n := by simp
  refine CallK.mk' _ _ ((c29 (key ++ List.replicate n 0) text (by rw [hpl]; omega) (by omega)).free _ ⟨trivial, trivial, trivial⟩ trivial) ?_
  conv => whnf
  refine CallK.mk' _ _ ((c29 key text (by omega) (by omega)).free _ ⟨trivial, trivial, trivial⟩ trivial) ?_
  conv => whnf
  refine CaseB.of_true (decide_eq_true (tagF_padded key text n (by omega))) ?_
  conv => whnf
  refine CallK.mk' _ _ (c28.free _ trivial trivial) ?_
  conv => whnf
  exact RetK.empty (okF.wv trivial)
end Go.Sym.Sh
