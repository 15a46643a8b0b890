/- Contracts of the program's functions, proved by the framework (text PoHD), without conditions but those that each theorem states. -/
import Derived.Test.YtlmcdgbjbamdnaaPoHC
set_option linter.unusedVariables false
set_option linter.unusedSimpArgs false
set_option maxRecDepth 10000
namespace Go.Sym.Md
open Go Go.Sym Go.Sym.Sh
attribute [local irreducible] padF shaF blkF keyF tagF

/-- baileyref04.Tag -/
theorem c166 (key text : List UInt8) (hk : key.length ≤ 1000000) (ht : text.length ≤ 900000) : SCalls Proofs.Try.prog 166 [.s (.lf (.str key)), .s (.lf (.rob false false text))] [] (.s (.lf (.str (tagF key text)))) [] := by
  have h1 := blkF_length key 54
  have h2 := blkF_length key 92
  have h3 := shaF_length (blkF key 54 ++ text)
  refine SCalls.intro tok Proofs.Try.func166 ?_
  conv => whnf
  refine CallK.mk' _ _ (c205 key hk 54) ?_
  conv => whnf
  refine ⟨⟨by omega, by omega, by rw [List.length_append]; omega⟩, ?_⟩
  conv => whnf
  refine CallK.mk' _ _ ((c134 (blkF key 54 ++ text) (by rw [List.length_append]; omega)).lend (cs := [.s (.lf (.own 1 0 1 0 (blkF key 54 ++ text).length))]) (fun _ => False) [none, some ⟨5, [.bytes (blkF key 54 ++ text).length (blkF key 54 ++ text)]⟩] ⟨WV.lf (WL.lent rfl rfl ⟨fun h => h, fun i ob h => by simp at h⟩), trivial⟩ (plainF.wv trivial)) ?_
  conv => whnf
  refine CallK.mk' (.s (.lf (.own 2 0 1 0 64))) _ ((c205 key hk 92).made [none, some ⟨5, [.bytes (blkF key 54 ++ text).length (blkF key 54 ++ text)]⟩] (Hn := [some ⟨5, [.bytes 64 (blkF key 92)]⟩]) ⟨freeF.wv trivial, freeF.wv trivial, trivial⟩ (WV.lf (WL.uown rfl rfl rfl)) ⟨rfl, ⟨.bytes rfl fun _ _ => rfl, trivial⟩, trivial⟩) ?_
  conv => whnf
  refine ⟨⟨by omega, by omega, by rw [List.length_append]; omega⟩, ?_⟩
  conv => whnf
  refine CallK.mk' _ _ ((c134 (blkF key 92 ++ shaF (blkF key 54 ++ text)) (by rw [List.length_append]; omega)).lend (cs := [.s (.lf (.own 3 0 1 0 (blkF key 92 ++ shaF (blkF key 54 ++ text)).length))]) (fun _ => False) [none, some ⟨5, [.bytes (blkF key 54 ++ text).length (blkF key 54 ++ text)]⟩, none, some ⟨5, [.bytes (blkF key 92 ++ shaF (blkF key 54 ++ text)).length (blkF key 92 ++ shaF (blkF key 54 ++ text))]⟩] ⟨WV.lf (WL.lent rfl rfl ⟨fun h => h, fun i ob h => by simp at h⟩), trivial⟩ (plainF.wv trivial)) ?_
  conv => whnf
  exact RetK.empty (WV.lf (WL.str (by unfold tagF; rfl)))

/-- A key with bytes 0 behind it is as good as the key. -/
theorem keyF_padded (key : List UInt8) (n : Nat) (h : key.length + n ≤ 64) (i : Nat) : (keyF (key ++ List.replicate n 0)).getD i 0 = (keyF key).getD i 0 := by
  unfold keyF
  rw [if_neg (by simp; omega), if_neg (by omega), List.getD_eq_getElem?_getD, List.getD_eq_getElem?_getD]
  by_cases hi : i < key.length
  · rw [List.getElem?_append_left hi]
  · rw [List.getElem?_append_right (by omega), List.getElem?_replicate, List.getElem?_eq_none (l := key) (by omega)]
    split <;> rfl

theorem tagF_padded (key text : List UInt8) (n : Nat) (h : key.length + n ≤ 64) : tagF (key ++ List.replicate n 0) text = tagF key text := by
  have hb : ∀ x, blkF (key ++ List.replicate n 0) x = blkF key x := fun x => by
    unfold blkF
    exact List.map_congr_left fun i _ => by rw [keyF_padded key n h]
  unfold tagF
  rw [hb, hb]

end Go.Sym.Md
