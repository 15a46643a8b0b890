/- Contracts of the program's functions, proved by the framework (text MdOa), without conditions but those that each theorem states. -/
import Derived.Test.YtlmcdgbjbamdnaaMdO
set_option linter.unusedVariables false
set_option linter.unusedSimpArgs false
set_option maxRecDepth 10000
namespace Go.Sym.Md
open Go Go.Sym
theorem allC_len {r : Rd} (h : r.ok) : (allC r).1.length ≤ 8 := by
  have h1 := readsC_len (numR r 8).1.toNat (numR r 8).2
  have h2 := numR_range h 8
  unfold allC
  omega
theorem parseC_len (b : List UInt8) (hb : b.length ≤ 140737488355328) : (parseC b).1.length ≤ 8 := by
  have h0 : (⟨b, 0⟩ : Rd).ok := ⟨fun h => absurd rfl h, by show IntKind.i64.min ≤ 0; decide, by show (0 : Int) ≤ IntKind.i64.max; decide, hb⟩
  unfold parseC
  split
  · exact allC_len h0
  · simp

attribute [local irreducible] numF checkF hasF okC boundF numR textR readC putC codeC parseC

/-- Bytes that an argument holds: nil, or some. -/
def isB (u : LV) (b : List UInt8) : Prop := (u = .sl0 ∧ b = []) ∨ u = .rob true false b
theorem isB.wl {D : Rel} [ROk D] {u : LV} {b : List UInt8} (h : isB u b) : WL D u (.rob false false b) := by
  rcases h with ⟨rfl, rfl⟩ | rfl
  · exact WL.sl0rob'
  · exact WL.rob rfl (by simp) (by simp)
theorem isB.self {D : Rel} [ROk D] {u : LV} {b : List UInt8} (h : isB u b) : WL D u u := by
  rcases h with ⟨rfl, rfl⟩ | rfl
  · exact WL.sl0
  · exact WL.rob rfl (by simp) (by simp)

theorem toRob {xs : List UInt8} {D : Rel} [ROk D] : WL D (.rob true false xs) (.rob false false xs) := WL.rob rfl (by simp) (by simp)

/-- caveat.Put, its bytes handed on -/
theorem c58f {u : LV} {b : List UInt8} (hu : isB u b) (c : CV) (hb : b.length ≤ 1000000000) : SCalls Proofs.Try.prog 58 [.s (.lf u), vCc c] [] (.s (.lf (.rob false false (putC b c)))) [] := by
  rcases hu with ⟨rfl, rfl⟩ | rfl
  · cases h : okC c.k c.n c.s with
    | false =>
      rw [show putC [] c = [] by unfold putC; rw [h]; rfl]
      exact (c58x c h).after (RetK.empty (WV.lf WL.sl0rob'))
    | true =>
      rw [show putC [] c = putF [] c.k c.n c.s by unfold putC; rw [h]; rfl]
      have h1 := (c58 [] c.k c.n c.s h (by simp)).frozen rfl
      exact h1.pure [] (cs := [.s (.lf .sl0), vCc c]) ⟨WV.lf WL.sl0rob', freeF.wv ⟨trivial, trivial, trivial, trivial⟩, trivial⟩ (WV.lf toRob)
  · exact ((c58t b c (by omega)).frozen rfl).after (RetK.empty (WV.lf toRob))

/-- baileyref06.Put, its bytes handed on -/
theorem c59f (b : List UInt8) (c : CV) (hb : b.length ≤ 1000000000) : SCalls Proofs.Try.prog 59 [.s (.lf (.rob false false b)), vCc c] [] (.s (.lf (.rob false false (putC b c)))) [] := by
  cases b with
  | nil =>
    cases h : okC c.k c.n c.s with
    | false =>
      rw [show putC [] c = [] by unfold putC; rw [h]; rfl]
      exact (c59x c h).after (RetK.empty (WV.lf WL.sl0rob'))
    | true =>
      rw [show putC [] c = putF [] c.k c.n c.s by unfold putC; rw [h]; rfl]
      exact ((c59k [] c.k c.n c.s h (by simp)).frozen rfl).after (RetK.empty (WV.lf toRob))
  | cons x b => exact ((c59t (x :: b) c (by omega) (by simp)).frozen rfl).after (RetK.empty (WV.lf toRob))

theorem frRi {f : FuncId} {l : List FV} {a b : Rd} {ret : FV} (H : Hp) (nm : Nat) (h : SCalls Proofs.Try.prog f (.s (.lf (.ptr 0 0)) :: l) [some (obR a)] ret [some (obR b)]) (hn : H[nm]? = some (some (obR a))) (hl : freeFs l) (hr : freeF ret) : SCalls Proofs.Try.prog f (.s (.lf (.ptr nm 0)) :: l) H ret (H.set nm (some (obR b))) :=
  h.frame1 (H := H) (nm := nm) (ob2 := obR b) hn rfl (obR_ws _) ⟨WV.lf (WL.ptr rfl rfl), hl.wvs⟩ rfl (obR_ws _) hr.wv
theorem frQi {f : FuncId} {l : List FV} {a b : Rd} {ret : FV} (H : Hp) (nm : Nat) (h : SCalls Proofs.Try.prog f (.s (.lf (.ptr 0 0)) :: l) [some (obQ a)] ret [some (obQ b)]) (hn : H[nm]? = some (some (obQ a))) (hl : freeFs l) (hr : freeF ret) : SCalls Proofs.Try.prog f (.s (.lf (.ptr nm 0)) :: l) H ret (H.set nm (some (obQ b))) :=
  h.frame1 (H := H) (nm := nm) (ob2 := obQ b) hn rfl (obQ_ws _) ⟨WV.lf (WL.ptr rfl rfl), hl.wvs⟩ rfl (obQ_ws _) hr.wv

theorem cvEq_t {x y : CV} (h : x = y) : (decide (x.k = y.k) && (decide (x.n = y.n) && (decide (x.s = y.s) && true))) = true := by subst h; simp

/-- baileylaw06.CaveatCodes -/
theorem c10 (c : CV) (cs : List CV) (hl : cs.length ≤ maxLen) {u : LV} {b : List UInt8} (hu : isB u b) (hbl : b.length ≤ maxLen) : SCalls Proofs.Try.prog 10 [vCc c, vR cs, .s (.lf u)] [] (.s (.lf .tt)) [] := by
  have hm : maxLen = 9223372036854775807 := rfl
  have k30 := (c30L cs hl).free [some (obC c)] ⟨rowC_free, trivial⟩ trivial
  have k25 := c25.free [some (obC c)] trivial trivial
  cases fa : fewL cs with
  | false =>
    rw [fa] at k30
    rcases hu with ⟨rfl, rfl⟩ | rfl
    all_goals
      refine SCalls.intro tok Proofs.Try.func10 ?_
      conv => whnf
      refine CallK.mk' _ _ k30 ?_
      conv => whnf
      repeat (refine CaseB.of_true rfl ?_; conv => whnf)
      refine CallK.mk' _ _ k25 ?_
      conv => whnf
      exact RetK.empty (okF.wv trivial)
  | true =>
    rw [fa] at k30
    have hfew : cs.length ≤ 30 := by unfold fewL at fa; simp at fa; omega
    by_cases h2 : 200 < (c.s.length : Int)
    · rcases hu with ⟨rfl, rfl⟩ | rfl
      all_goals
        refine SCalls.intro tok Proofs.Try.func10 ?_
        conv => whnf
        refine CallK.mk' _ _ k30 ?_
        conv => whnf
        repeat ((first | refine CaseB.of_false rfl ?_ | refine CaseB.of_true (decide_eq_true h2) ?_); conv => whnf)
        refine CallK.mk' _ _ k25 ?_
        conv => whnf
        exact RetK.empty (okF.wv trivial)
    by_cases h3 : 2000 < (b.length : Int)
    · rcases hu with ⟨rfl, rfl⟩ | rfl
      · simp at h3
      refine SCalls.intro tok Proofs.Try.func10 ?_
      conv => whnf
      refine CallK.mk' _ _ k30 ?_
      conv => whnf
      repeat ((first | refine CaseB.of_false rfl ?_ | refine CaseB.of_false (decide_eq_false h2) ?_ | refine CaseB.of_true (decide_eq_true h3) ?_); conv => whnf)
      refine CallK.mk' _ _ k25 ?_
      conv => whnf
      exact RetK.empty (okF.wv trivial)
    have hb : b.length ≤ 2000 := by omega
    have h0 : (⟨b, 0⟩ : Rd).ok := ⟨fun h => absurd rfl h, by show IntKind.i64.min ≤ 0; decide, by show (0 : Int) ≤ IntKind.i64.max; decide, by show b.length ≤ _; omega⟩
    obtain ⟨P, hP⟩ : ∃ P, parseC b = P := ⟨_, rfl⟩
    obtain ⟨one, h1⟩ : ∃ one, (readC ⟨b, 0⟩).1 = one := ⟨_, rfl⟩
    obtain ⟨q, hq⟩ : ∃ q, (readC ⟨b, 0⟩).2 = q := ⟨_, rfl⟩
    have hqo := readC_ok h0
    have k66 := c66 ⟨b, 0⟩ h0
    have k67 := c67 ⟨b, 0⟩ h0
    rw [hq] at hqo
    rw [h1, hq] at k66 k67
    have k58 := (c58f hu c (by omega)).pure [some (obC c)] (cs := [.s (.lf u), vCc c]) ⟨WV.lf hu.self, freeF.wv ⟨trivial, trivial, trivial, trivial⟩, trivial⟩ (WV.lf (WL.rob rfl (by simp) (by simp))) (rc := .s (.lf (.rob false false (putC b c))))
    have k59 := (c59f b c (by omega)).pure [some (obC c)] (cs := [.s (.lf u), vCc c]) ⟨WV.lf hu.wl, freeF.wv ⟨trivial, trivial, trivial, trivial⟩, trivial⟩ (WV.lf (WL.rob rfl (by simp) (by simp))) (rc := .s (.lf (.rob false false (putC b c))))
    have hpl := putC_length b c
    have k57 := (c57 (putC b c) (putC b c) (by omega)).free [some (obC c)] ⟨trivial, trivial, trivial⟩ trivial
    rw [show decide (putC b c = putC b c) = true from decide_eq_true rfl] at k57
    have k60 := (c60 cs (by omega)).free [some (obC c)] ⟨rowC_free, trivial⟩ trivial
    have k61 := (c61 cs (by omega)).free [some (obC c)] ⟨rowC_free, trivial⟩ trivial
    have hcl := codeC_length cs cs.length (Nat.le_refl _)
    rw [List.take_length] at hcl
    have hcl' : (codeC cs).length ≤ 10 + 50 * cs.length := by unfold codeC; exact hcl.2
    have k57' := (c57 (codeC cs) (codeC cs) (by omega)).pure [some (obC c)] (cs := [.s (.lf (.rob true false (codeC cs))), .s (.lf (.rob true false (codeC cs)))]) ⟨WV.lf toRob, WV.lf toRob, trivial⟩ (freeF.wv trivial)
    rw [show decide (codeC cs = codeC cs) = true from decide_eq_true rfl] at k57'
    have k62 := (c62 b (by omega)).pure [some (obC c)] (cs := [.s (.lf u)]) (rc := .tup [.lf (.ro false false 3 (parseC b).1.length (rowC (parseC b).1)), .lf (.int .i64 (parseC b).2)]) ⟨WV.lf hu.wl, trivial⟩ (WV.tup ⟨WL.ro rfl (by simp) (by simp) fun i hi j hj => rowC_wl hj, WL.int rfl, trivial⟩)
    have k63 := (c63 b (by omega)).pure [some (obC c)] (cs := [.s (.lf u)]) (rc := .tup [.lf (.ro false false 3 (parseC b).1.length (rowC (parseC b).1)), .lf (.int .i64 (parseC b).2)]) ⟨WV.lf hu.wl, trivial⟩ (WV.tup ⟨WL.ro rfl (by simp) (by simp) fun i hi j hj => rowC_wl hj, WL.int rfl, trivial⟩)
    have hPl := parseC_len b (by omega)
    rw [hP] at k62 k63 hPl
    have k64 := (c64 b (by omega)).made [some (obC c)] (Hn := [some (obR ⟨b, 0⟩)]) (cs := [.s (.lf u)]) (rc := .s (.lf (.ptr 1 0))) ⟨WV.lf hu.wl, trivial⟩ (WV.lf (WL.uptr rfl)) ⟨rfl, obR_ws _, trivial⟩
    have k65 := (c65 b (by omega)).made [some (obC c), some (obR ⟨b, 0⟩)] (Hn := [some (obQ ⟨b, 0⟩)]) (cs := [.s (.lf u)]) (rc := .s (.lf (.ptr 2 0))) ⟨WV.lf hu.wl, trivial⟩ (WV.lf (WL.uptr rfl)) ⟨rfl, obQ_ws _, trivial⟩
    obtain ⟨H5, hH5⟩ : ∃ H5, H5 = [some (obC c), some (obR q), some (obQ q), some (obC one), some (obC one)] := ⟨_, rfl⟩
    have k32 := (c32 P.1 P.1 (by omega)).free H5 ⟨rowC_free, rowC_free, trivial⟩ trivial
    rw [show decide (P.1 = P.1) = true from decide_eq_true rfl] at k32
    have k68 := frRi H5 1 (c68 q) (by rw [hH5]; rfl) trivial trivial
    have k70 := frRi H5 1 (c70 q hqo) (by rw [hH5]; rfl) trivial trivial
    have k69 := frQi H5 2 (c69 q) (by rw [hH5]; rfl) trivial trivial
    have k71 := frQi H5 2 (c71 q) (by rw [hH5]; rfl) trivial trivial
    have k25' := c25.free H5 trivial trivial
    subst hH5
    rcases hu with ⟨rfl, rfl⟩ | rfl
    all_goals
      refine SCalls.intro tok Proofs.Try.func10 ?_
      conv => whnf
      refine CallK.mk' _ _ k30 ?_
      conv => whnf
      repeat ((first | refine CaseB.of_false rfl ?_ | refine CaseB.of_false (decide_eq_false h2) ?_ | refine CaseB.of_false (decide_eq_false h3) ?_ | refine CaseB.of_false (by decide) ?_); conv => whnf)
      refine DrawK.mk1 tok mixed [0, 0, 3, 0, 0, 31, 63, 127, 255, 511, 1023, 511, 4095, 8191, 16383, 32767] [(0, 0, []), (3, 0, []), (1, 1, [0]), (2, 1, [0]), (4, 1, [0]), (5, 1, [0]), (6, 1, [0]), (7, 0, []), (8, 0, []), (9, 0, []), (11, 0, []), (10, 1, [0]), (12, 1, [0]), (13, 1, [0]), (14, 0, []), (15, 0, [])] (by kernel_rfl) ?_
      conv => whnf
      repeat ((first | refine CallR.mk' _ k58 ?_ | refine CallR.mk' _ k59 ?_ | refine CallR.mk' _ k57 ?_ | refine CallR.mk' _ k60 ?_ | refine CallR.mk' _ k61 ?_ | refine CallR.mk' _ k57' ?_ | refine CaseB.of_false rfl ?_); conv => whnf)
      refine CallK.mk' _ _ k62 ?_
      conv => whnf
      refine CallK.mk' _ _ k63 ?_
      conv => whnf
      refine CallK.mk' _ _ k64 ?_
      conv => whnf
      refine CallK.mk' _ _ k65 ?_
      conv => whnf
      refine CallK.mk' _ _ (frRi _ 1 k66 rfl trivial ⟨trivial, trivial, trivial, trivial⟩) ?_
      conv => whnf
      refine CallK.mk' _ _ (frQi _ 2 k67 rfl trivial ⟨trivial, trivial, trivial, trivial⟩) ?_
      conv => whnf
      repeat ((first | refine CallK.mk' _ _ k32 ?_ | refine CallK.mk' _ _ k68 ?_ | refine CallK.mk' _ _ k69 ?_ | refine CallK.mk' _ _ k70 ?_ | refine CallK.mk' _ _ k71 ?_ | refine CallK.mk' _ _ k25' ?_ | refine CaseB.of_true (cvEq_t rfl) ?_ | refine CaseB.of_true (decide_eq_true rfl) ?_ | refine CaseB.of_true rfl ?_); conv => whnf)
      exact RetK.empty (okF.wv trivial)
end Go.Sym.Md
