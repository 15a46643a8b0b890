/- A framework for walking through the program's functions, proved sound, part 8: functions that panic, and deferred calls that recover. It has no condition. -/
import Derived.Test.YtlmcdgbjbamdnaaFw7
import Derived.Recover
set_option linter.unusedVariables false
set_option linter.unusedSimpArgs false
namespace Go.Sym
open Go

variable {P : Program} {Γ : Tab}

/-! ### Calls that panic -/
/-- What is under way when a function has panicked. -/
abbrev Ch := List PanicEntry

/-- An operation that panics, and leaves the heap as it is. -/
def PanSem (P : Program) (o : Oper) (vs : Operand → FV) (H : Hp) (ch : Ch) : Prop :=
  ∀ (w : World) (L : NM) (a : Act), HRep w L H → (∀ x, x ∈ o.op.operands.toList → repF w L (vs x) (a.eval x)) →
    ∀ (next : Act → World → Prop) (Q : Exit → Act → World → Prop), (∀ w' L', HRep w' L' H → Ev w L w' L' → Q (.panic ch) a w') → o.wp P a w next Q

/-- A function that panics, and leaves the heap as it is. -/
def PCalls (P : Program) (f : FuncId) (args : List FV) (H : Hp) (ch : Ch) : Prop :=
  (∃ fn, P.funcs[f]? = some fn ∧ fn.body.isNone = false ∧ (fn.name == "runtime.NumGoroutine") = false) ∧
  ∀ (w : World) (L : NM) (vals : Array Value), HRep w L H → RepArgs w L args vals →
    Calls P f vals w fun e w' => ∃ L', e = .panicked ch ∧ HRep w' L' H ∧ Ev w L w' L'

/-- A call that returns or panics. -/
structure CallP (P : Program) (f : FuncId) (args : List FV) (H : Hp) (K : FV → Hp → Prop) (Kp : Ch → Prop) : Prop where
  out : (∃ r H', CallSem P f args H r H' ∧ K r H') ∨ ∃ ch, PCalls P f args H ch ∧ Kp ch
theorem CallP.mk' {f : FuncId} {args : List FV} {H : Hp} {K : FV → Hp → Prop} {Kp : Ch → Prop} (r : FV) (H' : Hp) (h : SCalls P f args H r H') (k : K r H') : CallP P f args H K Kp := ⟨.inl ⟨r, H', h.sem, k⟩⟩
theorem CallP.sem {f : FuncId} {args : List FV} {H : Hp} {K : FV → Hp → Prop} {Kp : Ch → Prop} (r : FV) (H' : Hp) (h : CallSem P f args H r H') (k : K r H') : CallP P f args H K Kp := ⟨.inl ⟨r, H', h, k⟩⟩
theorem CallP.pan {f : FuncId} {args : List FV} {H : Hp} {K : FV → Hp → Prop} {Kp : Ch → Prop} (ch : Ch) (h : PCalls P f args H ch) (k : Kp ch) : CallP P f args H K Kp := ⟨.inr ⟨ch, h, k⟩⟩

theorem pan_sem {o : Oper} {c : Call} {f : Operand} (ho : o.op = .call c) (hf : c.callee = .value f) {vs : Operand → FV} {g : FuncId} {n : Nat} {caps : Nat → LV} (hv : vs f = .s (.lf (.fn g n caps))) {H : Hp} {ch : Ch}
    (h : PCalls P g (c.args.toList.map vs ++ capsL caps 0 n) H ch) : PanSem P o vs H ch := by
  intro w L a hw hvs next Q hn
  have hmem : ∀ x ∈ c.args.toList, x ∈ o.op.operands.toList := by
    intro x hx; rw [ho]; simp only [Op.operands, Call.operands, hf]; simp at hx ⊢; exact .inr hx
  have hfm : f ∈ o.op.operands.toList := by rw [ho]; simp [Op.operands, Call.operands, hf]
  have h1 := hvs f hfm
  rw [hv] at h1
  obtain ⟨arr, he, hs, hc⟩ := h1
  unfold Oper.wp
  rw [run_call ho hf he w]
  obtain ⟨⟨fn, g1, g2, g3⟩, hcall⟩ := h
  have : (callFunc g (c.args.map a.eval ++ arr)).run P w = .ok (.enter g (c.args.map a.eval ++ arr)) w := by
    simp only [callFunc, Sem.run_bind, run_program, Result.andThen_ok, g1, g3, g2, Bool.false_eq_true, if_false, Sem.run_pure]
  rw [this]
  refine (hcall w L _ hw (repArgs_of (fun x hx => hvs x (hmem x hx)) hs hc)).mono fun e w' he => ?_
  obtain ⟨L', rfl, g1, g2⟩ := he
  exact hn w' L' g1 g2

theorem R.pan {w0 : W0} {L0 : NM} {n0 n : Nat} {fr : Fr} {H : Hp} {a : Act} {w : World} (hR : R w0 L0 n0 n fr H a w) {o : Oper} {ch : Ch} (hs : PanSem P o (opv fr) H ch)
    {next : Act → World → Prop} {Q : Exit → Act → World → Prop} (hq : ∀ w', R w0 L0 n0 n fr H a w' → Q (.panic ch) a w') : o.wp P a w next Q := by
  obtain ⟨⟨L, h1, h2, h3⟩, hb, h4, h5⟩ := hR
  exact hs w L a h1 (fun x _ => h2.opv x) next Q fun w' L' g1 g3 => hq w' ⟨⟨L', g1, h2.mono g3, h3.trans g3⟩, hb, h4, h5⟩

/-- The value that is thrown, if it is one alone. -/
structure PanicK (t : TypeId) (u : LV) (Kp : Ch → Prop) : Prop where
  out : ∃ v, (∀ (w : World) (L : NM) x, rep w L u x → x = v) ∧ Kp [{ v := .iface t v, recovered := false }]

theorem panicK_sem {o : Oper} {x : Operand} (ho : o.op = .panic x) {vs : Operand → FV} {t : TypeId} {u : LV} (hv : vs x = .s (.lf (.ifc t u))) {H : Hp} {v : Value} (h : ∀ (w : World) (L : NM) x, rep w L u x → x = v) : PanSem P o vs H [{ v := .iface t v, recovered := false }] := by
  intro w L a hw hvs next Q hn
  have h1 := hvs x (by rw [ho]; simp [Op.operands])
  rw [hv] at h1
  obtain ⟨y, he, hy⟩ := h1
  rw [h w L y hy] at he
  unfold Oper.wp
  have : (execOp a.eval o).run P w = .halt (.panic (.iface t v)) w := by
    simp [execOp, ho, he, Instr.panic, goPanic]
  rw [this, Oper.upon_panic]
  exact hn w L hw (Ev.refl w L)

/-! ### Code that may panic -/
def nextP (next : Fr → Hp → (Fr → Hp → Prop) → (Ch → Fr → Hp → Prop) → Prop) (Kp : Ch → Fr → Hp → Prop) (fr : Fr) (H : Hp) (K : Fr → Hp → Prop) : Prop := next fr H K Kp

def callP (P : Program) (Γ : Tab) (n : Nat) (all : List Oper) (o : Oper) (c : Call) (next : Fr → Hp → (Fr → Hp → Prop) → Prop) (fr : Fr) (H : Hp) (K : Fr → Hp → Prop) (Kp : Ch → Fr → Hp → Prop) : Prop :=
  match c.callee with
  | .value x => (match opv fr x with
    | .s (.lf (.fn g m caps)) => mapK (opv fr) c.args.toList fun as => capsK caps 0 m fun cs => CallP P g (as ++ cs) H (fun v H' => putK n o.dst v fr fun fr' => next fr' H' K) fun ch => Kp ch fr H
    | _ => stepK P Γ n all o next fr H K)
  | _ => stepK P Γ n all o next fr H K

def stepP (P : Program) (Γ : Tab) (n : Nat) (all : List Oper) (o : Oper) (next : Fr → Hp → (Fr → Hp → Prop) → Prop) (fr : Fr) (H : Hp) (K : Fr → Hp → Prop) (Kp : Ch → Fr → Hp → Prop) : Prop :=
  match o.op, o.guard with
  | .call c, none => callP P Γ n all o c next fr H K Kp
  | .panic x, none => (match opv fr x with
    | .s (.lf (.ifc t u)) => PanicK t u fun ch => Kp ch fr H
    | _ => False)
  | _, _ => stepK P Γ n all o next fr H K

def opsP (P : Program) (Γ : Tab) (n : Nat) (all : List Oper) : List Oper → Fr → Hp → (Fr → Hp → Prop) → (Ch → Fr → Hp → Prop) → Prop
  | [], fr, H, K, _ => K fr H
  | o :: l, fr, H, K, Kp => stepP P Γ n all o (nextP (opsP P Γ n all l) Kp) fr H K Kp

theorem opsP_sound (hΓ : TOK P Γ) {ops : Array Oper} {w0 : W0} {L0 : NM} {n0 n : Nat} {Q : Exit → Act → World → Prop} {K : Fr → Hp → Prop} {Kp : Ch → Fr → Hp → Prop} (hQ : ∀ fr H a w, K fr H → R w0 L0 n0 n fr H a w → Q .normal a w)
    (hP : ∀ ch fr H a w, Kp ch fr H → R w0 L0 n0 n fr H a w → Q (.panic ch) a w) :
    ∀ (l : List Oper) (k : Nat) (fr : Fr) (H : Hp) (a : Act) (w : World), (∀ i, l[i]? = ops.toList[k + i]?) → opsP P Γ n ops.toList l fr H K Kp → R w0 L0 n0 n fr H a w → wpOps P ops Q (List.range' k l.length) a w := by
  intro l
  induction l with
  | nil => intro k fr H a w _ h hR; exact hQ fr H a w h hR
  | cons o l ih =>
    intro k fr H a w hl h hR
    have hk : ops[k]? = some o := by have := hl 0; simpa using this.symm
    have hl' : ∀ i, l[i]? = ops.toList[k + 1 + i]? := fun i => by have := hl (i + 1); rw [show k + 1 + i = k + (i + 1) by omega, ← this]; rfl
    rw [List.length_cons, List.range'_succ]
    have plain : stepK P Γ n ops.toList o (nextP (opsP P Γ n ops.toList l) Kp) fr H K → wpOps P ops Q (k :: List.range' (k + 1) l.length) a w := by
      intro h
      simp only [stepK] at h
      obtain ⟨b, fr', hK, hR', hw⟩ := guardK_sound rfl h hR
      simp only [wpOps, hk, hw]
      cases b with
      | true =>
        simp only [if_true]
        left
        obtain ⟨r, H', h1, h2⟩ := opW_sound hΓ hK
        exact hR'.step h1 h2 fun fr'' a' w' hk' hr' => ih (k + 1) fr'' H' a' w' hl' hk' hr'
      | false =>
        simp only [Bool.false_eq_true, if_false]
        obtain ⟨fr'', h1, h2⟩ := hR'.skip hK
        exact ih (k + 1) fr'' H _ w hl' h1 h2
    simp only [opsP, stepP] at h
    split at h
    · rename_i c ho hg
      unfold callP at h
      split at h
      · rename_i x hc
        split at h
        · rename_i g m caps hv
          rw [mapK_eq, capsK_eq] at h
          have hw : Region.wanted o (yielded ops a.tmps) = true := by simp [Region.wanted, hg]
          simp only [wpOps, hk, hw, if_true]
          left
          rcases h.out with ⟨r, H', h1, h2⟩ | ⟨ch, h1, h2⟩
          · exact hR.step (call_sem ho hc hv h1) h2 fun fr'' a' w' hk' hr' => ih (k + 1) fr'' H' a' w' hl' hk' hr'
          · exact hR.pan (pan_sem ho hc hv h1) fun w' hr' => hP ch fr H a w' h2 hr'
        · exact plain h
      · exact plain h
    · rename_i x ho hg
      split at h
      · rename_i t u hv
        obtain ⟨v, h1, h2⟩ := h.out
        have hw : Region.wanted o (yielded ops a.tmps) = true := by simp [Region.wanted, hg]
        simp only [wpOps, hk, hw, if_true]
        left
        exact hR.pan (panicK_sem ho hv h1) fun w' hr' => hP _ fr H a w' h2 hr'
      · exact h.elim
    · exact plain h

/-- A region that draws its order, and may panic. -/
structure DrawP (P : Program) (Γ : Tab) (n0 n : Nat) (ops : Array Oper) (fr : Fr) (H : Hp) (K : Fr → Hp → Prop) (Kp : Ch → Fr → Hp → Prop) : Prop where
  out : ∀ (w0 : W0) (L0 : NM) (a : Act) (w : World) (Q : Exit → Act → World → Prop), R w0 L0 n0 n fr H a w → (∀ fr H a w, K fr H → R w0 L0 n0 n fr H a w → Q .normal a w) →
    (∀ ch fr H a w, Kp ch fr H → R w0 L0 n0 n fr H a w → Q (.panic ch) a w) → ∀ (id : Nat), (Code.region id ops true).wp P Q a w
theorem DrawP.of {n0 n : Nat} {ops : Array Oper} {fr : Fr} {H : Hp} {K : Fr → Hp → Prop} {Kp : Ch → Fr → Hp → Prop} (h : DrawK P Γ n0 n ops fr H K) : DrawP P Γ n0 n ops fr H K Kp :=
  ⟨fun w0 L0 a w Q hR hQ _ id => h.out w0 L0 a w Q hR hQ id⟩

def vcP (P : Program) (Γ : Tab) (n0 n : Nat) (Kp : Ch → Fr → Hp → Prop) : Code → Fr → Hp → (AX → Fr → Hp → Prop) → Prop
  | .skip, fr, H, Q => Q .normal fr H
  | .region _ ops draw, fr, H, Q => (match draw with
    | false => opsP P Γ n ops.toList ops.toList fr H (Q .normal) Kp
    | true => DrawP P Γ n0 n ops fr H (Q .normal) Kp)
  | .seq a b, fr, H, Q => vcP P Γ n0 n Kp a fr H (seqQ (vcP P Γ n0 n Kp b) Q)
  | .cond c x y, fr, H, Q => condK c fr (condQ (vcP P Γ n0 n Kp x) (vcP P Γ n0 n Kp y) H Q)
  | .block id a, fr, H, Q => vcP P Γ n0 n Kp a fr H (blockQ id Q)
  | .loop a, fr, H, Q => LoopK n0 (loopB (vcP P Γ n0 n Kp a) Q) fr H
  | .exit id, fr, H, Q => Q (.exit id) fr H
  | .label _, fr, H, Q => Q .normal fr H
  | .ret, fr, H, Q => Q .ret fr H
  | _, _, _, _ => False

/-- What a run of code that may panic may come to. -/
def PostP (w0 : W0) (L0 : NM) (n0 n : Nat) (Q : AX → Fr → Hp → Prop) (Kp : Ch → Fr → Hp → Prop) : Exit → Act → World → Prop := fun e a w =>
  (∃ x fr H, e = x.real ∧ Q x fr H ∧ R w0 L0 n0 n fr H a w) ∨ ∃ ch fr H, e = .panic ch ∧ Kp ch fr H ∧ R w0 L0 n0 n fr H a w

theorem vcP_sound (hΓ : TOK P Γ) {w0 : W0} {L0 : NM} {n0 n : Nat} {Kp : Ch → Fr → Hp → Prop} : ∀ (c : Code) (fr : Fr) (H : Hp) (Q : AX → Fr → Hp → Prop) (a : Act) (w : World), vcP P Γ n0 n Kp c fr H Q → R w0 L0 n0 n fr H a w →
    c.wp P (PostP w0 L0 n0 n Q Kp) a w := by
  intro c
  induction c with
  | skip => intro fr H Q a w h hR; exact wp_skip (.inl ⟨.normal, fr, H, rfl, h, hR⟩)
  | region id ops draw =>
    intro fr H Q a w h hR
    cases draw with
    | false =>
      refine wp_region ?_
      rw [List.range_eq_range']
      have := opsP_sound hΓ (ops := ops) (Q := PostP w0 L0 n0 n Q Kp) (K := Q .normal) (Kp := Kp) (fun fr H a w hk hr => .inl ⟨.normal, fr, H, rfl, hk, hr⟩) (fun ch fr H a w hk hr => .inr ⟨ch, fr, H, rfl, hk, hr⟩) ops.toList 0 fr H a w (fun i => by simp) h hR
      simpa using this
    | true => exact h.out w0 L0 a w _ hR (fun fr H a w hk hr => .inl ⟨.normal, fr, H, rfl, hk, hr⟩) (fun ch fr H a w hk hr => .inr ⟨ch, fr, H, rfl, hk, hr⟩) id
  | seq x y ihx ihy =>
    intro fr H Q a w h hR
    refine wp_seq (wp_mono (ihx fr H _ a w h hR) ?_)
    rintro e a' w' (⟨x', fr', H', rfl, hq, hr⟩ | ⟨ch, fr', H', rfl, hk, hr⟩)
    · cases x' with
      | normal => exact ihy fr' H' Q a' w' hq hr
      | exit i => exact .inl ⟨.exit i, fr', H', rfl, hq, hr⟩
      | goto l => exact .inl ⟨.goto l, fr', H', rfl, hq, hr⟩
      | ret => exact .inl ⟨.ret, fr', H', rfl, hq, hr⟩
    · exact .inr ⟨ch, fr', H', rfl, hk, hr⟩
  | cond c x y ihx ihy =>
    intro fr H Q a w h hR
    obtain ⟨b, fr', hk, hr, hc⟩ := condK_sound h hR
    refine wp_cond hc ?_
    cases b with
    | true => exact ihx fr' H Q a w hk hr
    | false => exact ihy fr' H Q a w hk hr
  | block id x ih =>
    intro fr H Q a w h hR
    refine wp_block (wp_mono (ih fr H _ a w h hR) ?_)
    rintro e a' w' (⟨x', fr', H', rfl, hq, hr⟩ | ⟨ch, fr', H', rfl, hk, hr⟩)
    · cases x' with
      | normal => exact .inl ⟨.normal, fr', H', rfl, hq, hr⟩
      | exit i =>
        simp only [AX.real, Exit.inBlock]
        simp only [blockQ] at hq
        split at hq
        · rename_i hb
          rw [if_pos (beq_true hb)]
          exact .inl ⟨.normal, fr', H', rfl, hq, hr⟩
        · rename_i hb
          rw [if_neg (fun e => by rw [e, Nat.beq_refl] at hb; exact Bool.noConfusion hb)]
          exact .inl ⟨.exit i, fr', H', rfl, hq, hr⟩
      | goto l => exact .inl ⟨.goto l, fr', H', rfl, hq, hr⟩
      | ret => exact .inl ⟨.ret, fr', H', rfl, hq, hr⟩
    · exact .inr ⟨ch, fr', H', rfl, hk, hr⟩
  | loop x ih =>
    intro fr H Q a w h hR
    obtain ⟨α, inv, p, m, ⟨x0, hp0, hw0⟩, hround⟩ := h.out
    exact loop_ghost (fun a w y => p y ∧ R w0 L0 n0 n (inv y).1 (inv y).2 a w) m (fun a w y hy => by
      refine wp_mono (ih (inv y).1 (inv y).2 _ a w (hround y hy.1) hy.2) ?_
      rintro e a' w' (⟨x', fr', H', rfl, hq, hr⟩ | ⟨ch, fr', H', rfl, hk, hr⟩)
      · cases x' with
        | normal =>
          obtain ⟨z, h1, h2, h3⟩ := hq
          exact ⟨z, h2, h1, h3.out w0 L0 n a' w' hr⟩
        | exit i => exact .inl ⟨.exit i, fr', H', rfl, hq, hr⟩
        | goto l => exact .inl ⟨.goto l, fr', H', rfl, hq, hr⟩
        | ret => exact .inl ⟨.ret, fr', H', rfl, hq, hr⟩
      · exact .inr ⟨ch, fr', H', rfl, hk, hr⟩) a w x0 ⟨hp0, hw0.out w0 L0 n a w hR⟩
  | rangeFunc _ _ _ _ _ _ => intro fr H Q a w h hR; exact h.elim
  | exit id => intro fr H Q a w h hR; exact wp_exit (.inl ⟨.exit id, fr, H, rfl, h, hR⟩)
  | scope _ _ => intro fr H Q a w h hR; exact h.elim
  | label l => intro fr H Q a w h hR; exact wp_label (.inl ⟨.normal, fr, H, rfl, h, hR⟩)
  | goto l => intro fr H Q a w h hR; exact h.elim
  | ret => intro fr H Q a w h hR; exact wp_ret (.inl ⟨.ret, fr, H, rfl, h, hR⟩)
  | refuse _ => intro fr H Q a w h hR; exact h.elim

/-! ### Functions that panic -/
theorem argFr_rep {w : World} {L : NM} {args : List FV} {vals : Array Value} {k : Nat} (ha : RepArgs w L args vals) : FRep w L (argFr args 0) { tmps := vals ++ Array.replicate k undef, defers := [] } := by
  intro t
  rw [get_argFr, if_pos (Nat.zero_le _), Nat.sub_zero]
  cases ht : args[t]? with
  | none => trivial
  | some v =>
    obtain ⟨x, h1, h2⟩ := ha.2 t v ht
    have hlt : t < vals.size := (Array.getElem?_eq_some_iff.1 h1).1
    simp only [Option.getD_some, Array.getD_eq_getD_getElem?]
    rw [Array.getElem?_append_left hlt, h1]
    exact h2
theorem base_lt {w : World} {L : NM} {H : Hp} (hw : HRep w L H) : ∀ nm, L nm ≠ none → nm < H.length := fun nm hnm => by
  rcases Nat.lt_or_ge nm H.length with h' | h'
  · exact h'
  · exact absurd (hw.unused nm (List.getElem?_eq_none h')) hnm

def vcFnP (P : Program) (Γ : Tab) (n0 : Nat) (fn : Func) (args : List FV) (H : Hp) (Kp : Ch → Hp → Prop) : Prop :=
  match fn.body, Nat.ble args.length fn.ntmps, fn.name == "runtime.NumGoroutine" with
  | some c, true, false => vcP P Γ n0 fn.ntmps (fun ch _ H => Kp ch H) c (argFr args 0) H fun _ _ _ => False
  | _, _, _ => False

theorem PCalls.intro (hΓ : TOK P Γ) {f : FuncId} {fn : Func} (hf : P.funcs[f]? = some fn) {args : List FV} {H : Hp} {ch : Ch} (h : vcFnP P Γ H.length fn args H fun c H' => c = ch ∧ H' = H) : PCalls P f args H ch := by
  unfold vcFnP at h
  split at h
  · rename_i c hb hle hn
    refine ⟨⟨fn, hf, by rw [hb]; rfl, hn⟩, fun w L vals hw ha => ?_⟩
    refine calls_of_wp hf hb ?_
    have hsz : (vals ++ Array.replicate (fn.ntmps - vals.size) undef).size = fn.ntmps := by
      have := ble_true hle
      have := ha.1
      simp; omega
    have hR : R ⟨w, []⟩ L H.length fn.ntmps (argFr args 0) H { tmps := vals ++ Array.replicate (fn.ntmps - vals.size) undef, defers := [] } w :=
      ⟨⟨L, hw, argFr_rep ha, Ev.refl w L⟩, base_lt hw, hsz, rfl⟩
    refine wp_mono (vcP_sound hΓ c _ _ _ _ _ h hR) ?_
    rintro e a w' (⟨x, fr, H1, rfl, hq, _⟩ | ⟨c1, fr, H1, rfl, ⟨rfl, rfl⟩, ⟨L1, g1, g2, g3⟩, g4, g5, g6⟩)
    · exact hq.elim
    · exact ⟨g6, L1, rfl, g1, g3⟩
  · exact h.elim
end Go.Sym

set_option linter.unusedVariables false
set_option linter.unusedSimpArgs false
namespace Go.Sym
open Go

variable {P : Program} {Γ : Tab}

/-! ### Functions that defer calls and may panic -/
/-- A deferred call after which its caller returns: what it does when the caller stands in mode u. -/
def SCallsM (P : Program) (f : FuncId) (args : List FV) (H : Hp) (u : FrameMode) (H' : Hp) : Prop :=
  (∃ fn, P.funcs[f]? = some fn ∧ fn.body.isNone = false ∧ (fn.name == "runtime.NumGoroutine") = false) ∧
  ∀ (w : World) (L : NM) (vals : Array Value), HRep w L H → RepArgs w L args vals →
    CallsD P f vals u w fun e u' w' => settle u' = .returning ∧ ∃ v L', e = .returned v ∧ HRep w' L' H' ∧ Ev w L w' L'

structure CallKM (P : Program) (f : FuncId) (args : List FV) (H : Hp) (u : FrameMode) (K : Hp → Prop) : Prop where
  out : ∃ H', SCallsM P f args H u H' ∧ K H'
theorem CallKM.mk' {f : FuncId} {args : List FV} {H : Hp} {u : FrameMode} {K : Hp → Prop} (H' : Hp) (h : SCallsM P f args H u H') (k : K H') : CallKM P f args H u K := ⟨⟨H', h, k⟩⟩

/-- A function's end: the deferred calls, then the results. -/
def leaveM (P : Program) (Γ : Tab) (rs : List ResultVar) (fr : Fr) (K : FV → Hp → Prop) : List AD → FrameMode → Hp → Prop
  | [], u, H => (match u with
    | .returning => retK Γ rs fr H fun v => K v H
    | _ => False)
  | d :: D, u, H => CallKM P d.f d.args H u fun H' => leaveM P Γ rs fr K D .returning H'

theorem leavesM_of (hΓ : TOK P Γ) {fn : Func} {tmps : Array Value} {n0 : Nat} {r : FV} {H' : Hp} {w0 : World} {L0 : NM} (hb : ∀ nm, L0 nm ≠ none → nm < n0) {fr : Fr} (a : Act) (ha : a.tmps = tmps) :
    ∀ (D : List AD) (ds : List Deferred) (u : FrameMode) (H : Hp) (w : World) (L : NM), leaveM P Γ fn.results.toList fr (RetK n0 r H') D u H → u ≠ .run → HRep w L H → FRep w L fr a → DRs w L D ds → Ev w0 L0 w L →
      Leaves P fn tmps (fun e w' => ∃ v L', e = .returned v ∧ HRep w' L' H' ∧ repF w' L' r v ∧ Ev w0 L0 w' L') ds u w
  | [], [], u, H, w, L, h, hu, h1, h2, _, h4 => by
    cases u with
    | run => exact absurd rfl hu
    | panicking c => exact h.elim
    | returning =>
      obtain ⟨v, g1, g2⟩ := retK_sound hΓ h
      obtain ⟨rv, g3, g4⟩ := g2 w L a h1 h2
      obtain ⟨⟨μ, k1, k2⟩⟩ := g1
      rw [ha] at g3
      exact ⟨rv, g3, rv, _, rfl, k1.hrep h1, k2 w L _ rv ⟨h1, newL_ok H' μ _ L⟩ g4, k1.ev hb h4⟩
  | d :: D, x :: ds, u, H, w, L, h, hu, h1, h2, h3, h4 => by
    obtain ⟨H1, ⟨⟨fnx, q1, q2, q3⟩, hc⟩, hK⟩ := h.out
    obtain ⟨⟨caps, vals, rfl, hargs⟩, h3'⟩ := h3
    have hinv : (invoke (.fn (.func d.f) caps) vals).run P w = .ok (.enter d.f (vals ++ caps)) w := by
      simp only [invoke, callFunc, Sem.run_bind, run_program, Result.andThen_ok, q1, q3, q2, Bool.false_eq_true, if_false, Sem.run_pure]
    refine leaves_cons hu hinv ((hc w L _ h1 hargs).mono ?_)
    rintro e u' w' ⟨hs, v, L', rfl, g1, g3⟩
    simp only [hs]
    exact leavesM_of hΓ hb a ha D ds .returning H1 w' L' hK (by simp) g1 (h2.mono g3) (h3'.mono g3) (h4.trans g3)
  | [], _ :: _, _, _, _, _, _, _, _, _, h3, _ => h3.elim
  | _ :: _, [], _, _, _, _, _, _, _, _, h3, _ => h3.elim

def hasDefer : List Oper → Bool
  | [] => false
  | o :: l => (match o.op with
    | .defer _ => true
    | _ => hasDefer l)

def panD (Kp : Ch → Fr → Hp → List AD → Prop) (D : List AD) (ch : Ch) (fr : Fr) (H : Hp) : Prop := Kp ch fr H D

def vcDP (P : Program) (Γ : Tab) (n : Nat) (Kp : Ch → Fr → Hp → List AD → Prop) : Code → Fr → Hp → List AD → (AX → Fr → Hp → List AD → Prop) → Prop
  | .seq x y, fr, H, D, Q => vcDP P Γ n Kp x fr H D (seqQD (vcDP P Γ n Kp y) Q)
  | .cond c x y, fr, H, D, Q => condK c fr (condQD (vcDP P Γ n Kp x) (vcDP P Γ n Kp y) H D Q)
  | .region id ops false, fr, H, D, Q => (match hasDefer ops.toList with
    | true => opsDf P Γ n ops.toList ops.toList fr H D (Q .normal)
    | false => vcP P Γ H.length n (panD Kp D) (.region id ops false) fr H (baseQD Q D))
  | c, fr, H, D, Q => vcP P Γ H.length n (panD Kp D) c fr H (baseQD Q D)

def PostDP (w0 : World) (L0 : NM) (n0 n : Nat) (Q : AX → Fr → Hp → List AD → Prop) (Kp : Ch → Fr → Hp → List AD → Prop) : Exit → Act → World → Prop := fun e a w =>
  (∃ x fr H D, e = x.real ∧ Q x fr H D ∧ RD w0 L0 n0 n fr H D a w) ∨ ∃ ch fr H D, e = .panic ch ∧ Kp ch fr H D ∧ RD w0 L0 n0 n fr H D a w

theorem vcDP_base (hΓ : TOK P Γ) {w0 : World} {L0 : NM} {n0 n : Nat} {c : Code} {fr : Fr} {H : Hp} {D : List AD} {Q : AX → Fr → Hp → List AD → Prop} {Kp : Ch → Fr → Hp → List AD → Prop} {a : Act} {w : World}
    (h : vcP P Γ H.length n (panD Kp D) c fr H (baseQD Q D)) (hR : RD w0 L0 n0 n fr H D a w) : c.wp P (PostDP w0 L0 n0 n Q Kp) a w := by
  obtain ⟨L, hr, hback⟩ := hR.open
  refine wp_mono (vcP_sound hΓ c fr H _ a w h hr) ?_
  rintro e a' w' (⟨x, fr', H', rfl, hq, hr'⟩ | ⟨ch, fr', H', rfl, hq, hr'⟩)
  · exact .inl ⟨x, fr', H', D, rfl, hq, hback hr'⟩
  · exact .inr ⟨ch, fr', H', D, rfl, hq, hback hr'⟩

theorem vcDP_sound (hΓ : TOK P Γ) {w0 : World} {L0 : NM} {n0 n : Nat} {Kp : Ch → Fr → Hp → List AD → Prop} : ∀ (c : Code) (fr : Fr) (H : Hp) (D : List AD) (Q : AX → Fr → Hp → List AD → Prop) (a : Act) (w : World), vcDP P Γ n Kp c fr H D Q → RD w0 L0 n0 n fr H D a w →
    c.wp P (PostDP w0 L0 n0 n Q Kp) a w := by
  intro c
  induction c with
  | seq x y ihx ihy =>
    intro fr H D Q a w h hR
    refine wp_seq (wp_mono (ihx fr H D _ a w h hR) ?_)
    rintro e a' w' (⟨x', fr', H', D', rfl, hq, hr⟩ | ⟨ch, fr', H', D', rfl, hq, hr⟩)
    · cases x' with
      | normal => exact ihy fr' H' D' Q a' w' hq hr
      | exit i => exact .inl ⟨.exit i, fr', H', D', rfl, hq, hr⟩
      | goto l => exact .inl ⟨.goto l, fr', H', D', rfl, hq, hr⟩
      | ret => exact .inl ⟨.ret, fr', H', D', rfl, hq, hr⟩
    · exact .inr ⟨ch, fr', H', D', rfl, hq, hr⟩
  | cond c x y ihx ihy =>
    intro fr H D Q a w h hR
    obtain ⟨L, hr, hback⟩ := hR.open
    obtain ⟨b, fr', hk, hr, hc⟩ := condK_sound h hr
    refine wp_cond hc ?_
    cases b with
    | true => exact ihx fr' H D Q a w hk (hback hr)
    | false => exact ihy fr' H D Q a w hk (hback hr)
  | region id ops draw =>
    intro fr H D Q a w h hR
    cases draw with
    | false =>
      simp only [vcDP] at h
      split at h
      · refine wp_region ?_
        rw [List.range_eq_range']
        have := opsDf_sound hΓ (ops := ops) (Q := PostDP w0 L0 n0 n Q Kp) (K := Q .normal) (fun fr H D a w hk hr => .inl ⟨.normal, fr, H, D, rfl, hk, hr⟩) ops.toList 0 fr H D a w (fun i => by simp) h hR
        simpa using this
      · exact vcDP_base hΓ h hR
    | true => exact vcDP_base hΓ h hR
  | skip => intro fr H D Q a w h hR; exact vcDP_base hΓ h hR
  | block id x ih => intro fr H D Q a w h hR; exact vcDP_base hΓ h hR
  | loop x ih => intro fr H D Q a w h hR; exact vcDP_base hΓ h hR
  | rangeFunc _ _ _ _ _ _ => intro fr H D Q a w h hR; exact vcDP_base hΓ h hR
  | exit id => intro fr H D Q a w h hR; exact vcDP_base hΓ h hR
  | scope _ _ => intro fr H D Q a w h hR; exact vcDP_base hΓ h hR
  | label l => intro fr H D Q a w h hR; exact vcDP_base hΓ h hR
  | goto l => intro fr H D Q a w h hR; exact vcDP_base hΓ h hR
  | ret => intro fr H D Q a w h hR; exact vcDP_base hΓ h hR
  | refuse _ => intro fr H D Q a w h hR; exact vcDP_base hΓ h hR

def endDP (P : Program) (Γ : Tab) (rs : List ResultVar) (K : FV → Hp → Prop) (e : AX) (fr : Fr) (H : Hp) (D : List AD) : Prop :=
  match e with
  | .normal => leaveM P Γ rs fr K D .returning H
  | .ret => leaveM P Γ rs fr K D .returning H
  | _ => False
def panDP (P : Program) (Γ : Tab) (rs : List ResultVar) (K : FV → Hp → Prop) (ch : Ch) (fr : Fr) (H : Hp) (D : List AD) : Prop := leaveM P Γ rs fr K D (.panicking ch) H

def vcFnDP (P : Program) (Γ : Tab) (fn : Func) (args : List FV) (H : Hp) (K : FV → Hp → Prop) : Prop :=
  match fn.body, Nat.ble args.length fn.ntmps, fn.name == "runtime.NumGoroutine" with
  | some c, true, false => vcDP P Γ fn.ntmps (panDP P Γ fn.results.toList K) c (argFr args 0) H [] (endDP P Γ fn.results.toList K)
  | _, _, _ => False

theorem SCalls.introDP (hΓ : TOK P Γ) {f : FuncId} {fn : Func} (hf : P.funcs[f]? = some fn) {args : List FV} {H : Hp} {r : FV} {H' : Hp} (h : vcFnDP P Γ fn args H (RetK H.length r H')) : SCalls P f args H r H' := by
  unfold vcFnDP at h
  split at h
  · rename_i c hb hle hn
    refine ⟨⟨fn, hf, by rw [hb]; rfl, hn⟩, fun w L vals hw ha => ?_⟩
    refine calls_of_wp_defers hf hb ?_
    have hsz : (vals ++ Array.replicate (fn.ntmps - vals.size) undef).size = fn.ntmps := by
      have := ble_true hle
      have := ha.1
      simp; omega
    have hR : RD w L H.length fn.ntmps (argFr args 0) H [] { tmps := vals ++ Array.replicate (fn.ntmps - vals.size) undef, defers := [] } w :=
      ⟨⟨L, hw, argFr_rep ha, trivial, Ev.refl w L⟩, base_lt hw, hsz⟩
    refine wp_mono (vcDP_sound hΓ c _ _ _ _ _ _ h hR) ?_
    rintro e a w' (⟨x, fr, H1, D, rfl, hq, ⟨L1, g1, g2, g2', g3⟩, g4, g5⟩ | ⟨ch, fr, H1, D, rfl, hq, ⟨L1, g1, g2, g2', g3⟩, g4, g5⟩)
    · cases x with
      | normal => exact leavesM_of hΓ g4 a rfl D a.defers .returning H1 w' L1 hq (by simp) g1 g2 g2' g3
      | ret => exact leavesM_of hΓ g4 a rfl D a.defers .returning H1 w' L1 hq (by simp) g1 g2 g2' g3
      | exit i => exact hq.elim
      | goto l => exact hq.elim
    · exact leavesM_of hΓ g4 a rfl D a.defers (.panicking ch) H1 w' L1 hq (by simp) g1 g2 g2' g3
  · exact h.elim
end Go.Sym

set_option linter.unusedVariables false
set_option linter.unusedSimpArgs false
namespace Go.Sym
open Go

variable {P : Program} {Γ : Tab}

/-! ### Functions that recover -/
def Exit.inBlockS (id : Nat) (Q : Exit → Act → List Frame → World → Prop) : Exit → Act → List Frame → World → Prop
  | .exit id', a, cs, w => if id' = id then Q .normal a cs w else Q (.exit id') a cs w
  | e, a, cs, w => Q e a cs w

theorem wpS_block {Q : Exit → Act → List Frame → World → Prop} {a : Act} {cs : List Frame} {w : World} {id : Nat} {c : Code} (h : c.wpS P (Exit.inBlockS id Q) a cs w) : (Code.block id c).wpS P Q a cs w := by
  intro b k hb hr
  obtain ⟨e, a₁, cs₁, w₁, hq, harr⟩ := h b (.inBlock id :: k) hb hr
  cases e with
  | normal => exact ⟨.normal, a₁, cs₁, w₁, hq, .head step_block (Steps.trans harr (.one step_inBlock))⟩
  | exit id' =>
    by_cases hid : id' = id
    · simp only [Exit.inBlockS, hid, if_true] at hq
      exact ⟨.normal, a₁, cs₁, w₁, hq, .head step_block (harr k (by simp [exitTo, hid]))⟩
    · simp only [Exit.inBlockS, hid, if_false] at hq
      refine ⟨.exit id', a₁, cs₁, w₁, hq, fun k' hk => .head step_block (harr k' ?_)⟩
      have : (id == id') = false := by simp; exact fun h => hid h.symm
      simp [exitTo, this, hk]
  | goto l => exact ⟨_, a₁, cs₁, w₁, hq, fun k' hk => .head step_block (harr k' (by simp [gotoIn, hk]))⟩
  | ret => exact ⟨_, a₁, cs₁, w₁, hq, .of_steps (.one step_block) harr⟩
  | panic ch => exact ⟨_, a₁, cs₁, w₁, hq, .of_steps (.one step_block) harr⟩
  | outgrown => exact ⟨_, a₁, cs₁, w₁, hq, .of_steps (b := b) (k := k) (cs := cs₁) (e := .outgrown) (.one step_block) harr⟩

theorem wpS_mono {Q Q' : Exit → Act → List Frame → World → Prop} {a : Act} {cs : List Frame} {w : World} {c : Code} (h : c.wpS P Q a cs w) (hq : ∀ e a cs w, Q e a cs w → Q' e a cs w) : c.wpS P Q' a cs w :=
  fun b k hb hr => let ⟨e, a', cs', w', q, r⟩ := h b k hb hr; ⟨e, a', cs', w', hq _ _ _ _ q, r⟩

/-- What recover gives, and in which mode the caller then stands. -/
structure RecK (u : FrameMode) (K : FV → FrameMode → Prop) : Prop where
  out : (u = .returning ∧ K (.s (.lf .nili)) .returning) ∨ ∃ v lv, u = .panicking [{ v := v, recovered := false }] ∧ (∀ (w : World) (L : NM), rep w L lv v) ∧ K (.s (.lf lv)) (.panicking [{ v := v, recovered := true }])
theorem RecK.none {K : FV → FrameMode → Prop} (k : K (.s (.lf .nili)) .returning) : RecK .returning K := ⟨.inl ⟨rfl, k⟩⟩
theorem RecK.some {v : Value} (lv : LV) {K : FV → FrameMode → Prop} (h : ∀ (w : World) (L : NM), rep w L lv v) (k : K (.s (.lf lv)) (.panicking [{ v := v, recovered := true }])) : RecK (.panicking [{ v := v, recovered := false }]) K := ⟨.inr ⟨v, lv, rfl, h, k⟩⟩

/-- An operation that the user shows. -/
structure OpK (P : Program) (o : Oper) (vs : Operand → FV) (H : Hp) (K : FV → Hp → Prop) : Prop where
  out : ∃ r H', OpSem P o vs H r H' ∧ K r H'
theorem OpK.mk' {o : Oper} {vs : Operand → FV} {H : Hp} {K : FV → Hp → Prop} (r : FV) (H' : Hp) (h : OpSem P o vs H r H') (k : K r H') : OpK P o vs H K := ⟨⟨r, H', h, k⟩⟩

abbrev KS := Fr → Hp → FrameMode → Prop
def nextS (next : Fr → Hp → FrameMode → KS → Prop) (u : FrameMode) (K : KS) (fr : Fr) (H : Hp) (_ : Fr → Hp → Prop) : Prop := next fr H u K

def callS (P : Program) (Γ : Tab) (n : Nat) (all : List Oper) (o : Oper) (c : Call) (next : Fr → Hp → FrameMode → KS → Prop) (fr : Fr) (H : Hp) (u : FrameMode) (K : KS) : Prop :=
  match c.callee with
  | .builtin .recover => RecK u fun v u' => putK n o.dst v fr fun fr' => next fr' H u' K
  | _ => stepK P Γ n all o (nextS next u K) fr H fun _ _ => True

def stepS (P : Program) (Γ : Tab) (n : Nat) (all : List Oper) (o : Oper) (next : Fr → Hp → FrameMode → KS → Prop) (fr : Fr) (H : Hp) (u : FrameMode) (K : KS) : Prop :=
  match o.op, o.guard with
  | .call c, none => callS P Γ n all o c next fr H u K
  | .typeAssert _ _ _ _, none => OpK P o (opv fr) H fun v H' => putK n o.dst v fr fun fr' => next fr' H' u K
  | .binOp _ _ x _ _, none => (match opv fr x with
    | .s (.lf .nili) => OpK P o (opv fr) H fun v H' => putK n o.dst v fr fun fr' => next fr' H' u K
    | .s (.lf (.ifc _ _)) => OpK P o (opv fr) H fun v H' => putK n o.dst v fr fun fr' => next fr' H' u K
    | _ => stepK P Γ n all o (nextS next u K) fr H fun _ _ => True)
  | _, _ => stepK P Γ n all o (nextS next u K) fr H fun _ _ => True

def opsS (P : Program) (Γ : Tab) (n : Nat) (all : List Oper) : List Oper → Fr → Hp → FrameMode → KS → Prop
  | [], fr, H, u, K => K fr H u
  | o :: l, fr, H, u, K => stepS P Γ n all o (opsS P Γ n all l) fr H u K

theorem run_recover {o : Oper} {c : Call} (ho : o.op = .call c) (hc : c.callee = .builtin .recover) (ρ : Operand → Value) (w : World) : (execOp ρ o).run P w = .ok .recover w := by
  simp [execOp, ho, resolve, hc, Deferred.ofValue, invoke, builtin]

theorem upon_wpOpsS {o : Oper} {a : Act} {w : World} {next : Act → World → Prop} {Q : Exit → Act → World → Prop} (h : o.wp P a w next Q) : ∀ w', (execOp a.eval o).run P w ≠ .ok .recover w' := by
  intro w' e
  unfold Oper.wp at h
  rw [e] at h
  exact h

theorem opsS_sound (hΓ : TOK P Γ) {ops : Array Oper} {w0 : W0} {L0 : NM} {n0 n : Nat} {c0 : Frame} {cs0 : List Frame} {Q : Exit → Act → List Frame → World → Prop} {K : KS}
    (hQ : ∀ fr H u a w, K fr H u → R w0 L0 n0 n fr H a w → Q .normal a ({ c0 with mode := u } :: cs0) w) :
    ∀ (l : List Oper) (k : Nat) (fr : Fr) (H : Hp) (u : FrameMode) (a : Act) (w : World), (∀ i, l[i]? = ops.toList[k + i]?) → opsS P Γ n ops.toList l fr H u K → R w0 L0 n0 n fr H a w →
      wpOpsS P ops Q (List.range' k l.length) a ({ c0 with mode := u } :: cs0) w := by
  intro l
  induction l with
  | nil => intro k fr H u a w _ h hR; exact hQ fr H u a w h hR
  | cons o l ih =>
    intro k fr H u a w hl h hR
    have hk : ops[k]? = some o := by have := hl 0; simpa using this.symm
    have hl' : ∀ i, l[i]? = ops.toList[k + 1 + i]? := fun i => by have := hl (i + 1); rw [show k + 1 + i = k + (i + 1) by omega, ← this]; rfl
    rw [List.length_cons, List.range'_succ]
    have go : ∀ {next : Act → World → Prop} {q : Exit → Act → World → Prop}, o.wp P a w next q → (next = fun a' w' => wpOpsS P ops Q (List.range' (k + 1) l.length) a' ({ c0 with mode := u } :: cs0) w') → (q = fun e a' w' => Q e a' ({ c0 with mode := u } :: cs0) w') →
        Region.wanted o (yielded ops a.tmps) = true → wpOpsS P ops Q (k :: List.range' (k + 1) l.length) a ({ c0 with mode := u } :: cs0) w := by
      intro next q hw h1 h2 hwant
      subst h1 h2
      simp only [wpOpsS, hk, hwant, if_true]
      have hne := upon_wpOpsS hw
      unfold Oper.wp at hw
      split
      · rename_i w' he
        exact absurd he (hne w')
      · exact hw
    have plain : stepK P Γ n ops.toList o (nextS (opsS P Γ n ops.toList l) u K) fr H (fun _ _ => True) → wpOpsS P ops Q (k :: List.range' (k + 1) l.length) a ({ c0 with mode := u } :: cs0) w := by
      intro h
      simp only [stepK] at h
      obtain ⟨b, fr', hK, hR', hw⟩ := guardK_sound rfl h hR
      cases b with
      | true =>
        obtain ⟨r, H', h1, h2⟩ := opW_sound hΓ hK
        exact go (hR'.step h1 h2 fun fr'' a' w' hk' hr' => ih (k + 1) fr'' H' u a' w' hl' hk' hr') rfl rfl hw
      | false =>
        simp only [wpOpsS, hk, hw, Bool.false_eq_true, if_false]
        obtain ⟨fr'', h1, h2⟩ := hR'.skip hK
        exact ih (k + 1) fr'' H u _ w hl' h1 h2
    simp only [opsS, stepS] at h
    split at h
    · rename_i c ho hg
      have hw : Region.wanted o (yielded ops a.tmps) = true := by simp [Region.wanted, hg]
      unfold callS at h
      split at h
      · rename_i hc
        have put : ∀ (v : FV) (rv : Value) (u' : FrameMode), (∀ (w : World) (L : NM), repF w L v rv) → putK n o.dst v fr (fun fr' => opsS P Γ n ops.toList l fr' H u' K) → wpOpsS P ops Q (List.range' (k + 1) l.length) (a.put o.dst rv) ({ c0 with mode := u' } :: cs0) w := by
          intro v rv u' hv hp
          obtain ⟨⟨L, h1, h2, h3⟩, hb, h4, h5⟩ := hR
          unfold putK at hp
          split at hp
          · rename_i hd
            rw [hd]
            exact ih (k + 1) fr H u' a w hl' hp ⟨⟨L, h1, h2, h3⟩, hb, h4, h5⟩
          · rename_i d hd
            split at hp
            · rename_i hlt
              have hlt := blt_true hlt
              rw [hd]
              exact ih (k + 1) _ H u' _ w hl' hp ⟨⟨L, h1, h2.put (Nat.lt_of_lt_of_eq hlt h4.symm) (hv w L), h3⟩, hb, by rw [put_size]; exact h4, by rw [put_defers]; exact h5⟩
            · exact hp.elim
        simp only [wpOpsS, hk, hw, if_true, run_recover ho hc]
        rcases h.out with ⟨rfl, hK⟩ | ⟨v, lv, rfl, hv, hK⟩
        · exact put (.s (.lf .nili)) .nilIface .returning (fun w L => rfl) hK
        · exact put (.s (.lf lv)) v _ hv hK
      · exact plain h
    · rename_i ho hg
      have hw : Region.wanted o (yielded ops a.tmps) = true := by simp [Region.wanted, hg]
      obtain ⟨r, H', h1, h2⟩ := h.out
      exact go (hR.step h1 h2 fun fr'' a' w' hk' hr' => ih (k + 1) fr'' H' u a' w' hl' hk' hr') rfl rfl hw
    · rename_i ho hg
      have hw : Region.wanted o (yielded ops a.tmps) = true := by simp [Region.wanted, hg]
      split at h
      · obtain ⟨r, H', h1, h2⟩ := h.out
        exact go (hR.step h1 h2 fun fr'' a' w' hk' hr' => ih (k + 1) fr'' H' u a' w' hl' hk' hr') rfl rfl hw
      · obtain ⟨r, H', h1, h2⟩ := h.out
        exact go (hR.step h1 h2 fun fr'' a' w' hk' hr' => ih (k + 1) fr'' H' u a' w' hl' hk' hr') rfl rfl hw
      · exact plain h
    · exact plain h

abbrev QS := AX → Fr → Hp → FrameMode → Prop
def seqQS (next : Fr → Hp → FrameMode → QS → Prop) (Q : QS) (e : AX) (fr : Fr) (H : Hp) (u : FrameMode) : Prop :=
  match e with
  | .normal => next fr H u Q
  | .exit i => Q (.exit i) fr H u
  | .goto l => Q (.goto l) fr H u
  | .ret => Q .ret fr H u
def condQS (x y : Fr → Hp → FrameMode → QS → Prop) (H : Hp) (u : FrameMode) (Q : QS) (b : Bool) (fr : Fr) : Prop :=
  match b with
  | true => x fr H u Q
  | false => y fr H u Q
def blockQS (id : Nat) (Q : QS) (e : AX) (fr : Fr) (H : Hp) (u : FrameMode) : Prop :=
  match e with
  | .exit i => (match Nat.beq i id with | true => Q .normal fr H u | false => Q (.exit i) fr H u)
  | .normal => Q .normal fr H u
  | .goto l => Q (.goto l) fr H u
  | .ret => Q .ret fr H u
def baseQS (Q : QS) (u : FrameMode) (e : AX) (fr : Fr) (H : Hp) : Prop := Q e fr H u

def vcS (P : Program) (Γ : Tab) (n0 n : Nat) : Code → Fr → Hp → FrameMode → QS → Prop
  | .seq x y, fr, H, u, Q => vcS P Γ n0 n x fr H u (seqQS (vcS P Γ n0 n y) Q)
  | .cond c x y, fr, H, u, Q => condK c fr (condQS (vcS P Γ n0 n x) (vcS P Γ n0 n y) H u Q)
  | .region id ops false, fr, H, u, Q => opsS P Γ n ops.toList ops.toList fr H u (Q .normal)
  | .block id x, fr, H, u, Q => vcS P Γ n0 n x fr H u (blockQS id Q)
  | c, fr, H, u, Q => vc P Γ n0 n c fr H (baseQS Q u)

def PostS (c0 : Frame) (cs0 : List Frame) (w0 : W0) (L0 : NM) (n0 n : Nat) (Q : QS) : Exit → Act → List Frame → World → Prop := fun e a cs w => ∃ x fr H u, e = x.real ∧ Q x fr H u ∧ cs = { c0 with mode := u } :: cs0 ∧ R w0 L0 n0 n fr H a w

theorem vcS_base (hΓ : TOK P Γ) {c0 : Frame} {cs0 : List Frame} {w0 : W0} {L0 : NM} {n0 n : Nat} {c : Code} {fr : Fr} {H : Hp} {u : FrameMode} {Q : QS} {a : Act} {w : World}
    (h : vc P Γ n0 n c fr H (baseQS Q u)) (hR : R w0 L0 n0 n fr H a w) : c.wpS P (PostS c0 cs0 w0 L0 n0 n Q) a ({ c0 with mode := u } :: cs0) w := by
  refine wpS_of_wp (wp_mono (vc_sound hΓ c fr H _ a w h hR) ?_)
  rintro e a' w' ⟨x, fr', H', rfl, hq, hr'⟩
  exact ⟨x, fr', H', u, rfl, hq, rfl, hr'⟩

theorem vcS_sound (hΓ : TOK P Γ) {c0 : Frame} {cs0 : List Frame} {w0 : W0} {L0 : NM} {n0 n : Nat} : ∀ (c : Code) (fr : Fr) (H : Hp) (u : FrameMode) (Q : QS) (a : Act) (w : World), vcS P Γ n0 n c fr H u Q → R w0 L0 n0 n fr H a w →
    c.wpS P (PostS c0 cs0 w0 L0 n0 n Q) a ({ c0 with mode := u } :: cs0) w := by
  intro c
  induction c with
  | seq x y ihx ihy =>
    intro fr H u Q a w h hR
    refine wpS_seq (wpS_mono (ihx fr H u _ a w h hR) ?_)
    rintro e a' cs' w' ⟨x', fr', H', u', rfl, hq, rfl, hr⟩
    cases x' with
    | normal => exact ihy fr' H' u' Q a' w' hq hr
    | exit i => exact ⟨.exit i, fr', H', u', rfl, hq, rfl, hr⟩
    | goto l => exact ⟨.goto l, fr', H', u', rfl, hq, rfl, hr⟩
    | ret => exact ⟨.ret, fr', H', u', rfl, hq, rfl, hr⟩
  | cond c x y ihx ihy =>
    intro fr H u Q a w h hR
    obtain ⟨b, fr', hk, hr, hc⟩ := condK_sound h hR
    refine wpS_cond hc ?_
    cases b with
    | true => exact ihx fr' H u Q a w hk hr
    | false => exact ihy fr' H u Q a w hk hr
  | region id ops draw =>
    intro fr H u Q a w h hR
    cases draw with
    | false =>
      refine wpS_region ?_
      rw [List.range_eq_range']
      have := opsS_sound hΓ (ops := ops) (Q := PostS c0 cs0 w0 L0 n0 n Q) (K := Q .normal) (fun fr H u a w hk hr => ⟨.normal, fr, H, u, rfl, hk, rfl, hr⟩) ops.toList 0 fr H u a w (fun i => by simp) h hR
      simpa using this
    | true => exact vcS_base hΓ h hR
  | block id x ih =>
    intro fr H u Q a w h hR
    refine wpS_block (wpS_mono (ih fr H u _ a w h hR) ?_)
    rintro e a' cs' w' ⟨x', fr', H', u', rfl, hq, rfl, hr⟩
    cases x' with
    | normal => exact ⟨.normal, fr', H', u', rfl, hq, rfl, hr⟩
    | exit i =>
      simp only [AX.real, Exit.inBlockS]
      simp only [blockQS] at hq
      split at hq
      · rename_i hb
        rw [if_pos (beq_true hb)]
        exact ⟨.normal, fr', H', u', rfl, hq, rfl, hr⟩
      · rename_i hb
        rw [if_neg (fun e => by rw [e, Nat.beq_refl] at hb; exact Bool.noConfusion hb)]
        exact ⟨.exit i, fr', H', u', rfl, hq, rfl, hr⟩
    | goto l => exact ⟨.goto l, fr', H', u', rfl, hq, rfl, hr⟩
    | ret => exact ⟨.ret, fr', H', u', rfl, hq, rfl, hr⟩
  | skip => intro fr H u Q a w h hR; exact vcS_base hΓ h hR
  | loop x ih => intro fr H u Q a w h hR; exact vcS_base hΓ h hR
  | rangeFunc _ _ _ _ _ _ => intro fr H u Q a w h hR; exact vcS_base hΓ h hR
  | exit id => intro fr H u Q a w h hR; exact vcS_base hΓ h hR
  | scope _ _ => intro fr H u Q a w h hR; exact vcS_base hΓ h hR
  | label l => intro fr H u Q a w h hR; exact vcS_base hΓ h hR
  | goto l => intro fr H u Q a w h hR; exact vcS_base hΓ h hR
  | ret => intro fr H u Q a w h hR; exact vcS_base hΓ h hR
  | refuse _ => intro fr H u Q a w h hR; exact vcS_base hΓ h hR

/-- The end of a function that recovers. -/
structure RetS (H' : Hp) (H : Hp) (u : FrameMode) : Prop where
  out : settle u = .returning ∧ H = H'
def endS (Γ : Tab) (rs : List ResultVar) (H' : Hp) (e : AX) (fr : Fr) (H : Hp) (u : FrameMode) : Prop :=
  match e with
  | .normal => retK Γ rs fr H fun _ => RetS H' H u
  | .ret => retK Γ rs fr H fun _ => RetS H' H u
  | _ => False

def vcFnS (P : Program) (Γ : Tab) (fn : Func) (args : List FV) (H : Hp) (u : FrameMode) (H' : Hp) : Prop :=
  match fn.body, Nat.ble args.length fn.ntmps, fn.name == "runtime.NumGoroutine" with
  | some c, true, false => vcS P Γ H.length fn.ntmps c (argFr args 0) H u (endS Γ fn.results.toList H')
  | _, _, _ => False

theorem SCallsM.intro (hΓ : TOK P Γ) {f : FuncId} {fn : Func} (hf : P.funcs[f]? = some fn) {args : List FV} {H : Hp} {u : FrameMode} {H' : Hp} (h : vcFnS P Γ fn args H u H') : SCallsM P f args H u H' := by
  unfold vcFnS at h
  split at h
  · rename_i c hb hle hn
    refine ⟨⟨fn, hf, by rw [hb]; rfl, hn⟩, fun w L vals hw ha => callsD_of_wpS hf hb fun c0 cs0 hc0 => ?_⟩
    have hsz : (vals ++ Array.replicate (fn.ntmps - vals.size) undef).size = fn.ntmps := by
      have := ble_true hle
      have := ha.1
      simp; omega
    have hR : R ⟨w, []⟩ L H.length fn.ntmps (argFr args 0) H { tmps := vals ++ Array.replicate (fn.ntmps - vals.size) undef, defers := [] } w :=
      ⟨⟨L, hw, argFr_rep ha, Ev.refl w L⟩, base_lt hw, hsz, rfl⟩
    have hc : c0 = { c0 with mode := u } := by subst hc0; rfl
    have := vcS_sound (c0 := c0) (cs0 := cs0) hΓ c _ _ _ _ _ _ h hR
    rw [← hc] at this
    refine wpS_mono this ?_
    rintro e a cs' w' ⟨x, fr, H1, u1, rfl, hq, rfl, ⟨L1, g1, g2, g3⟩, g4, g5, g6⟩
    cases x with
    | normal =>
      obtain ⟨v, ⟨⟨hs, rfl⟩⟩, h2⟩ := retK_sound hΓ hq
      obtain ⟨rv, h3, h4⟩ := h2 w' L1 a g1 g2
      exact ⟨g6, u1, rfl, rv, h3, hs, rv, L1, rfl, g1, g3⟩
    | ret =>
      obtain ⟨v, ⟨⟨hs, rfl⟩⟩, h2⟩ := retK_sound hΓ hq
      obtain ⟨rv, h3, h4⟩ := h2 w' L1 a g1 g2
      exact ⟨g6, u1, rfl, rv, h3, hs, rv, L1, rfl, g1, g3⟩
    | exit i => exact hq.elim
    | goto l => exact hq.elim
  · exact h.elim
end Go.Sym

set_option linter.unusedVariables false
set_option linter.unusedSimpArgs false
namespace Go.Sym
open Go

variable {P : Program} {Γ : Tab}

/-! ### Drawn regions whose last operation stands behind all others, and may panic -/
def noop (o : Oper) : Oper := { o with op := .move (.const .nilFunc), dst := none, guard := none }

def lastB (ops : Array Oper) (anc : List Nat) (z : Nat) : Bool :=
  Nat.beq ops.size (z + 1) && allB z (fun i => ancB ops.size anc i z) && ops.toList.all fun o => (match o.guard with | none => true | some _ => false)

theorem lin_last {ops : Array Oper} {anc : List Nat} {plan : Plan} (hok : DOK false ops (fun j i => ancB ops.size anc j i = true) plan) {z : Nat} (hsz' : ops.size = z + 1) (hz : ∀ i, i < z → ancB ops.size anc i z = true) :
    ∀ (listed : Array Bool) (π : List Nat), Lin ops listed π → listed.size = ops.size → listed.getD z true = false →
    (∀ i, i < ops.size → listed.getD i true = true → ∀ j, ancB ops.size anc j i = true → listed.getD j true = true) → ∃ π', π = π' ++ [z] ∧ z ∉ π' := by
  intro listed π hL
  induction hL with
  | @done listed hr =>
    intro hsz hzl hcl
    exfalso
    have full : ∀ k i, i < k → i < ops.size → listed.getD i true = true := by
      intro k
      induction k with
      | zero => intro i h; omega
      | succ k ih =>
        intro i hik hi
        cases hm : listed.getD i true
        · exfalso
          have hmem : i ∈ Region.ready .any ops listed := by
            refine mem_ready.2 ⟨hm, ops[i], by simp [hi], fun e he hb => ?_⟩
            have hlt := hok.edge i ops[i] (by simp [hi]) e.on (mem_predsE he hb)
            have hes : e.on < ops.size := by omega
            have := ih e.on (by omega) hes
            rw [Array.getD_eq_getD_getElem?] at this ⊢
            rw [Array.getElem?_eq_getElem (by omega)] at this ⊢
            exact this
          rw [hr] at hmem
          simp at hmem
        · rfl
    rw [full (z + 1) z (by omega) (by omega)] at hzl
    simp at hzl
  | @step listed i π hmem hrest ih =>
    intro hsz hzl hcl
    obtain ⟨hul, o, ho, hed⟩ := mem_ready.1 hmem
    have hi : i < ops.size := (Array.getElem?_eq_some_iff.1 ho).1
    have hanc : ∀ j, ancB ops.size anc j i = true → listed.getD j true = true := by
      intro j hj
      obtain ⟨e, g1, g2⟩ := hok.anc i o ho j hj
      simp only [chainP, Bool.false_eq_true, if_false, List.append_nil] at g1
      obtain ⟨ed, k1, k2, rfl⟩ := predsE_mem g1
      obtain ⟨k3, k4⟩ := listed_of (hed ed k1 k2)
      rcases g2 with g2 | g2
      · rw [← g2]; exact k4
      · exact hcl ed.on (by omega) k4 j g2
    have hset : ∀ j, (listed.setIfInBounds i true).getD j true = true ↔ (j = i ∨ listed.getD j true = true) := by
      intro j
      by_cases e : i = j
      · subst e
        simp [Array.getD_eq_getD_getElem?, hsz, hi]
      · rw [getD_set_ne _ e]
        constructor
        · exact .inr
        · rintro (h | h)
          · exact absurd h.symm e
          · exact h
    by_cases hiz : i = z
    · subst hiz
      refine ⟨[], ?_, by simp⟩
      have hall : ∀ j, j < ops.size → (listed.setIfInBounds i true).getD j true = true := fun j hj => by
        rw [hset]
        by_cases e : j = i
        · exact .inl e
        · exact .inr (hanc j (hz j (by omega)))
      cases hrest with
      | done h => rfl
      | step h r =>
        exfalso
        obtain ⟨h1, o', ho', _⟩ := mem_ready.1 h
        rw [hall _ (Array.getElem?_eq_some_iff.1 ho').1] at h1
        simp at h1
    · have hzl' : (listed.setIfInBounds i true).getD z true = false := by rw [getD_set_ne _ hiz]; exact hzl
      obtain ⟨π', e, hn⟩ := ih (by simpa using hsz) hzl' (fun k hk hlk j hj => by
        rw [hset] at hlk ⊢
        rcases hlk with rfl | hlk
        · exact .inr (hanc j hj)
        · exact .inr (hcl k hk hlk j hj))
      exact ⟨i :: π', by rw [e]; rfl, by simp only [List.mem_cons, not_or]; exact ⟨fun h => hiz h.symm, hn⟩⟩

theorem lin_same {ops ops' : Array Oper} (hr : ∀ listed, Region.ready .any ops' listed = Region.ready .any ops listed) : ∀ (listed : Array Bool) (π : List Nat), Lin ops listed π → Lin ops' listed π := by
  intro listed π h
  induction h with
  | done h => exact .done (by rw [hr]; exact h)
  | step h r ih => exact .step (by rw [hr]; exact h) ih

theorem upon_mono2 {o : Oper} {a : Act} {w : World} {K K' : Act → World → Prop} {Q Q' : Exit → Act → World → Prop} (hk : ∀ a w, K a w → K' a w) (hq : ∀ e a w, e ≠ .normal → Q e a w → Q' e a w) (hh : o.wp P a w K Q) : o.wp P a w K' Q' := by
  unfold Oper.wp at *
  generalize (execOp a.eval o).run P w = r at *
  cases r with
  | ok n w' =>
    cases n <;> simp only [Oper.upon] at hh ⊢ <;>
      first
        | exact hk _ _ hh
        | exact Calls.mono hh (fun e w'' he => by
            cases e with
            | returned v => exact hk _ _ he
            | panicked c => exact hq _ _ _ (by simp) he
            | outgrown => exact let ⟨a, w, h⟩ := he; ⟨a, w, hq _ _ _ (by simp) h⟩)
        | exact Rows.mono hh (fun _ _ he => hk _ _ he)
  | halt x w' =>
    cases x <;> simp only [Oper.upon] at hh ⊢
    all_goals first | exact hq _ _ _ (by simp) hh | exact hh

theorem ops_last {ops ops' : Array Oper} {z : Nat} (hne : ∀ i, i ≠ z → ops'[i]? = ops[i]?) (hg : ∀ (i : Nat) (o : Oper), ops[i]? = some o → o.guard = none) {Q Q' : Exit → Act → World → Prop} (hq : ∀ e a w, e ≠ .normal → Q' e a w → Q e a w)
    (hz : ∀ a w, wpOps P ops' Q' [z] a w → wpOps P ops Q [z] a w) : ∀ (π : List Nat) (a : Act) (w : World), z ∉ π → wpOps P ops' Q' (π ++ [z]) a w → wpOps P ops Q (π ++ [z]) a w
  | [], a, w, _, h => hz a w h
  | i :: π, a, w, hn, h => by
    simp only [List.mem_cons, not_or] at hn
    have ih := fun a w => ops_last hne hg hq hz π a w hn.2
    simp only [List.cons_append, wpOps, hne i (fun e => hn.1 e.symm)] at h ⊢
    cases ho : ops[i]? with
    | none => rw [ho] at h; exact ih a w h
    | some o =>
      rw [ho] at h
      have hw : ∀ (p : Nat → Option Bool), Region.wanted o p = true := fun p => by simp [Region.wanted, hg i o ho]
      simp only [hw, if_true] at h ⊢
      rcases h with h | ⟨h1, ⟨a1, w1, h2⟩⟩
      · exact .inl (upon_mono2 ih hq h)
      · exact .inr ⟨h1, a1, w1, hq _ _ _ (by simp) h2⟩

theorem DrawP.last (hΓ : TOK P Γ) (hm : P.follows .mixedOrders = true) {n0 n : Nat} {ops : Array Oper} {fr : Fr} {H : Hp} {K : Fr → Hp → Prop} {Kp : Ch → Fr → Hp → Prop} (anc : List Nat) (plan : Plan) (z : Nat) (oz : Oper) (hz : ops[z]? = some oz)
    (hl : lastB ops anc z = true) (hok : dokB false (ops.setIfInBounds z (noop oz)) anc plan = true)
    (h : drawV P Γ n (ops.setIfInBounds z (noop oz)).toList plan fr [H] fun fr H => opsP P Γ n ops.toList [oz] fr H K Kp) : DrawP P Γ n0 n ops fr H K Kp := by
  refine ⟨fun w0 L0 a w Q hR hQ hP id => wp_region_draw fun t => ?_⟩
  simp only [Region.schedule, hm, Bool.true_or, if_true]
  have hπ := lin_linearise ops t
  generalize hops' : ops.setIfInBounds z (noop oz) = ops' at hok h
  simp only [lastB, Bool.and_eq_true] at hl
  obtain ⟨⟨l1, l2⟩, l3⟩ := hl
  have l1 := beq_true l1
  have hsz : ops'.size = ops.size := by rw [← hops']; simp
  have hne : ∀ i, i ≠ z → ops'[i]? = ops[i]? := fun i hi => by rw [← hops', Array.getElem?_setIfInBounds_ne (fun e => hi e.symm)]
  have hzz : ops'[z]? = some (noop oz) := by rw [← hops']; simp [l1]
  have hg : ∀ (i : Nat) (o : Oper), ops[i]? = some o → o.guard = none := fun i o ho => by
    rw [List.all_eq_true] at l3
    have := l3 o (by have := List.mem_of_getElem? (l := ops.toList) (i := i) (by simpa using ho); exact this)
    cases hgo : o.guard with
    | none => rfl
    | some x => rw [hgo] at this; simp at this
  have hready : ∀ listed, Region.ready .any ops' listed = Region.ready .any ops listed := fun listed => by
    unfold Region.ready
    rw [hsz]
    congr 1
    funext i
    by_cases e : i = z
    · subst e; rw [hzz, hz]; rfl
    · rw [hne i e]
  have hπ' := lin_same hready _ _ hπ
  have hdok := dokB_sound hok
  have hrep : Array.replicate ops.size false = Array.replicate ops'.size false := by rw [hsz]
  rw [hrep] at hπ'
  obtain ⟨π', e, hn⟩ := lin_last hdok (z := z) (by rw [hsz, l1]) (fun i hi => by rw [hsz]; exact allB_get l2 hi) _ _ hπ' (by simp) (by simp [Array.getD_eq_getD_getElem?, hsz, l1]) (fun i hi hl => by simp [Array.getD_eq_getD_getElem?, hi] at hl)
  have hrun := run_of_plan hΓ hok h (Q := fun e a w => match e with
    | .normal => ∃ fr H, opsP P Γ n ops.toList [oz] fr H K Kp ∧ R w0 L0 n0 n fr H a w
    | e => Q e a w) hR.drew (fun fr H a w hk hr => ⟨fr, H, hk, hr⟩) hπ' (fun h => by simp at h)
  rw [e] at hrun ⊢
  refine ops_last hne hg (fun e a w he hq => by cases e <;> first | exact absurd rfl he | exact hq) (fun a w hw => ?_) π' _ _ hn hrun
  simp only [wpOps, hzz] at hw
  have hwant : ∀ (p : Nat → Option Bool), Region.wanted (noop oz) p = true := fun p => by simp [Region.wanted, noop]
  simp only [hwant, if_true] at hw
  have hrun' : (execOp a.eval (noop oz)).run P w = .ok (.value .nilFunc) w := rfl
  rcases hw with hw | ⟨hw, _⟩
  · unfold Oper.wp at hw
    rw [hrun', Oper.upon_value] at hw
    obtain ⟨fr1, H1, hk, hr⟩ := hw
    have := opsP_sound hΓ (ops := ops) (Q := Q) hQ hP [oz] z fr1 H1 a w (fun i => by
      cases i with
      | zero => simp [hz]
      | succ i => simp; omega) hk hr
    exact this
  · exfalso
    have h1 : ((execOp a.eval (noop oz)).runT P w #[]).2 = #[] := rfl
    have h2 := hw.1
    rw [h1] at h2
    simp at h2
end Go.Sym

set_option linter.unusedVariables false
set_option linter.unusedSimpArgs false
namespace Go.Sym
open Go

variable {P : Program} {Γ : Tab}

/-! ### Deferred calls out of larger heaps -/
theorem frame_step {args : List FV} {Hs : Hp} {r : FV} {Hs' : Hp} {H H' : Hp} {μ : Nat → Nat} {hid : Nat → Prop} {ρ : Nat → Option Nat} {nb : Prop} {cs : List FV} {rc : FV}
    (hb : WHb H Hs μ hid) (ha : WVs' (Down H Hs μ hid) cs args) (hu : UpH H Hs Hs' H' μ ρ nb) (hr : WV (Up ρ nb) r rc) (hnb : nb → ∀ nm, nm < H.length → ρ nm = none → hid nm) {w : World} {L : NM} {vals : Array Value} (hw : HRep w L H) (hv : RepArgs w L cs vals) :
    HRep w (newL Hs μ hid L) Hs ∧ RepArgs w (newL Hs μ hid L) args vals ∧ ∀ (w' : World) (v : Value) (Ls : NM), HRep w' Ls Hs' → repF w' Ls r v → Ev w (newL Hs μ hid L) w' Ls → ∃ L', HRep w' L' H' ∧ repF w' L' rc v ∧ Ev w L w' L' := by
  have hs := hb.hrep hw
  have hok := newL_ok Hs μ hid L
  have hargs : RepArgs w (newL Hs μ hid L) args vals := by
    obtain ⟨g1, g2⟩ := ha.get
    refine ⟨by rw [hv.1, g1], fun i v hi => ?_⟩
    obtain ⟨u, k1, k2⟩ := g2 i v hi
    obtain ⟨x, k3, k4⟩ := hv.2 i u k1
    exact ⟨x, k3, k2 w L _ x ⟨hw, hok⟩ k4⟩
  refine ⟨hs, hargs, fun w' v Ls h1 h2 h3 => ?_⟩
  have hmem : ∀ nm, L nm ≠ none → nm < H.length := fun nm hnm => by
    rcases Nat.lt_or_ge nm H.length with h' | h'
    · exact h'
    · exact absurd (hw.unused nm (List.getElem?_eq_none h')) hnm
  have hsmem : ∀ {b}, (newL Hs μ hid L).has b → ∃ i ob, Hs[i]? = some (some ob) ∧ L (μ i) = some (some b) := fun hh => hok.has hh
  let L' : NM := ⟨fun nm => match ρ nm with | some i => Ls i | none => L nm, L.X⟩
  have e1 : ∀ nm i, ρ nm = some i → L' nm = Ls i := fun nm i hi => by simp only [L', hi]
  have e2 : ∀ nm, ρ nm = none → L' nm = L nm := fun nm hi => by simp only [L', hi]
  -- which blocks have names
  have hhas : ∀ b, L'.has b → Ls.has b ∨ ∃ nm, nm < H.length ∧ ρ nm = none ∧ L nm = some (some b) := by
    rintro b ⟨nm, hnm⟩
    cases hi : ρ nm with
    | some i => rw [e1 nm i hi] at hnm; exact .inl ⟨i, hnm⟩
    | none => rw [e2 nm hi] at hnm; exact .inr ⟨nm, hmem nm (by rw [hnm]; simp), hi, hnm⟩
  have hsmall : ∀ b, (newL Hs μ hid L).has b → L.has b := fun b hb => let ⟨i, _, _, h⟩ := hsmem hb; ⟨_, h⟩
  have hframed : ∀ nm b, ρ nm = none → L nm = some (some b) → ¬ (newL Hs μ hid L).has b := by
    intro nm b hi hl hh
    obtain ⟨i, ob, g1, g2⟩ := hsmem hh
    have := hu.live i ob g1
    rw [hw.inj _ _ b g2 hl, hi] at this
    simp at this
  have hup : Up ρ nb w' Ls L' := by
    refine ⟨e1, fun hn b hro => ⟨hro.1, fun hh => ?_, fun hx => ?_⟩⟩
    · rcases hhas b hh with g | ⟨nm, g1, g2, g3⟩
      · exact hro.2 g
      · apply hro.3
        rw [h3.far]
        exact .inr ⟨nm, hnb hn nm g1 g2, g3⟩
    · apply hro.3
      rw [h3.far]
      exact .inl hx
  have hev : Ev w L w' L' := by
    refine ⟨h3.os, h3.tape, h3.output, h3.size, fun b hb hn => h3.keep b hb fun hh => hn (hsmall b hh), fun nm hnm => ?_, fun b hh => ?_, fun nm b k1 k2 c t fz hc => ?_, rfl⟩
    · cases hi : ρ nm with
      | none => exact .inr (e2 nm hi)
      | some i =>
        obtain ⟨_, ⟨ob, g1⟩, g2⟩ := hu.old nm i (hmem nm hnm) hi
        rw [e1 nm i hi]
        have hl := hok.live i ob g1
        rw [g2] at hl
        rw [← hl]
        exact h3.names i (by rw [hl]; exact hnm)
    · rcases hhas b hh with g | ⟨nm, _, _, g3⟩
      · rcases h3.fresh b g with k | k
        · exact .inl (hsmall b k)
        · exact .inr k
      · exact .inl ⟨nm, g3⟩
    · cases hi : ρ nm with
      | some i =>
        obtain ⟨_, ⟨ob, g1⟩, g2⟩ := hu.old nm i (hmem nm (by rw [k1]; simp)) hi
        have hl := hok.live i ob g1
        rw [g2, k1] at hl
        rw [e1 nm i hi] at k2
        exact h3.shape i b hl k2 c t fz hc
      | none =>
        exact ⟨c, fz, by rw [h3.keep b (hw.block_lt k1) (hframed nm b hi k1)]; exact hc, rfl⟩
  have hinj : ∀ n n' i, ρ n = some i → ρ n' = some i → n = n' := by
    intro n n' i g1 g2
    rcases Nat.lt_or_ge n H.length with a | a <;> rcases Nat.lt_or_ge n' H.length with b | b
    · rw [← (hu.old n i a g1).2.2, ← (hu.old n' i b g2).2.2]
    · have := (hu.old n i a g1).1
      rw [hu.new n' b] at g2; simp at g2; omega
    · have := (hu.old n' i b g2).1
      rw [hu.new n a] at g1; simp at g1; omega
    · rw [hu.new n a] at g1; rw [hu.new n' b] at g2; simp at g1 g2; omega
  refine ⟨L', ⟨fun nm hn => ?_, fun nm hn => ?_, fun nm ob hn => ?_, fun n n' b k1 k2 => ?_, fun b hb => ?_⟩, hr w' Ls L' v hup h2, hev⟩
  · cases hi : ρ nm with
    | some i =>
      rw [e1 nm i hi]
      cases hsi : Hs'[i]? with
      | none => exact h1.unused i hsi
      | some o => cases o with
        | none => rw [hu.dead nm i hi hsi] at hn; simp at hn
        | some ob => obtain ⟨ob', g, _⟩ := hu.ob nm i ob hi hsi; rw [g] at hn; simp at hn
    | none =>
      rw [e2 nm hi]
      rcases Nat.lt_or_ge nm H.length with a | a
      · rw [hu.keep nm a hi, List.getElem?_eq_getElem a] at hn; simp at hn
      · rw [hu.new nm a] at hi; simp at hi
  · cases hi : ρ nm with
    | some i =>
      rw [e1 nm i hi]
      cases hsi : Hs'[i]? with
      | none => rw [hu.unk nm i hi hsi] at hn; simp at hn
      | some o => cases o with
        | none => exact h1.dead i hsi
        | some ob => obtain ⟨ob', g, _⟩ := hu.ob nm i ob hi hsi; rw [g] at hn; simp at hn
    | none =>
      rw [e2 nm hi]
      rcases Nat.lt_or_ge nm H.length with a | a
      · rw [hu.keep nm a hi] at hn; exact hw.dead nm hn
      · rw [hu.new nm a] at hi; simp at hi
  · cases hi : ρ nm with
    | some i =>
      cases hsi : Hs'[i]? with
      | none => rw [hu.unk nm i hi hsi] at hn; simp at hn
      | some o => cases o with
        | none => rw [hu.dead nm i hi hsi] at hn; simp at hn
        | some ob0 =>
          obtain ⟨ob', g1, g2, g3⟩ := hu.ob nm i ob0 hi hsi
          rw [g1] at hn
          simp only [Option.some.injEq] at hn
          subst hn
          obtain ⟨b, c, fz, f1, f2, f3, f4, f5⟩ := h1.live i ob0 hsi
          exact ⟨b, c, fz, by rw [e1 nm i hi]; exact f1, by rw [g2]; exact f2, f3, by rw [← g3.1]; exact f4, g3.2 w' Ls L' c hup f5⟩
    | none =>
      rcases Nat.lt_or_ge nm H.length with a | a
      · rw [hu.keep nm a hi] at hn
        obtain ⟨b, c, fz, f1, f2, f3, f4, f5⟩ := hw.live nm ob hn
        exact ⟨b, c, fz, by rw [e2 nm hi]; exact f1, by rw [h3.keep b (hw.block_lt f1) (hframed nm b hi f1)]; exact f2, f3, f4, f5.mono hev⟩
      · rw [hu.new nm a] at hi; simp at hi
  · have hmix : ∀ n n' i b, ρ n = some i → ρ n' = none → Ls i = some (some b) → L n' = some (some b) → False := by
      intro n n' i b g1 g2 g3 g4
      rcases h3.fresh b ⟨i, g3⟩ with k | k
      · exact hframed n' b g2 g4 k
      · have := hw.block_lt g4; omega
    cases hi : ρ n with
    | some i =>
      rw [e1 n i hi] at k1
      cases hi' : ρ n' with
      | some i' =>
        rw [e1 n' i' hi'] at k2
        have := h1.inj i i' b k1 k2
        subst this
        exact hinj n n' i hi hi'
      | none => rw [e2 n' hi'] at k2; exact (hmix n n' i b hi hi' k1 k2).elim
    | none =>
      rw [e2 n hi] at k1
      cases hi' : ρ n' with
      | some i' => rw [e1 n' i' hi'] at k2; exact (hmix n' n i' b hi' hi k2 k1).elim
      | none => rw [e2 n' hi'] at k2; exact hw.inj n n' b k1 k2
  · have hb1 := hw.far b hb
    refine ⟨Nat.lt_of_lt_of_le hb1.1 h3.size, fun hh => ?_⟩
    rcases hhas b hh with g | ⟨nm, _, _, g3⟩
    · have : Ls.X b := by rw [h3.far]; exact .inl hb
      exact (h1.far b this).2 g
    · exact hb1.2 ⟨nm, g3⟩


theorem SCallsM.frame {f : FuncId} {args : List FV} {Hs : Hp} {u : FrameMode} {Hs' : Hp} (h : SCallsM P f args Hs u Hs') {H H' : Hp} {μ : Nat → Nat} {hid : Nat → Prop} {ρ : Nat → Option Nat} {nb : Prop} {cs : List FV}
    (hb : WHb H Hs μ hid) (ha : WVs' (Down H Hs μ hid) cs args) (hu : UpH H Hs Hs' H' μ ρ nb) (hnb : nb → ∀ nm, nm < H.length → ρ nm = none → hid nm) : SCallsM P f cs H u H' := by
  refine ⟨h.1, fun w L vals hw hv => ?_⟩
  obtain ⟨g1, g2, g3⟩ := frame_step (r := .s (.lf .any)) (rc := .s (.lf .any)) hb ha hu (WV.any _) hnb hw hv
  refine (h.2 w _ vals g1 g2).mono ?_
  rintro e u' w' ⟨hs, v, Ls, rfl, h1, h3⟩
  obtain ⟨L', k1, k2, k3⟩ := g3 w' v Ls h1 trivial h3
  exact ⟨hs, v, L', rfl, k1, k3⟩

theorem SCallsM.tail {f : FuncId} {args : List FV} {Hs : Hp} {u : FrameMode} {Hs' : Hp} (h : SCallsM P f args Hs u Hs') (k : Hp) (hl : Hs'.length = Hs.length) (hv : liveHB Hs = true) (hb : okHB Hs Hs = true) (hb' : okHB Hs' Hs' = true) (ha : okFsB Hs args = true) :
    SCallsM P f args (Hs ++ k) u (Hs' ++ k) := by
  have hρ : ∀ nm, nm < Hs.length → ρt Hs.length (Hs ++ k).length nm = some nm := fun nm h => ρt_lt h
  have hge : ∀ nm, (Hs ++ k).length ≤ nm → ρt Hs.length (Hs ++ k).length nm = some (nm - (Hs ++ k).length + Hs.length) := fun nm h => ρt_ge (by simp) h
  refine h.frame (μ := id) (hid := fun nm => Hs.length ≤ nm) (ρ := ρt Hs.length (Hs ++ k).length) (nb := True) ⟨fun i ob hi => ?_, fun i j a b _ _ e => e, fun i ob hi => ?_⟩ (okFsB_ok ha) ⟨hge, fun nm i hn hi => ?_, fun i ob hi => ?_, fun nm hn h0 => ?_, fun nm i hi h0 => ?_, fun nm i hi h0 => ?_, fun nm i ob hi h0 => ?_⟩ (fun _ nm hn h0 => ?_)
  · have hlt : i < Hs.length := (List.getElem?_eq_some_iff.1 hi).1
    exact ⟨ob, by rw [id, List.getElem?_append_left hlt]; exact hi, rfl, (okGsB_ok (okHB_get hb hi)).ws.ws⟩
  · have hlt : i < Hs.length := (List.getElem?_eq_some_iff.1 hi).1
    exact fun h => by have : Hs.length ≤ i := h; omega
  · rcases Nat.lt_or_ge nm Hs.length with g | g
    · rw [hρ nm g] at hi
      simp only [Option.some.injEq] at hi
      subst hi
      exact ⟨g, liveHB_get hv g, rfl⟩
    · rw [ρt_mid g hn] at hi; simp at hi
  · exact hρ i (List.getElem?_eq_some_iff.1 hi).1
  · rcases Nat.lt_or_ge nm Hs.length with g | g
    · rw [hρ nm g] at h0; simp at h0
    · rw [List.getElem?_append_right (by omega), List.getElem?_append_right g, hl]
  all_goals
    rcases Nat.lt_or_ge nm Hs.length with g | g
    · first
        | (rw [hρ nm g] at hi; simp only [Option.some.injEq] at hi; subst hi; rw [List.getElem?_append_left (by omega)]; first | exact h0 | exact ⟨ob, h0, rfl, (okGsB_up (fun nm h => by rw [hl] at h; exact hρ nm h) (okHB_get hb' h0)).ws⟩)
        | (rw [hρ nm g] at h0; simp at h0)
    · first
        | exact g
        | (rcases Nat.lt_or_ge nm (Hs ++ k).length with q | q
           · rw [ρt_mid g q] at hi; simp at hi
           · rw [hge nm q] at hi
             simp only [Option.some.injEq] at hi
             subst hi
             first
               | (have := (List.getElem?_eq_some_iff.1 h0).1; rw [hl] at this; omega)
               | exact List.getElem?_eq_none (by simp at q ⊢; omega))

/-- The same, with what else there is. -/
theorem SCallsM.after {f : FuncId} {args : List FV} {H : Hp} {u : FrameMode} {H' : Hp} (h : SCallsM P f args H u H') {H'' : Hp} (k : RetK H.length (.s (.lf .any)) H'' (.s (.lf .any)) H') : SCallsM P f args H u H'' := by
  refine ⟨h.1, fun w L vals hw ha => ?_⟩
  refine (h.2 w L vals hw ha).mono ?_
  rintro e u' w' ⟨hs, v, L', rfl, h1, h3⟩
  obtain ⟨⟨μ, k1, k2⟩⟩ := k
  exact ⟨hs, v, _, rfl, k1.hrep h1, k1.ev (base_lt hw) h3⟩
end Go.Sym

set_option linter.unusedVariables false
set_option linter.unusedSimpArgs false
namespace Go.Sym
open Go

variable {P : Program} {Γ : Tab}

/-! ### What a type switch asks -/
theorem sem_eqnil (hΓ : TOK P Γ) {o : Oper} {t yt : TypeId} {x : Operand} (ho : o.op = .binOp .eql t x (.const .nilIface) yt) (hd : (tget Γ t).d = .iface) {vs : Operand → FV} (hv : vs x = .s (.lf .nili)) (H : Hp) : OpSem P o vs H (.s (.lf .tt)) H := by
  refine .pure fun w L a hw hvs => ⟨.bool true, ?_, rfl⟩
  have h1 := hvs x (by rw [ho]; simp [Op.operands])
  rw [hv] at h1
  have h1 : a.eval x = .nilIface := h1
  have hf := (hΓ t).fits
  rw [hd] at hf
  obtain ⟨ms, hf⟩ := hf
  have h2 : a.eval (.const .nilIface) = .nilIface := rfl
  have e1 : (Op.equal t .nilIface .nilIface).run P w = .ok true w := by
    unfold Op.equal Op.maxDepth
    rw [Op.equalIn]
    simp only [Sem.run_bind, run_underlying hf, Result.andThen_ok, Sem.run_pure]
  refine exec_bin ho ?_ ?_
  · rw [h1, h2]; cases x <;> rfl
  · rw [h1]
    show (do pure (Value.bool (← Op.equal t .nilIface .nilIface)) : Sem Value).run P w = _
    simp only [Sem.run_bind, e1, Result.andThen_ok, Sem.run_pure]

theorem sem_eqifc (hΓ : TOK P Γ) {o : Oper} {t yt t' : TypeId} {lv : LV} {x : Operand} (ho : o.op = .binOp .eql t x (.const .nilIface) yt) (hd : (tget Γ t).d = .iface) {vs : Operand → FV} (hv : vs x = .s (.lf (.ifc t' lv))) (H : Hp) : OpSem P o vs H (.s (.lf .ff)) H := by
  refine .pure fun w L a hw hvs => ⟨.bool false, ?_, rfl⟩
  have h1 := hvs x (by rw [ho]; simp [Op.operands])
  rw [hv] at h1
  obtain ⟨y, h1, _⟩ := h1
  have hf := (hΓ t).fits
  rw [hd] at hf
  obtain ⟨ms, hf⟩ := hf
  have h2 : a.eval (.const .nilIface) = .nilIface := rfl
  have e1 : (Op.equal t (.iface t' y) .nilIface).run P w = .ok false w := by
    unfold Op.equal Op.maxDepth
    rw [Op.equalIn]
    simp only [Sem.run_bind, run_underlying hf, Result.andThen_ok, Sem.run_pure]
  refine exec_bin ho ?_ ?_
  · rw [h1]; rfl
  · rw [h1]
    show (do pure (Value.bool (← Op.equal t (.iface t' y) .nilIface)) : Sem Value).run P w = _
    simp only [Sem.run_bind, e1, Result.andThen_ok, Sem.run_pure]

theorem sem_assert (hΓ : TOK P Γ) {o : Oper} {x : Operand} {xT t : TypeId} (ho : o.op = .typeAssert x xT t true) {fs : List (Nat × TypeId)} (hd : (tget Γ t).d = .struct fs) {vs : Operand → FV} {lv : LV} (hv : vs x = .s (.lf (.ifc t lv)))
    (r : SV) (hr : ∀ (w : World) (L : NM) y, rep w L lv y → repS w L r y) (H : Hp) : OpSem P o vs H (.tup [r, .lf .tt]) H := by
  refine .pure fun w L a hw hvs => ?_
  have h1 := hvs x (by rw [ho]; simp [Op.operands])
  rw [hv] at h1
  obtain ⟨y, h1, h2⟩ := h1
  have hf := (hΓ t).fits
  rw [hd] at hf
  obtain ⟨ms, hf, _⟩ := hf
  refine ⟨.tuple #[y, .bool true], ?_, #[y, .bool true], rfl, rfl, fun i hi => ?_⟩
  · simp [execOp, ho, h1, Instr.typeAssert, run_underlying hf]
  · have : i = 0 ∨ i = 1 := by simp at hi; omega
    rcases this with rfl | rfl
    · exact ⟨y, r, rfl, rfl, hr w L y h2⟩
    · exact ⟨.bool true, .lf .tt, rfl, rfl, rfl⟩
end Go.Sym

set_option linter.unusedVariables false
set_option linter.unusedSimpArgs false
namespace Go.Sym
open Go

variable {P : Program} {Γ : Tab}

/-! ### Deferred calls on the first blocks of a larger heap, told with less -/
theorem SCallsM.tailW {f : FuncId} {args : List FV} {Hs : Hp} {u : FrameMode} {Hs' : Hp} (h : SCallsM P f args Hs u Hs') (H0 k : Hp) (hl0 : H0.length = Hs.length) (hl : Hs'.length = Hs.length)
    (hw : HpW (Down (H0 ++ k) Hs id fun nm => Hs.length ≤ nm) H0 Hs) (hv : liveHB Hs = true) (hb' : ∀ ρ : Nat → Option Nat, (∀ nm, nm < Hs'.length → ρ nm = some nm) → ∀ (i : Nat) (ob : OB), Hs'[i]? = some (some ob) → WSs (Up ρ True) ob.segs ob.segs) (ha : okFsB Hs args = true) :
    SCallsM P f args (H0 ++ k) u (Hs' ++ k) := by
  have hρ : ∀ nm, nm < Hs.length → ρt Hs.length (H0 ++ k).length nm = some nm := fun nm h => ρt_lt h
  have hge : ∀ nm, (H0 ++ k).length ≤ nm → ρt Hs.length (H0 ++ k).length nm = some (nm - (H0 ++ k).length + Hs.length) := fun nm h => ρt_ge (by simp [hl0]) h
  refine h.frame (μ := id) (hid := fun nm => Hs.length ≤ nm) (ρ := ρt Hs.length (H0 ++ k).length) (nb := True) ⟨fun i ob hi => ?_, fun i j a b _ _ e => e, fun i ob hi => ?_⟩ (okFsB_ok ha) ⟨hge, fun nm i hn hi => ?_, fun i ob hi => ?_, fun nm hn h0 => ?_, fun nm i hi h0 => ?_, fun nm i hi h0 => ?_, fun nm i ob hi h0 => ?_⟩ (fun _ nm hn h0 => ?_)
  · have hlt : i < Hs.length := (List.getElem?_eq_some_iff.1 hi).1
    obtain ⟨a, g1, g2, g3⟩ := hw.get i ob hi
    exact ⟨a, by rw [id, List.getElem?_append_left (by omega)]; exact g1, g2, g3⟩
  · have hlt : i < Hs.length := (List.getElem?_eq_some_iff.1 hi).1
    exact fun h => by have : Hs.length ≤ i := h; omega
  · rcases Nat.lt_or_ge nm Hs.length with g | g
    · rw [hρ nm g] at hi
      simp only [Option.some.injEq] at hi
      subst hi
      exact ⟨g, liveHB_get hv g, rfl⟩
    · rw [ρt_mid g hn] at hi; simp at hi
  · exact hρ i (List.getElem?_eq_some_iff.1 hi).1
  · rcases Nat.lt_or_ge nm Hs.length with g | g
    · rw [hρ nm g] at h0; simp at h0
    · rw [List.getElem?_append_right (by omega), List.getElem?_append_right (by omega), hl, hl0]
  all_goals
    rcases Nat.lt_or_ge nm Hs.length with g | g
    · first
        | (rw [hρ nm g] at hi; simp only [Option.some.injEq] at hi; subst hi; rw [List.getElem?_append_left (by omega)]; first | exact h0 | exact ⟨ob, h0, rfl, (hb' _ (fun nm h => hρ nm (by rw [hl] at h; exact h)) _ _ h0).ws⟩)
        | (rw [hρ nm g] at h0; simp at h0)
    · first
        | exact g
        | (rcases Nat.lt_or_ge nm (H0 ++ k).length with q | q
           · rw [ρt_mid g q] at hi; simp at hi
           · rw [hge nm q] at hi
             simp only [Option.some.injEq] at hi
             subst hi
             first
               | (have := (List.getElem?_eq_some_iff.1 h0).1; rw [hl] at this; omega)
               | exact List.getElem?_eq_none (by simp [hl0, hl] at q ⊢; omega))
end Go.Sym

set_option linter.unusedVariables false
set_option linter.unusedSimpArgs false
namespace Go.Sym
open Go

variable {P : Program} {Γ : Tab}

/-! ### Contracts that leave their heap as it is, in heaps where these blocks stand anywhere -/
def idxN : List Nat → Nat → Option Nat
  | [], _ => none
  | m :: ms, nm => match Nat.beq m nm with
    | true => some 0
    | false => (idxN ms nm).map (· + 1)
def ρs (ms : List Nat) (m n nm : Nat) : Option Nat := match Nat.blt nm n with
  | true => idxN ms nm
  | false => some (nm - n + m)

theorem idxN_some : ∀ {ms : List Nat} {nm i : Nat}, idxN ms nm = some i → i < ms.length ∧ nthN ms i = nm
  | [], _, _, h => by simp [idxN] at h
  | m :: ms, nm, i, h => by
    unfold idxN at h
    split at h
    · rename_i hb
      simp only [Option.some.injEq] at h
      subst h
      exact ⟨by simp, beq_true hb⟩
    · rw [Option.map_eq_some_iff] at h
      obtain ⟨j, h1, h2⟩ := h
      subst h2
      obtain ⟨g1, g2⟩ := idxN_some h1
      exact ⟨by simp; exact g1, g2⟩
theorem idxN_of : ∀ {ms : List Nat} {i : Nat}, ms.Nodup → i < ms.length → idxN ms (nthN ms i) = some i
  | [], _, _, h => by simp at h
  | m :: ms, 0, _, _ => by
    show idxN (m :: ms) m = some 0
    unfold idxN
    rw [Nat.beq_refl]
  | m :: ms, i + 1, hn, h => by
    show idxN (m :: ms) (nthN ms i) = some (i + 1)
    have h' : i < ms.length := by simpa using h
    have hm : nthN ms i ∈ ms := List.mem_of_getElem? (nthN_get h')
    have hne : Nat.beq m (nthN ms i) = false := by
      cases hb : Nat.beq m (nthN ms i)
      · rfl
      · have := beq_true hb
        rw [← this] at hm
        exact absurd hm (List.nodup_cons.1 hn).1
    unfold idxN
    rw [hne, idxN_of (List.nodup_cons.1 hn).2 h']
    rfl

theorem SCalls.at {f : FuncId} {args : List FV} {Hs : Hp} {r : FV} (h : SCalls P f args Hs r Hs) (ms : List Nat) {H : Hp} {cs : List FV} (hl : ms.length = Hs.length) (hnd : nodupB ms = true) (hv : liveHB Hs = true) 
    (hw : ∀ (i : Nat) (ob : OB), Hs[i]? = some (some ob) → ∃ ob', H[nthN ms i]? = some (some ob') ∧ ob'.ty = ob.ty ∧ WS (Down H Hs (nthN ms) fun nm => nm ∉ ms) ob'.segs ob.segs ∧ WS (Up (ρs ms Hs.length H.length) True) ob.segs ob'.segs)
    (ha : WVs' (Down H Hs (nthN ms) fun nm => nm ∉ ms) cs args) {rc : FV} (hr : WV (Up (ρs ms Hs.length H.length) True) r rc) : SCalls P f cs H rc H := by
  have hnd := nodupB_sound hnd
  have hlt : ∀ i, i < Hs.length → nthN ms i < H.length := fun i hi => by
    obtain ⟨ob, ho⟩ := liveHB_get hv hi
    obtain ⟨ob', g, _⟩ := hw i ob ho
    exact (List.getElem?_eq_some_iff.1 g).1
  have hρ1 : ∀ nm i, nm < H.length → ρs ms Hs.length H.length nm = some i → i < ms.length ∧ nthN ms i = nm := fun nm i hn hi => by
    unfold ρs at hi
    rw [show Nat.blt nm H.length = true from Nat.ble_eq_true_of_le hn] at hi
    exact idxN_some hi
  have hρ2 : ∀ nm, H.length ≤ nm → ρs ms Hs.length H.length nm = some (nm - H.length + Hs.length) := fun nm hn => by
    unfold ρs
    rw [blt_ge hn]
  have hρ3 : ∀ i, i < Hs.length → ρs ms Hs.length H.length (nthN ms i) = some i := fun i hi => by
    unfold ρs
    rw [show Nat.blt (nthN ms i) H.length = true from Nat.ble_eq_true_of_le (hlt i hi)]
    exact idxN_of hnd (by omega)
  refine h.frame (μ := nthN ms) (hid := fun nm => nm ∉ ms) (ρ := ρs ms Hs.length H.length) (nb := True) ⟨fun i ob hi => ?_, fun i j a b hi hj e => ?_, fun i ob hi => ?_⟩ ha ⟨hρ2, fun nm i hn hi => ?_, fun i ob hi => ?_, fun nm hn h0 => rfl, fun nm i hi h0 => ?_, fun nm i hi h0 => ?_, fun nm i ob hi h0 => ?_⟩ hr (fun _ nm hn h0 => ?_)
  · obtain ⟨ob', g1, g2, g3, _⟩ := hw i ob hi
    exact ⟨ob', g1, g2, g3⟩
  · exact nthN_inj hnd (by rw [hl]; exact (List.getElem?_eq_some_iff.1 hi).1) (by rw [hl]; exact (List.getElem?_eq_some_iff.1 hj).1) e
  · have hlt' : i < ms.length := by rw [hl]; exact (List.getElem?_eq_some_iff.1 hi).1
    exact fun hn => hn (List.mem_of_getElem? (nthN_get hlt'))
  · obtain ⟨g1, g2⟩ := hρ1 nm i hn hi
    rw [hl] at g1
    exact ⟨g1, liveHB_get hv g1, g2⟩
  · exact hρ3 i (List.getElem?_eq_some_iff.1 hi).1
  · rcases Nat.lt_or_ge nm H.length with g | g
    · obtain ⟨g1, g2⟩ := hρ1 nm i g hi
      rw [List.getElem?_eq_none_iff] at h0
      omega
    · exact List.getElem?_eq_none g
  · have hi' : i < Hs.length := (List.getElem?_eq_some_iff.1 h0).1
    obtain ⟨ob, g⟩ := liveHB_get hv hi'
    rw [g] at h0
    simp at h0
  · have hi' : i < Hs.length := (List.getElem?_eq_some_iff.1 h0).1
    rcases Nat.lt_or_ge nm H.length with g | g
    · obtain ⟨g1, g2⟩ := hρ1 nm i g hi
      obtain ⟨ob', k1, k2, _, k3⟩ := hw i ob h0
      rw [g2] at k1
      exact ⟨ob', k1, k2, k3⟩
    · rw [hρ2 nm g] at hi
      simp only [Option.some.injEq] at hi
      omega
  · intro hm
    obtain ⟨i, hi⟩ := List.getElem?_of_mem hm
    have hi' : i < ms.length := (List.getElem?_eq_some_iff.1 hi).1
    have e : nthN ms i = nm := by have := nthN_get hi'; rw [hi] at this; simpa using this.symm
    have := hρ3 i (by omega)
    rw [e, h0] at this
    simp at this
end Go.Sym

set_option linter.unusedVariables false
set_option linter.unusedSimpArgs false
namespace Go.Sym
open Go

variable {P : Program} {Γ : Tab}

/-! ### Contracts that change their blocks, in heaps where these stand anywhere -/
theorem SCalls.atm {f : FuncId} {args : List FV} {Hs Hs' : Hp} {r : FV} (h : SCalls P f args Hs r Hs') (ms : List Nat) {H H' : Hp} {cs : List FV} (hl : ms.length = Hs.length) (hl' : Hs'.length = Hs.length) (hv' : liveHB Hs' = true) (hnd : nodupB ms = true) (hv : liveHB Hs = true) 
    (hw : ∀ (i : Nat) (ob : OB), Hs[i]? = some (some ob) → ∃ ob', H[nthN ms i]? = some (some ob') ∧ ob'.ty = ob.ty ∧ WS (Down H Hs (nthN ms) fun nm => nm ∉ ms) ob'.segs ob.segs)
    (hw' : ∀ (i : Nat) (ob : OB), Hs'[i]? = some (some ob) → ∃ ob', H'[nthN ms i]? = some (some ob') ∧ ob'.ty = ob.ty ∧ WS (Up (ρs ms Hs.length H.length) True) ob.segs ob'.segs) (hk : ∀ nm, nm < H.length → nm ∉ ms → H'[nm]? = H[nm]?) (hH : H'.length = H.length)
    (ha : WVs' (Down H Hs (nthN ms) fun nm => nm ∉ ms) cs args) {rc : FV} (hr : WV (Up (ρs ms Hs.length H.length) True) r rc) : SCalls P f cs H rc H' := by
  have hnd := nodupB_sound hnd
  have hlt : ∀ i, i < Hs.length → nthN ms i < H.length := fun i hi => by
    obtain ⟨ob, ho⟩ := liveHB_get hv hi
    obtain ⟨ob', g, _⟩ := hw i ob ho
    exact (List.getElem?_eq_some_iff.1 g).1
  have hρ1 : ∀ nm i, nm < H.length → ρs ms Hs.length H.length nm = some i → i < ms.length ∧ nthN ms i = nm := fun nm i hn hi => by
    unfold ρs at hi
    rw [show Nat.blt nm H.length = true from Nat.ble_eq_true_of_le hn] at hi
    exact idxN_some hi
  have hρ2 : ∀ nm, H.length ≤ nm → ρs ms Hs.length H.length nm = some (nm - H.length + Hs.length) := fun nm hn => by
    unfold ρs
    rw [blt_ge hn]
  have hρ3 : ∀ i, i < Hs.length → ρs ms Hs.length H.length (nthN ms i) = some i := fun i hi => by
    unfold ρs
    rw [show Nat.blt (nthN ms i) H.length = true from Nat.ble_eq_true_of_le (hlt i hi)]
    exact idxN_of hnd (by omega)
  refine h.frame (μ := nthN ms) (hid := fun nm => nm ∉ ms) (ρ := ρs ms Hs.length H.length) (nb := True) ⟨fun i ob hi => ?_, fun i j a b hi hj e => ?_, fun i ob hi => ?_⟩ ha ⟨hρ2, fun nm i hn hi => ?_, fun i ob hi => ?_, fun nm hn h0 => hk nm hn fun hm => ?_, fun nm i hi h0 => ?_, fun nm i hi h0 => ?_, fun nm i ob hi h0 => ?_⟩ hr (fun _ nm hn h0 => ?_)
  · exact hw i ob hi
  · exact nthN_inj hnd (by rw [hl]; exact (List.getElem?_eq_some_iff.1 hi).1) (by rw [hl]; exact (List.getElem?_eq_some_iff.1 hj).1) e
  · have hlt' : i < ms.length := by rw [hl]; exact (List.getElem?_eq_some_iff.1 hi).1
    exact fun hn => hn (List.mem_of_getElem? (nthN_get hlt'))
  · obtain ⟨g1, g2⟩ := hρ1 nm i hn hi
    rw [hl] at g1
    exact ⟨g1, liveHB_get hv g1, g2⟩
  · exact hρ3 i (List.getElem?_eq_some_iff.1 hi).1
  · obtain ⟨i, hi⟩ := List.getElem?_of_mem hm
    have hi' : i < ms.length := (List.getElem?_eq_some_iff.1 hi).1
    have e : nthN ms i = nm := by have := nthN_get hi'; rw [hi] at this; simpa using this.symm
    have := hρ3 i (by omega)
    rw [e, h0] at this
    simp at this
  · rcases Nat.lt_or_ge nm H.length with g | g
    · obtain ⟨g1, g2⟩ := hρ1 nm i g hi
      rw [List.getElem?_eq_none_iff] at h0
      omega
    · exact List.getElem?_eq_none (by omega)
  · have hi' : i < Hs'.length := (List.getElem?_eq_some_iff.1 h0).1
    obtain ⟨ob, g⟩ := liveHB_get hv' hi'
    rw [g] at h0
    simp at h0
  · have hi' : i < Hs'.length := (List.getElem?_eq_some_iff.1 h0).1
    rcases Nat.lt_or_ge nm H.length with g | g
    · obtain ⟨g1, g2⟩ := hρ1 nm i g hi
      obtain ⟨ob', k1, k2, k3⟩ := hw' i ob h0
      rw [g2] at k1
      exact ⟨ob', k1, k2, k3⟩
    · rw [hρ2 nm g] at hi
      simp only [Option.some.injEq] at hi
      omega
  · intro hm
    obtain ⟨i, hi⟩ := List.getElem?_of_mem hm
    have hi' : i < ms.length := (List.getElem?_eq_some_iff.1 hi).1
    have e : nthN ms i = nm := by have := nthN_get hi'; rw [hi] at this; simpa using this.symm
    have := hρ3 i (by omega)
    rw [e, h0] at this
    simp at this
end Go.Sym

