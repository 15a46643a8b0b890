/- A framework for walking through the program's functions, proved sound, part 4: a function's body is evaluated; weakening; contracts. It has no condition. -/
import Derived.Test.YtlmcdgbjbamdnaaFw3
set_option linter.unusedVariables false
set_option linter.unusedSimpArgs false
namespace Go.Sym
open Go

variable {P : Program} {Γ : Tab}

theorem eqGuard_lf {op : BinOp} {t : TypeId} {x y : Operand} {a b : Value} (h : a ≠ .nilIface) (h2 : ∀ c, a ≠ .agg c) (w : World) : (eqGuard op t x y a b).run P w = .ok () w := by
  cases a <;> first | (exfalso; exact h rfl) | (exfalso; exact h2 _ rfl) | (cases op <;> rfl)

/-- Values of the kinds that binL takes are neither nil interfaces nor aggregates. -/
theorem binL_kind {op : BinOp} {d : TD} {H : Hp} {u v : LV} {K : FV → Prop} (h : binL op d H u v K) {w : World} {L : NM} (hw : HRep w L H) {a : Value} (ha : rep w L u a) : a ≠ .nilIface ∧ ∀ c, a ≠ .agg c := by
  cases u
  case int => obtain ⟨rfl, _⟩ := ha; simp
  case str => obtain ⟨rfl, _⟩ := ha; simp
  case tt => rw [show a = _ from ha]; simp
  case ff => rw [show a = _ from ha]; simp
  case bool => rw [show a = _ from ha]; simp
  case nilp => rw [show a = _ from ha]; simp
  case ptr nm base =>
    cases d <;> try exact h.elim
    cases v <;> try exact h.elim
    obtain ⟨_, b, hb⟩ := hw.of_live h
    simp only [rep, hb] at ha
    rw [ha]; simp
  case pti nm base i st j =>
    cases d <;> try exact h.elim
    cases v <;> try exact h.elim
    obtain ⟨_, b, hb⟩ := hw.of_live h
    simp only [rep, hb] at ha
    rw [ha]; simp
  case rop => obtain ⟨x, rfl, _⟩ := ha; simp
  case sl0 => rw [show a = _ from ha]; simp
  case own nm base st off len =>
    cases d <;> try exact h.elim
    cases v <;> try exact h.elim
    obtain ⟨_, b, hb⟩ := hw.of_live h
    simp only [rep, hb] at ha
    obtain ⟨cap, o, rfl, _⟩ := ha; simp
  case rob nn cl xs => obtain ⟨x, cap, rfl, _⟩ := roRep_len ha; simp
  case ro nn cl st len f => obtain ⟨x, cap, rfl, _⟩ := roRep_len ha; simp
  case nilf => rw [show a = _ from ha]; simp
  case fn => obtain ⟨x, rfl, _⟩ := ha; simp
  case bfn => obtain ⟨x, rfl, _⟩ := ha; simp
  all_goals exact h.elim

theorem HRep.empty (w : World) : HRep w ⟨fun _ => none, fun _ => False⟩ [] :=
  ⟨fun _ _ => rfl, fun nm h => by simp at h, fun nm ob h => by simp at h, fun nm nm' b h => by simp at h, fun _ h => h.elim⟩

theorem exec_bin {o : Oper} {op : BinOp} {t yt : TypeId} {x y : Operand} (ho : o.op = .binOp op t x y yt) {a : Act} {w : World} {rv : Value} (hg : (eqGuard op t x y (a.eval x) (a.eval y)).run P w = .ok () w) (hr : (binOp op t (a.eval x) (a.eval y)).run P w = .ok rv w) :
    (execOp a.eval o).run P w = .ok (.value rv) w := by
  simp only [execOp, ho, Sem.run_bind, hg, hr, Result.andThen_ok, Sem.run_pure]

theorem convInt_sound (hΓ : TOK P Γ) {o : Oper} {src dst : TypeId} {x : Operand} (ho : o.op = .convert src dst x) {vs : Operand → FV} {k k' : IntKind} {n : Int} (hs : (tget Γ src).d.isOther = false) (hd : (tget Γ dst).d = .int k) (hx : vs x = .s (.lf (.int k' n))) (H : Hp) :
    OpSem P o vs H (.s (.lf (.int k (k.wrap n)))) H := by
  have hmem : x ∈ o.op.operands.toList := by rw [ho]; simp [Op.operands]
  refine .pure fun w L a hw hv => ?_
  have := hv x hmem
  rw [hx] at this
  obtain ⟨e, _⟩ := this
  have hf : P.underlying dst = some (.int k) := hΓ.und hd
  obtain ⟨d, _, hss⟩ := und_any hΓ hs w
  refine ⟨.int k (k.wrap n), ?_, ⟨rfl, wrap_range k n⟩⟩
  simp only [execOp, ho, convert, Sem.run_bind, hss, Result.andThen_ok, run_underlying hf, e]
  cases d <;> simp [Conv.intToInt]

theorem parts_rep {vs : Operand → FV} {parts : Array (Nat × Operand)} {w : World} {L : NM} {a : Act} (hv : ∀ p ∈ parts.toList, repF w L (vs p.2) (a.eval p.2)) :
    (parts.map fun (i, x) => (i, a.eval x)).toList.length = (mapParts vs parts.toList).length ∧
    ∀ (k i : Nat) (v : FV), (mapParts vs parts.toList)[k]? = some (i, v) → ∃ x, (parts.map fun (i, x) => (i, a.eval x)).toList[k]? = some (i, x) ∧ repF w L v x := by
  rw [mapParts_eq]
  refine ⟨by simp, fun k i v hk => ?_⟩
  rw [List.getElem?_map] at hk
  cases hp : parts.toList[k]? with
  | none => rw [hp] at hk; simp at hk
  | some p =>
    rw [hp] at hk
    simp only [Option.map_some, Option.some.injEq, Prod.mk.injEq] at hk
    obtain ⟨rfl, rfl⟩ := hk
    refine ⟨a.eval p.2, ?_, hv p (List.mem_of_getElem? hp)⟩
    simp only [Array.toList_map, List.getElem?_map, hp, Option.map_some]

theorem opP_sound (hΓ : TOK P Γ) {o : Oper} {vs : Operand → FV} {K : FV → Prop} (h : opP Γ o.op vs K) : ∃ r, K r ∧ ∀ H, OpSem P o vs H r H := by
  unfold opP at h
  split at h
  · rename_i x ho
    rw [fK_eq] at h
    exact ⟨_, h, fun H => .pure fun w L a hw hv => ⟨a.eval x, by simp [execOp, ho], hv x (by rw [ho]; simp [Op.operands])⟩⟩
  · rename_i x ho
    rw [fK_eq] at h
    exact ⟨_, h, fun H => .pure fun w L a hw hv => ⟨a.eval x, by simp [execOp, ho], hv x (by rw [ho]; simp [Op.operands])⟩⟩
  · rename_i c x y ho
    obtain ⟨b, hb, hc⟩ := boolK_sound h
    cases b with
    | true =>
      simp only [fK_eq] at hb
      exact ⟨_, hb, fun H => .pure fun w L a hw hv => ⟨a.eval x, by
        have := hc w L _ (hv c (by rw [ho]; simp [Op.operands]))
        simp [execOp, ho, this, asBool], hv x (by rw [ho]; simp [Op.operands])⟩⟩
    | false =>
      simp only [fK_eq] at hb
      exact ⟨_, hb, fun H => .pure fun w L a hw hv => ⟨a.eval y, by
        have := hc w L _ (hv c (by rw [ho]; simp [Op.operands]))
        simp [execOp, ho, this, asBool], hv y (by rw [ho]; simp [Op.operands])⟩⟩
  · rename_i op t x ho
    obtain ⟨r, hK, hr⟩ := unK_sound h
    refine ⟨r, hK, fun H => .pure fun w L a hw hv => ?_⟩
    obtain ⟨rv, h1, h2⟩ := hr P w L _ (hv x (by rw [ho]; simp [Op.operands]))
    exact ⟨rv, by simp [execOp, ho, h1], h2⟩
  · rename_i op t x y yt ho
    split at h
    · rename_i u v hx hy
      obtain ⟨r, hK, hr⟩ := binP_sound h
      refine ⟨r, hK, fun H => .pure fun w L a hw hv => ?_⟩
      have h1 := hv x (by rw [ho]; simp [Op.operands])
      have h2 := hv y (by rw [ho]; simp [Op.operands])
      rw [hx] at h1
      rw [hy] at h2
      obtain ⟨⟨rv, r1, r2⟩, r3, r4⟩ := hr P t w L _ _ (hΓ t).fits h1 h2
      exact ⟨rv, exec_bin ho (eqGuard_lf r3 r4 w) r1, r2⟩
    · exact h.elim
  · rename_i src dst x ho
    split at h
    · rename_i k hs hd
      split at h
      · rename_i k' n hx
        exact ⟨_, h, fun H => convInt_sound hΓ ho hs hd hx H⟩
      · exact h.elim
    · exact h.elim
  · rename_i t x f ho
    obtain ⟨r, hK, hr⟩ := fieldVK_sound hΓ h
    refine ⟨r, hK, fun H => .pure fun w L a hw hv => ?_⟩
    obtain ⟨rv, h1, h2⟩ := hr w L _ (hv x (by rw [ho]; simp [Op.operands]))
    exact ⟨rv, by simp [execOp, ho, h1], h2⟩
  · rename_i t x i ho
    obtain ⟨r, hK, hr⟩ := indexVK_sound hΓ h
    refine ⟨r, hK, fun H => .pure fun w L a hw hv => ?_⟩
    obtain ⟨rv, h1, h2⟩ := hr w L _ _ (hv x (by rw [ho]; simp [Op.operands])) (hv i (by rw [ho]; simp [Op.operands]))
    exact ⟨rv, by simp [execOp, ho, h1], h2⟩
  · rename_i t i ho
    obtain ⟨r, hK, hr⟩ := extractK_sound h
    refine ⟨r, hK, fun H => .pure fun w L a hw hv => ?_⟩
    obtain ⟨rv, h1, h2⟩ := hr P w L _ (hv t (by rw [ho]; simp [Op.operands]))
    exact ⟨rv, by simp [execOp, ho, h1], h2⟩
  · rename_i t parts ho
    obtain ⟨r, hK, hr⟩ := buildK_sound hΓ h
    refine ⟨r, hK, fun H => .pure fun w L a hw hv => ?_⟩
    obtain ⟨p1, p2⟩ := parts_rep (vs := vs) (parts := parts) (w := w) (L := L) (a := a) (fun p hp => hv p.2 (by
      rw [ho]; simp only [Op.operands]; simp only [List.mem_map]; exact ⟨p, hp, rfl⟩))
    obtain ⟨rv, h1, h2⟩ := hr w L _ p1 p2
    exact ⟨rv, by simp only [execOp, ho, Sem.run_bind, h1, Result.andThen_ok, Sem.run_pure], h2⟩
  · rename_i f first caps ho
    split at h
    · rename_i hf
      split at h
      · rename_i l hl
        obtain ⟨l1, l2⟩ := lvs_sound hl
        refine ⟨_, h, fun H => .pure fun w L a hw hv => ?_⟩
        have hf' : first = #[] := by cases first; simp at hf; subst hf; rfl
        subst hf'
        refine ⟨.func (.func f) #[] (caps.map a.eval), by simp [execOp, ho, Instr.makeFunc], ⟨caps.map a.eval, rfl, by simp [l1], fun i hi => ?_⟩⟩
        rw [l1] at hi
        have hi' : i < caps.size := by simpa using hi
        obtain ⟨u, u1, u2⟩ := l2 i caps[i] (by simp [hi'])
        simp only [nthL_get u1]
        refine ⟨a.eval caps[i], by simp [hi'], toLV_rep u2 (hv caps[i] ?_)⟩
        rw [ho]; simp [Op.operands]
      · exact h.elim
    · split at h
      · rename_i l hc hl
        obtain ⟨l1, l2⟩ := lvs_sound hl
        refine ⟨_, h, fun H => .pure fun w L a hw hv => ?_⟩
        have hc' : caps = #[] := by cases caps; simp at hc; subst hc; rfl
        subst hc'
        refine ⟨.func (.func f) (first.map a.eval) #[], by simp [execOp, ho, Instr.makeFunc], ⟨first.map a.eval, rfl, by simp [l1], fun i hi => ?_⟩⟩
        rw [l1] at hi
        have hi' : i < first.size := by simpa using hi
        obtain ⟨u, u1, u2⟩ := l2 i first[i] (by simp [hi'])
        simp only [nthL_get u1]
        refine ⟨a.eval first[i], by simp [hi'], toLV_rep u2 (hv first[i] ?_)⟩
        rw [ho]; simp [Op.operands]
      · exact h.elim
  · rename_i t x ho
    have key : ∀ (d : TypeDesc), P.underlying t = some d → (∀ ms, d ≠ .interface ms) → (match toLV (vs x) with | some u => K (.s (.lf (.ifc t u))) | none => False) → ∃ r, K r ∧ ∀ H, OpSem P o vs H r H := by
      intro d hd hni h
      split at h
      · rename_i u hu
        refine ⟨_, h, fun H => .pure fun w L a hw hv => ?_⟩
        refine ⟨.iface t (a.eval x), ?_, ⟨_, rfl, toLV_rep hu (hv x (by rw [ho]; simp [Op.operands]))⟩⟩
        simp only [execOp, ho, Instr.makeInterface, Sem.run_bind, run_underlying hd, Result.andThen_ok]
        cases d <;> first | (exact absurd rfl (hni _)) | rfl
      · exact h.elim
    have hfit := (hΓ t).fits
    cases hd : (tget Γ t).d <;> rw [hd] at h hfit <;> try exact h.elim
    case struct fs => obtain ⟨fields, h1, _⟩ := hfit; exact key _ h1 (by simp) h
    case func => obtain ⟨p, q, r, h1⟩ := hfit; exact key _ h1 (by simp) h
    all_goals exact key _ hfit (by simp) h
  · exact h.elim


/-! ### Operations that read -/
def convRK (Γ : Tab) (src dst : TypeId) (x : FV) (H : Hp) (K : FV → Prop) : Prop :=
  match (tget Γ src).d.isOther with
  | true => False
  | false => (match (tget Γ dst).d with
    | .int k => (match x with | .s (.lf (.int _ n)) => K (.s (.lf (.int k (k.wrap n)))) | _ => False)
    | .str => (match (tget Γ src).d with
      | .str => (match x with | .s (.lf (.str s)) => K (.s (.lf (.str s))) | _ => False)
      | .slice e => (match (tget Γ e).d with
        | .int .u8 => srcS x H fun s => K (.s (.lf (.str s)))
        | _ => False)
      | _ => False)
    | .slice e => (match (tget Γ e).d with
      | .int .u8 => (match x with | .s (.lf (.str s)) => K (.s (.lf (.rob true false s))) | _ => False)
      | _ => False)
    | _ => False)

theorem convRK_conv {src dst : TypeId} {x : FV} {H : Hp} {K : FV → Prop} (h : convRK Γ src dst x H K) : convK Γ src dst x H fun v H' => H' = H ∧ K v := by
  unfold convRK at h
  unfold convK
  split at h
  · exact h.elim
  · split at h
    · split at h
      · simp_all
      · exact h.elim
    · split at h
      · split at h
        · simp_all
        · exact h.elim
      · split at h
        · simp_all
        · exact h.elim
      · exact h.elim
    · split at h
      · split at h
        · simp_all
        · exact h.elim
      · exact h.elim
    · exact h.elim

def builtinR (Γ : Tab) (b : Builtin) (ts : List TypeId) (xs : List FV) (H : Hp) (K : FV → Prop) : Prop :=
  match b with
  | .len => (match ts, xs with | [t], [x] => lenK Γ t x H K | _, _ => False)
  | .max => (match xs with | [x, y] => minmaxK true x y K | _ => False)
  | .min => (match xs with | [x, y] => minmaxK false x y K | _ => False)
  | _ => False

def eqAggK (Γ : Tab) (op : BinOp) (t : TypeId) (l m : List Seg) (K : FV → Prop) : Prop :=
  match (tget Γ t).d.isAgg, eqT Γ 16 t l m with
  | true, some b => (match op with | .eql => K (.s (.lf (.bool b))) | .neq => K (.s (.lf (.bool (!b)))) | _ => False)
  | _, _ => False

def opR (P : Program) (Γ : Tab) (op : Op) (vs : Operand → FV) (H : Hp) (K : FV → Prop) : Prop :=
  match op with
  | .load t a => loadK Γ t (vs a) H K
  | .nilCheck x => nilK (vs x) H K
  | .fieldAddr s x f => fieldK Γ s (vs x) f H K
  | .indexAddr t x i => indexK Γ t (vs x) (vs i) H K
  | .slice t x lo hi mx => sliceK Γ t (vs x) (lo.map vs) (hi.map vs) (mx.map vs) H K
  | .binOp op t x y _ => (match vs x, vs y with
    | .s (.lf u), .s (.lf v) => binL op (tget Γ t).d H u v K
    | .s (.agg l), .s (.agg m) => eqAggK Γ op t l m K
    | _, _ => False)
  | .convert src dst x => convRK Γ src dst (vs x) H K
  | .call c => (match c.callee with
    | .builtin b => builtinR Γ b c.argTypes.toList (c.args.toList.map vs) H K
    | .value f => (match vs f with
      | .s (.lf (.fn g n caps)) => mapK vs c.args.toList fun as => capsK caps 0 n fun cs => CallR P g (as ++ cs) H K
      | .s (.lf (.bfn g n fst)) => mapK vs c.args.toList fun as => capsK fst 0 n fun cs => CallR P g (cs ++ as) H K
      | _ => False)
    | _ => False)
  | .move x => opP Γ (.move x) vs K
  | .assign x => opP Γ (.assign x) vs K
  | .pick a b c => opP Γ (.pick a b c) vs K
  | .unOp a b c => opP Γ (.unOp a b c) vs K
  | .field a b c => opP Γ (.field a b c) vs K
  | .index a b c => opP Γ (.index a b c) vs K
  | .extract a b => opP Γ (.extract a b) vs K
  | .build a b => opP Γ (.build a b) vs K
  | .makeFunc a b c => opP Γ (.makeFunc a b c) vs K
  | .makeInterface a b => opP Γ (.makeInterface a b) vs K
  | _ => False

theorem repArgs_of {vs : Operand → FV} {args : Array Operand} {caps : Nat → LV} {n : Nat} {w : World} {L : NM} {a : Act} {arr : Array Value} (hv : ∀ x ∈ args.toList, repF w L (vs x) (a.eval x)) (hs : arr.size = n)
    (hc : ∀ i, i < n → ∃ x, arr[i]? = some x ∧ rep w L (caps i) x) : RepArgs w L (args.toList.map vs ++ capsL caps 0 n) (args.map a.eval ++ arr) := by
  refine ⟨by simp [capsL_length, hs], fun i v hi => ?_⟩
  rw [List.getElem?_append] at hi
  simp only [List.length_map, Array.length_toList] at hi
  split at hi
  · rename_i hlt
    rw [List.getElem?_map] at hi
    have hx : args.toList[i]? = some args[i] := by simp [hlt]
    rw [hx] at hi
    simp only [Option.map_some, Option.some.injEq] at hi
    subst hi
    exact ⟨a.eval args[i], by rw [Array.getElem?_append_left (by simpa using hlt)]; simp [hlt], hv _ (List.mem_of_getElem? hx)⟩
  · rename_i hge
    have hlt : i - args.size < n := by
      rcases Nat.lt_or_ge (i - args.size) n with h' | h'
      · exact h'
      · rw [List.getElem?_eq_none (by rw [capsL_length]; exact h')] at hi; simp at hi
    rw [capsL_get _ _ _ _ hlt, Nat.zero_add] at hi
    simp only [Option.some.injEq] at hi
    subst hi
    obtain ⟨x, h1, h2⟩ := hc _ hlt
    exact ⟨x, by rw [Array.getElem?_append_right (by simp; omega)]; simpa using h1, capV_rep h2⟩

/-- The run of a call of a function value. -/
theorem run_call {o : Oper} {c : Call} {f : Operand} (ho : o.op = .call c) (hf : c.callee = .value f) {g : FuncId} {a : Act} {arr : Array Value} (he : a.eval f = .func (.func g) #[] arr) (w : World) :
    (execOp a.eval o).run P w = (callFunc g (c.args.map a.eval ++ arr)).run P w := by
  simp [execOp, ho, resolve, hf, he, Deferred.ofValue, invoke]

theorem call_sem {o : Oper} {c : Call} {f : Operand} (ho : o.op = .call c) (hf : c.callee = .value f) {vs : Operand → FV} {g : FuncId} {n : Nat} {caps : Nat → LV} (hv : vs f = .s (.lf (.fn g n caps))) {H H' : Hp} {r : FV}
    (h : CallSem P g (c.args.toList.map vs ++ capsL caps 0 n) H r H') : OpSem P o vs H r H' := by
  intro w L a hw hvs next Q hn
  have hmem : ∀ x ∈ c.args.toList, x ∈ o.op.operands.toList := by
    intro x hx; rw [ho]; simp only [Op.operands, Call.operands, hf]; simp at hx ⊢; exact .inr hx
  have hfm : f ∈ o.op.operands.toList := by rw [ho]; simp [Op.operands, Call.operands, hf]
  have h1 := hvs f hfm
  rw [hv] at h1
  obtain ⟨arr, he, hs, hc⟩ := h1
  unfold Oper.wp
  rw [run_call ho hf he w]
  exact h w L _ hw (repArgs_of (fun x hx => hvs x (hmem x hx)) hs hc) o a next Q hn

theorem repArgs_ofb {vs : Operand → FV} {args : Array Operand} {fst : Nat → LV} {n : Nat} {w : World} {L : NM} {a : Act} {arr : Array Value} (hv : ∀ x ∈ args.toList, repF w L (vs x) (a.eval x)) (hs : arr.size = n)
    (hc : ∀ i, i < n → ∃ x, arr[i]? = some x ∧ rep w L (fst i) x) : RepArgs w L (capsL fst 0 n ++ args.toList.map vs) (arr ++ args.map a.eval) := by
  refine ⟨by simp [capsL_length, hs], fun i v hi => ?_⟩
  rw [List.getElem?_append] at hi
  rw [capsL_length] at hi
  split at hi
  · rename_i hlt
    rw [capsL_get _ _ _ _ hlt, Nat.zero_add] at hi
    simp only [Option.some.injEq] at hi
    subst hi
    obtain ⟨x, h1, h2⟩ := hc _ hlt
    exact ⟨x, by rw [Array.getElem?_append_left (by omega)]; exact h1, capV_rep h2⟩
  · rename_i hge
    rw [List.getElem?_map] at hi
    have hlt : i - n < args.size := by
      rcases Nat.lt_or_ge (i - n) args.size with h' | h'
      · exact h'
      · rw [List.getElem?_eq_none (by simpa using h')] at hi; simp at hi
    have hx : args.toList[i - n]? = some args[i - n] := by simp [hlt]
    rw [hx] at hi
    simp only [Option.map_some, Option.some.injEq] at hi
    subst hi
    exact ⟨a.eval args[i - n], by rw [Array.getElem?_append_right (by omega), hs]; simp [hlt], hv _ (List.mem_of_getElem? hx)⟩

theorem call_semb {o : Oper} {c : Call} {f : Operand} (ho : o.op = .call c) (hf : c.callee = .value f) {vs : Operand → FV} {g : FuncId} {n : Nat} {fst : Nat → LV} (hv : vs f = .s (.lf (.bfn g n fst))) {H H' : Hp} {r : FV}
    (h : CallSem P g (capsL fst 0 n ++ c.args.toList.map vs) H r H') : OpSem P o vs H r H' := by
  intro w L a hw hvs next Q hn
  have hmem : ∀ x ∈ c.args.toList, x ∈ o.op.operands.toList := by
    intro x hx; rw [ho]; simp only [Op.operands, Call.operands, hf]; simp at hx ⊢; exact .inr hx
  have hfm : f ∈ o.op.operands.toList := by rw [ho]; simp [Op.operands, Call.operands, hf]
  have h1 := hvs f hfm
  rw [hv] at h1
  obtain ⟨arr, he, hs, hc⟩ := h1
  unfold Oper.wp
  have hrun : (execOp a.eval o).run P w = (callFunc g (arr ++ c.args.map a.eval)).run P w := by
    simp [execOp, ho, resolve, hf, he, Deferred.ofValue, invoke]
  rw [hrun]
  exact h w L _ hw (repArgs_ofb (fun x hx => hvs x (hmem x hx)) hs hc) o a next Q hn

theorem exec_builtin {o : Oper} {c : Call} {b : Builtin} (ho : o.op = .call c) (hf : c.callee = .builtin b) {a : Act} {w : World} :
    (execOp a.eval o).run P w = (builtin b c.argTypes o.type (c.args.map fun | .const _ => true | _ => false) (c.args.map a.eval)).run P w := by
  simp only [execOp, ho, resolve, hf, invoke]
  rfl

end Go.Sym

set_option linter.unusedVariables false
set_option linter.unusedSimpArgs false
namespace Go.Sym
open Go

variable {P : Program} {Γ : Tab}

theorem optRep_map {w : World} {L : NM} {vs : Operand → FV} {a : Act} {x : Option Operand} (h : ∀ y, x = some y → repF w L (vs y) (a.eval y)) : optRep w L (x.map vs) (x.map a.eval) := by
  cases x with
  | none => trivial
  | some y => exact h y rfl

theorem two_args {α β : Type} {l : List α} {f : α → β} {x y : β} (h : l.map f = [x, y]) : ∃ a b, l = [a, b] ∧ f a = x ∧ f b = y := by
  match l, h with
  | [a, b], h => simp at h; exact ⟨a, b, rfl, h.1, h.2⟩

theorem one_arg {α β : Type} {l : List α} {f : α → β} {x : β} (h : l.map f = [x]) : ∃ a, l = [a] ∧ f a = x := by
  match l, h with
  | [a], h => simp at h; exact ⟨a, rfl, h⟩

theorem arr_of_list {α : Type} {a : Array α} {l : List α} (h : a.toList = l) : a = l.toArray := by cases a; simp at h; simp [h]

theorem opP_R (hΓ : TOK P Γ) {o : Oper} {vs : Operand → FV} {H : Hp} {K : FV → Prop} (h : opP Γ o.op vs K) : ∃ r, K r ∧ OpSem P o vs H r H := by
  obtain ⟨r, h1, h2⟩ := opP_sound hΓ h
  exact ⟨r, h1, h2 H⟩

theorem opR_sound (hΓ : TOK P Γ) {o : Oper} {vs : Operand → FV} {H : Hp} {K : FV → Prop} (h : opR P Γ o.op vs H K) : ∃ r, K r ∧ OpSem P o vs H r H := by
  unfold opR at h
  split at h
  · rename_i t x ho
    obtain ⟨r, hK, hr⟩ := loadK_sound hΓ h
    refine ⟨r, hK, .pure fun w L a hw hv => ?_⟩
    obtain ⟨rv, h1, h2⟩ := hr w L _ hw (hv x (by rw [ho]; simp [Op.operands]))
    exact ⟨rv, by simp [execOp, ho, h1], h2⟩
  · rename_i x ho
    obtain ⟨r, H', h1, h2, h3⟩ := nilK_sound (P := P) ho (vs := vs) (H := H) (K := fun v H' => H' = H ∧ K v) (by simpa using h)
    subst h2
    exact ⟨r, h3, h1⟩
  · rename_i s x f ho
    obtain ⟨r, hK, hr⟩ := fieldK_sound hΓ h
    refine ⟨r, hK, .pure fun w L a hw hv => ?_⟩
    obtain ⟨rv, h1, h2⟩ := hr w L _ hw (hv x (by rw [ho]; simp [Op.operands]))
    exact ⟨rv, by simp [execOp, ho, h1], h2⟩
  · rename_i t x i ho
    obtain ⟨r, hK, hr⟩ := indexK_sound hΓ h
    refine ⟨r, hK, .pure fun w L a hw hv => ?_⟩
    obtain ⟨rv, h1, h2⟩ := hr w L _ _ hw (hv x (by rw [ho]; simp [Op.operands])) (hv i (by rw [ho]; simp [Op.operands]))
    exact ⟨rv, by simp [execOp, ho, h1], h2⟩
  · rename_i t x lo hi mx ho
    obtain ⟨r, hK, hr⟩ := sliceK_sound hΓ h
    refine ⟨r, hK, .pure fun w L a hw hv => ?_⟩
    obtain ⟨rv, h1, h2⟩ := hr w L (a.eval x) (lo.map a.eval) (hi.map a.eval) (mx.map a.eval) hw (hv x (by rw [ho]; simp [Op.operands]))
      ⟨optRep_map fun y hy => hv y (by rw [ho]; subst hy; simp [Op.operands]), optRep_map fun y hy => hv y (by rw [ho]; subst hy; simp [Op.operands]), optRep_map fun y hy => hv y (by rw [ho]; subst hy; simp [Op.operands])⟩
    exact ⟨rv, by simp [execOp, ho, h1], h2⟩
  · rename_i op t x y yt ho
    split at h
    · rename_i u v hx hy
      obtain ⟨r, hK, hr⟩ := binL_sound h
      refine ⟨r, hK, .pure fun w L a hw hv => ?_⟩
      have h1 := hv x (by rw [ho]; simp [Op.operands])
      have h2 := hv y (by rw [ho]; simp [Op.operands])
      rw [hx] at h1
      rw [hy] at h2
      obtain ⟨rv, r1, r2⟩ := hr P t w L _ _ (hΓ t).fits hw h1 h2
      obtain ⟨r3, r4⟩ := binL_kind h hw h1
      exact ⟨rv, exec_bin ho (eqGuard_lf r3 r4 w) r1, r2⟩
    · rename_i l m hx hy
      unfold eqAggK at h
      split at h
      · rename_i b ha he
        have hno : (tget Γ t).d.isOther = false := by cases hd : (tget Γ t).d <;> rw [hd] at ha <;> first | rfl | simp [TD.isAgg] at ha
        have hagg : ∀ (w : World) (L : NM) (a : Act), repF w L (vs x) (a.eval x) → repF w L (vs y) (a.eval y) → (tget Γ t).d.isAgg = true →
            ∃ a1 a2, a.eval x = .agg a1 ∧ a.eval y = .agg a2 ∧ (Op.equalIn 10000 t (.agg a1) (.agg a2)).run P w = .ok b w := by
          intro w L a h1 h2 ha
          rw [hx] at h1
          rw [hy] at h2
          obtain ⟨a1, e1, s1, r1⟩ := h1
          obtain ⟨a2, e2, s2, r2⟩ := h2
          refine ⟨a1, a2, e1, e2, ?_⟩
          exact eqT_sound hΓ 16 t l m b hno he 9983 w L a1 a2 (.agg a1) (.agg a2) s1 s2 r1 r2 (by unfold IsVal; rw [ha]) (by unfold IsVal; rw [ha])
        split at h
        · refine ⟨_, h, .pure fun w L a hw hv => ?_⟩
          obtain ⟨a1, a2, e1, e2, e3⟩ := hagg w L a (hv x (by rw [ho]; simp [Op.operands])) (hv y (by rw [ho]; simp [Op.operands])) ha
          refine ⟨.bool b, exec_bin ho (by rw [e1, e2]; exact run_eqGuard_agg w .eql t x y a1 a2 ((hΓ t).noguard ha)) ?_, rfl⟩
          rw [e1, e2, run_eql_struct, e3]; rfl
        · refine ⟨_, h, .pure fun w L a hw hv => ?_⟩
          obtain ⟨a1, a2, e1, e2, e3⟩ := hagg w L a (hv x (by rw [ho]; simp [Op.operands])) (hv y (by rw [ho]; simp [Op.operands])) ha
          refine ⟨.bool (!b), exec_bin ho (by rw [e1, e2]; exact run_eqGuard_agg w .neq t x y a1 a2 ((hΓ t).noguard ha)) ?_, rfl⟩
          rw [e1, e2, run_neq_struct, e3]; rfl
        · exact h.elim
      · exact h.elim
    · exact h.elim
  · rename_i src dst x ho
    obtain ⟨r, H', h1, h2, h3⟩ := convK_sound hΓ ho (convRK_conv h)
    subst h2
    exact ⟨r, h3, h1⟩
  · rename_i c ho
    split at h
    · rename_i b hb
      have hmem : ∀ x ∈ c.args.toList, x ∈ o.op.operands.toList := by
        intro x hx; rw [ho]; simp only [Op.operands, Call.operands, hb]; simpa using hx
      unfold builtinR at h
      split at h
      · split at h
        · rename_i t x htl hxl
          obtain ⟨y, hy, hyx⟩ := one_arg hxl
          subst hyx
          obtain ⟨r, hK, hr⟩ := lenK_sound hΓ h
          refine ⟨r, hK, .pure fun w L a hw hv => ?_⟩
          obtain ⟨rv, r1, r2⟩ := hr w L (a.eval y) #[] o.type hw (hv y (hmem y (by rw [hy]; simp)))
          refine ⟨rv, ?_, r2⟩
          rw [exec_builtin ho hb, arr_of_list htl, arr_of_list hy]
          simp only [builtin, Sem.run_bind]
          simp [r1]
        · exact h.elim
      · split at h
        · rename_i x y hxl
          obtain ⟨x', y', hy, rfl, rfl⟩ := two_args hxl
          obtain ⟨r, hK, hr⟩ := minmaxK_sound h
          refine ⟨r, hK, .pure fun w L a hw hv => ?_⟩
          obtain ⟨rv, r1, r2⟩ := hr P w L (a.eval x') (a.eval y') c.argTypes o.type (hv x' (hmem x' (by rw [hy]; simp))) (hv y' (hmem y' (by rw [hy]; simp)))
          refine ⟨rv, ?_, r2⟩
          rw [exec_builtin ho hb, arr_of_list hy]
          simp only [builtin, Sem.run_bind]
          simp at r1
          simp [r1]
        · exact h.elim
      · split at h
        · rename_i x y hxl
          obtain ⟨x', y', hy, rfl, rfl⟩ := two_args hxl
          obtain ⟨r, hK, hr⟩ := minmaxK_sound h
          refine ⟨r, hK, .pure fun w L a hw hv => ?_⟩
          obtain ⟨rv, r1, r2⟩ := hr P w L (a.eval x') (a.eval y') c.argTypes o.type (hv x' (hmem x' (by rw [hy]; simp))) (hv y' (hmem y' (by rw [hy]; simp)))
          refine ⟨rv, ?_, r2⟩
          rw [exec_builtin ho hb, arr_of_list hy]
          simp only [builtin, Sem.run_bind]
          simp at r1
          simp [r1]
        · exact h.elim
      · exact h.elim
    · rename_i f hf
      split at h
      · rename_i g n caps hv
        rw [mapK_eq, capsK_eq] at h
        obtain ⟨r, h1, h2⟩ := h.out
        exact ⟨r, h2, call_sem ho hf hv h1⟩
      · rename_i g n fst hv
        rw [mapK_eq, capsK_eq] at h
        obtain ⟨r, h1, h2⟩ := h.out
        exact ⟨r, h2, call_semb ho hf hv h1⟩
      · exact h.elim
    · exact h.elim
  all_goals (first | exact h.elim | (rename_i ho; rw [← ho] at h; exact opP_R hΓ h))

end Go.Sym

set_option linter.unusedVariables false
set_option linter.unusedSimpArgs false
namespace Go.Sym
open Go

variable {P : Program} {Γ : Tab}

def callW (P : Program) (Γ : Tab) (c : Call) (vs : Operand → FV) (H : Hp) (K : FV → Hp → Prop) : Prop :=
  match c.callee with
  | .builtin .append => (match c.argTypes.toList, c.args.toList with | [t, xt], [s, x] => appK Γ t xt (vs s) (vs x) H K | _, _ => False)
  | .builtin .copy => (match c.argTypes.toList, c.args.toList with | [dT, _], [d, s] => copyK Γ dT (vs d) (vs s) H K | _, _ => False)
  | .builtin b => builtinR Γ b c.argTypes.toList (c.args.toList.map vs) H fun v => K v H
  | .value f => (match vs f with
    | .s (.lf (.fn g n caps)) => mapK vs c.args.toList fun as => capsK caps 0 n fun cs => CallK P g (as ++ cs) H K
    | .s (.lf (.bfn g n fst)) => mapK vs c.args.toList fun as => capsK fst 0 n fun cs => CallK P g (cs ++ as) H K
    | _ => False)
  | _ => False

def opW (P : Program) (Γ : Tab) (op : Op) (vs : Operand → FV) (H : Hp) (K : FV → Hp → Prop) : Prop :=
  match op with
  | .alloc t => allocK Γ t H K
  | .box t x => boxK t (vs x) H K
  | .store t a x => storeK Γ t (vs a) (vs x) H fun H' => K (.s (.lf .any)) H'
  | .makeSlice t l c => makeK Γ t (vs l) (vs c) H K
  | .buildSlice t n parts => bsliceK Γ t n (mapParts vs parts.toList) H K
  | .convert src dst x => convK Γ src dst (vs x) H K
  | .call c => callW P Γ c vs H K
  | op => opR P Γ op vs H fun v => K v H

theorem opW_sound (hΓ : TOK P Γ) {o : Oper} {vs : Operand → FV} {H : Hp} {K : FV → Hp → Prop} (h : opW P Γ o.op vs H K) : Outc P o vs H K := by
  unfold opW at h
  split at h
  · rename_i t ho
    obtain ⟨r, H', hK, hr⟩ := allocK_sound hΓ h
    refine ⟨r, H', .of_val fun w L a hw hv => ?_, hK⟩
    obtain ⟨rv, w', L', r1, r2, r3, r4⟩ := hr w L hw
    exact ⟨rv, w', L', by simp [execOp, ho, r1], r2, r3, r4⟩
  · rename_i t x ho
    obtain ⟨r, H', hK, hr⟩ := boxK_sound (P := P) h
    refine ⟨r, H', .of_val fun w L a hw hv => ?_, hK⟩
    obtain ⟨rv, w', L', r1, r2, r3, r4⟩ := hr w L _ hw (hv x (by rw [ho]; simp [Op.operands]))
    exact ⟨rv, w', L', by simp [execOp, ho, r1], r2, r3, r4⟩
  · rename_i t x y ho
    obtain ⟨H', hK, hr⟩ := storeK_sound hΓ h
    refine ⟨_, H', .of_skip fun w L a hw hv => ?_, hK⟩
    obtain ⟨w', L', r1, r2, r3⟩ := hr w L _ _ hw (hv x (by rw [ho]; simp [Op.operands])) (hv y (by rw [ho]; simp [Op.operands]))
    exact ⟨w', L', by simp [execOp, ho, r1], r2, r3⟩
  · rename_i t l c ho
    obtain ⟨r, H', hK, hr⟩ := makeK_sound hΓ h
    refine ⟨r, H', .of_val fun w L a hw hv => ?_, hK⟩
    obtain ⟨rv, w', L', r1, r2, r3, r4⟩ := hr w L _ _ hw (hv l (by rw [ho]; simp [Op.operands])) (hv c (by rw [ho]; simp [Op.operands]))
    exact ⟨rv, w', L', by simp [execOp, ho, r1], r2, r3, r4⟩
  · rename_i t n parts ho
    obtain ⟨r, H', hK, hr⟩ := bsliceK_sound hΓ h
    refine ⟨r, H', .of_val fun w L a hw hv => ?_, hK⟩
    obtain ⟨p1, p2⟩ := parts_rep (vs := vs) (parts := parts) (w := w) (L := L) (a := a) (fun p hp => hv p.2 (by
      rw [ho]; simp only [Op.operands]; simp only [List.mem_map]; exact ⟨p, hp, rfl⟩))
    obtain ⟨rv, w', L', r1, r2, r3, r4⟩ := hr w L _ hw p1 p2
    exact ⟨rv, w', L', by simp only [execOp, ho, Sem.run_bind, r1, Result.andThen_ok, Sem.run_pure], r2, r3, r4⟩
  · rename_i src dst x ho
    exact convK_sound hΓ ho h
  · rename_i c ho
    unfold callW at h
    split at h
    · rename_i hb
      have hmem : ∀ x ∈ c.args.toList, x ∈ o.op.operands.toList := by
        intro x hx; rw [ho]; simp only [Op.operands, Call.operands, hb]; simpa using hx
      split at h
      · rename_i t xt s x htl hxl
        obtain ⟨r, H', hK, hr⟩ := appK_sound hΓ h
        refine ⟨r, H', .of_val fun w L a hw hv => ?_, hK⟩
        obtain ⟨rv, w', L', r1, r2, r3, r4⟩ := hr w L _ _ o.type hw (hv s (hmem s (by rw [hxl]; simp))) (hv x (hmem x (by rw [hxl]; simp)))
        refine ⟨rv, w', L', ?_, r2, r3, r4⟩
        rw [exec_builtin ho hb, arr_of_list htl, arr_of_list hxl]
        simp only [builtin, Sem.run_bind]
        simp [r1]
      · exact h.elim
    · rename_i hb
      have hmem : ∀ x ∈ c.args.toList, x ∈ o.op.operands.toList := by
        intro x hx; rw [ho]; simp only [Op.operands, Call.operands, hb]; simpa using hx
      split at h
      · rename_i dT sT d s htl hxl
        obtain ⟨r, H', hK, hr⟩ := copyK_sound hΓ h
        refine ⟨r, H', .of_val fun w L a hw hv => ?_, hK⟩
        obtain ⟨rv, w', r1, r2, r3, r4⟩ := hr w L _ _ sT o.type hw (hv d (hmem d (by rw [hxl]; simp))) (hv s (hmem s (by rw [hxl]; simp)))
        refine ⟨rv, w', L, ?_, r2, r3, r4⟩
        rw [exec_builtin ho hb, arr_of_list htl, arr_of_list hxl]
        simp only [builtin, Sem.run_bind]
        simp [r1]
      · exact h.elim
    · rename_i b _ _ hb
      have h' : opR P Γ o.op vs H fun v => K v H := by
        rw [ho]; simp only [opR, hb]; exact h
      obtain ⟨r, h1, h2⟩ := opR_sound hΓ h'
      exact ⟨r, H, h2, h1⟩
    · rename_i f hf
      split at h
      · rename_i g n caps hv
        rw [mapK_eq, capsK_eq] at h
        obtain ⟨r, H', h1, h2⟩ := h.out
        exact ⟨r, H', call_sem ho hf hv h1, h2⟩
      · rename_i g n fst hv
        rw [mapK_eq, capsK_eq] at h
        obtain ⟨r, H', h1, h2⟩ := h.out
        exact ⟨r, H', call_semb ho hf hv h1, h2⟩
      · exact h.elim
    · exact h.elim
  · obtain ⟨r, h1, h2⟩ := opR_sound hΓ h
    exact ⟨r, H, h2, h1⟩

/-! ### Frames and states -/
/-- Where a piece of a body began, and what is deferred there. -/
structure W0 where
  w : World
  D : List Deferred

/-- How a run stands to the evaluator's state: since its function began in w0. -/
structure R (w0 : W0) (L0 : NM) (n0 n : Nat) (fr : Fr) (H : Hp) (a : Act) (w : World) : Prop where
  ex : ∃ L, HRep w L H ∧ FRep w L fr a ∧ Ev w0.w L0 w L
  base : ∀ nm, L0 nm ≠ none → nm < n0
  size : a.tmps.size = n
  defers : a.defers = w0.D

theorem FRep.mono {w w' : World} {L L' : NM} {fr : Fr} {a : Act} (hev : Ev w L w' L') (h : FRep w L fr a) : FRep w' L' fr a := fun t => repF.mono hev (h t)

theorem put_size (a : Act) (d : Option Tmp) (v : Value) : (a.put d v).tmps.size = a.tmps.size := by cases d <;> simp [Act.put]
theorem put_defers (a : Act) (d : Option Tmp) (v : Value) : (a.put d v).defers = a.defers := by cases d <;> rfl

/-- A result put where it belongs. -/
def putK (n : Nat) (d : Option Tmp) (v : FV) (fr : Fr) (K : Fr → Prop) : Prop :=
  match d with
  | none => K fr
  | some d => (match Nat.blt d n with | true => K ((d, v) :: fr) | false => False)

theorem R.step {w0 : W0} {L0 : NM} {n0 n : Nat} {fr : Fr} {H : Hp} {a : Act} {w : World} (hR : R w0 L0 n0 n fr H a w) {o : Oper} {r : FV} {H' : Hp} {K : Fr → Prop} (hs : OpSem P o (opv fr) H r H') (hp : putK n o.dst r fr K)
    {next : Act → World → Prop} {Q : Exit → Act → World → Prop} (hn : ∀ fr' a' w', K fr' → R w0 L0 n0 n fr' H' a' w' → next a' w') : o.wp P a w next Q := by
  obtain ⟨⟨L, h1, h2, h3⟩, hb, h4, h5⟩ := hR
  refine hs w L a h1 (fun x _ => h2.opv x) next Q fun rv w' L' g1 g2 g3 => ?_
  unfold putK at hp
  split at hp
  · rename_i hd
    rw [hd]
    exact hn fr a w' hp ⟨⟨L', g1, h2.mono g3, h3.trans g3⟩, hb, h4, h5⟩
  · rename_i d hd
    split at hp
    · rename_i hlt
      have hlt := blt_true hlt
      rw [hd]
      exact hn _ _ w' hp ⟨⟨L', g1, (h2.mono g3).put (by omega) g2, h3.trans g3⟩, hb, by rw [put_size]; exact h4, by rw [put_defers]; exact h5⟩
    · exact hp.elim

end Go.Sym

set_option linter.unusedVariables false
set_option linter.unusedSimpArgs false
namespace Go.Sym
open Go

variable {P : Program} {Γ : Tab}

/-! ### Guards -/
def nthO : List Oper → Nat → Option Oper
  | [], _ => none
  | x :: _, 0 => some x
  | _ :: l, n + 1 => nthO l n

theorem nthO_eq (l : List Oper) (n : Nat) : nthO l n = l[n]? := by
  induction l generalizing n with
  | nil => rfl
  | cons x l ih => cases n <;> simp [nthO, ih]

def wantK (want b : Bool) (fr : Fr) (K : Bool → Fr → Prop) : Prop :=
  match want with
  | true => (match b with | true => K true fr | false => K false fr)
  | false => (match b with | true => K false fr | false => K true fr)

theorem wantK_eq (want b : Bool) (fr : Fr) (K : Bool → Fr → Prop) : wantK want b fr K = K (b == want) fr := by cases want <;> cases b <;> rfl

def guardK (all : List Oper) (g : Option (Nat × Bool)) (fr : Fr) (K : Bool → Fr → Prop) : Prop :=
  match g with
  | none => K true fr
  | some (j, want) => (match nthO all j with
    | some oj => (match oj.dst with
      | some d => (match get fr d with
        | .s (.lf .tt) => wantK want true fr K
        | .s (.lf .ff) => wantK want false fr K
        | .s (.lf (.bool b)) => CaseB b fun b => match b with
          | true => wantK want true ((d, .s (.lf .tt)) :: fr) K
          | false => wantK want false ((d, .s (.lf .ff)) :: fr) K
        | .s (.lf (.val v)) => (match v with | .tuple _ => K false fr | _ => False)
        | _ => False)
      | none => False)
    | none => False)

/-- A slot whose Bool is known. -/
theorem FRep.known {w : World} {L : NM} {fr : Fr} {a : Act} (h : FRep w L fr a) {d : Nat} {v : FV} (hv : repF w L v (a.tmps.getD d undef)) : FRep w L ((d, v) :: fr) a := by
  intro t
  simp only [get]
  by_cases ht : d = t
  · subst ht
    rw [show Nat.beq d d = true from Nat.beq_refl d]
    exact hv
  · have : Nat.beq d t = false := by
      cases hb : Nat.beq d t
      · rfl
      · exact absurd (Nat.eq_of_beq_eq_true hb) ht
    rw [this]
    exact h t

theorem R.known {w0 : W0} {L0 : NM} {n0 n : Nat} {fr : Fr} {H : Hp} {a : Act} {w : World} (hR : R w0 L0 n0 n fr H a w) {d : Nat} {v : FV} (hv : ∀ w L x, repF w L (get fr d) x → repF w L v x) : R w0 L0 n0 n ((d, v) :: fr) H a w := by
  obtain ⟨⟨L, h1, h2, h3⟩, hb, h4, h5⟩ := hR
  exact ⟨⟨L, h1, h2.known (hv w L _ (h2 d)), h3⟩, hb, h4, h5⟩

theorem getD_bool {a : Array Value} {d : Nat} {b : Bool} (h : a.getD d undef = .bool b) : a[d]? = some (.bool b) := by
  rw [Array.getD_eq_getD_getElem?] at h
  cases hd : a[d]? with
  | none => rw [hd] at h; simp [undef] at h
  | some x => rw [hd] at h; simp at h; rw [h]

theorem yielded_of {ops : Array Oper} {all : List Oper} (ho : ops.toList = all) {j d : Nat} {oj : Oper} (h1 : all[j]? = some oj) (h2 : oj.dst = some d) {a : Act} {b : Bool} (h3 : a.tmps.getD d undef = .bool b) : yielded ops a.tmps j = some b := by
  have : ops[j]? = some oj := by rw [← h1, ← ho]; simp
  simp [yielded, this, h2, getD_bool h3]

/-- What a value tells a guard. -/
def boolOf (v : Value) : Option Bool := match v with | .bool b => some b | _ => none

theorem yielded_eq {ops : Array Oper} {all : List Oper} (ho : ops.toList = all) {j d : Nat} {oj : Oper} (h1 : all[j]? = some oj) (h2 : oj.dst = some d) (a : Act) : yielded ops a.tmps j = boolOf (a.tmps.getD d undef) := by
  have : ops[j]? = some oj := by rw [← h1, ← ho]; simp
  rw [Array.getD_eq_getD_getElem?]
  simp only [yielded, this, Option.bind_some, h2]
  cases hd : a.tmps[d]? with
  | none => rfl
  | some x => cases x <;> rfl

theorem guardK_sound {ops : Array Oper} {all : List Oper} (ho : ops.toList = all) {o : Oper} {fr : Fr} {K : Bool → Fr → Prop} (h : guardK all o.guard fr K) {w0 : W0} {L0 : NM} {n0 n : Nat} {H : Hp} {a : Act} {w : World} (hR : R w0 L0 n0 n fr H a w) :
    ∃ b fr', K b fr' ∧ R w0 L0 n0 n fr' H a w ∧ Region.wanted o (yielded ops a.tmps) = b := by
  unfold guardK at h
  split at h
  · rename_i hg
    exact ⟨true, fr, h, hR, by simp [Region.wanted, hg]⟩
  · rename_i j want hg
    split at h
    · rename_i oj hj
      rw [nthO_eq] at hj
      split at h
      · rename_i d hd
        obtain ⟨⟨L, h1, h2, h3⟩, _⟩ := id hR
        have fin : ∀ (b : Bool) (fr' : Fr), a.tmps.getD d undef = .bool b → wantK want b fr' K → R w0 L0 n0 n fr' H a w → ∃ b fr', K b fr' ∧ R w0 L0 n0 n fr' H a w ∧ Region.wanted o (yielded ops a.tmps) = b := by
          intro b fr' hb hk hr
          rw [wantK_eq] at hk
          refine ⟨_, fr', hk, hr, ?_⟩
          simp only [Region.wanted, hg, yielded_of ho hj hd hb]
          cases b <;> cases want <;> rfl
        split at h
        · rename_i hv
          have := h2 d
          rw [hv] at this
          exact fin true fr this h hR
        · rename_i hv
          have := h2 d
          rw [hv] at this
          exact fin false fr this h hR
        · rename_i b hv
          have hb := h2 d
          rw [hv] at hb
          have h' := h.out
          cases b with
          | true => exact fin true _ hb h' (hR.known (fun w L x hx => by rw [hv] at hx; exact hx))
          | false => exact fin false _ hb h' (hR.known (fun w L x hx => by rw [hv] at hx; exact hx))
        · rename_i v hv
          split at h
          · rename_i c
            have hb := h2 d
            rw [hv] at hb
            refine ⟨false, fr, h, hR, ?_⟩
            have hb' : a.tmps.getD d undef = .tuple c := hb
            simp only [Region.wanted, hg, yielded_eq ho hj hd a, hb', boolOf]
            rfl
          · exact h.elim
        · exact h.elim
      · exact h.elim
    · exact h.elim

/-! ### Regions in the order of the text -/
def stepK (P : Program) (Γ : Tab) (n : Nat) (all : List Oper) (o : Oper) (next : Fr → Hp → (Fr → Hp → Prop) → Prop) (fr : Fr) (H : Hp) (K : Fr → Hp → Prop) : Prop :=
  guardK all o.guard fr fun want fr => match want with
    | true => opW P Γ o.op (opv fr) H fun v H' => putK n o.dst v fr fun fr' => next fr' H' K
    | false => putK n o.dst (.s (.lf (.val (.tuple #[])))) fr fun fr' => next fr' H K

/-- The step stands under a name of its own: two ends of one region are then compared at once, not once for each way that leads to them. -/
def opsK (P : Program) (Γ : Tab) (n : Nat) (all : List Oper) : List Oper → Fr → Hp → (Fr → Hp → Prop) → Prop
  | [], fr, H, K => K fr H
  | o :: l, fr, H, K => stepK P Γ n all o (opsK P Γ n all l) fr H K

theorem R.skip {w0 : W0} {L0 : NM} {n0 n : Nat} {fr : Fr} {H : Hp} {a : Act} {w : World} (hR : R w0 L0 n0 n fr H a w) {d : Option Tmp} {K : Fr → Prop} (hp : putK n d (.s (.lf (.val (.tuple #[])))) fr K) :
    ∃ fr', K fr' ∧ R w0 L0 n0 n fr' H (a.put d undef) w := by
  obtain ⟨⟨L, h1, h2, h3⟩, hb, h4, h5⟩ := hR
  unfold putK at hp
  split at hp
  · exact ⟨fr, hp, ⟨⟨L, h1, h2, h3⟩, hb, h4, h5⟩⟩
  · rename_i d
    split at hp
    · rename_i hlt
      have hlt := blt_true hlt
      exact ⟨_, hp, ⟨⟨L, h1, h2.put (by omega) rfl, h3⟩, hb, by rw [put_size]; exact h4, by rw [put_defers]; exact h5⟩⟩
    · exact hp.elim

theorem opsK_sound (hΓ : TOK P Γ) {ops : Array Oper} {w0 : W0} {L0 : NM} {n0 n : Nat} {Q : Exit → Act → World → Prop} {K : Fr → Hp → Prop} (hQ : ∀ fr H a w, K fr H → R w0 L0 n0 n fr H a w → Q .normal a w) :
    ∀ (l : List Oper) (k : Nat) (fr : Fr) (H : Hp) (a : Act) (w : World), (∀ i, l[i]? = ops.toList[k + i]?) → opsK P Γ n ops.toList l fr H K → R w0 L0 n0 n fr H a w → wpOps P ops Q (List.range' k l.length) a w := by
  intro l
  induction l with
  | nil => intro k fr H a w _ h hR; exact hQ fr H a w h hR
  | cons o l ih =>
    intro k fr H a w hl h hR
    have hk : ops[k]? = some o := by have := hl 0; simpa using this.symm
    have hl' : ∀ i, l[i]? = ops.toList[k + 1 + i]? := fun i => by have := hl (i + 1); rw [show k + 1 + i = k + (i + 1) by omega, ← this]; rfl
    simp only [opsK, stepK] at h
    obtain ⟨b, fr', hK, hR', hw⟩ := guardK_sound rfl h hR
    rw [List.length_cons, List.range'_succ]
    simp only [wpOps, hk, hw]
    cases b with
    | true =>
      simp only [if_true]
      left
      obtain ⟨r, H', h1, h2⟩ := opW_sound hΓ hK
      exact hR'.step h1 h2 fun fr'' a' w' hk' hr' => ih (k + 1) fr'' H' a' w' hl' hk' hr'
    | false =>
      simp only [Bool.false_eq_true, if_false]
      obtain ⟨fr'', h1, h2⟩ := hR'.skip hK
      exact ih (k + 1) fr'' H _ w hl' h1 h2

/-! ### Weakening -/
structure Weak (n0 : Nat) (fr : Fr) (H : Hp) (fr' : Fr) (H' : Hp) : Prop where intro' ::
  out : ∀ (w0 : W0) (L0 : NM) (n : Nat) (a : Act) (w : World), R w0 L0 n0 n fr H a w → R w0 L0 n0 n fr' H' a w

/-! ### Code -/
inductive AX where
  | normal
  | exit (id : Nat)
  | goto (l : Nat)
  | ret

def AX.real : AX → Exit
  | .normal => .normal
  | .exit id => .exit id
  | .goto l => .goto l
  | .ret => .ret

structure LoopK (n0 : Nat) (body : Fr → Hp → (Fr → Hp → Prop) → Prop) (fr : Fr) (H : Hp) : Prop where
  out : ∃ (α : Type) (inv : α → Fr × Hp) (p : α → Prop) (m : α → Nat), (∃ x, p x ∧ Weak n0 fr H (inv x).1 (inv x).2) ∧
    ∀ x, p x → body (inv x).1 (inv x).2 fun fr' H' => ∃ y, p y ∧ m y < m x ∧ Weak n0 fr' H' (inv y).1 (inv y).2

/-- A region that draws its order: which operations may change the heap, the user says. -/
structure DrawK (P : Program) (Γ : Tab) (n0 n : Nat) (ops : Array Oper) (fr : Fr) (H : Hp) (K : Fr → Hp → Prop) : Prop where
  out : ∀ (w0 : W0) (L0 : NM) (a : Act) (w : World) (Q : Exit → Act → World → Prop), R w0 L0 n0 n fr H a w → (∀ fr H a w, K fr H → R w0 L0 n0 n fr H a w → Q .normal a w) →
    ∀ (id : Nat), (Code.region id ops true).wp P Q a w

def condK (c : Operand) (fr : Fr) (K : Bool → Fr → Prop) : Prop :=
  match opv fr c with
  | .s (.lf .tt) => K true fr
  | .s (.lf .ff) => K false fr
  | .s (.lf (.bool b)) => CaseB b fun b => (match c with
    | .tmp d => (match b with | true => K true ((d, .s (.lf .tt)) :: fr) | false => K false ((d, .s (.lf .ff)) :: fr))
    | _ => K b fr)
  | _ => False

theorem condK_sound {c : Operand} {fr : Fr} {K : Bool → Fr → Prop} (h : condK c fr K) {w0 : W0} {L0 : NM} {n0 n : Nat} {H : Hp} {a : Act} {w : World} (hR : R w0 L0 n0 n fr H a w) :
    ∃ b fr', K b fr' ∧ R w0 L0 n0 n fr' H a w ∧ a.eval c = .bool b := by
  obtain ⟨⟨L, h1, h2, h3⟩, _⟩ := id hR
  have hc := h2.opv c
  unfold condK at h
  split at h
  · rename_i hv; rw [hv] at hc; exact ⟨true, fr, h, hR, hc⟩
  · rename_i hv; rw [hv] at hc; exact ⟨false, fr, h, hR, hc⟩
  · rename_i b hv
    rw [hv] at hc
    have h' := h.out
    split at h'
    · rename_i d
      cases b with
      | true => exact ⟨true, _, h', hR.known (fun w L x hx => by rw [show get fr d = _ from hv] at hx; exact hx), hc⟩
      | false => exact ⟨false, _, h', hR.known (fun w L x hx => by rw [show get fr d = _ from hv] at hx; exact hx), hc⟩
    · exact ⟨b, fr, h', hR, hc⟩
  · exact h.elim

/-! The ends of code, each under a name of its own (as with 'stepK'). -/
def seqQ (next : Fr → Hp → (AX → Fr → Hp → Prop) → Prop) (Q : AX → Fr → Hp → Prop) (e : AX) (fr : Fr) (H : Hp) : Prop :=
  match e with
  | .normal => next fr H Q
  | .exit i => Q (.exit i) fr H
  | .goto l => Q (.goto l) fr H
  | .ret => Q .ret fr H

def condQ (x y : Fr → Hp → (AX → Fr → Hp → Prop) → Prop) (H : Hp) (Q : AX → Fr → Hp → Prop) (b : Bool) (fr : Fr) : Prop :=
  match b with
  | true => x fr H Q
  | false => y fr H Q

def blockQ (id : Nat) (Q : AX → Fr → Hp → Prop) (e : AX) (fr : Fr) (H : Hp) : Prop :=
  match e with
  | .exit i => (match Nat.beq i id with | true => Q .normal fr H | false => Q (.exit i) fr H)
  | .normal => Q .normal fr H
  | .goto l => Q (.goto l) fr H
  | .ret => Q .ret fr H

def loopQ (K : Fr → Hp → Prop) (Q : AX → Fr → Hp → Prop) (e : AX) (fr : Fr) (H : Hp) : Prop :=
  match e with
  | .normal => K fr H
  | .exit i => Q (.exit i) fr H
  | .goto l => Q (.goto l) fr H
  | .ret => Q .ret fr H

def loopB (x : Fr → Hp → (AX → Fr → Hp → Prop) → Prop) (Q : AX → Fr → Hp → Prop) (fr : Fr) (H : Hp) (K : Fr → Hp → Prop) : Prop := x fr H (loopQ K Q)

def vc (P : Program) (Γ : Tab) (n0 n : Nat) : Code → Fr → Hp → (AX → Fr → Hp → Prop) → Prop
  | .skip, fr, H, Q => Q .normal fr H
  | .region _ ops draw, fr, H, Q => (match draw with
    | false => opsK P Γ n ops.toList ops.toList fr H (Q .normal)
    | true => DrawK P Γ n0 n ops fr H (Q .normal))
  | .seq a b, fr, H, Q => vc P Γ n0 n a fr H (seqQ (vc P Γ n0 n b) Q)
  | .cond c x y, fr, H, Q => condK c fr (condQ (vc P Γ n0 n x) (vc P Γ n0 n y) H Q)
  | .block id a, fr, H, Q => vc P Γ n0 n a fr H (blockQ id Q)
  | .loop a, fr, H, Q => LoopK n0 (loopB (vc P Γ n0 n a) Q) fr H
  | .exit id, fr, H, Q => Q (.exit id) fr H
  | .label _, fr, H, Q => Q .normal fr H
  | .ret, fr, H, Q => Q .ret fr H
  | _, _, _, _ => False

/-- What a run of code may come to. -/
def Post (w0 : W0) (L0 : NM) (n0 n : Nat) (Q : AX → Fr → Hp → Prop) : Exit → Act → World → Prop := fun e a w => ∃ x fr H, e = x.real ∧ Q x fr H ∧ R w0 L0 n0 n fr H a w

/-- A loop whose measure hangs on a ghost. -/
theorem loop_ghost {α : Type} {c : Code} {Q : Exit → Act → World → Prop} (I : Act → World → α → Prop) (m : α → Nat)
    (round : ∀ a w y, I a w y → c.wp P (Exit.then (fun a' w' => ∃ z, m z < m y ∧ I a' w' z) Q) a w) (a : Act) (w : World) (y : α) (h : I a w y) : (Code.loop c).wp P Q a w := by
  intro b k cs
  have key : ∀ (n : Nat) (y : α) (a : Act) (w : World), m y = n → I a w y → ∃ e a' w', Q e a' w' ∧ Arrives P (lone (b.at a (.code c :: .inLoop c :: k)) cs w) b k cs e a' w' := by
    intro n
    induction n using Nat.strongRecOn with
    | _ n ih =>
      intro y a w hn hI
      obtain ⟨e, a1, w1, hq, harr⟩ := round a w y hI b (.inLoop c :: k) cs
      have pass : ∀ (e : Exit), e ≠ .normal → Q e a1 w1 → Arrives P (lone (b.at a (.code c :: .inLoop c :: k)) cs w) b (.inLoop c :: k) cs e a1 w1 →
          ∃ e a' w', Q e a' w' ∧ Arrives P (lone (b.at a (.code c :: .inLoop c :: k)) cs w) b k cs e a' w' :=
        fun e hne hq harr => ⟨e, a1, w1, hq, .pass (x := .inLoop c) rfl (fun _ _ => .inl hne) harr⟩
      cases e with
      | normal =>
        obtain ⟨z, hlt, hz⟩ := hq
        obtain ⟨e2, a2, w2, hq2, harr2⟩ := ih (m z) (hn ▸ hlt) z a1 w1 rfl hz
        exact ⟨e2, a2, w2, hq2, .of_steps (Steps.trans harr (.one step_inLoop)) harr2⟩
      | exit id => exact pass _ (by simp) hq harr
      | goto l => exact pass _ (by simp) hq harr
      | ret => exact pass _ (by simp) hq harr
      | panic ch => exact pass _ (by simp) hq harr
      | outgrown => exact pass _ (by simp) hq harr
  obtain ⟨e, a', w', hq, harr⟩ := key _ y a w rfl h
  exact ⟨e, a', w', hq, .of_steps (.one step_loop) harr⟩

theorem vc_sound (hΓ : TOK P Γ) {w0 : W0} {L0 : NM} {n0 n : Nat} : ∀ (c : Code) (fr : Fr) (H : Hp) (Q : AX → Fr → Hp → Prop) (a : Act) (w : World), vc P Γ n0 n c fr H Q → R w0 L0 n0 n fr H a w →
    c.wp P (Post w0 L0 n0 n Q) a w := by
  intro c
  induction c with
  | skip => intro fr H Q a w h hR; exact wp_skip ⟨.normal, fr, H, rfl, h, hR⟩
  | region id ops draw =>
    intro fr H Q a w h hR
    cases draw with
    | false =>
      refine wp_region ?_
      rw [List.range_eq_range']
      have := opsK_sound hΓ (ops := ops) (Q := Post w0 L0 n0 n Q) (K := Q .normal) (fun fr H a w hk hr => ⟨.normal, fr, H, rfl, hk, hr⟩) ops.toList 0 fr H a w (fun i => by simp) h hR
      simpa using this
    | true => exact h.out w0 L0 a w _ hR (fun fr H a w hk hr => ⟨.normal, fr, H, rfl, hk, hr⟩) id
  | seq x y ihx ihy =>
    intro fr H Q a w h hR
    refine wp_seq (wp_mono (ihx fr H _ a w h hR) ?_)
    rintro e a' w' ⟨x', fr', H', rfl, hq, hr⟩
    cases x' with
    | normal => exact ihy fr' H' Q a' w' hq hr
    | exit i => exact ⟨.exit i, fr', H', rfl, hq, hr⟩
    | goto l => exact ⟨.goto l, fr', H', rfl, hq, hr⟩
    | ret => exact ⟨.ret, fr', H', rfl, hq, hr⟩
  | cond c x y ihx ihy =>
    intro fr H Q a w h hR
    obtain ⟨b, fr', hk, hr, hc⟩ := condK_sound h hR
    refine wp_cond hc ?_
    cases b with
    | true => exact ihx fr' H Q a w hk hr
    | false => exact ihy fr' H Q a w hk hr
  | block id x ih =>
    intro fr H Q a w h hR
    refine wp_block (wp_mono (ih fr H _ a w h hR) ?_)
    rintro e a' w' ⟨x', fr', H', rfl, hq, hr⟩
    cases x' with
    | normal => exact ⟨.normal, fr', H', rfl, hq, hr⟩
    | exit i =>
      simp only [AX.real, Exit.inBlock]
      simp only [blockQ] at hq
      split at hq
      · rename_i hb
        rw [if_pos (beq_true hb)]
        exact ⟨.normal, fr', H', rfl, hq, hr⟩
      · rename_i hb
        rw [if_neg (fun e => by rw [e, Nat.beq_refl] at hb; exact Bool.noConfusion hb)]
        exact ⟨.exit i, fr', H', rfl, hq, hr⟩
    | goto l => exact ⟨.goto l, fr', H', rfl, hq, hr⟩
    | ret => exact ⟨.ret, fr', H', rfl, hq, hr⟩
  | loop x ih =>
    intro fr H Q a w h hR
    obtain ⟨α, inv, p, m, ⟨x0, hp0, hw0⟩, hround⟩ := h.out
    exact loop_ghost (fun a w y => p y ∧ R w0 L0 n0 n (inv y).1 (inv y).2 a w) m (fun a w y hy => by
      refine wp_mono (ih (inv y).1 (inv y).2 _ a w (hround y hy.1) hy.2) ?_
      rintro e a' w' ⟨x', fr', H', rfl, hq, hr⟩
      cases x' with
      | normal =>
        obtain ⟨z, h1, h2, h3⟩ := hq
        exact ⟨z, h2, h1, h3.out w0 L0 n a' w' hr⟩
      | exit i => exact ⟨.exit i, fr', H', rfl, hq, hr⟩
      | goto l => exact ⟨.goto l, fr', H', rfl, hq, hr⟩
      | ret => exact ⟨.ret, fr', H', rfl, hq, hr⟩) a w x0 ⟨hp0, hw0.out w0 L0 n a w hR⟩
  | rangeFunc _ _ _ _ _ _ => intro fr H Q a w h hR; exact h.elim
  | exit id => intro fr H Q a w h hR; exact wp_exit ⟨.exit id, fr, H, rfl, h, hR⟩
  | scope _ _ => intro fr H Q a w h hR; exact h.elim
  | label l => intro fr H Q a w h hR; exact wp_label ⟨.normal, fr, H, rfl, h, hR⟩
  | goto l => intro fr H Q a w h hR; exact h.elim
  | ret => intro fr H Q a w h hR; exact wp_ret ⟨.ret, fr, H, rfl, h, hR⟩
  | refuse _ => intro fr H Q a w h hR; exact h.elim

end Go.Sym

set_option linter.unusedVariables false
set_option linter.unusedSimpArgs false
namespace Go.Sym
open Go

variable {P : Program} {Γ : Tab}

/-! ### Forgetting and renaming names -/
/-- Ways to look at one world under two sets of names. -/
abbrev Rel := World → NM → NM → Prop

/-- What nobody changes any more stays so. -/
class ROk (D : Rel) : Prop where
  ro : ∀ {w : World} {L L' : NM} {b : Nat}, D w L L' → RO w L b → RO w L' b

structure NMok (H' : Hp) (μ : Nat → Nat) (hid : Nat → Prop) (L L' : NM) : Prop where
  dead : ∀ i, H'[i]? = some none → L' i = some none
  live : ∀ i ob, H'[i]? = some (some ob) → L' i = L (μ i)
  none : ∀ i, H'[i]? = none → L' i = none
  X : ∀ b, L'.X b → L.X b ∨ ∃ nm, hid nm ∧ L nm = some (some b)

theorem NMok.has {H' : Hp} {μ : Nat → Nat} {hid : Nat → Prop} {L L' : NM} (h : NMok H' μ hid L L') {b : Nat} (hb : L'.has b) : ∃ i ob, H'[i]? = some (some ob) ∧ L (μ i) = some (some b) := by
  obtain ⟨i, hi⟩ := hb
  cases hH : H'[i]? with
  | none => rw [h.none i hH] at hi; simp at hi
  | some o =>
    cases o with
    | none => rw [h.dead i hH] at hi; simp at hi
    | some ob => rw [h.live i ob hH] at hi; exact ⟨i, ob, hH, hi⟩

theorem NMok.ro {H' : Hp} {μ : Nat → Nat} {hid : Nat → Prop} {L L' : NM} (h : NMok H' μ hid L L') {w : World} {b : Nat} (hr : RO w L b) : RO w L' b :=
  ⟨hr.1, fun hh => let ⟨i, _, _, h2⟩ := h.has hh; hr.2 ⟨μ i, h2⟩, fun hx => (h.X b hx).elim hr.3 fun ⟨nm, _, h2⟩ => hr.2 ⟨nm, h2⟩⟩

/-- From a heap to one with fewer names. -/
structure Down (H H' : Hp) (μ : Nat → Nat) (hid : Nat → Prop) (w : World) (L L' : NM) : Prop where
  rep : HRep w L H
  ok : NMok H' μ hid L L'

instance {H H' : Hp} {μ : Nat → Nat} {hid : Nat → Prop} : ROk (Down H H' μ hid) := ⟨fun h hr => h.ok.ro hr⟩

/-- From a call's names back to its caller's. -/
structure Up (ρ : Nat → Option Nat) (nb : Prop) (w : World) (L L' : NM) : Prop where
  nm : ∀ n i, ρ n = some i → L' n = L i
  ro : nb → ∀ b, RO w L b → RO w L' b

instance {ρ : Nat → Option Nat} : ROk (Up ρ True) := ⟨fun h hr => h.ro trivial _ hr⟩

/-- What a value is worth, with names forgotten or renamed. -/
def WL (D : Rel) (u v : LV) : Prop := ∀ (w : World) (L L' : NM) (x : Value), D w L L' → rep w L u x → rep w L' v x
def WV (D : Rel) (u v : FV) : Prop := ∀ (w : World) (L L' : NM) (x : Value), D w L L' → repF w L u x → repF w L' v x
/-- The same for rows of cells. -/
def WS (D : Rel) (l m : List Seg) : Prop := tot l = tot m ∧ ∀ (w : World) (L L' : NM) (c : Array Value), D w L L' → repA w L l c → repA w L' m c

section
variable {D : Rel}

theorem WV.lf {u v : LV} (h : WL D u v) : WV D (.s (.lf u)) (.s (.lf v)) := h
theorem WV.any (u : FV) : WV D u (.s (.lf .any)) := fun _ _ _ _ _ _ => trivial
theorem WL.any (u : LV) : WL D u .any := fun _ _ _ _ _ _ => trivial
theorem WL.unk {u : LV} (h : leafy u = true) : WL D u .unk := fun _ _ _ _ _ hx => leafy_oneCell h hx
theorem WL.int {k : IntKind} {a b : Int} (h : a = b) : WL D (.int k a) (.int k b) := fun _ _ _ _ _ hx => h ▸ hx
theorem WL.bool {a b : Bool} (h : a = b) : WL D (.bool a) (.bool b) := fun _ _ _ _ _ hx => h ▸ hx
theorem WL.tt {b : Bool} (h : b = true) : WL D .tt (.bool b) := fun _ _ _ _ _ hx => h ▸ hx
theorem WL.ff {b : Bool} (h : b = false) : WL D .ff (.bool b) := fun _ _ _ _ _ hx => h ▸ hx
theorem WL.tt' : WL D .tt .tt := fun _ _ _ _ _ hx => hx
theorem WL.ff' : WL D .ff .ff := fun _ _ _ _ _ hx => hx
theorem WL.btt {b : Bool} (h : b = true) : WL D (.bool b) .tt := fun _ _ _ _ _ hx => by subst h; exact hx
theorem WL.bff {b : Bool} (h : b = false) : WL D (.bool b) .ff := fun _ _ _ _ _ hx => by subst h; exact hx
theorem WL.str {s t : List UInt8} (h : s = t) : WL D (.str s) (.str t) := fun _ _ _ _ _ hx => h ▸ hx
theorem WL.nilp : WL D .nilp .nilp := fun _ _ _ _ _ hx => hx
theorem WL.sl0 : WL D .sl0 .sl0 := fun _ _ _ _ _ hx => hx
theorem WL.nilf : WL D .nilf .nilf := fun _ _ _ _ _ hx => hx
theorem WL.nili : WL D .nili .nili := fun _ _ _ _ _ hx => hx
theorem WL.val {v : Value} : WL D (.val v) (.val v) := fun _ _ _ _ _ hx => hx
theorem WL.ifc {t : TypeId} {u v : LV} (h : WL D u v) : WL D (.ifc t u) (.ifc t v) := fun w L L' x h1 ⟨y, e, hy⟩ => ⟨y, e, h w L L' y h1 hy⟩
theorem WL.sl0rob : WL D .sl0 (.rob false true []) := fun _ _ _ _ _ hx => .inl ⟨rfl, rfl, hx⟩
theorem WL.sl0rob' : WL D .sl0 (.rob false false []) := fun _ _ _ _ _ hx => .inl ⟨rfl, rfl, hx⟩
theorem WL.sl0ro {cl : Bool} {st : Nat} {f : Nat → Nat → LV} : WL D .sl0 (.ro false cl st 0 f) := fun _ _ _ _ _ hx => .inl ⟨rfl, rfl, hx⟩

theorem roRep_weak [ROk D] {w : World} {L L' : NM} (h : D w L L') {nn nn' cl cl' : Bool} {st len : Nat} {p p' : Nat → Nat → Value → Prop} {v : Value} (hnn : nn' = true → nn = true) (hcl : cl' = true → cl = true)
    (hp : ∀ i j c, i < len → j < st → p i j c → p' i j c) (hr : roRep w L nn cl st len p v) : roRep w L' nn' cl' st len p' v := by
  rcases hr with ⟨h1, h2, h3⟩ | ⟨a, cap, hv, h1, h2, h3, h4, h5⟩
  · refine .inl ⟨?_, h2, h3⟩
    cases nn'
    · rfl
    · have := hnn rfl; rw [this] at h1; exact h1
  · exact .inr ⟨a, cap, hv, h1, h2, fun hc => h3 (hcl hc), fun hl => ⟨(h4 hl).1, ROk.ro h (h4 hl).2⟩, fun i hi j hj => let ⟨c, a, b, d⟩ := h5 i hi j hj; ⟨c, a, b, hp i j c hi hj d⟩⟩

theorem WL.rob [ROk D] {nn nn' cl cl' : Bool} {xs ys : List UInt8} (h : xs = ys) (hnn : nn' = true → nn = true) (hcl : cl' = true → cl = true) : WL D (.rob nn cl xs) (.rob nn' cl' ys) := by
  subst h
  exact fun w L L' x h1 hx => roRep_weak h1 hnn hcl (fun _ _ _ _ _ hc => hc) hx

theorem WL.ro [ROk D] {nn nn' cl cl' : Bool} {st len len' : Nat} {f g : Nat → Nat → LV} (hl : len = len') (hnn : nn' = true → nn = true) (hcl : cl' = true → cl = true) (h : ∀ i, i < len → ∀ j, j < st → WL D (f i j) (g i j)) :
    WL D (.ro nn cl st len f) (.ro nn' cl' st len' g) := by
  subst hl
  exact fun w L L' x h1 hx => roRep_weak h1 hnn hcl (fun i j c hi hj hc => h i hi j hj w L L' c h1 hc) hx

theorem WL.rop [ROk D] {n n' : Nat} {f g : Nat → LV} (hl : n' ≤ n) (h : ∀ j, j < n' → WL D (f j) (g j)) : WL D (.rop n f) (.rop n' g) := by
  rintro w L L' x h1 ⟨a, e, hs, hr, hc⟩
  exact ⟨a, e, hs, ROk.ro h1 hr, fun j hj => let ⟨c, c1, c2, c3⟩ := hc j (by omega); ⟨c, c1, c2, h j hj w L L' c h1 c3⟩⟩

theorem WL.fn {f : FuncId} {n : Nat} {a b : Nat → LV} (h : ∀ i, i < n → WL D (a i) (b i)) : WL D (.fn f n a) (.fn f n b) := by
  rintro w L L' x h1 ⟨arr, e, hs, hc⟩
  exact ⟨arr, e, hs, fun i hi => let ⟨y, y1, y2⟩ := hc i hi; ⟨y, y1, h i hi w L L' y h1 y2⟩⟩

theorem WL.bfn {f : FuncId} {n : Nat} {a b : Nat → LV} (h : ∀ i, i < n → WL D (a i) (b i)) : WL D (.bfn f n a) (.bfn f n b) := by
  rintro w L L' x h1 ⟨arr, e, hs, hc⟩
  exact ⟨arr, e, hs, fun i hi => let ⟨y, y1, y2⟩ := hc i hi; ⟨y, y1, h i hi w L L' y h1 y2⟩⟩

theorem WL.aggl {n : Nat} {a b : Nat → LV} (h : ∀ i, i < n → WL D (a i) (b i)) : WL D (.aggl n a) (.aggl n b) := by
  rintro w L L' x h1 ⟨arr, e, hs, hc⟩
  exact ⟨arr, e, hs, fun i hi => let ⟨y, y1, y2, y3⟩ := hc i hi; ⟨y, y1, y2, h i hi w L L' y h1 y3⟩⟩

theorem rep_ptr_of {w : World} {L L' : NM} {i nm base : Nat} {x : Value} (h : L' i = some none ∨ L' i = L nm) (hx : rep w L (.ptr nm base) x) : rep w L' (.ptr i base) x := by
  have ho := leafy_oneCell (v := .ptr nm base) rfl hx
  simp only [rep] at hx ⊢
  rcases h with e | e
  · rw [e]; exact ho
  · rw [e]; exact hx

theorem rep_pti_of {w : World} {L L' : NM} {i nm base a st j : Nat} {x : Value} (h : L' i = some none ∨ L' i = L nm) (hx : rep w L (.pti nm base a st j) x) : rep w L' (.pti i base a st j) x := by
  have ho := leafy_oneCell (v := .pti nm base a st j) rfl hx
  simp only [rep] at hx ⊢
  rcases h with e | e
  · rw [e]; exact ho
  · rw [e]; exact hx

theorem rep_own_of {w : World} {L L' : NM} {i nm base st off len : Nat} {x : Value} (h : L' i = some none ∨ L' i = L nm) (hx : rep w L (.own nm base st off len) x) : rep w L' (.own i base st off len) x := by
  have ho := leafy_oneCell (v := .own nm base st off len) rfl hx
  simp only [rep] at hx ⊢
  rcases h with e | e
  · rw [e]; exact ho
  · rw [e]; exact hx

/-- A name that the new heap knows. -/
def known (H' : Hp) (i : Nat) : Prop := H'[i]?.isSome = true

variable {H H' : Hp} {μ : Nat → Nat} {hid : Nat → Prop}

theorem nm_cases {L L' : NM} (h : NMok H' μ hid L L') {i : Nat} (hk : known H' i) : L' i = some none ∨ L' i = L (μ i) := by
  unfold known at hk
  cases hH : H'[i]? with
  | none => rw [hH] at hk; simp at hk
  | some o =>
    cases o with
    | none => exact .inl (h.dead i hH)
    | some ob => exact .inr (h.live i ob hH)

theorem WL.ptr {i nm base : Nat} (hk : known H' i) (hm : μ i = nm) : WL (Down H H' μ hid) (.ptr nm base) (.ptr i base) := fun w L L' x h hx => rep_ptr_of (hm ▸ nm_cases h.ok hk) hx
theorem WL.pti {i nm base a st j a' j' : Nat} (hk : known H' i) (hm : μ i = nm) (ha : a = a') (hj : j = j') : WL (Down H H' μ hid) (.pti nm base a st j) (.pti i base a' st j') := by
  subst ha; subst hj; exact fun w L L' x h hx => rep_pti_of (hm ▸ nm_cases h.ok hk) hx
theorem WL.own {i nm base st off len off' len' : Nat} (hk : known H' i) (hm : μ i = nm) (ho : off = off') (hl : len = len') : WL (Down H H' μ hid) (.own nm base st off len) (.own i base st off' len') := by
  subst ho; subst hl; exact fun w L L' x h hx => rep_own_of (hm ▸ nm_cases h.ok hk) hx

theorem WL.uptr {ρ : Nat → Option Nat} {nb : Prop} {i nm base : Nat} (hm : ρ i = some nm) : WL (Up ρ nb) (.ptr nm base) (.ptr i base) := fun w L L' x h hx => rep_ptr_of (.inr (h.nm _ _ hm)) hx
theorem WL.upti {ρ : Nat → Option Nat} {nb : Prop} {i nm base a st j a' j' : Nat} (hm : ρ i = some nm) (ha : a = a') (hj : j = j') : WL (Up ρ nb) (.pti nm base a st j) (.pti i base a' st j') := by
  subst ha; subst hj; exact fun w L L' x h hx => rep_pti_of (.inr (h.nm _ _ hm)) hx
theorem WL.uown {ρ : Nat → Option Nat} {nb : Prop} {i nm base st off len off' len' : Nat} (hm : ρ i = some nm) (ho : off = off') (hl : len = len') : WL (Up ρ nb) (.own nm base st off len) (.own i base st off' len') := by
  subst ho; subst hl; exact fun w L L' x h hx => rep_own_of (.inr (h.nm _ _ hm)) hx

/-- A name that the new heap does not keep. -/
def gone (H' : Hp) (μ : Nat → Nat) (hid : Nat → Prop) (nm : Nat) : Prop := ¬ hid nm ∧ ∀ i ob, H'[i]? = some (some ob) → μ i ≠ nm

theorem gone_ro {w : World} {L L' : NM} (h : Down H H' μ hid w L L') {nm b : Nat} (hg : gone H' μ hid nm) (hL : L nm = some (some b)) : RO w L' b := by
  refine ⟨h.rep.block_lt hL, fun hh => ?_, fun hx => ?_⟩
  · obtain ⟨i, ob, h1, h2⟩ := h.ok.has hh
    exact hg.2 i ob h1 (h.rep.inj _ _ b h2 hL)
  · rcases h.ok.X b hx with h1 | ⟨k, h1, h2⟩
    · exact (h.rep.far b h1).2 ⟨nm, hL⟩
    · rw [h.rep.inj _ _ b h2 hL] at h1; exact hg.1 h1

/-- A row of the call's own handed on as bytes that nobody changes any more. -/
theorem WL.freezeB {nm base off len n : Nat} {xs ys : List UInt8} {ob : OB} (hob : hget H nm = some ob) {p q : List Seg} (hs : ob.segs = p ++ .bytes n xs :: q) (hp : tot p = base) (hn : off + len ≤ n) (hx : off + len ≤ xs.length)
    (hy : ys = (xs.drop off).take len) (hg : gone H' μ hid nm) : WL (Down H H' μ hid) (.own nm base 1 off len) (.rob true false ys) := by
  intro w L L' x hw hxv
  obtain ⟨b, c, fz, f1, f2, f3, f4, f5⟩ := hw.rep.live nm ob (hget_some hob)
  have hro := gone_ro hw hg f1
  simp only [rep, f1] at hxv
  obtain ⟨cap, o, rfl, g1, g2, g3⟩ := hxv
  have hlen : ys.length = len := by rw [hy]; simp; omega
  refine .inr ⟨_, cap, by rw [hlen], by omega, g2, fun h => by simp at h, fun _ => ⟨rfl, hro⟩, fun i hi j hj => ?_⟩
  rw [hlen] at hi
  have : j = 0 := by omega
  subst this
  obtain ⟨ho, _⟩ := g3 (by omega)
  subst ho
  have hlt : off + i < (Seg.bytes n xs).width := by simp only [Seg.width]; omega
  have := f5 (base + (off + i)) (by rw [hs, ← hp]; exact tot_mid hlt)
  rw [hs, ← hp, cellD_mid hlt] at this
  obtain ⟨y, k1, k2, k3⟩ := this
  refine ⟨y, ?_, k2, ?_⟩
  · simp only [cell_of_block f2]
    rw [← k1]; congr 1; omega
  · rw [k3.1, hy]
    congr 3
    simp only [List.getD_eq_getElem?_getD, List.getElem?_take, List.getElem?_drop, hi, if_true]

/-- The same for rows of elements without names. -/
theorem WL.freezeR {nm base st off len : Nat} {g : Nat → Nat → LV} {ob : OB} (hob : hget H nm = some ob) {p q : List Seg} {s : Seg} (hs : ob.segs = p ++ s :: q) (hp : tot p = base)
    (hrow : ∀ i, i < len → ∀ j, j < st → off * st + (i * st + j) < s.width ∧ WL (Down H H' μ hid) (s.at (off * st + (i * st + j))) (g i j)) (hg : gone H' μ hid nm) : WL (Down H H' μ hid) (.own nm base st off len) (.ro true false st len g) := by
  intro w L L' x hw hxv
  obtain ⟨b, c, fz, f1, f2, f3, f4, f5⟩ := hw.rep.live nm ob (hget_some hob)
  have hro := gone_ro hw hg f1
  simp only [rep, f1] at hxv
  obtain ⟨cap, o, rfl, g1, g2, g3⟩ := hxv
  refine .inr ⟨_, cap, rfl, by omega, g2, fun h => by simp at h, fun _ => ⟨rfl, hro⟩, fun i hi j hj => ?_⟩
  obtain ⟨ho, _⟩ := g3 (by omega)
  subst ho
  obtain ⟨hlt, hwl⟩ := hrow i hi j hj
  have := f5 (base + (off * st + (i * st + j))) (by rw [hs, ← hp]; exact tot_mid hlt)
  rw [hs, ← hp, cellD_mid hlt] at this
  obtain ⟨y, k1, k2, k3⟩ := this
  refine ⟨y, ?_, k2, hwl w L L' y hw k3⟩
  simp only [cell_of_block f2]
  rw [← k1]; congr 1; omega

/-! ### Rows -/
inductive WSeg (D : Rel) : Seg → Seg → Prop where
  | one {u v : LV} (h : WL D u v) : WSeg D (.one u) (.one v)
  | bytes {n n' : Nat} {xs ys : List UInt8} (hn : n = n') (h : ∀ i, i < n → xs.getD i 0 = ys.getD i 0) : WSeg D (.bytes n xs) (.bytes n' ys)
  | ints {k : IntKind} {n n' : Nat} {xs ys : List Int} (hn : n = n') (h : ∀ i, i < n → xs.getD i 0 = ys.getD i 0) : WSeg D (.ints k n xs) (.ints k n' ys)
  | recs {st n n' : Nat} {f g : Nat → Nat → LV} (hn : n = n') (h : ∀ i, i < n → ∀ j, j < st → WL D (f i j) (g i j)) : WSeg D (.recs st n f) (.recs st n' g)

theorem WSeg.width {s t : Seg} (h : WSeg D s t) : s.width = t.width := by
  cases h <;> simp_all [Seg.width]

theorem WSeg.at {s t : Seg} (h : WSeg D s t) {o : Nat} (ho : o < s.width) : WL D (s.at o) (t.at o) := by
  cases h with
  | one h => exact h
  | bytes hn h => subst hn; simp only [Seg.at]; rw [h o ho]; exact fun _ _ _ _ _ hx => hx
  | ints hn h => subst hn; simp only [Seg.at]; rw [h o ho]; exact fun _ _ _ _ _ hx => hx
  | recs hn h =>
    subst hn
    obtain ⟨h1, h2, _⟩ := divmod_lt ho
    exact h _ h1 _ h2

theorem WS.nil : WS D [] [] := ⟨rfl, fun _ _ _ _ _ hx o ho => by simp [tot] at ho⟩

theorem WS.cons {s t : Seg} {l m : List Seg} (h : WSeg D s t) (hl : tot l = tot m ∧ ∀ o, o < tot l → WL D (cellD l o) (cellD m o)) :
    tot (s :: l) = tot (t :: m) ∧ ∀ o, o < tot (s :: l) → WL D (cellD (s :: l) o) (cellD (t :: m) o) := by
  have hw := h.width
  refine ⟨by simp only [tot]; omega, fun o ho => ?_⟩
  simp only [cellD]
  by_cases hlt : o < s.width
  · have hlt' : o < t.width := by omega
    simp only [hlt, hlt', if_true]
    exact h.at hlt
  · have hlt' : ¬ o < t.width := by omega
    simp only [hlt, hlt', if_false]
    rw [← hw]
    exact hl.2 _ (by simp only [tot] at ho; omega)

def WSs (D : Rel) : List Seg → List Seg → Prop
  | [], [] => True
  | s :: l, t :: m => WSeg D s t ∧ WSs D l m
  | _, _ => False

theorem WSs.cells : ∀ {l m : List Seg}, WSs D l m → tot l = tot m ∧ ∀ o, o < tot l → WL D (cellD l o) (cellD m o)
  | [], [], _ => ⟨rfl, fun o ho => by simp [tot] at ho⟩
  | s :: l, t :: m, h => WS.cons h.1 h.2.cells

theorem WSs.ws {l m : List Seg} (h : WSs D l m) : WS D l m := by
  obtain ⟨h1, h2⟩ := h.cells
  refine ⟨h1, fun w L L' c hw hc o ho => ?_⟩
  obtain ⟨y, a, b, d⟩ := hc o (by omega)
  exact ⟨y, a, b, h2 o (by omega) w L L' y hw d⟩

theorem WV.agg {l m : List Seg} (h : WSs D l m) : WV D (.s (.agg l)) (.s (.agg m)) := by
  rintro w L L' x hw ⟨arr, e, hs, hr⟩
  exact ⟨arr, e, by rw [hs, h.ws.1], h.ws.2 w L L' arr hw hr⟩

def WVs (D : Rel) : List SV → List SV → Prop
  | [], [] => True
  | s :: l, t :: m => WV D (.s s) (.s t) ∧ WVs D l m
  | _, _ => False

theorem WVs.get : ∀ {l m : List SV}, WVs D l m → l.length = m.length ∧ ∀ (i : Nat) (s : SV), l[i]? = some s → ∃ t, m[i]? = some t ∧ WV D (.s s) (.s t)
  | [], [], _ => ⟨rfl, fun i s h => by simp at h⟩
  | s :: l, t :: m, h => by
    obtain ⟨h1, h2⟩ := WVs.get h.2
    refine ⟨by simp [h1], fun i u hu => ?_⟩
    cases i with
    | zero => simp at hu; subst hu; exact ⟨t, rfl, h.1⟩
    | succ i => simp at hu; simpa using h2 i u hu

theorem WV.tup {l m : List SV} (h : WVs D l m) : WV D (.tup l) (.tup m) := by
  rintro w L L' x hw ⟨arr, e, hs, hr⟩
  obtain ⟨h1, h2⟩ := h.get
  refine ⟨arr, e, by rw [hs, h1], fun i hi => ?_⟩
  obtain ⟨y, v, a, b, c⟩ := hr i (by omega)
  obtain ⟨t, t1, t2⟩ := h2 i v b
  exact ⟨y, t, a, t1, t2 w L L' y hw c⟩
end

/-! ### Whole states -/
/-- The new heap's blocks are the old one's, under their new names. -/
structure WHb (H H' : Hp) (μ : Nat → Nat) (hid : Nat → Prop) : Prop where
  blk : ∀ i ob', H'[i]? = some (some ob') → ∃ ob, H[μ i]? = some (some ob) ∧ ob.ty = ob'.ty ∧ WS (Down H H' μ hid) ob.segs ob'.segs
  inj : ∀ i j a b, H'[i]? = some (some a) → H'[j]? = some (some b) → μ i = μ j → i = j
  hid : ∀ i ob', H'[i]? = some (some ob') → ¬ hid (μ i)

structure WHp (n0 : Nat) (H H' : Hp) (μ : Nat → Nat) : Prop extends WHb H H' μ (fun _ => False) where
  base : ∀ i ob', H'[i]? = some (some ob') → i < n0 → μ i = i
  len : n0 ≤ H'.length

def newL (H' : Hp) (μ : Nat → Nat) (hid : Nat → Prop) (L : NM) : NM :=
  ⟨fun i => match H'[i]? with | none => none | some none => some none | some (some _) => L (μ i), fun b => L.X b ∨ ∃ nm, hid nm ∧ L nm = some (some b)⟩

theorem newL_ok (H' : Hp) (μ : Nat → Nat) (hid : Nat → Prop) (L : NM) : NMok H' μ hid L (newL H' μ hid L) :=
  ⟨fun i h => by simp [newL, h], fun i ob h => by simp [newL, h], fun i h => by simp [newL, h], fun b h => h⟩

theorem WHb.hrep {H H' : Hp} {μ : Nat → Nat} {hid : Nat → Prop} (h : WHb H H' μ hid) {w : World} {L : NM} (hw : HRep w L H) : HRep w (newL H' μ hid L) H' := by
  have hok := newL_ok H' μ hid L
  refine ⟨fun i hi => hok.none i hi, fun i hi => hok.dead i hi, fun i ob' hi => ?_, fun i j b h1 h2 => ?_, fun b hb => ?_⟩
  · obtain ⟨ob, h1, h2, h3⟩ := h.blk i ob' hi
    obtain ⟨b, c, fz, f1, f2, f3, f4, f5⟩ := hw.live _ ob h1
    exact ⟨b, c, fz, by rw [hok.live i ob' hi]; exact f1, by rw [← h2]; exact f2, f3, by rw [← h3.1]; exact f4, h3.2 w L _ c ⟨hw, hok⟩ f5⟩
  · cases hi : H'[i]? with
    | none => rw [hok.none i hi] at h1; simp at h1
    | some o =>
      cases o with
      | none => rw [hok.dead i hi] at h1; simp at h1
      | some a =>
        cases hj : H'[j]? with
        | none => rw [hok.none j hj] at h2; simp at h2
        | some o =>
          cases o with
          | none => rw [hok.dead j hj] at h2; simp at h2
          | some a' =>
            rw [hok.live i a hi] at h1
            rw [hok.live j a' hj] at h2
            exact h.inj i j a a' hi hj (hw.inj _ _ b h1 h2)
  · rcases hok.X b hb with h1 | ⟨nm, h1, h2⟩
    · refine ⟨(hw.far b h1).1, fun hh => ?_⟩
      obtain ⟨i, ob, _, h3⟩ := hok.has hh
      exact (hw.far b h1).2 ⟨_, h3⟩
    · refine ⟨hw.block_lt h2, fun hh => ?_⟩
      obtain ⟨i, ob, h3, h4⟩ := hok.has hh
      exact h.hid i ob h3 (by rw [hw.inj _ _ b h4 h2]; exact h1)

theorem WHp.ev {n0 : Nat} {H H' : Hp} {μ : Nat → Nat} (h : WHp n0 H H' μ) {w0 w : World} {L0 L : NM} (hb : ∀ nm, L0 nm ≠ none → nm < n0) (hev : Ev w0 L0 w L) : Ev w0 L0 w (newL H' μ (fun _ => False) L) where
  os := hev.os
  tape := hev.tape
  output := hev.output
  size := hev.size
  keep := hev.keep
  names := fun nm hnm => by
    have hlt := hb nm hnm
    cases hi : H'[nm]? with
    | none => have := List.getElem?_eq_none_iff.1 hi; have := h.len; omega
    | some o =>
      cases o with
      | none => exact .inl ((newL_ok H' μ _ L).dead nm hi)
      | some ob =>
        rw [(newL_ok H' μ _ L).live nm ob hi, h.base nm ob hi hlt]
        exact hev.names nm hnm
  fresh := fun b hb' => by
    obtain ⟨i, ob, h1, h2⟩ := (newL_ok H' μ _ L).has hb'
    exact hev.fresh b ⟨_, h2⟩
  shape := fun nm b h1 h2 c t fz hc => by
    have hlt := hb nm (by rw [h1]; simp)
    cases hi : H'[nm]? with
    | none => rw [(newL_ok H' μ _ L).none nm hi] at h2; simp at h2
    | some o =>
      cases o with
      | none => rw [(newL_ok H' μ _ L).dead nm hi] at h2; simp at h2
      | some ob =>
        rw [(newL_ok H' μ _ L).live nm ob hi, h.base nm ob hi hlt] at h2
        exact hev.shape nm b h1 h2 c t fz hc
  far := by
    rw [← hev.far]
    funext b
    simp [newL]

/-- The slots that are kept. -/
def WFr (D : Rel) (fr : Fr) : Fr → Prop
  | [] => True
  | (t, v) :: l => (fK (get fr t) fun u => WV D u v) ∧ WFr D fr l

theorem Weak.mk {n0 : Nat} {fr : Fr} {H : Hp} {fr' : Fr} {H' : Hp} (μ : Nat → Nat) (hH : WHp n0 H H' μ) (hF : WFr (Down H H' μ fun _ => False) fr fr') : Weak n0 fr H fr' H' := by
  constructor
  rintro w0 L0 n a w ⟨⟨L, h1, h2, h3⟩, hb, h4, h5⟩
  refine ⟨⟨newL H' μ _ L, hH.hrep h1, fun t => ?_, hH.ev hb h3⟩, hb, h4, h5⟩
  induction fr' with
  | nil => trivial
  | cons p l ih =>
    obtain ⟨t', v⟩ := p
    obtain ⟨g1, g2⟩ := hF
    rw [fK_eq] at g1
    simp only [get]
    split
    · rename_i hb'
      have := beq_true hb'
      subst this
      exact g1 w L _ _ ⟨h1, newL_ok H' μ _ L⟩ (h2 t')
    · exact ih g2

end Go.Sym

set_option linter.unusedVariables false
set_option linter.unusedSimpArgs false
namespace Go.Sym
open Go

variable {P : Program} {Γ : Tab}

/-! ### What a function hands back -/
def resK (Γ : Tab) (fr : Fr) (H : Hp) : List ResultVar → (List FV → Prop) → Prop
  | [], K => K []
  | .tmp t :: l, K => fK (get fr t) fun v => resK Γ fr H l fun r => K (v :: r)
  | .cell a t :: l, K => loadK Γ t (get fr a) H fun v => resK Γ fr H l fun r => K (v :: r)

def svs : List FV → Option (List SV)
  | [] => some []
  | .s v :: l => (match svs l with | some r => some (v :: r) | none => none)
  | .tup _ :: _ => none

theorem svs_get {l : List FV} {r : List SV} (h : svs l = some r) : l = r.map FV.s := by
  induction l generalizing r with
  | nil => simp [svs] at h; subst h; rfl
  | cons x l ih =>
    cases x with
    | s v =>
      simp only [svs] at h
      split at h
      · rename_i r' hr
        simp only [Option.some.injEq] at h
        subst h
        rw [ih hr]; rfl
      · simp at h
    | tup l => simp [svs] at h

/-- The value that is handed back. -/
def retK (Γ : Tab) (rs : List ResultVar) (fr : Fr) (H : Hp) (K : FV → Prop) : Prop :=
  resK Γ fr H rs fun l => match l with
    | [v] => K v
    | l => (match svs l with | some r => K (.tup r) | none => False)

theorem run_mapM_list {α β : Type} {f : α → Sem β} {P : Program} {w : World} : ∀ {l : List α} {r : List β}, l.length = r.length → (∀ (i : Nat) (x : α), l[i]? = some x → ∃ y, r[i]? = some y ∧ (f x).run P w = .ok y w) → (l.mapM f).run P w = .ok r w
  | [], [], _, _ => rfl
  | [], _ :: _, h, _ => by simp at h
  | _ :: _, [], h, _ => by simp at h
  | x :: l, y :: r, h, hf => by
    obtain ⟨y', h1, h2⟩ := hf 0 x rfl
    simp only [List.getElem?_cons_zero, Option.some.injEq] at h1
    subst h1
    have ih := run_mapM_list (f := f) (P := P) (w := w) (l := l) (r := r) (by simpa using h) (fun i z hz => by simpa using hf (i + 1) z (by simpa using hz))
    simp only [List.mapM_cons, Sem.run_bind, h2, Result.andThen_ok, ih, Sem.run_pure]

theorem asAddr_of_load {t : TypeId} {v rv : Value} {w : World} (h : (Instr.loadAt t v).run P w = .ok rv w) : (do loadVar t (← asAddr v) : Sem Value).run P w = .ok rv w := by
  cases v with
  | pointer a => cases a with
    | none => exact absurd h (by simp [Instr.loadAt, Instr.sureAddr])
    | some a => simpa [Instr.loadAt, Instr.sureAddr, asAddr] using h
  | _ => exact absurd h (by simp [Instr.loadAt, Instr.sureAddr])

theorem resK_sound (hΓ : TOK P Γ) {fr : Fr} {H : Hp} {rs : List ResultVar} {K : List FV → Prop} (h : resK Γ fr H rs K) :
    ∃ l, K l ∧ l.length = rs.length ∧ ∀ (w : World) (L : NM) (a : Act), HRep w L H → FRep w L fr a →
      ∀ (i : Nat) (x : ResultVar), rs[i]? = some x → ∃ v y, l[i]? = some v ∧ repF w L v y ∧
        (match x with | .tmp t => (pure (a.tmps.getD t undef) : Sem Value) | .cell a' t => do loadVar t (← asAddr (a.tmps.getD a' undef))).run P w = .ok y w := by
  induction rs generalizing K with
  | nil => exact ⟨[], h, rfl, fun w L a _ _ i x hx => by simp at hx⟩
  | cons x rs ih =>
    cases x with
    | tmp t =>
      simp only [resK, fK_eq] at h
      obtain ⟨l, h1, h2, h3⟩ := ih h
      refine ⟨_, h1, by simp [h2], fun w L a hw hf i x hx => ?_⟩
      cases i with
      | zero =>
        simp only [List.getElem?_cons_zero, Option.some.injEq] at hx
        subst hx
        exact ⟨_, _, rfl, hf t, rfl⟩
      | succ i => simpa using h3 w L a hw hf i x (by simpa using hx)
    | cell a' t =>
      simp only [resK] at h
      obtain ⟨r, hK, hr⟩ := loadK_sound hΓ h
      obtain ⟨l, h1, h2, h3⟩ := ih hK
      refine ⟨_, h1, by simp [h2], fun w L a hw hf i x hx => ?_⟩
      cases i with
      | zero =>
        simp only [List.getElem?_cons_zero, Option.some.injEq] at hx
        subst hx
        obtain ⟨rv, g1, g2⟩ := hr w L _ hw (hf a')
        exact ⟨r, rv, rfl, g2, asAddr_of_load g1⟩
      | succ i => simpa using h3 w L a hw hf i x (by simpa using hx)

theorem retK_sound (hΓ : TOK P Γ) {fr : Fr} {H : Hp} {fn : Func} {K : FV → Prop} (h : retK Γ fn.results.toList fr H K) :
    ∃ r, K r ∧ ∀ (w : World) (L : NM) (a : Act), HRep w L H → FRep w L fr a → ∃ v, (results fn a.tmps).run P w = .ok v w ∧ repF w L r v := by
  unfold retK at h
  obtain ⟨l, h1, h2, h3⟩ := resK_sound hΓ h
  have key : ∀ (w : World) (L : NM) (a : Act), HRep w L H → FRep w L fr a → ∃ vs : List Value, vs.length = l.length ∧ (∀ (i : Nat) (v : FV), l[i]? = some v → ∃ y, vs[i]? = some y ∧ repF w L v y) ∧
      (results fn a.tmps).run P w = .ok (if h : vs.toArray.size = 1 then vs.toArray[0] else .tuple vs.toArray) w := by
    intro w L a hw hf
    have h3 := h3 w L a hw hf
    let vs : List Value := (List.range l.length).map fun i => match fn.results[i]? with
      | some (ResultVar.tmp t) => a.tmps.getD t undef
      | some (ResultVar.cell a' t) => (match (do loadVar t (← asAddr (a.tmps.getD a' undef)) : Sem Value).run P w with | .ok y _ => y | _ => undef)
      | none => undef
    have hvs : ∀ (i : Nat) (x : ResultVar), fn.results.toList[i]? = some x → ∃ v y, l[i]? = some v ∧ vs[i]? = some y ∧ repF w L v y ∧
        (match x with | .tmp t => (pure (a.tmps.getD t undef) : Sem Value) | .cell a' t => do loadVar t (← asAddr (a.tmps.getD a' undef))).run P w = .ok y w := by
      intro i x hx
      obtain ⟨v, y, g1, g2, g3⟩ := h3 i x hx
      have hi : i < l.length := (List.getElem?_eq_some_iff.1 g1).1
      have hx' : fn.results[i]? = some x := by simpa using hx
      refine ⟨v, y, g1, ?_, g2, g3⟩
      simp only [vs, List.getElem?_map, List.getElem?_range hi, Option.map_some, hx']
      cases x with
      | tmp t => simp only [Sem.run_pure, Result.ok.injEq, and_true] at g3; simp only [Option.some.injEq]; exact g3
      | cell a' t => simp only [] at g3; simp only [g3]
    have hlen : vs.length = l.length := by simp [vs]
    refine ⟨vs, hlen, fun i v hv => ?_, ?_⟩
    · have hi : i < fn.results.toList.length := by rw [← h2]; exact (List.getElem?_eq_some_iff.1 hv).1
      obtain ⟨v', y, g1, g2, g3, _⟩ := hvs i _ (List.getElem?_eq_getElem hi)
      rw [hv] at g1
      simp only [Option.some.injEq] at g1
      subst g1
      exact ⟨y, g2, g3⟩
    · have hm := run_mapM_list (P := P) (w := w) (f := fun | ResultVar.tmp t => (pure (a.tmps.getD t undef) : Sem Value) | .cell a' t => do loadVar t (← asAddr (a.tmps.getD a' undef)))
        (l := fn.results.toList) (r := vs) (by rw [hlen, h2]) (fun i x hx => by
          obtain ⟨v, y, g1, g2, g3, g4⟩ := hvs i x hx
          refine ⟨y, g2, ?_⟩
          cases x with
          | tmp t => exact g4
          | cell a' t => exact g4)
      unfold results
      rw [Array.mapM_eq_mapM_toList]
      simp only [Sem.run_bind, Sem.run_map, Sem.run_pure]
      erw [hm]
      rfl
  split at h1
  · rename_i v
    refine ⟨v, h1, fun w L a hw hf => ?_⟩
    obtain ⟨vs, g1, g2, g3⟩ := key w L a hw hf
    obtain ⟨y, g4, g5⟩ := g2 0 v rfl
    match vs, g1 with
    | [z], _ =>
      simp only [List.getElem?_cons_zero, Option.some.injEq] at g4
      subst g4
      exact ⟨z, by rw [g3]; simp, g5⟩
  · rename_i hl
    split at h1
    · rename_i r hr
      refine ⟨_, h1, fun w L a hw hf => ?_⟩
      obtain ⟨vs, g1, g2, g3⟩ := key w L a hw hf
      have hmap := svs_get hr
      have hne : vs.toArray.size ≠ 1 := by
        intro e
        simp only [List.size_toArray] at e
        rw [g1] at e
        obtain ⟨v, hv⟩ := List.length_eq_one_iff.1 e
        exact hl v hv
      refine ⟨_, by rw [g3, dif_neg hne], ?_⟩
      refine ⟨vs.toArray, rfl, by simp [g1, hmap], fun i hi => ?_⟩
      have hv : r[i]? = some r[i] := List.getElem?_eq_getElem hi
      obtain ⟨y, k1, k2⟩ := g2 i (.s r[i]) (by rw [hmap]; simp [hv])
      exact ⟨y, r[i], by simpa using k1, hv, k2⟩
    · exact h1.elim

end Go.Sym

set_option linter.unusedVariables false
set_option linter.unusedSimpArgs false
namespace Go.Sym
open Go

variable {P : Program} {Γ : Tab}

/-! ### Functions -/
def argFr : List FV → Nat → Fr
  | [], _ => []
  | v :: l, i => (i, v) :: argFr l (i + 1)

theorem get_argFr : ∀ (l : List FV) (i t : Nat), get (argFr l i) t = (if i ≤ t then (l[t - i]?).getD (.s (.lf .any)) else .s (.lf .any))
  | [], i, t => by simp [argFr, get]
  | v :: l, i, t => by
    simp only [argFr, get]
    split
    · rename_i h
      have := beq_true h
      subst this
      simp
    · rename_i h
      have hne : i ≠ t := fun e => by rw [e, Nat.beq_refl] at h; exact Bool.noConfusion h
      rw [get_argFr l (i + 1) t]
      by_cases h1 : i ≤ t
      · rw [if_pos (by omega), if_pos h1, show t - i = (t - (i + 1)) + 1 by omega]; simp
      · rw [if_neg (by omega), if_neg h1]

/-- What is left when a call has returned: v over H is as good as r over H'. -/
structure RetK (n0 : Nat) (r : FV) (H' : Hp) (v : FV) (H : Hp) : Prop where
  out : ∃ μ, WHp n0 H H' μ ∧ WV (Down H H' μ fun _ => False) v r

def endK (Γ : Tab) (rs : List ResultVar) (K : FV → Hp → Prop) (e : AX) (fr : Fr) (H : Hp) : Prop :=
  match e with
  | .normal => retK Γ rs fr H fun v => K v H
  | .ret => retK Γ rs fr H fun v => K v H
  | _ => False

def vcFn (P : Program) (Γ : Tab) (n0 : Nat) (fn : Func) (args : List FV) (H : Hp) (K : FV → Hp → Prop) : Prop :=
  match fn.body, Nat.ble args.length fn.ntmps, fn.name == "runtime.NumGoroutine" with
  | some c, true, false => vc P Γ n0 fn.ntmps c (argFr args 0) H (endK Γ fn.results.toList K)
  | _, _, _ => False

theorem SCalls.intro (hΓ : TOK P Γ) {f : FuncId} {fn : Func} (hf : P.funcs[f]? = some fn) {args : List FV} {H : Hp} {r : FV} {H' : Hp} (h : vcFn P Γ H.length fn args H (RetK H.length r H')) : SCalls P f args H r H' := by
  unfold vcFn at h
  split at h
  · rename_i c hb hle hn
    refine ⟨⟨fn, hf, by rw [hb]; rfl, hn⟩, fun w L vals hw ha => ?_⟩
    refine calls_of_wp hf hb ?_
    have hsz : (vals ++ Array.replicate (fn.ntmps - vals.size) undef).size = fn.ntmps := by
      have := ble_true hle
      have := ha.1
      simp; omega
    have hR : R ⟨w, []⟩ L H.length fn.ntmps (argFr args 0) H { tmps := vals ++ Array.replicate (fn.ntmps - vals.size) undef, defers := [] } w := by
      refine ⟨⟨L, hw, fun t => ?_, Ev.refl w L⟩, fun nm hnm => ?_, hsz, rfl⟩
      · rw [get_argFr, if_pos (Nat.zero_le _), Nat.sub_zero]
        cases ht : args[t]? with
        | none => trivial
        | some v =>
          obtain ⟨x, h1, h2⟩ := ha.2 t v ht
          have hlt : t < vals.size := (Array.getElem?_eq_some_iff.1 h1).1
          simp only [Option.getD_some, Array.getD_eq_getD_getElem?]
          rw [Array.getElem?_append_left hlt, h1]
          exact h2
      · rcases Nat.lt_or_ge nm H.length with h' | h'
        · exact h'
        · exact absurd (hw.unused nm (List.getElem?_eq_none h')) hnm
    refine wp_mono (vc_sound hΓ c _ _ _ _ _ h hR) ?_
    rintro e a w' ⟨x, fr, H1, rfl, hq, ⟨L1, g1, g2, g3⟩, g4, g5, g6⟩
    have fin : ∀ (v : FV), RetK H.length r H' v H1 → ∀ (rv : Value), repF w' L1 v rv → ∃ v' L', Ending.returned rv = .returned v' ∧ HRep w' L' H' ∧ repF w' L' r v' ∧ Ev w L w' L' := by
      rintro v ⟨⟨μ, k1, k2⟩⟩ rv hv
      exact ⟨rv, _, rfl, k1.hrep g1, k2 w' L1 _ rv ⟨g1, newL_ok H' μ _ L1⟩ hv, k1.ev g4 g3⟩
    cases x with
    | normal =>
      obtain ⟨v, h1, h2⟩ := retK_sound hΓ hq
      obtain ⟨rv, h3, h4⟩ := h2 w' L1 a g1 g2
      exact ⟨g6, rv, h3, fin v h1 rv h4⟩
    | ret =>
      obtain ⟨v, h1, h2⟩ := retK_sound hΓ hq
      obtain ⟨rv, h3, h4⟩ := h2 w' L1 a g1 g2
      exact ⟨g6, rv, h3, fin v h1 rv h4⟩
    | exit i => exact hq.elim
    | goto l => exact hq.elim
  · exact h.elim

/-! ### Calls out of larger heaps -/
def WVs' (D : Rel) : List FV → List FV → Prop
  | [], [] => True
  | u :: l, v :: m => WV D u v ∧ WVs' D l m
  | _, _ => False

theorem WVs'.get {D : Rel} : ∀ {l m : List FV}, WVs' D l m → l.length = m.length ∧ ∀ (i : Nat) (v : FV), m[i]? = some v → ∃ u, l[i]? = some u ∧ WV D u v
  | [], [], _ => ⟨rfl, fun i v h => by simp at h⟩
  | u :: l, v :: m, h => by
    obtain ⟨h1, h2⟩ := WVs'.get h.2
    refine ⟨by simp [h1], fun i x hx => ?_⟩
    cases i with
    | zero => simp at hx; subst hx; exact ⟨u, rfl, h.1⟩
    | succ i => simp at hx; simpa using h2 i x hx

/-- How a caller's heap H turns into H' when a call turns its part Hs into Hs'. -/
structure UpH (H Hs Hs' H' : Hp) (μ : Nat → Nat) (ρ : Nat → Option Nat) (nb : Prop) : Prop where
  new : ∀ nm, H.length ≤ nm → ρ nm = some (nm - H.length + Hs.length)
  old : ∀ nm i, nm < H.length → ρ nm = some i → i < Hs.length ∧ (∃ ob, Hs[i]? = some (some ob)) ∧ μ i = nm
  live : ∀ i ob, Hs[i]? = some (some ob) → ρ (μ i) = some i
  keep : ∀ nm, nm < H.length → ρ nm = none → H'[nm]? = H[nm]?
  unk : ∀ nm i, ρ nm = some i → Hs'[i]? = none → H'[nm]? = none
  dead : ∀ nm i, ρ nm = some i → Hs'[i]? = some none → H'[nm]? = some none
  ob : ∀ nm i ob, ρ nm = some i → Hs'[i]? = some (some ob) → ∃ ob', H'[nm]? = some (some ob') ∧ ob'.ty = ob.ty ∧ WS (Up ρ nb) ob.segs ob'.segs

theorem SCalls.frame {f : FuncId} {args : List FV} {Hs : Hp} {r : FV} {Hs' : Hp} (h : SCalls P f args Hs r Hs') {H H' : Hp} {μ : Nat → Nat} {hid : Nat → Prop} {ρ : Nat → Option Nat} {nb : Prop} {cs : List FV} {rc : FV}
    (hb : WHb H Hs μ hid) (ha : WVs' (Down H Hs μ hid) cs args) (hu : UpH H Hs Hs' H' μ ρ nb) (hr : WV (Up ρ nb) r rc) (hnb : nb → ∀ nm, nm < H.length → ρ nm = none → hid nm) : SCalls P f cs H rc H' := by
  refine ⟨h.1, fun w L vals hw hv => ?_⟩
  have hs := hb.hrep hw
  have hok := newL_ok Hs μ hid L
  have hargs : RepArgs w (newL Hs μ hid L) args vals := by
    obtain ⟨g1, g2⟩ := ha.get
    refine ⟨by rw [hv.1, g1], fun i v hi => ?_⟩
    obtain ⟨u, k1, k2⟩ := g2 i v hi
    obtain ⟨x, k3, k4⟩ := hv.2 i u k1
    exact ⟨x, k3, k2 w L _ x ⟨hw, hok⟩ k4⟩
  refine (h.2 w _ vals hs hargs).mono ?_
  rintro e w' ⟨v, Ls, rfl, h1, h2, h3⟩
  have hmem : ∀ nm, L nm ≠ none → nm < H.length := fun nm hnm => by
    rcases Nat.lt_or_ge nm H.length with h' | h'
    · exact h'
    · exact absurd (hw.unused nm (List.getElem?_eq_none h')) hnm
  have hsmem : ∀ {b}, (newL Hs μ hid L).has b → ∃ i ob, Hs[i]? = some (some ob) ∧ L (μ i) = some (some b) := fun hh => hok.has hh
  let L' : NM := ⟨fun nm => match ρ nm with | some i => Ls i | none => L nm, L.X⟩
  have e1 : ∀ nm i, ρ nm = some i → L' nm = Ls i := fun nm i hi => by simp only [L', hi]
  have e2 : ∀ nm, ρ nm = none → L' nm = L nm := fun nm hi => by simp only [L', hi]
  -- which blocks have names
  have hhas : ∀ b, L'.has b → Ls.has b ∨ ∃ nm, nm < H.length ∧ ρ nm = none ∧ L nm = some (some b) := by
    rintro b ⟨nm, hnm⟩
    cases hi : ρ nm with
    | some i => rw [e1 nm i hi] at hnm; exact .inl ⟨i, hnm⟩
    | none => rw [e2 nm hi] at hnm; exact .inr ⟨nm, hmem nm (by rw [hnm]; simp), hi, hnm⟩
  have hsmall : ∀ b, (newL Hs μ hid L).has b → L.has b := fun b hb => let ⟨i, _, _, h⟩ := hsmem hb; ⟨_, h⟩
  have hframed : ∀ nm b, ρ nm = none → L nm = some (some b) → ¬ (newL Hs μ hid L).has b := by
    intro nm b hi hl hh
    obtain ⟨i, ob, g1, g2⟩ := hsmem hh
    have := hu.live i ob g1
    rw [hw.inj _ _ b g2 hl, hi] at this
    simp at this
  have hup : Up ρ nb w' Ls L' := by
    refine ⟨e1, fun hn b hro => ⟨hro.1, fun hh => ?_, fun hx => ?_⟩⟩
    · rcases hhas b hh with g | ⟨nm, g1, g2, g3⟩
      · exact hro.2 g
      · apply hro.3
        rw [h3.far]
        exact .inr ⟨nm, hnb hn nm g1 g2, g3⟩
    · apply hro.3
      rw [h3.far]
      exact .inl hx
  have hev : Ev w L w' L' := by
    refine ⟨h3.os, h3.tape, h3.output, h3.size, fun b hb hn => h3.keep b hb fun hh => hn (hsmall b hh), fun nm hnm => ?_, fun b hh => ?_, fun nm b k1 k2 c t fz hc => ?_, rfl⟩
    · cases hi : ρ nm with
      | none => exact .inr (e2 nm hi)
      | some i =>
        obtain ⟨_, ⟨ob, g1⟩, g2⟩ := hu.old nm i (hmem nm hnm) hi
        rw [e1 nm i hi]
        have hl := hok.live i ob g1
        rw [g2] at hl
        rw [← hl]
        exact h3.names i (by rw [hl]; exact hnm)
    · rcases hhas b hh with g | ⟨nm, _, _, g3⟩
      · rcases h3.fresh b g with k | k
        · exact .inl (hsmall b k)
        · exact .inr k
      · exact .inl ⟨nm, g3⟩
    · cases hi : ρ nm with
      | some i =>
        obtain ⟨_, ⟨ob, g1⟩, g2⟩ := hu.old nm i (hmem nm (by rw [k1]; simp)) hi
        have hl := hok.live i ob g1
        rw [g2, k1] at hl
        rw [e1 nm i hi] at k2
        exact h3.shape i b hl k2 c t fz hc
      | none =>
        exact ⟨c, fz, by rw [h3.keep b (hw.block_lt k1) (hframed nm b hi k1)]; exact hc, rfl⟩
  have hinj : ∀ n n' i, ρ n = some i → ρ n' = some i → n = n' := by
    intro n n' i g1 g2
    rcases Nat.lt_or_ge n H.length with a | a <;> rcases Nat.lt_or_ge n' H.length with b | b
    · rw [← (hu.old n i a g1).2.2, ← (hu.old n' i b g2).2.2]
    · have := (hu.old n i a g1).1
      rw [hu.new n' b] at g2; simp at g2; omega
    · have := (hu.old n' i b g2).1
      rw [hu.new n a] at g1; simp at g1; omega
    · rw [hu.new n a] at g1; rw [hu.new n' b] at g2; simp at g1 g2; omega
  refine ⟨v, L', rfl, ⟨fun nm hn => ?_, fun nm hn => ?_, fun nm ob hn => ?_, fun n n' b k1 k2 => ?_, fun b hb => ?_⟩, hr w' Ls L' v hup h2, hev⟩
  · cases hi : ρ nm with
    | some i =>
      rw [e1 nm i hi]
      cases hsi : Hs'[i]? with
      | none => exact h1.unused i hsi
      | some o => cases o with
        | none => rw [hu.dead nm i hi hsi] at hn; simp at hn
        | some ob => obtain ⟨ob', g, _⟩ := hu.ob nm i ob hi hsi; rw [g] at hn; simp at hn
    | none =>
      rw [e2 nm hi]
      rcases Nat.lt_or_ge nm H.length with a | a
      · rw [hu.keep nm a hi, List.getElem?_eq_getElem a] at hn; simp at hn
      · rw [hu.new nm a] at hi; simp at hi
  · cases hi : ρ nm with
    | some i =>
      rw [e1 nm i hi]
      cases hsi : Hs'[i]? with
      | none => rw [hu.unk nm i hi hsi] at hn; simp at hn
      | some o => cases o with
        | none => exact h1.dead i hsi
        | some ob => obtain ⟨ob', g, _⟩ := hu.ob nm i ob hi hsi; rw [g] at hn; simp at hn
    | none =>
      rw [e2 nm hi]
      rcases Nat.lt_or_ge nm H.length with a | a
      · rw [hu.keep nm a hi] at hn; exact hw.dead nm hn
      · rw [hu.new nm a] at hi; simp at hi
  · cases hi : ρ nm with
    | some i =>
      cases hsi : Hs'[i]? with
      | none => rw [hu.unk nm i hi hsi] at hn; simp at hn
      | some o => cases o with
        | none => rw [hu.dead nm i hi hsi] at hn; simp at hn
        | some ob0 =>
          obtain ⟨ob', g1, g2, g3⟩ := hu.ob nm i ob0 hi hsi
          rw [g1] at hn
          simp only [Option.some.injEq] at hn
          subst hn
          obtain ⟨b, c, fz, f1, f2, f3, f4, f5⟩ := h1.live i ob0 hsi
          exact ⟨b, c, fz, by rw [e1 nm i hi]; exact f1, by rw [g2]; exact f2, f3, by rw [← g3.1]; exact f4, g3.2 w' Ls L' c hup f5⟩
    | none =>
      rcases Nat.lt_or_ge nm H.length with a | a
      · rw [hu.keep nm a hi] at hn
        obtain ⟨b, c, fz, f1, f2, f3, f4, f5⟩ := hw.live nm ob hn
        exact ⟨b, c, fz, by rw [e2 nm hi]; exact f1, by rw [h3.keep b (hw.block_lt f1) (hframed nm b hi f1)]; exact f2, f3, f4, f5.mono hev⟩
      · rw [hu.new nm a] at hi; simp at hi
  · have hmix : ∀ n n' i b, ρ n = some i → ρ n' = none → Ls i = some (some b) → L n' = some (some b) → False := by
      intro n n' i b g1 g2 g3 g4
      rcases h3.fresh b ⟨i, g3⟩ with k | k
      · exact hframed n' b g2 g4 k
      · have := hw.block_lt g4; omega
    cases hi : ρ n with
    | some i =>
      rw [e1 n i hi] at k1
      cases hi' : ρ n' with
      | some i' =>
        rw [e1 n' i' hi'] at k2
        have := h1.inj i i' b k1 k2
        subst this
        exact hinj n n' i hi hi'
      | none => rw [e2 n' hi'] at k2; exact (hmix n n' i b hi hi' k1 k2).elim
    | none =>
      rw [e2 n hi] at k1
      cases hi' : ρ n' with
      | some i' => rw [e1 n' i' hi'] at k2; exact (hmix n' n i' b hi' hi k2 k1).elim
      | none => rw [e2 n' hi'] at k2; exact hw.inj n n' b k1 k2
  · have hb1 := hw.far b hb
    refine ⟨Nat.lt_of_lt_of_le hb1.1 h3.size, fun hh => ?_⟩
    rcases hhas b hh with g | ⟨nm, _, _, g3⟩
    · have : Ls.X b := by rw [h3.far]; exact .inl hb
      exact (h1.far b this).2 g
    · exact hb1.2 ⟨nm, g3⟩

end Go.Sym

