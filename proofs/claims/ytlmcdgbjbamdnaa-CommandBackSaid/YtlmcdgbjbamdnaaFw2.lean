/- A framework for walking through the program's functions, proved sound, part 2: operations: binary, conversions, append. It has no condition. -/
import Derived.Test.YtlmcdgbjbamdnaaFw1
import Derived.Laws.Slices
import Derived.Laws.BytesString
import Derived.Laws.MakeOwn
import Derived.Laws.Append
set_option linter.unusedVariables false
set_option linter.unusedSimpArgs false
namespace Go.Sym
open Go

variable {P : Program} {Γ : Tab}

/-! ### Storing -/
/-- Whether segments have so many cells; the number is told, so that nobody counts twice. -/
def totsB : List Seg → Nat → Bool
  | [], b => Nat.beq b 0
  | s :: l, b => match Nat.ble s.width b with
    | true => totsB l (b - s.width)
    | false => false
theorem totsB_eq : ∀ {l : List Seg} {b : Nat}, totsB l b = true → tot l = b
  | [], b, h => (beq_true h).symm
  | s :: l, b, h => by
    unfold totsB at h
    split at h
    · rename_i hb
      have h1 := ble_true hb
      have h2 := totsB_eq h
      unfold tot
      omega
    · simp at h

def storeK (Γ : Tab) (t : TypeId) (x v : FV) (H : Hp) (K : Hp → Prop) : Prop :=
  match (tget Γ t).d.isOther with
  | true => False
  | false =>
  match x with
  | .s (.lf (.ptr nm base)) => match hget H nm with
    | some ob => (match v with
      | .s (.lf u) => (match Nat.beq (tget Γ t).size 1 with
        | true => sputK ob.segs base u fun l => hsetK H nm (some ⟨ob.ty, l⟩) K
        | false => False)
      | .s (.agg l) => litK (tget Γ t).size fun sz => (match totsB l sz with
        | true => (match dropS ob.segs base with
          | some (p, r) => (match dropS r sz with
            | some (_, q) => segsK (p ++ (l ++ q)) fun l' => hsetK H nm (some ⟨ob.ty, l'⟩) K
            | none => False)
          | none => False)
        | false => False)
      | _ => False)
    | none => False
  | .s (.lf (.pti nm base i st j)) => match hget H nm with
    | some ob => (match v with
      | .s (.lf u) => (match Nat.beq (tget Γ t).size 1 with
        | true => rowPutK ob.segs base i st j u fun l => hsetK H nm (some ⟨ob.ty, l⟩) K
        | false => False)
      | _ => False)
    | none => False
  | _ => False

theorem repA_puts {w : World} {L : NM} {l l' : List Seg} {o : Nat} {v : LV} {c : Array Value} {x : Value} (hp : Puts l l' o v) (hc : repA w L l c) (hl : tot l ≤ c.size) (hx : rep w L v x) :
    repA w L l' (wr c o [x]) := by
  intro k hk
  rw [hp.tot] at hk
  have ho := hp.lt
  simp only [wr]
  by_cases e : k = o
  · subst e
    refine ⟨x, ?_, leafy_oneCell hp.leaf hx, hp.same w L x hx⟩
    rw [Array.getElem?_setIfInBounds, if_pos rfl, if_pos (by omega)]
  · obtain ⟨y, h1, h2, h3⟩ := hc k hk
    refine ⟨y, ?_, h2, by rw [hp.other k hk e]; exact h3⟩
    rw [Array.getElem?_setIfInBounds, if_neg (fun e' => e e'.symm)]
    exact h1

theorem store_leaf (hΓ : TOK P Γ) {t : TypeId} (hno : (tget Γ t).d.isOther = false) (hs : (tget Γ t).size = 1) {nm o : Nat} {ob : OB} {l' : List Seg} {u : LV} {H : Hp} (hH : H[nm]? = some (some ob)) (hp : Puts ob.segs l' o u) :
    ∀ (w : World) (L : NM) (v x : Value), HRep w L H → (∀ b, L nm = some (some b) → v = .pointer (some ⟨b, o, none⟩)) → rep w L u x →
      ∃ w', (Instr.storeAt t v x).run P w = .ok () w' ∧ HRep w' L (H.set nm (some ⟨ob.ty, l'⟩)) ∧ Ev w L w' L := by
  intro w L v x hw hv hx
  obtain ⟨b, c, fz, f1, f2, f3, f4, f5⟩ := hw.live nm ob hH
  have hx1 := leafy_oneCell hp.leaf hx
  rw [hv b f1]
  obtain ⟨i, z, g1, g2, _⟩ := (hΓ t).info hno
  have hlt := hp.lt
  have hrun := run_storeVar (P := P) (b := b) (o := o) (t := t) (arr := #[x]) (v := x) f2 (oneCell_cells hx1) g1 (by rw [g2, hs]; rfl) (by simp; omega) f3.out (by simpa using hx1)
  obtain ⟨k1, k2⟩ := hw.write hH f1 f2 (wr_size c o [x]) (ob' := ⟨ob.ty, l'⟩) rfl (by simp only; rw [hp.tot]; exact f4) (repA_puts hp f5 f4 hx)
  refine ⟨_, ?_, k1, k2⟩
  simp only [Instr.storeAt, Instr.sureAddr, Sem.run_bind, Sem.run_pure, Result.andThen_ok]
  exact hrun

theorem storeK_sound (hΓ : TOK P Γ) {t : TypeId} {x v : FV} {H : Hp} {K : Hp → Prop} (h : storeK Γ t x v H K) :
    ∃ H', K H' ∧ ∀ (w : World) (L : NM) (xv vv : Value), HRep w L H → repF w L x xv → repF w L v vv →
      ∃ w' L', (Instr.storeAt t xv vv).run P w = .ok () w' ∧ HRep w' L' H' ∧ Ev w L w' L' := by
  unfold storeK at h
  split at h
  · exact h.elim
  rename_i hno
  split at h
  · rename_i nm base
    split at h
    · rename_i ob hob
      have hH := hget_some hob
      split at h
      · rename_i u
        split at h
        · rename_i hs
          have hs := beq_true hs
          obtain ⟨l', hK, hp⟩ := sputK_sound h
          refine ⟨_, hsetK_out hK, fun w L xv vv hw hx hv => ?_⟩
          obtain ⟨w', k1, k2, k3⟩ := store_leaf hΓ hno hs hH hp w L xv vv hw (fun b hb => by simpa only [repF, repS, rep, hb] using hx) hv
          exact ⟨w', L, k1, k2, k3⟩
        · exact h.elim
      · rename_i l
        rw [litK_eq] at h
        split at h
        · rename_i hs
          have hs := (totsB_eq hs).symm
          split at h
          · rename_i p r hd
            split at h
            · rename_i m q hd2
              rw [segsK_eq] at h
              obtain ⟨e1, e2⟩ := dropS_sound hd
              obtain ⟨e3, e4⟩ := dropS_sound hd2
              refine ⟨_, hsetK_out h, fun w L xv vv hw hx hv => ?_⟩
              obtain ⟨b, c, fz, f1, f2, f3, f4, f5⟩ := hw.live nm ob hH
              simp only [repF, repS, rep, f1] at hx
              subst hx
              obtain ⟨arr, rfl, g1, g2⟩ := hv
              obtain ⟨i, z, i1, i2, _⟩ := (hΓ t).info hno
              have htot : tot ob.segs = tot p + tot l + tot q := by rw [e1, e3, tot_append, tot_append]; omega
              have hrun := run_storeVar (P := P) (b := b) (o := base) (t := t) (arr := arr) (v := .agg arr) f2 rfl i1 (by rw [i2, hs, g1]) (by omega) f3.out (by
                intro y hy
                obtain ⟨k, hk, e⟩ := List.getElem_of_mem hy
                obtain ⟨y', j1, j2, _⟩ := g2 k (by simp at hk; omega)
                simp at hk
                rw [Array.getElem?_eq_getElem hk] at j1
                simp at e j1
                rw [← e, j1]; exact j2)
              obtain ⟨k1, k2⟩ := hw.write hH f1 f2 (wr_size c base arr.toList) (ob' := ⟨ob.ty, p ++ (l ++ q)⟩) rfl (by simp only [tot_append]; omega) (by
                intro k hk
                simp only [tot_append] at hk
                rw [wr_get _ _ _ (by simp; omega)]
                simp only [Array.length_toList, Array.getElem?_toList]
                by_cases c1 : k < base
                · rw [if_neg (by omega)]
                  obtain ⟨y, j1, j2, j3⟩ := f5 k (by omega)
                  refine ⟨y, j1, j2, ?_⟩
                  rw [cellD_append_left _ _ _ (by omega)]
                  rw [e1, cellD_append_left _ _ _ (by omega)] at j3
                  exact j3
                · by_cases c2 : k < base + arr.size
                  · rw [if_pos ⟨by omega, c2⟩]
                    obtain ⟨y, j1, j2, j3⟩ := g2 (k - base) (by omega)
                    refine ⟨y, j1, j2, ?_⟩
                    rw [show k = tot p + (k - base) by omega, cellD_append_right, cellD_append_left _ _ _ (by omega)]
                    exact j3
                  · rw [if_neg (by omega)]
                    obtain ⟨y, j1, j2, j3⟩ := f5 k (by omega)
                    refine ⟨y, j1, j2, ?_⟩
                    rw [show k = tot p + (tot l + (k - base - tot l)) by omega, cellD_append_right, cellD_append_right]
                    rw [e1, e3, show k = tot p + (tot m + (k - base - tot l)) by omega, cellD_append_right, cellD_append_right] at j3
                    exact j3)
              refine ⟨_, L, ?_, k1, k2⟩
              simp only [Instr.storeAt, Instr.sureAddr, Sem.run_bind, Sem.run_pure, Result.andThen_ok]
              exact hrun
            · exact h.elim
          · exact h.elim
        · exact h.elim
      · exact h.elim
    · exact h.elim
  · rename_i nm base i st j
    split at h
    · rename_i ob hob
      have hH := hget_some hob
      split at h
      · rename_i u
        split at h
        · rename_i hs
          have hs := beq_true hs
          obtain ⟨l', hK, hp⟩ := rowPutK_sound h
          refine ⟨_, hsetK_out hK, fun w L xv vv hw hx hv => ?_⟩
          obtain ⟨w', k1, k2, k3⟩ := store_leaf hΓ hno hs hH hp w L xv vv hw (fun b hb => by simpa only [repF, repS, rep, hb] using hx) hv
          exact ⟨w', L, k1, k2, k3⟩
        · exact h.elim
      · exact h.elim
    · exact h.elim
  · exact h.elim

/-! ### New variables -/
def allocK (Γ : Tab) (t : TypeId) (H : Hp) (K : FV → Hp → Prop) : Prop :=
  match (tget Γ t).d.isOther with
  | true => False
  | false => litK H.length fun nm => segsK (tget Γ t).zero fun z => hpushK H (some ⟨t, z⟩) fun H' => K (.s (.lf (.ptr nm 0))) H'

theorem toList_getElem? (a : Array Value) (i : Nat) : a.toList[i]? = a[i]? := by simp

theorem allocK_sound (hΓ : TOK P Γ) {t : TypeId} {H : Hp} {K : FV → Hp → Prop} (h : allocK Γ t H K) :
    ∃ r H', K r H' ∧ ∀ (w : World) (L : NM), HRep w L H → ∃ rv w' L', (Instr.alloc t true (.tuple #[])).run P w = .ok rv w' ∧ HRep w' L' H' ∧ repF w' L' r rv ∧ Ev w L w' L' := by
  unfold allocK at h
  split at h
  · exact h.elim
  rename_i hno
  rw [litK_eq, segsK_eq] at h
  refine ⟨_, _, hpushK_out h, fun w L hw => ?_⟩
  obtain ⟨i, z, g1, g2, g3, g4, g5, g6, g7, _⟩ := (hΓ t).info hno
  obtain ⟨k1, k2⟩ := hw.alloc ⟨t, (tget Γ t).zero⟩ z.cells (0, 0) (.inl rfl) (by simp only; omega) (g7 w L)
  refine ⟨.pointer (some ⟨w.heap.size, 0, none⟩), _, _, ?_, k1, ?_, k2⟩
  · simp [Instr.alloc, zeroValue, typeInfo, g1, g4, newVar, newRow]
  · simp [repF, repS, rep, NM.with]

def boxK (t : TypeId) (v : FV) (H : Hp) (K : FV → Hp → Prop) : Prop :=
  match v with
  | .s (.lf u) => (match leafy u with
    | true => litK H.length fun nm => hpushK H (some ⟨t, [.one u]⟩) fun H' => K (.s (.lf (.ptr nm 0))) H'
    | false => False)
  | .s (.agg l) => litK H.length fun nm => hpushK H (some ⟨t, l⟩) fun H' => K (.s (.lf (.ptr nm 0))) H'
  | _ => False

theorem boxK_sound {t : TypeId} {v : FV} {H : Hp} {K : FV → Hp → Prop} (h : boxK t v H K) :
    ∃ r H', K r H' ∧ ∀ (w : World) (L : NM) (x : Value), HRep w L H → repF w L v x → ∃ rv w' L', (Instr.box t x).run P w = .ok rv w' ∧ HRep w' L' H' ∧ repF w' L' r rv ∧ Ev w L w' L' := by
  unfold boxK at h
  split at h
  · rename_i u
    split at h
    · rename_i hl
      rw [litK_eq] at h
      refine ⟨_, _, hpushK_out h, fun w L x hw hx => ?_⟩
      have h1 := leafy_oneCell hl hx
      obtain ⟨k1, k2⟩ := hw.alloc ⟨t, [.one u]⟩ #[x] (0, 0) (.inl rfl) (by simp [tot, Seg.width]) (by
        intro o ho
        have : o = 0 := by simp [tot, Seg.width] at ho; omega
        subst this
        exact ⟨x, rfl, h1, hx⟩)
      refine ⟨.pointer (some ⟨w.heap.size, 0, none⟩), _, _, ?_, k1, ?_, k2⟩
      · simp [Instr.box, newVar, newRow, oneCell_cells h1]
      · simp [repF, repS, rep, NM.with]
    · exact h.elim
  · rename_i l
    rw [litK_eq] at h
    refine ⟨_, _, hpushK_out h, fun w L x hw hx => ?_⟩
    obtain ⟨arr, rfl, g1, g2⟩ := hx
    obtain ⟨k1, k2⟩ := hw.alloc ⟨t, l⟩ arr (0, 0) (.inl rfl) (by simp only; omega) g2
    refine ⟨.pointer (some ⟨w.heap.size, 0, none⟩), _, _, ?_, k1, ?_, k2⟩
    · simp [Instr.box, newVar, newRow, Value.cells]
    · simp [repF, repS, rep, NM.with]
  · exact h.elim

/-! ### Addresses of parts -/
def nthF : List (Nat × TypeId) → Nat → Option (Nat × TypeId)
  | [], _ => none
  | x :: _, 0 => some x
  | _ :: l, n + 1 => nthF l n

theorem nthF_eq (l : List (Nat × TypeId)) (n : Nat) : nthF l n = l[n]? := by
  induction l generalizing n with
  | nil => rfl
  | cons x l ih => cases n <;> simp [nthF, ih]

def fieldK (Γ : Tab) (s : TypeId) (x : FV) (f : Nat) (H : Hp) (K : FV → Prop) : Prop :=
  match (tget Γ s).d.flds with
  | some fs => (match nthF fs f with
    | some (off, ft) => (match (tget Γ ft).d.isOther, Nat.beq (tget Γ ft).size 0 with
      | false, false => (match x with
        | .s (.lf (.ptr nm base)) => liveK H nm (K (.s (.lf (.ptr nm (base + off)))))
        | .s (.lf (.pti nm base i st j)) => liveK H nm (K (.s (.lf (.pti nm base i st (j + off)))))
        | .s (.lf (.rop n g)) => (match Nat.ble off n with | true => K (.s (.lf (.rop (n - off) fun k => g (off + k)))) | false => False)
        | _ => False)
      | _, _ => False)
    | none => False)
  | _ => False

theorem run_fieldAt (hΓ : TOK P Γ) {s : TypeId} {fs : List (Nat × TypeId)} (hd : (tget Γ s).d.flds = some fs) {f off : Nat} {ft : TypeId} (hf : fs[f]? = some (off, ft)) (hno : (tget Γ ft).d.isOther = false) (hz : (tget Γ ft).size ≠ 0)
    {a : Addr} (ha : a.spot = none) (w : World) : (Instr.fieldAt s (.pointer (some a)) f).run P w = .ok (.pointer (some ⟨a.block, a.off + off, none⟩)) w := by
  have hu : ∃ fields : Array Field, P.underlying s = some (.struct fields) ∧ fields.toList.map (fun f => (f.offset, f.type)) = fs := by
    have hft := (hΓ s).fits
    cases hdd : (tget Γ s).d <;> rw [hdd] at hd hft <;> simp only [TD.flds, Option.some.injEq, reduceCtorEq] at hd
    · subst hd; obtain ⟨fields, h1, h2, _⟩ := hft; exact ⟨fields, h1, h2⟩
    · subst hd; exact hft
  obtain ⟨fields, h1, h2⟩ := hu
  have : ∃ fl, fields[f]? = some fl ∧ fl.offset = off ∧ fl.type = ft := by
    rw [← h2, List.getElem?_map] at hf
    cases hh : fields.toList[f]? with
    | none => rw [hh] at hf; simp at hf
    | some fl =>
      rw [hh] at hf
      simp at hf
      exact ⟨fl, by simpa using hh, hf.1, hf.2⟩
  obtain ⟨fl, e1, rfl, rfl⟩ := this
  have ea : a.add fl.offset = ⟨a.block, a.off + fl.offset, none⟩ := by
    unfold Addr.add; split
    · rename_i e; cases a; simp_all
    · rfl
  simp [Instr.fieldAt, run_underlying h1, e1, Instr.sureAddr, fieldPlace, size_run hΓ hno, hz, ea]

theorem fieldK_sound (hΓ : TOK P Γ) {s : TypeId} {x : FV} {f : Nat} {H : Hp} {K : FV → Prop} (h : fieldK Γ s x f H K) :
    ∃ r, K r ∧ ∀ (w : World) (L : NM) (v : Value), HRep w L H → repF w L x v → ∃ rv, (Instr.fieldAt s v f).run P w = .ok rv w ∧ repF w L r rv := by
  unfold fieldK at h
  split at h
  · rename_i fs hd
    split at h
    · rename_i off ft hf
      rw [nthF_eq] at hf
      split at h
      · rename_i hno hz
        have hz' : (tget Γ ft).size ≠ 0 := by
          intro e; rw [e] at hz; exact Bool.noConfusion hz
        split at h
        · rename_i nm base
          refine ⟨_, liveK.out h, fun w L v hw hv => ?_⟩
          obtain ⟨_, b, hb⟩ := hw.of_live h
          simp only [repF, repS, rep, hb] at hv ⊢
          subst hv
          exact ⟨_, run_fieldAt hΓ hd hf hno hz' rfl w, rfl⟩
        · rename_i nm base i st j
          refine ⟨_, liveK.out h, fun w L v hw hv => ?_⟩
          obtain ⟨_, b, hb⟩ := hw.of_live h
          simp only [repF, repS, rep, hb] at hv ⊢
          subst hv
          exact ⟨_, run_fieldAt hΓ hd hf hno hz' rfl w, by simp only [Nat.add_assoc]⟩
        · rename_i n g
          split at h
          · rename_i hle
            have hle := ble_true hle
            refine ⟨_, h, fun w L v hw hv => ?_⟩
            obtain ⟨a, rfl, h1, h2, h3⟩ := hv
            refine ⟨_, run_fieldAt hΓ hd hf hno hz' h1 w, ⟨_, rfl, rfl, h2, fun j hj => ?_⟩⟩
            have := h3 (off + j) (by omega)
            rw [← Nat.add_assoc] at this
            exact this
          · exact h.elim
        · exact h.elim
      · exact h.elim
    · exact h.elim
  · exact h.elim

def indexK (Γ : Tab) (t : TypeId) (x ix : FV) (H : Hp) (K : FV → Prop) : Prop :=
  match ix with
  | .s (.lf (.int _ a)) => (match (tget Γ t).d with
    | .arr n e => (match (tget Γ e).d.isOther with
      | true => False
      | false => (match x with
        | .s (.lf (.ptr nm base)) => (match hget H nm with
          | some ob => (0 ≤ a ∧ a < (n : Int)) ∧ rowK ob.segs base fun s => (match s with
            | .one _ => K (.s (.lf (.ptr nm (base + a.toNat * (tget Γ e).size))))
            | _ => K (.s (.lf (.pti nm base a.toNat (tget Γ e).size 0))))
          | none => False)
        | .s (.lf (.rop m f)) => (0 ≤ a ∧ a < (n : Int)) ∧ (match Nat.ble (n * (tget Γ e).size) m with
          | true => K (.s (.lf (.rop (tget Γ e).size fun k => f (a.toNat * (tget Γ e).size + k))))
          | false => False)
        | _ => False))
    | .slice e => (match (tget Γ e).d.isOther with
      | true => False
      | false => (match x with
        | .s (.lf (.own nm base st off len)) => (match Nat.beq (tget Γ e).size st with
          | true => liveK H nm ((0 ≤ a ∧ a < (len : Int)) ∧ K (.s (.lf (.pti nm base (off + a.toNat) st 0))))
          | false => False)
        | .s (.lf (.rob _ _ xs)) => (match Nat.beq (tget Γ e).size 1 with
          | true => (0 ≤ a ∧ a < (xs.length : Int)) ∧ K (.s (.lf (.rop 1 fun _ => .int .u8 ((xs.getD a.toNat 0).toNat : Int))))
          | false => False)
        | .s (.lf (.ro _ _ st len f)) => (match Nat.beq (tget Γ e).size st with
          | true => (0 ≤ a ∧ a < (len : Int)) ∧ K (.s (.lf (.rop st (f a.toNat))))
          | false => False)
        | _ => False))
    | _ => False)
  | _ => False

theorem u8_range (b : UInt8) : IntKind.u8.min ≤ ((b.toNat : Nat) : Int) ∧ ((b.toNat : Nat) : Int) ≤ IntKind.u8.max := by
  have e0 : IntKind.u8.min = 0 := by decide
  have e1 : IntKind.u8.max = 255 := by decide
  have := b.toNat_lt
  rw [e0, e1]; omega

theorem Addr.add_at (b o n : Nat) : Addr.add ⟨b, o, none⟩ n = ⟨b, o + n, none⟩ := Addr.add_lit b o n

theorem run_indexAt_arr (hΓ : TOK P Γ) {t e : TypeId} {n : Nat} (hd : (tget Γ t).d = .arr n e) (hno : (tget Γ e).d.isOther = false) {k : IntKind} {i : Int} (h0 : 0 ≤ i) (h1 : i < (n : Int)) (a : Addr) (w : World) :
    (Instr.indexAt t (.pointer (some a)) (.int k i)).run P w = .ok (.pointer (some (a.add (i.toNat * (tget Γ e).size)))) w := by
  have hf : P.underlying t = some (.array n e) := hΓ.und hd
  simp [Instr.indexAt, asIntOf, run_underlying hf, Instr.sureAddr, h0, h1, size_run hΓ hno]

theorem run_indexAt_slice (hΓ : TOK P Γ) {t e : TypeId} (hd : (tget Γ t).d = .slice e) (hno : (tget Γ e).d.isOther = false) {k : IntKind} {i : Int} {len cap : Nat} (h0 : 0 ≤ i) (h1 : i < (len : Int)) (a : Addr) (w : World) :
    (Instr.indexAt t (.slice (some a) len cap) (.int k i)).run P w = .ok (.pointer (some (a.add (i.toNat * (tget Γ e).size)))) w := by
  have hf : P.underlying t = some (.slice e) := hΓ.und hd
  simp [Instr.indexAt, asIntOf, run_underlying hf, h0, h1, size_run hΓ hno]

theorem add_none {a : Addr} (h : a.spot = none) (n : Nat) : a.add n = ⟨a.block, a.off + n, none⟩ := by
  unfold Addr.add; split
  · rename_i e; cases a; simp_all
  · rfl

theorem indexK_sound (hΓ : TOK P Γ) {t : TypeId} {x ix : FV} {H : Hp} {K : FV → Prop} (h : indexK Γ t x ix H K) :
    ∃ r, K r ∧ ∀ (w : World) (L : NM) (v iv : Value), HRep w L H → repF w L x v → repF w L ix iv → ∃ rv, (Instr.indexAt t v iv).run P w = .ok rv w ∧ repF w L r rv := by
  unfold indexK at h
  split at h
  · rename_i k a
    split at h
    · rename_i n e hd
      split at h
      · exact h.elim
      rename_i hno
      split at h
      · rename_i nm base
        split at h
        · rename_i ob hob
          obtain ⟨⟨h0, h1⟩, h⟩ := h
          obtain ⟨p, s, q, e1, e2, h'⟩ := rowK_sound h
          clear h
          have hlive : ∀ w L, HRep w L H → ∃ b, L nm = some (some b) := fun w L hw => by
            obtain ⟨b, c, fz, f1, _⟩ := hw.live nm ob (hget_some hob); exact ⟨b, f1⟩
          have fin : ∀ r, K r → (∀ w L b, L nm = some (some b) → repF w L r (.pointer (some ⟨b, base + a.toNat * (tget Γ e).size, none⟩))) →
              ∃ r, K r ∧ ∀ (w : World) (L : NM) (v iv : Value), HRep w L H → repF w L (.s (.lf (.ptr nm base))) v → repF w L (.s (.lf (.int k a))) iv → ∃ rv, (Instr.indexAt t v iv).run P w = .ok rv w ∧ repF w L r rv := by
            intro r hK hr
            refine ⟨r, hK, fun w L v iv hw hv hi => ?_⟩
            obtain ⟨b, hb⟩ := hlive w L hw
            simp only [repF, repS, rep, hb] at hv
            obtain ⟨rfl, _⟩ := hi
            subst hv
            exact ⟨_, run_indexAt_arr hΓ hd hno h0 h1 _ w, by rw [Addr.add_at]; exact hr w L b hb⟩
          split at h'
          · exact fin _ h' (fun w L b hb => by simp only [repF, repS, rep, hb])
          · exact fin _ h' (fun w L b hb => by simp only [repF, repS, rep, hb, Nat.add_zero])
        · exact h.elim
      · rename_i m f
        obtain ⟨⟨h0, h1⟩, h⟩ := h
        split at h
        · rename_i hle
          have hle := ble_true hle
          refine ⟨_, h, fun w L v iv hw hv hi => ?_⟩
          obtain ⟨ad, rfl, g1, g2, g3⟩ := hv
          obtain ⟨rfl, _⟩ := hi
          refine ⟨_, run_indexAt_arr hΓ hd hno h0 h1 _ w, ⟨_, rfl, by rw [add_none g1], by rw [add_none g1]; exact g2, fun j hj => ?_⟩⟩
          have hlt : a.toNat * (tget Γ e).size + j < n * (tget Γ e).size := mul_lt_of (by omega) hj
          have := g3 (a.toNat * (tget Γ e).size + j) (by omega)
          rw [add_none g1]
          simpa only [Nat.add_assoc] using this
        · exact h.elim
      · exact h.elim
    · rename_i e hd
      split at h
      · exact h.elim
      rename_i hno
      split at h
      · rename_i nm base st off len
        split at h
        · rename_i hs
          have hs := beq_true hs
          obtain ⟨⟨h0, h1⟩, hK⟩ := liveK.out h
          refine ⟨_, hK, fun w L v iv hw hv hi => ?_⟩
          obtain ⟨_, b, hb⟩ := hw.of_live h
          simp only [repF, repS, rep, hb] at hv ⊢
          obtain ⟨cap, o, rfl, g1, g2, g3⟩ := hv
          obtain ⟨rfl, _⟩ := hi
          refine ⟨_, run_indexAt_slice hΓ hd hno h0 h1 _ w, ?_⟩
          rw [(g3 (by omega)).1, Addr.add_at, hs, Nat.add_zero, Nat.add_mul, Nat.add_assoc]
        · exact h.elim
      · rename_i nn cl xs
        split at h
        · rename_i hs
          have hs := beq_true hs
          obtain ⟨⟨h0, h1⟩, hK⟩ := h
          refine ⟨_, hK, fun w L v iv hw hv hi => ?_⟩
          obtain ⟨rfl, _⟩ := hi
          rcases hv with ⟨_, hl, _⟩ | ⟨ad, cap, rfl, g1, g2, g3, g4, g5⟩
          · omega
          · obtain ⟨s1, s2⟩ := g4 (by omega)
            refine ⟨_, run_indexAt_slice hΓ hd hno h0 h1 _ w, ⟨_, rfl, by rw [add_none s1], by rw [add_none s1]; exact s2, fun j hj => ?_⟩⟩
            obtain ⟨c, k1, k2, k3⟩ := g5 a.toNat (by omega) 0 (by omega)
            have : j = 0 := by omega
            subst this
            refine ⟨c, by rw [add_none s1, hs]; simpa using k1, k2, by rw [k3]; exact ⟨rfl, u8_range _⟩⟩
        · exact h.elim
      · rename_i nn cl st len f
        split at h
        · rename_i hs
          have hs := beq_true hs
          obtain ⟨⟨h0, h1⟩, hK⟩ := h
          refine ⟨_, hK, fun w L v iv hw hv hi => ?_⟩
          obtain ⟨rfl, _⟩ := hi
          rcases hv with ⟨_, hl, _⟩ | ⟨ad, cap, rfl, g1, g2, g3, g4, g5⟩
          · omega
          · obtain ⟨s1, s2⟩ := g4 (by omega)
            refine ⟨_, run_indexAt_slice hΓ hd hno h0 h1 _ w, ⟨_, rfl, by rw [add_none s1], by rw [add_none s1]; exact s2, fun j hj => ?_⟩⟩
            obtain ⟨c, k1, k2, k3⟩ := g5 a.toNat (by omega) j hj
            refine ⟨c, by rw [add_none s1, hs]; simpa using k1, k2, k3⟩
        · exact h.elim
      · exact h.elim
    · exact h.elim
  · exact h.elim

end Go.Sym

set_option linter.unusedVariables false
set_option linter.unusedSimpArgs false
namespace Go.Sym
open Go

variable {P : Program} {Γ : Tab}

/-! ### nil checks -/
def nilK (x : FV) (H : Hp) (K : FV → Prop) : Prop :=
  match x with
  | .s (.lf (.ptr nm base)) => liveK H nm (K (.s (.lf (.ptr nm base))))
  | .s (.lf (.pti nm base i st j)) => liveK H nm (K (.s (.lf (.pti nm base i st j))))
  | .s (.lf (.rop n f)) => K (.s (.lf (.rop n f)))
  | .s (.lf (.fn f n caps)) => K (.s (.lf (.fn f n caps)))
  | _ => False

theorem nilK_sound {o : Oper} {x : Operand} (ho : o.op = .nilCheck x) {vs : Operand → FV} {H : Hp} {K : FV → Hp → Prop} (h : nilK (vs x) H (K · H)) : Outc P o vs H K := by
  have hmem : x ∈ o.op.operands.toList := by rw [ho]; simp [Op.operands]
  unfold nilK at h
  split at h
  · rename_i nm base hx
    refine ⟨_, _, .pure fun w L a hw hv => ?_, liveK.out h⟩
    obtain ⟨_, b, hb⟩ := hw.of_live h
    have := hv x hmem
    rw [hx] at this
    simp only [repF, repS, rep, hb] at this ⊢
    exact ⟨_, by simp only [execOp, ho, this, Sem.run_pure], rfl⟩
  · rename_i nm base i st j hx
    refine ⟨_, _, .pure fun w L a hw hv => ?_, liveK.out h⟩
    obtain ⟨_, b, hb⟩ := hw.of_live h
    have := hv x hmem
    rw [hx] at this
    simp only [repF, repS, rep, hb] at this ⊢
    exact ⟨_, by simp only [execOp, ho, this, Sem.run_pure], rfl⟩
  · rename_i n f hx
    refine ⟨_, _, .pure fun w L a hw hv => ?_, h⟩
    have := hv x hmem
    rw [hx] at this
    obtain ⟨ad, e, h1⟩ := this
    exact ⟨_, by simp only [execOp, ho, e, Sem.run_pure], ⟨ad, rfl, h1⟩⟩
  · rename_i f n caps hx
    refine ⟨_, _, .pure fun w L a hw hv => ?_, h⟩
    have := hv x hmem
    rw [hx] at this
    obtain ⟨arr, e, h1⟩ := this
    exact ⟨_, by simp only [execOp, ho, e, Sem.run_pure], ⟨arr, rfl, h1⟩⟩
  · exact h.elim

/-! ### Parts of values -/
theorem repA_sub {w : World} {L : NM} {p m q : List Seg} {arr : Array Value} (h : repA w L (p ++ (m ++ q)) arr) (hs : arr.size = tot (p ++ (m ++ q))) :
    (arr.extract (tot p) (tot p + tot m)).size = tot m ∧ repA w L m (arr.extract (tot p) (tot p + tot m)) := by
  have h1 : (arr.extract (tot p) (tot p + tot m)).size = tot m := by
    simp only [tot_append] at hs
    simp; omega
  refine ⟨h1, fun o ho => ?_⟩
  obtain ⟨y, k1, k2, k3⟩ := h (tot p + o) (by simp only [tot_append]; omega)
  rw [cellD_append_right, cellD_append_left _ _ _ ho] at k3
  refine ⟨y, ?_, k2, k3⟩
  rw [Array.getElem?_extract]
  simp only [tot_append] at hs
  rw [if_pos (by omega)]
  exact k1

def partK (Γ : Tab) (t : TypeId) (l : List Seg) (off : Nat) (K : FV → Prop) : Prop :=
  match (tget Γ t).d.isOther with
  | true => False
  | false => (match (tget Γ t).d.isAgg with
    | true => (match dropS l off with
      | some (_, r) => (match dropS r (tget Γ t).size with | some (m, _) => segsK m fun m => K (.s (.agg m)) | none => False)
      | none => False)
    | false => sgetK l off fun v => K (.s (.lf v)))

theorem partK_sound (hΓ : TOK P Γ) {t : TypeId} {l : List Seg} {off : Nat} {K : FV → Prop} (h : partK Γ t l off K) :
    ∃ r, K r ∧ ∀ (w : World) (L : NM) (arr : Array Value), arr.size = tot l → repA w L l arr → ∃ rv, (part t arr off).run P w = .ok rv w ∧ repF w L r rv := by
  unfold partK at h
  split at h
  · exact h.elim
  rename_i hno
  split at h
  · rename_i ha
    split at h
    · rename_i p r hd
      split at h
      · rename_i m q hd2
        rw [segsK_eq] at h
        obtain ⟨e1, e2⟩ := dropS_sound hd
        obtain ⟨e3, e4⟩ := dropS_sound hd2
        refine ⟨_, h, fun w L arr hs hr => ?_⟩
        rw [e1, e3] at hr hs
        obtain ⟨g1, g2⟩ := repA_sub hr hs
        refine ⟨.agg (arr.extract (tot p) (tot p + tot m)), ?_, ⟨_, rfl, g1, g2⟩⟩
        simp [part, isAgg_run hΓ hno, ha, size_run hΓ hno, e2, e4]
      · exact h.elim
    · exact h.elim
  · rename_i ha
    obtain ⟨h1, h2⟩ := sgetK_sound h
    refine ⟨_, h2, fun w L arr hs hr => ?_⟩
    obtain ⟨y, k1, k2, k3⟩ := hr off h1
    exact ⟨y, by simp [part, isAgg_run hΓ hno, ha, k1], k3⟩

def fieldVK (Γ : Tab) (t : TypeId) (x : FV) (f : Nat) (K : FV → Prop) : Prop :=
  match (tget Γ t).d with
  | .struct fs => (match nthF fs f with
    | some (off, ft) => (match x with | .s (.agg l) => partK Γ ft l off K | _ => False)
    | none => False)
  | _ => False

theorem fieldVK_sound (hΓ : TOK P Γ) {t : TypeId} {x : FV} {f : Nat} {K : FV → Prop} (h : fieldVK Γ t x f K) :
    ∃ r, K r ∧ ∀ (w : World) (L : NM) (v : Value), repF w L x v → ∃ rv, (Instr.field t v f).run P w = .ok rv w ∧ repF w L r rv := by
  unfold fieldVK at h
  split at h
  · rename_i fs hd
    split at h
    · rename_i off ft hf
      rw [nthF_eq] at hf
      split at h
      · rename_i l
        obtain ⟨r, hK, hr⟩ := partK_sound hΓ h
        refine ⟨r, hK, fun w L v hv => ?_⟩
        obtain ⟨arr, rfl, g1, g2⟩ := hv
        obtain ⟨rv, h1, h2⟩ := hr w L arr g1 g2
        refine ⟨rv, ?_, h2⟩
        obtain ⟨fields, k1, k2, k3⟩ := hΓ.und hd
        have : ∃ fl, fields[f]? = some fl ∧ fl.offset = off ∧ fl.type = ft := by
          rw [← k2, List.getElem?_map] at hf
          cases hh : fields.toList[f]? with
          | none => rw [hh] at hf; simp at hf
          | some fl =>
            rw [hh] at hf
            simp at hf
            exact ⟨fl, by simpa using hh, hf.1, hf.2⟩
        obtain ⟨fl, e1, rfl, rfl⟩ := this
        simp [Instr.field, run_underlying k1, e1, asAgg, h1]
      · exact h.elim
    · exact h.elim
  · exact h.elim

def indexVK (Γ : Tab) (t : TypeId) (x ix : FV) (K : FV → Prop) : Prop :=
  match ix with
  | .s (.lf (.int _ a)) => (match (tget Γ t).d with
    | .str => (match x with
      | .s (.lf (.str s)) => (0 ≤ a ∧ a < (s.length : Int)) ∧ K (.s (.lf (.int .u8 ((s.getD a.toNat 0).toNat : Int))))
      | _ => False)
    | .arr n e => (match (tget Γ e).d.isOther, (tget Γ e).d.isAgg, Nat.beq (tget Γ e).size 1 with
      | false, false, true => (match x with
        | .s (.agg [.bytes m xs]) => (0 ≤ a ∧ a < (n : Int)) ∧ a.toNat < m ∧ K (.s (.lf (.int .u8 ((xs.getD a.toNat 0).toNat : Int))))
        | .s (.agg [.ints k m xs]) => (0 ≤ a ∧ a < (n : Int)) ∧ a.toNat < m ∧ K (.s (.lf (.int k (xs.getD a.toNat 0))))
        | _ => False)
      | _, _, _ => False)
    | _ => False)
  | _ => False

theorem getElem?_bytes (s : List UInt8) (i : Nat) (h : i < s.length) : (⟨s.toArray⟩ : ByteArray)[i]? = some (s.getD i 0) := by
  have : i < (⟨s.toArray⟩ : ByteArray).size := by simpa [ByteArray.size] using h
  rw [ByteArray.getElem?_lt' _ _ this]
  congr 1
  rw [List.getD_eq_getElem?_getD, List.getElem?_eq_getElem h]
  rfl

theorem indexVK_sound (hΓ : TOK P Γ) {t : TypeId} {x ix : FV} {K : FV → Prop} (h : indexVK Γ t x ix K) :
    ∃ r, K r ∧ ∀ (w : World) (L : NM) (v iv : Value), repF w L x v → repF w L ix iv → ∃ rv, (Instr.index t v iv).run P w = .ok rv w ∧ repF w L r rv := by
  unfold indexVK at h
  split at h
  · rename_i k a
    split at h
    · rename_i hd
      split at h
      · rename_i s
        obtain ⟨⟨h0, h1⟩, hK⟩ := h
        refine ⟨_, hK, fun w L v iv hv hi => ?_⟩
        obtain ⟨rfl, _⟩ := hi
        obtain ⟨rfl, _⟩ := hv
        refine ⟨_, ?_, ⟨rfl, u8_range _⟩⟩
        have hf : P.underlying t = some .string := hΓ.und hd
        simp only [Instr.index, asIntOf, Sem.run_bind, Sem.run_pure, Result.andThen_ok, run_underlying hf, if_pos h0]
        rw [getElem?_bytes s a.toNat (by omega)]
        rfl
      · exact h.elim
    · rename_i n e hd
      split at h
      · rename_i hno ha hs
        have hs := beq_true hs
        have hf : P.underlying t = some (.array n e) := hΓ.und hd
        split at h
        · rename_i m xs
          obtain ⟨⟨h0, h1⟩, h2, hK⟩ := h
          refine ⟨_, hK, fun w L v iv hv hi => ?_⟩
          obtain ⟨rfl, _⟩ := hi
          obtain ⟨arr, rfl, g1, g2⟩ := hv
          obtain ⟨y, k1, k2, k3⟩ := g2 a.toNat (by simpa [tot, Seg.width] using h2)
          refine ⟨y, by simp [Instr.index, asIntOf, run_underlying hf, h0, h1, size_run hΓ hno, hs, part, isAgg_run hΓ hno, ha, k1], ?_⟩
          simpa [repF, repS, cellD, Seg.width, h2, Seg.at] using k3
        · rename_i k' m xs
          obtain ⟨⟨h0, h1⟩, h2, hK⟩ := h
          refine ⟨_, hK, fun w L v iv hv hi => ?_⟩
          obtain ⟨rfl, _⟩ := hi
          obtain ⟨arr, rfl, g1, g2⟩ := hv
          obtain ⟨y, k1, k2, k3⟩ := g2 a.toNat (by simpa [tot, Seg.width] using h2)
          refine ⟨y, by simp [Instr.index, asIntOf, run_underlying hf, h0, h1, size_run hΓ hno, hs, part, isAgg_run hΓ hno, ha, k1], ?_⟩
          simpa [repF, repS, cellD, Seg.width, h2, Seg.at] using k3
        · exact h.elim
      · exact h.elim
    · exact h.elim
  · exact h.elim

def nthS : List SV → Nat → Option SV
  | [], _ => none
  | x :: _, 0 => some x
  | _ :: l, n + 1 => nthS l n

theorem nthS_eq (l : List SV) (n : Nat) : nthS l n = l[n]? := by
  induction l generalizing n with
  | nil => rfl
  | cons x l ih => cases n <;> simp [nthS, ih]

def extractK (x : FV) (i : Nat) (K : FV → Prop) : Prop :=
  match x with
  | .tup l => (match nthS l i with | some v => fK (.s v) K | none => False)
  | _ => False

theorem extractK_sound {x : FV} {i : Nat} {K : FV → Prop} (h : extractK x i K) :
    ∃ r, K r ∧ ∀ (P : Program) (w : World) (L : NM) (v : Value), repF w L x v → ∃ rv, (Instr.extract v i).run P w = .ok rv w ∧ repF w L r rv := by
  unfold extractK at h
  split at h
  · rename_i l
    split at h
    · rename_i v hv
      rw [nthS_eq] at hv
      rw [fK_eq] at h
      refine ⟨_, h, fun P w L x hx => ?_⟩
      obtain ⟨arr, rfl, g1, g2⟩ := hx
      have hlt : i < l.length := by
        rcases Nat.lt_or_ge i l.length with h' | h'
        · exact h'
        · rw [List.getElem?_eq_none h'] at hv; simp at hv
      obtain ⟨y, v', k1, k2, k3⟩ := g2 i hlt
      rw [hv] at k2
      simp only [Option.some.injEq] at k2
      subst k2
      exact ⟨y, by simp [Instr.extract, k1], k3⟩
    · exact h.elim
  · exact h.elim

/-! ### One operand -/
def unK (op : UnOp) (x : FV) (K : FV → Prop) : Prop :=
  match op with
  | .not => (match x with
    | .s (.lf .tt) => K (.s (.lf .ff))
    | .s (.lf .ff) => K (.s (.lf .tt))
    | .s (.lf (.bool b)) => K (.s (.lf (.bool (!b))))
    | _ => False)
  | .neg => (match x with | .s (.lf (.int k a)) => K (.s (.lf (.int k (k.wrap (0 - a))))) | _ => False)
  | .xor => (match x with | .s (.lf (.int k a)) => K (.s (.lf (.int k (bitsI .xor k (if k.signed then -1 else k.max) a)))) | _ => False)
  | _ => False

theorem unK_sound {op : UnOp} {x : FV} {K : FV → Prop} (h : unK op x K) :
    ∃ r, K r ∧ ∀ (P : Program) (w : World) (L : NM) (v : Value), repF w L x v → ∃ rv, (Op.unary op v).run P w = .ok rv w ∧ repF w L r rv := by
  unfold unK at h
  split at h
  · split at h
    · exact ⟨_, h, fun P w L v hv => ⟨.bool false, by rw [show v = .bool true from hv]; rfl, rfl⟩⟩
    · exact ⟨_, h, fun P w L v hv => ⟨.bool true, by rw [show v = .bool false from hv]; rfl, rfl⟩⟩
    · rename_i b
      exact ⟨_, h, fun P w L v hv => ⟨.bool (!b), by rw [show v = .bool b from hv]; rfl, rfl⟩⟩
    · exact h.elim
  · split at h
    · rename_i k a
      refine ⟨_, h, fun P w L v hv => ?_⟩
      obtain ⟨rfl, _⟩ := hv
      exact ⟨_, rfl, ⟨rfl, wrap_range k _⟩⟩
    · exact h.elim
  · split at h
    · rename_i k a
      refine ⟨_, h, fun P w L v hv => ?_⟩
      obtain ⟨rfl, _⟩ := hv
      exact ⟨_, rfl, ⟨rfl, wrap_range k _⟩⟩
    · exact h.elim
  · exact h.elim

/-! ### Lengths, least and greatest -/
def lenK (Γ : Tab) (t : TypeId) (x : FV) (H : Hp) (K : FV → Prop) : Prop :=
  match (tget Γ t).d with
  | .str => (match x with | .s (.lf (.str s)) => K (.s (.lf (.int .i64 (s.length : Int)))) | _ => False)
  | .slice _ => (match x with
    | .s (.lf .sl0) => K (.s (.lf (.int .i64 0)))
    | .s (.lf (.own nm _ _ _ len)) => liveK H nm (K (.s (.lf (.int .i64 (len : Int)))))
    | .s (.lf (.rob _ _ xs)) => K (.s (.lf (.int .i64 (xs.length : Int))))
    | .s (.lf (.ro _ _ _ len _)) => K (.s (.lf (.int .i64 (len : Int))))
    | _ => False)
  | _ => False

theorem len_range {n : Nat} (h : n ≤ maxLen) : IntKind.i64.min ≤ (n : Int) ∧ (n : Int) ≤ IntKind.i64.max := by
  have e0 : IntKind.i64.min = -9223372036854775808 := by decide
  rw [e0, IntKind.max_i64]
  unfold maxLen at h
  omega

theorem roRep_len {w : World} {L : NM} {nn cl : Bool} {st len : Nat} {p : Nat → Nat → Value → Prop} {v : Value} (h : roRep w L nn cl st len p v) : ∃ a cap, v = .slice a len cap ∧ len ≤ maxLen := by
  rcases h with ⟨_, rfl, rfl⟩ | ⟨a, cap, rfl, h1, h2, _⟩
  · exact ⟨_, _, rfl, Nat.zero_le _⟩
  · exact ⟨_, _, rfl, Nat.le_trans h1 h2⟩

theorem lenK_sound (hΓ : TOK P Γ) {t : TypeId} {x : FV} {H : Hp} {K : FV → Prop} (h : lenK Γ t x H K) :
    ∃ r, K r ∧ ∀ (w : World) (L : NM) (v : Value) (ts : Array TypeId) (ty : TypeId), HRep w L H → repF w L x v → ∃ rv, (Builtin.len_ #[t] ty #[v]).run P w = .ok rv w ∧ repF w L r rv := by
  unfold lenK at h
  split at h
  · rename_i hd
    have hf : P.underlying t = some .string := hΓ.und hd
    split at h
    · rename_i s
      refine ⟨_, h, fun w L v ts ty hw hv => ?_⟩
      obtain ⟨rfl, hl⟩ := hv
      exact ⟨.int .i64 (s.length : Int), by simp [Builtin.len_, run_underlying hf, goInt]; rfl, ⟨rfl, len_range hl⟩⟩
    · exact h.elim
  · rename_i e hd
    have hf : P.underlying t = some (.slice e) := hΓ.und hd
    have key : ∀ (w : World) (a : Option Addr) (len cap : Nat) (ty : TypeId), (Builtin.len_ #[t] ty #[.slice a len cap]).run P w = .ok (.int .i64 (len : Int)) w := by
      intro w a len cap ty
      simp [Builtin.len_, run_underlying hf, goInt]
    split at h
    · refine ⟨_, h, fun w L v ts ty hw hv => ⟨_, by rw [show v = .slice none 0 0 from hv]; exact key w _ _ _ ty, ⟨rfl, by decide⟩⟩⟩
    · rename_i nm base st off len
      refine ⟨_, liveK.out h, fun w L v ts ty hw hv => ?_⟩
      obtain ⟨_, b, hb⟩ := hw.of_live h
      simp only [repF, repS, rep, hb] at hv
      obtain ⟨cap, o, rfl, g1, g2, _⟩ := hv
      exact ⟨_, key w _ _ _ ty, ⟨rfl, len_range (Nat.le_trans g1 g2)⟩⟩
    · refine ⟨_, h, fun w L v ts ty hw hv => ?_⟩
      obtain ⟨a, cap, rfl, hl⟩ := roRep_len hv
      exact ⟨_, key w _ _ _ ty, ⟨rfl, len_range hl⟩⟩
    · refine ⟨_, h, fun w L v ts ty hw hv => ?_⟩
      obtain ⟨a, cap, rfl, hl⟩ := roRep_len hv
      exact ⟨_, key w _ _ _ ty, ⟨rfl, len_range hl⟩⟩
    · exact h.elim
  · exact h.elim

def minmaxK (isMax : Bool) (x y : FV) (K : FV → Prop) : Prop :=
  match x, y with
  | .s (.lf (.int k a)), .s (.lf (.int k' b)) => (match decide (k = k') with
    | true => (match isMax with | true => K (.s (.lf (.int k (max a b)))) | false => K (.s (.lf (.int k (min a b)))))
    | false => False)
  | _, _ => False

theorem minmaxK_sound {m : Bool} {x y : FV} {K : FV → Prop} (h : minmaxK m x y K) :
    ∃ r, K r ∧ ∀ (P : Program) (w : World) (L : NM) (v u : Value) (ts : Array TypeId) (ty : TypeId), repF w L x v → repF w L y u →
      ∃ rv, ((match m with | true => Builtin.max_ ts ty #[v, u] | false => Builtin.min_ ts ty #[v, u])).run P w = .ok rv w ∧ repF w L r rv := by
  unfold minmaxK at h
  split at h
  · rename_i k a k' b
    split at h
    · rename_i hk
      have hk := of_decide_eq_true hk
      subst hk
      split at h
      · refine ⟨_, h, fun P w L v u ts ty hv hu => ?_⟩
        obtain ⟨rfl, hv⟩ := hv
        obtain ⟨rfl, hu⟩ := hu
        refine ⟨.int k (max a b), ?_, ⟨rfl, by omega⟩⟩
        simp only [Builtin.max_, List.foldlM, Builtin.max2]
        simp
        omega
      · refine ⟨_, h, fun P w L v u ts ty hv hu => ?_⟩
        obtain ⟨rfl, hv⟩ := hv
        obtain ⟨rfl, hu⟩ := hu
        refine ⟨.int k (min a b), ?_, ⟨rfl, by omega⟩⟩
        simp only [Builtin.min_, List.foldlM, Builtin.min2]
        simp
        omega
    · exact h.elim
  · exact h.elim

end Go.Sym

set_option linter.unusedVariables false
set_option linter.unusedSimpArgs false
namespace Go.Sym
open Go

variable {P : Program} {Γ : Tab}

/-! ### What a slice of bytes, or a text, holds -/
def srcS (x : FV) (H : Hp) (K : List UInt8 → Prop) : Prop :=
  match x with
  | .s (.lf .sl0) => K []
  | .s (.lf (.rob _ _ xs)) => K xs
  | .s (.lf (.own nm base st off len)) => (match hget H nm with
    | some ob => rowK ob.segs base fun s => (match s with
      | .bytes n xs => (match Nat.beq st 1 with
        | true => (off + len ≤ n ∧ off + len ≤ xs.length) ∧ K ((xs.drop off).take len)
        | false => False)
      | _ => False)
    | none => False)
  | _ => False

/-- A slice whose bytes these are. -/
def BytesOf (w : World) (v : Value) (xs : List UInt8) : Prop :=
  ∃ a cap, v = .slice a xs.length cap ∧ xs.length ≤ cap ∧ cap ≤ maxLen ∧
    ((xs = [] ∧ (a = none → cap = 0)) ∨ ∃ ad, a = some ad ∧ ad.spot = none ∧ ∀ i, i < xs.length → w.cell? ⟨ad.block, ad.off + i, none⟩ = some (.int .u8 ((xs.getD i 0).toNat : Int)))

theorem srcS_sound {x : FV} {H : Hp} {K : List UInt8 → Prop} (h : srcS x H K) :
    ∃ xs, K xs ∧ ∀ (w : World) (L : NM) (v : Value), HRep w L H → repF w L x v → BytesOf w v xs := by
  unfold srcS at h
  split at h
  · exact ⟨_, h, fun w L v hw hv => ⟨none, 0, hv, Nat.le_refl _, Nat.zero_le _, .inl ⟨rfl, fun _ => rfl⟩⟩⟩
  · rename_i nn cl xs
    refine ⟨_, h, fun w L v hw hv => ?_⟩
    rcases hv with ⟨_, h1, rfl⟩ | ⟨a, cap, rfl, h1, h2, h3, h4, h5⟩
    · have : xs = [] := List.eq_nil_of_length_eq_zero h1
      subst this
      exact ⟨none, 0, rfl, Nat.le_refl _, Nat.zero_le _, .inl ⟨rfl, fun _ => rfl⟩⟩
    · refine ⟨_, cap, rfl, h1, h2, ?_⟩
      rcases Nat.eq_zero_or_pos xs.length with h0 | h0
      · exact .inl ⟨List.eq_nil_of_length_eq_zero h0, fun e => by simp at e⟩
      · refine .inr ⟨a, rfl, (h4 h0).1, fun i hi => ?_⟩
        obtain ⟨c, k1, k2, k3⟩ := h5 i hi 0 (by omega)
        simp only [Nat.mul_one, Nat.add_zero] at k1
        rw [k1, k3]
  · rename_i nm base st off len
    split at h
    · rename_i ob hob
      obtain ⟨p, s, q, e1, e2, h'⟩ := rowK_sound h
      clear h
      split at h'
      · rename_i n xs
        split at h'
        · rename_i hs
          have hs := beq_true hs
          subst hs
          obtain ⟨⟨h0, h1⟩, hK⟩ := h'
          refine ⟨_, hK, fun w L v hw hv => ?_⟩
          obtain ⟨b, c, fz, f1, f2, f3, f4, f5⟩ := hw.live nm ob (hget_some hob)
          simp only [repF, repS, rep, f1] at hv
          obtain ⟨cap, o, rfl, g1, g2, g3⟩ := hv
          have hlen : ((xs.drop off).take len).length = len := by simp; omega
          refine ⟨_, cap, by rw [hlen], by rw [hlen]; omega, g2, ?_⟩
          rcases Nat.eq_zero_or_pos len with hl | hl
          · subst hl
            exact .inl ⟨by simp, fun e => by simp at e⟩
          · refine .inr ⟨_, rfl, rfl, fun i hi => ?_⟩
            rw [hlen] at hi
            obtain ⟨ho, _⟩ := g3 (by omega)
            subst ho
            have hlt : off + i < (Seg.bytes n xs).width := by simp only [Seg.width]; omega
            have := f5 (base + (off + i)) (by rw [e1, ← e2]; exact tot_mid hlt)
            rw [e1, ← e2, cellD_mid hlt] at this
            obtain ⟨y, k1, k2, k3⟩ := this
            simp only [cell_of_block f2]
            rw [show base + off * 1 + i = tot p + (off + i) by omega, k1, k3.1]
            congr 4
            simp only [List.getD_eq_getElem?_getD, List.getElem?_take, List.getElem?_drop, hi, if_true]
        · exact h'.elim
      · exact h'.elim
    · exact h.elim
  · exact h.elim

/-- The bytes of a slice or a text. -/
def srcB (x : FV) (H : Hp) (K : List UInt8 → Prop) : Prop :=
  match x with
  | .s (.lf (.str s)) => K s
  | x => srcS x H K

theorem srcB_sound {x : FV} {H : Hp} {K : List UInt8 → Prop} (h : srcB x H K) :
    ∃ xs, K xs ∧ ∀ (w : World) (L : NM) (v : Value), HRep w L H → repF w L x v → BytesOf w v xs ∨ (v = .string ⟨xs.toArray⟩ ∧ xs.length ≤ maxLen) := by
  unfold srcB at h
  split at h
  · exact ⟨_, h, fun w L v hw hv => .inr hv⟩
  · obtain ⟨xs, h1, h2⟩ := srcS_sound h
    exact ⟨xs, h1, fun w L v hw hv => .inl (h2 w L v hw hv)⟩

theorem BytesOf.load {w : World} {ad : Addr} {xs : List UInt8} (hs : ad.spot = none) (h : ∀ i, i < xs.length → w.cell? ⟨ad.block, ad.off + i, none⟩ = some (.int .u8 ((xs.getD i 0).toNat : Int))) :
    (loadCells ad xs.length).run P w = .ok ((xs.map fun b => (b.toNat : Int)).map (Value.int .u8)).toArray w := by
  have := run_loadCells_list (P := P) w ad ((xs.map fun b => (b.toNat : Int)).map (Value.int .u8)) (by
    intro j v hj
    have hlt : j < xs.length := by
      rcases Nat.lt_or_ge j xs.length with h' | h'
      · exact h'
      · rw [List.getElem?_eq_none (by simpa using h')] at hj; simp at hj
    rw [add_none hs, h j hlt]
    simp only [List.getElem?_map, List.getElem?_eq_getElem hlt, Option.map_some, Option.some.injEq] at hj
    rw [← hj, List.getD_eq_getElem?_getD, List.getElem?_eq_getElem hlt]; rfl)
  simpa using this

theorem foldl_push (xs : List UInt8) (acc : ByteArray) : (xs.map fun b => (b.toNat : Int)).foldl (fun r n => r.push (UInt8.ofNat n.toNat)) acc = ⟨acc.data ++ xs.toArray⟩ := by
  induction xs generalizing acc with
  | nil => simp
  | cons x l ih =>
    simp only [List.map_cons, List.foldl_cons]
    rw [ih]
    congr 1
    simp [ByteArray.push]

theorem BytesOf.str {w : World} {v : Value} {xs : List UInt8} (h : BytesOf w v xs) : (Conv.bytesToString v).run P w = .ok (.string ⟨xs.toArray⟩) w := by
  obtain ⟨a, cap, rfl, h1, h2, h3⟩ := h
  rcases h3 with ⟨rfl, _⟩ | ⟨ad, rfl, hsp, hc⟩
  · cases a with
    | none => rfl
    | some ad =>
      have := run_bytesToString (P := P) w ad 0 cap [] (by simp [loadCells, loadCellsFrom])
      exact this
  · have := run_bytesToString (P := P) w ad xs.length cap (xs.map fun b => (b.toNat : Int)) (BytesOf.load hsp hc)
    rw [this, foldl_push]
    simp [ByteArray.empty, ByteArray.emptyWithCapacity]
    rfl

/-! ### Conversions -/
def convK (Γ : Tab) (src dst : TypeId) (x : FV) (H : Hp) (K : FV → Hp → Prop) : Prop :=
  match (tget Γ src).d.isOther with
  | true => False
  | false => (match (tget Γ dst).d with
    | .int k => (match x with | .s (.lf (.int _ n)) => K (.s (.lf (.int k (k.wrap n)))) H | _ => False)
    | .str => (match (tget Γ src).d with
      | .str => (match x with | .s (.lf (.str s)) => K (.s (.lf (.str s))) H | _ => False)
      | .slice e => (match (tget Γ e).d with
        | .int .u8 => srcS x H fun s => K (.s (.lf (.str s))) H
        | _ => False)
      | _ => False)
    | .slice e => (match (tget Γ e).d with
      | .int .u8 => (match x with
        | .s (.lf (.str s)) =>
          (litK H.length fun nm => hpushK H (some ⟨e, [.bytes s.length s]⟩) fun H' => K (.s (.lf (.own nm 0 1 0 s.length))) H') ∨ K (.s (.lf (.rob true false s))) H
        | .s (.lf (.own nm base st off len)) => (match Nat.beq src dst with
          | true => liveK H nm (K (.s (.lf (.own nm base st off len))) H)
          | false => False)
        | _ => False)
      | _ => False)
    | _ => False)

theorem und_any (hΓ : TOK P Γ) {t : TypeId} (h : (tget Γ t).d.isOther = false) (w : World) : ∃ d, P.underlying t = some d ∧ (underlying t).run P w = .ok d w := by
  have hf := (hΓ t).fits
  cases hd : (tget Γ t).d <;> rw [hd] at hf h <;> (try (simp [TD.isOther] at h; done))
  case bstruct fs => obtain ⟨fields, h1, _⟩ := hf; exact ⟨_, h1, run_underlying h1 w⟩
  case struct fs => obtain ⟨fields, h1, _⟩ := hf; exact ⟨_, h1, run_underlying h1 w⟩
  case iface => obtain ⟨ms, h1⟩ := hf; exact ⟨_, h1, run_underlying h1 w⟩
  case func => obtain ⟨a, b, c, h1⟩ := hf; exact ⟨_, h1, run_underlying h1 w⟩
  all_goals exact ⟨_, hf, run_underlying hf w⟩

/-- The world behind a conversion of a text to bytes. -/
theorem run_stringToBytes {e : TypeId} (s : List UInt8) (hs : s.length ≤ maxLen) (w : World) :
    ∃ cap fz, s.length ≤ cap ∧ cap ≤ maxLen ∧ fz = (cap, cap + 1) ∧
      (Conv.stringToBytes e ⟨s.toArray⟩).run P w = .ok (.slice (some ⟨w.heap.size, 0, none⟩) s.length cap)
        (w.drew.alloc (.cells ((s.toArray.map fun b => Value.int .u8 b.toNat) ++ Array.replicate (cap - s.length) (.int .u8 0)) e fz)) := by
  have hlt := Nat.mod_lt (w.tape w.drawn (.appendCap s.length 0 e)) (show 0 < 2 ^ 63 - s.length by unfold maxLen at hs; omega)
  refine ⟨s.length + w.tape w.drawn (.appendCap s.length 0 e) % (2 ^ 63 - s.length), _, by omega, by unfold maxLen at *; omega, rfl, ?_⟩
  simp only [Conv.stringToBytes, Sem.run_bind, run_choose, Question.forced, Bool.false_eq_true, if_false, Result.andThen_ok, Question.cut, ByteArray.size, List.size_toArray,
    newRow, run_newObj, Sem.run_pure, markStringish, run_shape]
  simp only [World.shape?, Array.getElem?_push_size]
  simp only [Sem.run_bind, run_freeze, Result.andThen_ok, Sem.run_pure]
  congr 1
  unfold World.freeze World.alloc World.drew
  simp only [Nat.one_ne_zero, if_false]
  congr 1
  apply Array.ext
  · simp
  · intro i h1 h2
    rw [Array.getElem_modify]
    simp only [Array.getElem_push]
    by_cases hi : i < w.heap.size
    · rw [if_neg (by omega)]; simp [hi]
    · have : i = w.heap.size := by simp at h1; omega
      subst this
      simp

theorem bytes_row {w : World} {L : NM} (s : List UInt8) (z : List Value) : repA w L [.bytes s.length s] ((s.toArray.map fun b => Value.int .u8 b.toNat) ++ z.toArray) := by
  intro o ho
  simp only [tot, Seg.width, Nat.add_zero] at ho
  refine ⟨.int .u8 ((s.getD o 0).toNat : Int), ?_, rfl, ?_⟩
  · rw [Array.getElem?_append_left (by simpa using ho)]
    simp [List.getD_eq_getElem?_getD, List.getElem?_eq_getElem ho]
  · simp only [cellD, Seg.width, ho, if_true, Seg.at]
    exact ⟨rfl, u8_range _⟩

/-- A row of the call's own of which what lies behind it is frozen. -/
theorem HRep.refreeze {w : World} {L : NM} {H : Hp} (h : HRep w L H) {nm b : Nat} {ob : OB} (hH : H[nm]? = some (some ob)) (hL : L nm = some (some b)) {c : Array Value} {ty : TypeId} {fz : Nat × Nat} (hb : w.heap[b]? = some (.cells c ty fz)) :
    HRep (w.freeze ⟨b, c.size, none⟩ 1) L H ∧ Ev w L (w.freeze ⟨b, c.size, none⟩ 1) L := by
  have hlt : b < w.heap.size := (Array.getElem?_eq_some_iff.1 hb).1
  have hne : ∀ k, k ≠ b → (w.freeze ⟨b, c.size, none⟩ 1).heap[k]? = w.heap[k]? := by
    intro k hk
    simp only [World.freeze, Nat.one_ne_zero, if_false, Array.getElem?_modify]
    rw [if_neg (fun e => hk e.symm)]
  have heq : ∃ fz', (w.freeze ⟨b, c.size, none⟩ 1).heap[b]? = some (.cells c ty fz') ∧ (FzOK fz c.size → FzOK fz' c.size) := by
    simp only [World.freeze, Nat.one_ne_zero, if_false, Array.getElem?_modify, if_pos, hb, Option.map_some]
    obtain ⟨lo, hi⟩ := fz
    refine ⟨_, rfl, fun hf => ?_⟩
    unfold FzOK at hf ⊢
    simp only [beq_iff_eq] at hf ⊢
    right
    split
    · exact Nat.le_refl _
    · simp only []; omega
  obtain ⟨fz', h1, h2⟩ := heq
  have hev : Ev w L (w.freeze ⟨b, c.size, none⟩ 1) L := by
    refine ⟨by simp [World.freeze], by simp [World.freeze], by simp [World.freeze], by simp [World.freeze], fun k hk hn => ?_, fun _ _ => .inr rfl, fun _ hk => .inl hk, fun k b' k1 k2 c' t z hc => ?_, rfl⟩
    · exact hne k fun e => hn ⟨nm, by rw [e]; exact hL⟩
    · by_cases e : b' = b
      · subst e
        rw [hb] at hc
        cases hc
        exact ⟨c, fz', h1, rfl⟩
      · exact ⟨c', z, by rw [hne b' e]; exact hc, rfl⟩
  refine ⟨⟨h.unused, h.dead, fun k ob' hk => ?_, h.inj, fun b' hb' => ?_⟩, hev⟩
  · obtain ⟨b', c', z, k1, k2, k3, k4, k5⟩ := h.live k ob' hk
    by_cases e : b' = b
    · subst e
      rw [hb] at k2
      cases k2
      exact ⟨b', c, fz', k1, h1, h2 k3, k4, k5.mono hev⟩
    · exact ⟨b', c', z, k1, by rw [hne b' e]; exact k2, k3, k4, k5.mono hev⟩
  · have := h.far b' hb'
    exact ⟨Nat.lt_of_lt_of_le this.1 hev.size, this.2⟩

theorem convK_sound (hΓ : TOK P Γ) {o : Oper} {src dst : TypeId} {x : Operand} (ho : o.op = .convert src dst x) {vs : Operand → FV} {H : Hp} {K : FV → Hp → Prop} (h : convK Γ src dst (vs x) H K) : Outc P o vs H K := by
  have hmem : x ∈ o.op.operands.toList := by rw [ho]; simp [Op.operands]
  unfold convK at h
  split at h
  · exact h.elim
  rename_i hno
  split at h
  · rename_i k hd
    have hf : P.underlying dst = some (.int k) := hΓ.und hd
    split at h
    · rename_i k' n hx
      refine ⟨_, _, .pure fun w L a hw hv => ?_, h⟩
      have := hv x hmem
      rw [hx] at this
      obtain ⟨e, _⟩ := this
      obtain ⟨d, _, hs⟩ := und_any hΓ hno w
      refine ⟨.int k (k.wrap n), ?_, ⟨rfl, wrap_range k n⟩⟩
      simp only [execOp, ho, convert, Sem.run_bind, hs, Result.andThen_ok, run_underlying hf, e]
      cases d <;> simp [Conv.intToInt]
    · exact h.elim
  · rename_i hd
    have hf : P.underlying dst = some .string := hΓ.und hd
    split at h
    · rename_i hs
      have hfs : P.underlying src = some .string := hΓ.und hs
      split at h
      · rename_i s hx
        refine ⟨_, _, .pure fun w L a hw hv => ?_, h⟩
        have := hv x hmem
        rw [hx] at this
        obtain ⟨e, hl⟩ := this
        exact ⟨_, by simp only [execOp, ho, convert, Sem.run_bind, run_underlying hfs, run_underlying hf, Result.andThen_ok, e, Sem.run_pure], ⟨rfl, hl⟩⟩
      · exact h.elim
    · rename_i e hs
      have hfs : P.underlying src = some (.slice e) := hΓ.und hs
      split at h
      · rename_i he
        have hfe : P.underlying e = some (.int .u8) := hΓ.und he
        obtain ⟨xs, hK, hb⟩ := srcS_sound h
        refine ⟨_, _, .pure fun w L a hw hv => ?_, hK⟩
        have hB := hb w L _ hw (hv x hmem)
        have hrun := hB.str (P := P)
        obtain ⟨ad, cap, e1, h1, h2, _⟩ := hB
        rw [e1] at hrun
        refine ⟨.string ⟨xs.toArray⟩, ?_, ⟨rfl, Nat.le_trans h1 h2⟩⟩
        simp [execOp, ho, convert, run_underlying hfs, run_underlying hf, e1, run_underlying hfe, hrun]
      · exact h.elim
    · exact h.elim
  · rename_i e hd
    have hf : P.underlying dst = some (.slice e) := hΓ.und hd
    split at h
    · rename_i he
      have hfe : P.underlying e = some (.int .u8) := hΓ.und he
      split at h
      · rename_i s hx
        have hrun : ∀ (w : World) (a : Act), a.eval x = .string ⟨s.toArray⟩ → ∀ v w', (Conv.stringToBytes e ⟨s.toArray⟩).run P w = .ok v w' → (execOp a.eval o).run P w = .ok (.value v) w' := by
          intro w a hev v w' hr
          obtain ⟨d, _, hs⟩ := und_any hΓ hno w
          simp only [execOp, ho, convert, Sem.run_bind, hs, Result.andThen_ok, run_underlying hf, hev]
          cases d <;> simp [run_underlying hfe, hr]
        rcases h with h | h
        · rw [litK_eq] at h
          refine ⟨_, _, .of_val fun w L a hw hv => ?_, hpushK_out h⟩
          have hxv := hv x hmem
          rw [hx] at hxv
          obtain ⟨ev, hl⟩ := hxv
          obtain ⟨cap, fz, h1, h2, h3, h4⟩ := run_stringToBytes (P := P) (e := e) s hl w
          have hr := bytes_row (w := w.drew) (L := L) s (List.replicate (cap - s.length) (.int .u8 0))
          obtain ⟨k1, k2⟩ := hw.drew.alloc ⟨e, [.bytes s.length s]⟩ ((s.toArray.map fun b => Value.int .u8 b.toNat) ++ Array.replicate (cap - s.length) (.int .u8 0)) fz
            (by subst h3; refine .inr ?_; simp; omega) (by simp [tot, Seg.width]) (by simpa using hr)
          refine ⟨_, _, _, hrun w a ev _ _ h4, k1, ?_, (Ev.drew w L).trans k2⟩
          simp only [repF, repS, rep, NM.with, if_true]
          refine ⟨cap, 0, rfl, h1, h2, fun _ => ⟨rfl, _, _, _, heap_alloc_new' w.drew _, ?_⟩⟩
          simp; omega
        · refine ⟨_, _, .of_val fun w L a hw hv => ?_, h⟩
          have hxv := hv x hmem
          rw [hx] at hxv
          obtain ⟨ev, hl⟩ := hxv
          obtain ⟨cap, fz, h1, h2, h3, h4⟩ := run_stringToBytes (P := P) (e := e) s hl w
          have hr := bytes_row (w := w.drew) (L := L) s (List.replicate (cap - s.length) (.int .u8 0))
          obtain ⟨k1, k2⟩ := hw.drew.alloc_free (.cells ((s.toArray.map fun b => Value.int .u8 b.toNat) ++ Array.replicate (cap - s.length) (.int .u8 0)) e fz)
          refine ⟨_, _, _, hrun w a ev _ _ h4, k1, ?_, (Ev.drew w L).trans k2⟩
          refine .inr ⟨_, cap, rfl, h1, h2, fun e => by simp at e, fun _ => ⟨rfl, ?_⟩, fun i hi j hj => ?_⟩
          · exact ⟨by simp, hw.drew.not_has (Nat.le_refl _), hw.drew.not_X (Nat.le_refl _)⟩
          · have : j = 0 := by omega
            subst this
            obtain ⟨y, g1, g2, g3⟩ := hr i (by simpa [tot, Seg.width] using hi)
            simp only [cellD, Seg.width, hi, if_true, Seg.at] at g3
            refine ⟨y, ?_, g2, g3.1⟩
            refine (cell_of_block (heap_alloc_new' w.drew _) _).trans ?_
            simpa using g1
      · rename_i nm base st off len hx
        split at h
        · rename_i hsd
          have hsd := beq_true hsd
          subst hsd
          have hk := h.out
          obtain ⟨ob, hob⟩ : ∃ ob, hget H nm = some ob := by
            unfold liveK at h
            split at h
            · rename_i ob hob; exact ⟨ob, hob⟩
            · exact h.elim
          refine ⟨_, _, .of_val fun w L a hw hv => ?_, hk⟩
          have hxv := hv x hmem
          rw [hx] at hxv
          have hxv' := hxv
          obtain ⟨b, c, fz, f1, f2, f3, f4, f5⟩ := hw.live nm ob (hget_some hob)
          simp only [repF, repS, rep, f1] at hxv
          obtain ⟨cap, oo, ev, g1, g2, g3⟩ := hxv
          obtain ⟨k1, k2⟩ := hw.refreeze (hget_some hob) f1 f2
          refine ⟨.slice (some ⟨b, oo, none⟩) len cap, w.freeze ⟨b, c.size, none⟩ 1, L, ?_, k1, ?_, k2⟩
          · have hsh : w.shape? b = some (ob.ty, c.size) := by simp only [World.shape?, f2]
            simp [execOp, ho, convert, run_underlying hf, ev, run_underlying hfe, markStringish, hsh]
          · exact repF.mono k2 (by rw [← ev]; exact hxv')
        · exact h.elim
      · exact h.elim
    · exact h.elim
  · exact h.elim

end Go.Sym

set_option linter.unusedVariables false
set_option linter.unusedSimpArgs false
namespace Go.Sym
open Go

variable {P : Program} {Γ : Tab}

/-! ### Rows of elements -/
def RowRep (w : World) (L : NM) (rd : Nat → Option Value) (st m : Nat) (g : Nat → Nat → LV) : Prop :=
  ∀ i, i < m → ∀ j, j < st → ∃ y, rd (i * st + j) = some y ∧ y.oneCell' = true ∧ rep w L (g i j) y

theorem divmod_lt {k m st : Nat} (h : k < m * st) : k / st < m ∧ k % st < st ∧ k / st * st + k % st = k := by
  have hst : 0 < st := by
    rcases Nat.eq_zero_or_pos st with e | e
    · subst e; simp at h
    · exact e
  exact ⟨(Nat.div_lt_iff_lt_mul hst).2 h, Nat.mod_lt _ hst, by rw [Nat.mul_comm]; exact Nat.div_add_mod k st⟩

theorem RowRep.gather {w : World} {L : NM} {rd : Nat → Option Value} {st m : Nat} {g : Nat → Nat → LV} (h : RowRep w L rd st m g) :
    ∃ news : List Value, news.length = m * st ∧ RowRep w L (fun k => news[k]?) st m g ∧ ∀ j v, news[j]? = some v → rd j = some v := by
  have hk : ∀ k, k < m * st → ∃ y, rd k = some y ∧ y.oneCell' = true := by
    intro k hk
    obtain ⟨h1, h2, h3⟩ := divmod_lt hk
    obtain ⟨y, k1, k2, _⟩ := h _ h1 _ h2
    rw [h3] at k1
    exact ⟨y, k1, k2⟩
  refine ⟨(List.range (m * st)).map fun k => (rd k).getD undef, by simp, ?_, ?_⟩
  · intro i hi j hj
    obtain ⟨y, k1, k2, k3⟩ := h i hi j hj
    have := mul_lt_of hi hj
    exact ⟨y, by simp [this, k1], k2, k3⟩
  · intro j v hj
    have hlt : j < m * st := by
      rcases Nat.lt_or_ge j (m * st) with h' | h'
      · exact h'
      · rw [List.getElem?_eq_none (by simpa using h')] at hj; simp at hj
    obtain ⟨y, h1, h2⟩ := hk j hlt
    simp [hlt, h1] at hj
    rw [h1, hj]

theorem RowRep.oneCell {w : World} {L : NM} {news : List Value} {st m : Nat} {g : Nat → Nat → LV} (h : RowRep w L (fun k => news[k]?) st m g) (hl : news.length = m * st) : ∀ v ∈ news, v.oneCell' = true := by
  intro v hv
  obtain ⟨k, hk, e⟩ := List.getElem_of_mem hv
  rw [hl] at hk
  obtain ⟨h1, h2, h3⟩ := divmod_lt hk
  obtain ⟨y, k1, k2, _⟩ := h _ h1 _ h2
  simp only [h3] at k1
  rw [List.getElem?_eq_getElem (by omega)] at k1
  simp at k1
  rw [← e, k1]; exact k2

structure Src (P : Program) (w : World) (L : NM) (v : Value) (st m : Nat) (news : List Value) (g : Nat → Nat → LV) : Prop where
  len : news.length = m * st
  row : RowRep w L (fun k => news[k]?) st m g
  le : m ≤ maxLen
  lenOf : ∀ w', (Builtin.lenOf v).run P w' = .ok m w'
  firsts : ∀ (w' : World) (k : Nat), w'.heap = w.heap → k ≤ m → (Builtin.firstCells st k v).run P w' = .ok (news.take (k * st)).toArray w'

theorem Src.first {P : Program} {w : World} {L : NM} {v : Value} {st m : Nat} {news : List Value} {g : Nat → Nat → LV} (h : Src P w L v st m news g) (w' : World) (hw : w'.heap = w.heap) :
    (Builtin.firstCells st m v).run P w' = .ok news.toArray w' := by
  have := h.firsts w' m hw (Nat.le_refl _)
  rw [← h.len, List.take_length] at this
  exact this

theorem cell_of_heaps {w w' : World} (h : w'.heap = w.heap) (a : Addr) : w'.cell? a = w.cell? a := by
  unfold World.cell?; rw [h]

/-- A slice that can be read. -/
theorem Src.of_slice {w : World} {L : NM} {a : Option Addr} {st m cap : Nat} {g : Nat → Nat → LV} (h1 : m ≤ maxLen)
    (h : m = 0 ∨ ∃ ad, a = some ad ∧ ad.spot = none ∧ RowRep w L (fun k => w.cell? ⟨ad.block, ad.off + k, none⟩) st m g) : ∃ news, Src P w L (.slice a m cap) st m news g := by
  rcases h with rfl | ⟨ad, rfl, hs, hr⟩
  · refine ⟨[], by simp, fun i hi => by omega, h1, fun w' => rfl, fun w' k _ hk => ?_⟩
    have : k = 0 := by omega
    subst this
    cases a <;> simp [Builtin.firstCells, loadCells, loadCellsFrom]
  · obtain ⟨news, n1, n2, n3⟩ := hr.gather
    refine ⟨news, n1, n2, h1, fun w' => rfl, fun w' k hw hk => ?_⟩
    have hle : k * st ≤ m * st := Nat.mul_le_mul_right _ hk
    exact run_firstCells_some w' st k ad m cap (news.take (k * st)) (by rw [List.length_take, n1]; omega) (fun j v hj => by
      rw [cell_of_heaps hw, add_none hs]
      refine n3 j v ?_
      rw [List.getElem?_take] at hj
      split at hj
      · exact hj
      · simp at hj)

def segRow (s : Seg) (st off len : Nat) (K : (Nat → Nat → LV) → Prop) : Prop :=
  match s with
  | .recs st' n f => (match Nat.beq st st' with | true => off + len ≤ n ∧ K (fun i j => f (off + i) j) | false => False)
  | .ints k n xs => (match Nat.beq st 1 with | true => off + len ≤ n ∧ K (fun i _ => .int k (xs.getD (off + i) 0)) | false => False)
  | .bytes n xs => (match Nat.beq st 1 with | true => off + len ≤ n ∧ K (fun i _ => .int .u8 ((xs.getD (off + i) 0).toNat : Int)) | false => False)
  | .one _ => False

theorem segRow_sound {s : Seg} {st off len : Nat} {K : (Nat → Nat → LV) → Prop} (h : segRow s st off len K) :
    ∃ g, K g ∧ ∀ i, i < len → ∀ j, j < st → off * st + (i * st + j) < s.width ∧ s.at (off * st + (i * st + j)) = g i j := by
  unfold segRow at h
  split at h
  · split at h
    · rename_i st' n f hs
      have hs := beq_true hs
      subst hs
      refine ⟨_, h.2, fun i hi j hj => ?_⟩
      rw [← Nat.add_assoc, ← Nat.add_mul]
      refine ⟨mul_lt_of (by omega) hj, ?_⟩
      simp only [Seg.at]
      rw [show ((off + i) * st + j) / st = off + i by rw [Nat.mul_comm, Nat.mul_add_div (by omega), Nat.div_eq_of_lt hj]; rfl, show ((off + i) * st + j) % st = j by rw [Nat.mul_comm, Nat.mul_add_mod, Nat.mod_eq_of_lt hj]]
    · exact h.elim
  · split at h
    · rename_i k n xs hs
      have hs := beq_true hs
      subst hs
      refine ⟨_, h.2, fun i hi j hj => ?_⟩
      have : j = 0 := by omega
      subst this
      simp only [Seg.width, Seg.at, Nat.mul_one, Nat.add_zero]
      exact ⟨by omega, trivial⟩
    · exact h.elim
  · split at h
    · rename_i n xs hs
      have hs := beq_true hs
      subst hs
      refine ⟨_, h.2, fun i hi j hj => ?_⟩
      have : j = 0 := by omega
      subst this
      simp only [Seg.width, Seg.at, Nat.mul_one, Nat.add_zero]
      exact ⟨by omega, trivial⟩
    · exact h.elim
  · exact h.elim

def srcR (st : Nat) (x : FV) (H : Hp) (K : Nat → (Nat → Nat → LV) → Prop) : Prop :=
  match x with
  | .s (.lf .sl0) => K 0 fun _ _ => .any
  | .s (.lf (.ro _ _ st' len f)) => (match Nat.beq st st' with | true => K len f | false => False)
  | .s (.lf (.rob _ _ xs)) => (match Nat.beq st 1 with | true => K xs.length fun i _ => .int .u8 ((xs.getD i 0).toNat : Int) | false => False)
  | .s (.lf (.own nm base st' off len)) => (match Nat.beq st st', hget H nm with
    | true, some ob => rowK ob.segs base fun s => segRow s st off len fun g => K len g
    | _, _ => False)
  | _ => False

theorem roRep_src {w : World} {L : NM} {nn cl : Bool} {st len : Nat} {p : Nat → Nat → Value → Prop} {v : Value} {g : Nat → Nat → LV} (h : roRep w L nn cl st len p v) (hp : ∀ i j c, i < len → j < st → p i j c → rep w L (g i j) c) :
    ∃ news, Src P w L v st len news g := by
  rcases h with ⟨_, rfl, rfl⟩ | ⟨a, cap, rfl, h1, h2, h3, h4, h5⟩
  · exact Src.of_slice (Nat.zero_le _) (.inl rfl)
  · refine Src.of_slice (Nat.le_trans h1 h2) ?_
    rcases Nat.eq_zero_or_pos len with h0 | h0
    · exact .inl h0
    · refine .inr ⟨a, rfl, (h4 h0).1, fun i hi j hj => ?_⟩
      obtain ⟨c, k1, k2, k3⟩ := h5 i hi j hj
      exact ⟨c, by simp only [← Nat.add_assoc]; exact k1, k2, hp i j c hi hj k3⟩

theorem srcR_sound {st : Nat} {x : FV} {H : Hp} {K : Nat → (Nat → Nat → LV) → Prop} (h : srcR st x H K) :
    ∃ m g, K m g ∧ ∀ (P : Program) (w : World) (L : NM) (v : Value), HRep w L H → repF w L x v → ∃ news, Src P w L v st m news g := by
  unfold srcR at h
  split at h
  · exact ⟨_, _, h, fun P w L v hw hv => by rw [show v = .slice none 0 0 from hv]; exact Src.of_slice (Nat.zero_le _) (.inl rfl)⟩
  · split at h
    · rename_i hs
      have hs := beq_true hs
      subst hs
      exact ⟨_, _, h, fun P w L v hw hv => roRep_src hv (fun i j c _ _ hc => hc)⟩
    · exact h.elim
  · split at h
    · rename_i hs
      have hs := beq_true hs
      subst hs
      exact ⟨_, _, h, fun P w L v hw hv => roRep_src hv (fun i j c _ _ hc => by rw [hc]; exact ⟨rfl, u8_range _⟩)⟩
    · exact h.elim
  · rename_i nm base st' off len
    split at h
    · rename_i ob hs hob
      have hs := beq_true hs
      subst hs
      obtain ⟨p, s, q, e1, e2, h'⟩ := rowK_sound h
      clear h
      obtain ⟨g, hK, hg⟩ := segRow_sound h'
      refine ⟨_, _, hK, fun P w L v hw hv => ?_⟩
      obtain ⟨b, c, fz, f1, f2, f3, f4, f5⟩ := hw.live nm ob (hget_some hob)
      simp only [repF, repS, rep, f1] at hv
      obtain ⟨cap, o, rfl, g1, g2, g3⟩ := hv
      refine Src.of_slice (Nat.le_trans g1 g2) ?_
      rcases Nat.eq_zero_or_pos len with h0 | h0
      · exact .inl h0
      · refine .inr ⟨_, rfl, rfl, fun i hi j hj => ?_⟩
        obtain ⟨ho, _⟩ := g3 (by omega)
        subst ho
        obtain ⟨hlt, hat⟩ := hg i hi j hj
        have := f5 (base + (off * st + (i * st + j))) (by rw [e1, ← e2]; exact tot_mid hlt)
        rw [e1, ← e2, cellD_mid hlt, hat] at this
        obtain ⟨y, k1, k2, k3⟩ := this
        exact ⟨y, by simp only [cell_of_block f2]; rw [← e2, Nat.add_assoc]; exact k1, k2, k3⟩
    · exact h.elim
  · exact h.elim

theorem srcB_src {x : FV} {H : Hp} {K : List UInt8 → Prop} (h : srcB x H K) :
    ∃ xs, K xs ∧ ∀ (P : Program) (w : World) (L : NM) (v : Value), HRep w L H → repF w L x v → ∃ news, Src P w L v 1 xs.length news (fun i _ => .int .u8 ((xs.getD i 0).toNat : Int)) := by
  obtain ⟨xs, hK, hb⟩ := srcB_sound h
  refine ⟨xs, hK, fun P w L v hw hv => ?_⟩
  rcases hb w L v hw hv with ⟨a, cap, rfl, h1, h2, h3⟩ | ⟨rfl, hl⟩
  · refine Src.of_slice (Nat.le_trans h1 h2) ?_
    rcases h3 with ⟨rfl, _⟩ | ⟨ad, rfl, hsp, hc⟩
    · exact .inl rfl
    · refine .inr ⟨ad, rfl, hsp, fun i hi j hj => ?_⟩
      have : j = 0 := by omega
      subst this
      exact ⟨.int .u8 ((xs.getD i 0).toNat : Int), by simpa using hc i hi, rfl, ⟨rfl, u8_range _⟩⟩
  · refine ⟨xs.map fun b => .int .u8 (b.toNat : Int), by simp, fun i hi j hj => ?_, hl, fun w' => ?_, fun w' k _ hk => ?_⟩
    · have : j = 0 := by omega
      subst this
      exact ⟨.int .u8 ((xs.getD i 0).toNat : Int), by simp [List.getD_eq_getElem?_getD, List.getElem?_eq_getElem hi], rfl, ⟨rfl, u8_range _⟩⟩
    · simp [Builtin.lenOf, ByteArray.size]
    · simp only [Builtin.firstCells, Sem.run_pure]
      congr 1
      have : (⟨xs.toArray⟩ : ByteArray).extract 0 k = ⟨(xs.take k).toArray⟩ := by
        apply ByteArray.ext
        simp
      rw [this]
      simp [List.map_take]

/-! ### The run of an append -/
section
variable (w : World)

theorem run_append_room' {t xt ty e : TypeId} {i : TypeInfo} (ht : P.underlying t = some (.slice e)) (hi : P.info? e = some i) (hx : (∃ e', P.underlying xt = some (.slice e')) ∨ P.underlying xt = some .string)
    (a : Option Addr) (sLen sCap m : Nat) (x : Value) (news : List Value) (hlen : (Builtin.lenOf x).run P w = .ok m w) (hnew : (Builtin.firstCells i.size m x).run P w = .ok news.toArray w)
    (hroom : sLen + m ≤ sCap) {w' : World} (hst : ∀ ad, a = some ad → (storeCells (ad.add (sLen * i.size)) news).run P w = .ok () w') (hw' : a = none → w' = w) :
    (Builtin.append_ #[t, xt] ty #[.slice a sLen sCap, x]).run P w = .ok (.slice a (sLen + m) sCap) w' := by
  cases a with
  | none =>
    rw [hw' rfl]
    rcases hx with ⟨e', hx⟩ | hx <;> simp [Builtin.append_, run_underlying ht, run_underlying hx, sizeOf, typeInfo, hi, hlen, hroom, hnew]
  | some ad =>
    have := hst ad rfl
    rcases hx with ⟨e', hx⟩ | hx <;> simp [Builtin.append_, run_underlying ht, run_underlying hx, sizeOf, typeInfo, hi, hlen, hroom, hnew, this]

theorem run_append_grow' {t xt ty e : TypeId} {i : TypeInfo} {z : Value} (ht : P.underlying t = some (.slice e)) (hi : P.info? e = some i) (hz : i.zero = some z) (hx : (∃ e', P.underlying xt = some (.slice e')) ∨ P.underlying xt = some .string)
    (a : Option Addr) (sLen sCap m : Nat) (x : Value) (olds news : List Value) (hlen : (Builtin.lenOf x).run P w = .ok m w) (hold : (Builtin.firstCells i.size sLen (.slice a sLen sCap)).run P w.drew = .ok olds.toArray w.drew)
    (hnew : (Builtin.firstCells i.size m x).run P w.drew = .ok news.toArray w.drew) (hg : sCap < sLen + m) (h63 : sLen + m ≤ maxLen) (hfit : (sLen + m) * i.bytes ≤ 140737488355328) :
    (Builtin.append_ #[t, xt] ty #[.slice a sLen sCap, x]).run P w =
      .ok (.slice (some ⟨w.heap.size, 0, none⟩) (sLen + m) (grownCap w (sLen + m) sCap e))
        (w.drew.alloc (.cells (olds.toArray ++ news.toArray ++ Builtin.zeroCells z.cells (grownCap w (sLen + m) sCap e - (sLen + m))) e)) := by
  have hn : ¬ (sLen + m ≤ sCap) := by omega
  have h63' : ¬ (9223372036854775807 < ((sLen : Int) + (m : Int))) := by unfold maxLen at h63; omega
  have h48 := growslice_fits hg hfit
  have h48' : ¬ (281474976710656 < Builtin.nextslicecap (sLen + m) sCap * i.bytes) := by omega
  rcases hx with ⟨e', hx⟩ | hx <;>
    (simp [Builtin.append_, run_underlying ht, run_underlying hx, sizeOf, typeInfo, zeroValue, hi, hz, hlen, hn, h63', h48', Question.forced, hold, hnew, newRow, grownCap]) <;>
    (congr 2; apply Array.ext'; simp [List.append_assoc])
end

end Go.Sym

set_option linter.unusedVariables false
set_option linter.unusedSimpArgs false
namespace Go.Sym
open Go

variable {P : Program} {Γ : Tab}

/-- A row of cells that holds two rows, one behind the other. -/
structure TwoRows (segs : List Seg) (st n m : Nat) (f g : Nat → Nat → LV) : Prop where
  tot : tot segs = (n + m) * st
  one : ∀ i, i < n → ∀ j, j < st → cellD segs (i * st + j) = f i j
  two : ∀ i, i < m → ∀ j, j < st → cellD segs ((n + i) * st + j) = g i j

theorem TwoRows.repA {w : World} {L : NM} {segs : List Seg} {st n m : Nat} {f g : Nat → Nat → LV} (h : TwoRows segs st n m f g) {arr : Array Value} {news : List Value}
    (h1 : RowRep w L (fun k => arr[k]?) st n f) (h2 : RowRep w L (fun k => news[k]?) st m g) (h3 : ∀ k, k < m * st → arr[n * st + k]? = news[k]?) : repA w L segs arr := by
  intro k hk
  rw [h.tot] at hk
  obtain ⟨d1, d2, d3⟩ := divmod_lt hk
  by_cases hlt : k / st < n
  · obtain ⟨y, k1, k2, k3⟩ := h1 _ hlt _ d2
    rw [← h.one _ hlt _ d2, d3] at k3
    simp only [d3] at k1
    exact ⟨y, k1, k2, k3⟩
  · have hi : k / st - n < m := by omega
    obtain ⟨y, k1, k2, k3⟩ := h2 _ hi _ d2
    have := h.two _ hi _ d2
    rw [show n + (k / st - n) = k / st by omega, d3] at this
    rw [← this] at k3
    refine ⟨y, ?_, k2, k3⟩
    have e : k = n * st + ((k / st - n) * st + k % st) := by
      rw [← Nat.add_assoc, ← Nat.add_mul, show n + (k / st - n) = k / st by omega, d3]
    rw [e, h3 _ (mul_lt_of hi d2)]
    exact k1

theorem cut_le_maxLen (w : World) {need old : Nat} {e : TypeId} (h : need ≤ maxLen) : need ≤ grownCap w need old e ∧ grownCap w need old e ≤ maxLen := by
  have hlt := Nat.mod_lt (w.tape w.drawn (.appendCap need old e)) (show 0 < 2 ^ 63 - need by unfold maxLen at h; omega)
  simp only [grownCap, Question.cut]
  unfold maxLen at *
  omega

theorem zeroCells_size (z : Array Value) (n : Nat) : (Builtin.zeroCells z n).size = n * z.size := by simp [Builtin.zeroCells]

/-- An append that makes a new row. -/
theorem app_grow (hΓ : TOK P Γ) {t xt ty e : TypeId} (hd : (tget Γ t).d = .slice e) (hno : (tget Γ e).d.isOther = false) (hst : 0 < (tget Γ e).size)
    (hx : (∃ e', P.underlying xt = some (.slice e')) ∨ P.underlying xt = some .string) {n m : Nat} {f g : Nat → Nat → LV} {segs : List Seg} (h2 : TwoRows segs (tget Γ e).size n m f g)
    (hb : (n + m) * (tget Γ e).bytes ≤ 140737488355328) (hm63 : n + m ≤ maxLen)
    {w : World} {L : NM} {H : Hp} (hw : HRep w L H) {a : Option Addr} {cap : Nat} {x : Value} {olds news : List Value} (ho : Src P w L (.slice a n cap) (tget Γ e).size n olds f) (hs : Src P w L x (tget Γ e).size m news g) (hc : cap < n + m) :
    ∃ rv w' L', (Builtin.append_ #[t, xt] ty #[.slice a n cap, x]).run P w = .ok rv w' ∧ HRep w' L' (H ++ [some ⟨e, segs⟩]) ∧ rep w' L' (.own H.length 0 (tget Γ e).size 0 (n + m)) rv ∧ Ev w L w' L' := by
  obtain ⟨i, z, g1, g2, g3, g4, g5, g6, g7, _⟩ := (hΓ e).info hno
  have ht : P.underlying t = some (.slice e) := hΓ.und hd
  have hrun := run_append_grow' (P := P) w (t := t) (xt := xt) (ty := ty) ht g1 g4 hx a n cap m x olds news (hs.lenOf w) (by rw [g2]; exact ho.first w.drew rfl) (by rw [g2]; exact hs.first w.drew rfl) hc hm63 (by rw [g3]; exact hb)
  obtain ⟨c1, c2⟩ := cut_le_maxLen w (need := n + m) (old := cap) (e := e) hm63
  have hsz : (olds.toArray ++ news.toArray ++ Builtin.zeroCells z.cells (grownCap w (n + m) cap e - (n + m))).size = grownCap w (n + m) cap e * (tget Γ e).size := by
    simp only [Array.size_append, List.size_toArray, ho.len, hs.len, zeroCells_size, g5, g6, ← Nat.add_mul]
    congr 1; omega
  have hle : (n + m) * (tget Γ e).size ≤ grownCap w (n + m) cap e * (tget Γ e).size := Nat.mul_le_mul_right _ c1
  obtain ⟨k1, k2⟩ := hw.drew.alloc ⟨e, segs⟩ (olds.toArray ++ news.toArray ++ Builtin.zeroCells z.cells (grownCap w (n + m) cap e - (n + m))) (0, 0) (.inl rfl)
    (by simp only; rw [h2.tot, hsz]; exact hle) (by
      refine h2.repA (news := news) (fun i hi j hj => ?_) (fun i hi j hj => ?_) (fun k hk => ?_)
      · obtain ⟨y, q1, q2, q3⟩ := ho.row i hi j hj
        have hlt := mul_lt_of hi hj
        refine ⟨y, ?_, q2, rep.mono (Ev.drew w L) _ _ q3⟩
        simp only []
        rw [Array.append_assoc, Array.getElem?_append_left (by simp [ho.len]; exact hlt)]
        simpa using q1
      · obtain ⟨y, q1, q2, q3⟩ := hs.row i hi j hj
        exact ⟨y, q1, q2, rep.mono (Ev.drew w L) _ _ q3⟩
      · rw [Array.append_assoc, Array.getElem?_append_right (by simp [ho.len]), Array.getElem?_append_left (by simp [ho.len, hs.len]; exact hk)]
        simp [ho.len])
  refine ⟨_, _, _, hrun, k1, ?_, (Ev.drew w L).trans k2⟩
  simp only [rep, NM.with, if_true]
  refine ⟨_, 0, rfl, c1, c2, fun _ => ⟨by omega, _, _, _, heap_alloc_new' w.drew _, ?_⟩⟩
  rw [hsz, Nat.zero_add, Nat.zero_add]
  exact Nat.le_refl _

/-- An append onto a row of the call's own. -/
theorem app_own (hΓ : TOK P Γ) {t xt ty e : TypeId} (hd : (tget Γ t).d = .slice e) (hno : (tget Γ e).d.isOther = false) (hst : 0 < (tget Γ e).size)
    (hx : (∃ e', P.underlying xt = some (.slice e')) ∨ P.underlying xt = some .string) {n m : Nat} {f g : Nat → Nat → LV} {segs : List Seg} (h2 : TwoRows segs (tget Γ e).size n m f g)
    (hb : (n + m) * (tget Γ e).bytes ≤ 140737488355328) (hm63 : n + m ≤ maxLen) {H : Hp} {nm : Nat} {ob : OB} (hob : H[nm]? = some (some ob)) (hty : ob.ty = e) (htot : tot ob.segs = n * (tget Γ e).size)
    (hf : ∀ i, i < n → ∀ j, j < (tget Γ e).size → cellD ob.segs (i * (tget Γ e).size + j) = f i j)
    {w : World} {L : NM} (hw : HRep w L H) {v x : Value} {news : List Value} (hv : rep w L (.own nm 0 (tget Γ e).size 0 n) v) (hs : Src P w L x (tget Γ e).size m news g) :
    ∃ rv w' L', (Builtin.append_ #[t, xt] ty #[v, x]).run P w = .ok rv w' ∧ HRep w' L' (H.set nm none ++ [some ⟨e, segs⟩]) ∧ rep w' L' (.own (H.set nm none).length 0 (tget Γ e).size 0 (n + m)) rv ∧ Ev w L w' L' := by
  obtain ⟨b, c, fz, f1, f2, f3, f4, f5⟩ := hw.live nm ob hob
  simp only [rep, f1] at hv
  obtain ⟨cap, o, rfl, q1, q2, q3⟩ := hv
  obtain ⟨i, z, g1, g2, g3, g4, g5, g6, g7, _⟩ := (hΓ e).info hno
  have ht : P.underlying t = some (.slice e) := hΓ.und hd
  have hcells : RowRep w L (fun k => c[k]?) (tget Γ e).size n f := fun i hi j hj => by
    have hlt := mul_lt_of hi hj
    obtain ⟨y, k1, k2, k3⟩ := f5 (i * (tget Γ e).size + j) (by omega)
    exact ⟨y, k1, k2, by rw [hf i hi j hj] at k3; exact k3⟩
  by_cases hroom : n + m ≤ cap
  · -- in place
    have hfit : n * (tget Γ e).size + news.length ≤ c.size := by
      rw [hs.len, ← Nat.add_mul]
      rcases Nat.eq_zero_or_pos cap with h0 | h0
      · have : n + m = 0 := by omega
        rw [this]; omega
      · obtain ⟨_, c', t', fz', e1, e2⟩ := q3 h0
        rw [f2] at e1
        simp only [Option.some.injEq, Obj.cells.injEq] at e1
        obtain ⟨rfl, _, _⟩ := e1
        rw [Nat.zero_add, Nat.zero_add] at e2
        exact Nat.le_trans (Nat.mul_le_mul_right _ hroom) e2
    have hst' : ∀ ad, (some (⟨b, o, none⟩ : Addr)) = some ad → (storeCells (ad.add (n * i.size)) news).run P w = .ok () (w.setRow b (wr c (n * (tget Γ e).size) news)) := by
      intro ad had
      simp only [Option.some.injEq] at had
      subst had
      rcases Nat.eq_zero_or_pos m with h0 | h0
      · have : news = [] := List.eq_nil_of_length_eq_zero (by rw [hs.len, h0]; simp)
        subst this
        simp only [storeCells, wr]
        rw [setRow_self w b c _ fz f2]; rfl
      · obtain ⟨ho, _⟩ := q3 (by omega)
        subst ho
        rw [Addr.add_at, g2, Nat.zero_mul, Nat.add_zero, Nat.zero_add]
        have := run_storeCells_wr (P := P) b (n * (tget Γ e).size) _ fz news 0 c w f2 (by omega) f3.out (hs.row.oneCell hs.len)
        simpa using this
    have hrun := run_append_room' (P := P) w (t := t) (xt := xt) (ty := ty) ht g1 hx (some ⟨b, o, none⟩) n cap m x news (hs.lenOf w) (by rw [g2]; exact hs.first w rfl) hroom hst' (fun e => by simp at e)
    have hrow : repA w L segs (wr c (n * (tget Γ e).size) news) := by
      refine h2.repA (news := news) (fun i hi j hj => ?_) hs.row (fun k hk => ?_)
      · obtain ⟨y, k1, k2, k3⟩ := hcells i hi j hj
        have hlt := mul_lt_of hi hj
        refine ⟨y, ?_, k2, k3⟩
        simp only []
        rw [wr_get _ _ _ hfit, if_neg (by omega)]
        exact k1
      · rw [wr_get _ _ _ hfit, if_pos (by rw [hs.len]; omega), show n * (tget Γ e).size + k - n * (tget Γ e).size = k by omega]
    obtain ⟨k1, k2⟩ := hw.write hob f1 f2 (wr_size c (n * (tget Γ e).size) news) (ob' := ⟨e, segs⟩) hty.symm (by simp only; rw [h2.tot, Nat.add_mul, ← hs.len]; exact hfit) hrow
    have hlt : nm < H.length := by
      rcases Nat.lt_or_ge nm H.length with h' | h'
      · exact h'
      · rw [List.getElem?_eq_none h'] at hob; simp at hob
    obtain ⟨r1, r2⟩ := k1.rename (nm := nm) (b := b) (ob := ⟨e, segs⟩) (by rw [List.getElem?_set, if_pos rfl]; simp [hlt]) f1
    have eH : (H.set nm (some ⟨e, segs⟩)).set nm none = H.set nm none := by rw [List.set_set]
    rw [eH] at r1
    have eL : (H.set nm (some ⟨e, segs⟩)).length = (H.set nm none).length := by simp
    rw [eL] at r1 r2
    refine ⟨_, _, _, hrun, r1, ?_, k2.trans r2⟩
    simp only [rep, NM.with, if_true]
    refine ⟨cap, o, rfl, hroom, q2, fun hc => ?_⟩
    obtain ⟨ho, c', t', fz', e1, e2⟩ := q3 hc
    refine ⟨ho, _, _, _, setRow_heap w b c _ _ fz f2, ?_⟩
    rw [f2] at e1
    simp only [Option.some.injEq, Obj.cells.injEq] at e1
    obtain ⟨rfl, _, _⟩ := e1
    rw [wr_size]; exact e2
  · -- a new row
    have hold : ∃ olds, Src P w L (.slice (some ⟨b, o, none⟩) n cap) (tget Γ e).size n olds f := by
      refine Src.of_slice (Nat.le_trans q1 q2) ?_
      rcases Nat.eq_zero_or_pos n with h0 | h0
      · exact .inl h0
      · obtain ⟨ho, _⟩ := q3 (by omega)
        refine .inr ⟨_, rfl, rfl, fun i hi j hj => ?_⟩
        obtain ⟨y, k1, k2, k3⟩ := hcells i hi j hj
        refine ⟨y, ?_, k2, k3⟩
        simp only [cell_of_block f2]
        rw [show o + (i * (tget Γ e).size + j) = i * (tget Γ e).size + j by omega]; exact k1
    obtain ⟨olds, ho⟩ := hold
    obtain ⟨k1, k2⟩ := hw.kill hob
    have mono : ∀ {v : Value} {st m : Nat} {l : List Value} {f : Nat → Nat → LV}, Src P w L v st m l f → Src P w (L.with nm none) v st m l f := fun h =>
      ⟨h.len, fun i hi j hj => let ⟨y, a, b, c⟩ := h.row i hi j hj; ⟨y, a, b, rep.mono k2 _ _ c⟩, h.le, h.lenOf, h.firsts⟩
    obtain ⟨rv, w', L', r1, r2, r3, r4⟩ := app_grow (ty := ty) hΓ hd hno hst hx h2 hb hm63 k1 (mono ho) (mono hs) (by omega)
    exact ⟨rv, w', L', r1, r2, r3, k2.trans r4⟩

/-! ### The evaluator of append -/
def newOwn (e st len : Nat) (segs : List Seg) (H : Hp) (K : FV → Hp → Prop) : Prop :=
  litK H.length fun nm => hpushK H (some ⟨e, segs⟩) fun H' => K (.s (.lf (.own nm 0 st 0 len))) H'

theorem newOwn_out {e st len : Nat} {segs : List Seg} {H : Hp} {K : FV → Hp → Prop} (h : newOwn e st len segs H K) : K (.s (.lf (.own H.length 0 st 0 len))) (H ++ [some ⟨e, segs⟩]) := by
  unfold newOwn at h
  rw [litK_eq] at h
  exact hpushK_out h

def appB (e : TypeId) (s : FV) (ys : List UInt8) (H : Hp) (K : FV → Hp → Prop) : Prop :=
  match s with
  | .s (.lf .sl0) => (match ys with
    | [] => K (.s (.lf .sl0)) H
    | y :: r => (y :: r).length ≤ 140737488355328 ∧ newOwn e 1 (y :: r).length [.bytes (y :: r).length (y :: r)] H K)
  | .s (.lf (.rob nn cl xs)) => (match ys with
    | [] => K (.s (.lf (.rob nn cl xs))) H
    | y :: r => (cl = true ∧ (xs ++ (y :: r)).length ≤ 140737488355328) ∧ newOwn e 1 (xs ++ (y :: r)).length [.bytes (xs ++ (y :: r)).length (xs ++ (y :: r))] H K)
  | .s (.lf (.own nm base st off len)) => (match hget H nm with
    | some ⟨ty, [.bytes n xs]⟩ => (match Nat.beq ty e, Nat.beq base 0, Nat.beq st 1, Nat.beq off 0 with
      | true, true, true, true => (len = xs.length ∧ n = xs.length ∧ (xs ++ ys).length ≤ 140737488355328) ∧
          hsetK H nm none fun H1 => newOwn e 1 (xs ++ ys).length [.bytes (xs ++ ys).length (xs ++ ys)] H1 K
      | _, _, _, _ => False)
    | _ => False)
  | _ => False

def catRow (st n : Nat) (f g : Nat → Nat → LV) : Nat → Nat → LV := fun i j => match Nat.blt i n with | true => f i j | false => g (i - n) j

def appR (e st bytes : Nat) (s : FV) (m : Nat) (g : Nat → Nat → LV) (H : Hp) (K : FV → Hp → Prop) : Prop :=
  match s with
  | .s (.lf .sl0) => (match m with
    | 0 => K (.s (.lf .sl0)) H
    | m + 1 => (m + 1) * bytes ≤ 140737488355328 ∧ newOwn e st (m + 1) [.recs st (m + 1) g] H K)
  | .s (.lf (.ro nn cl st' len f)) => (match Nat.beq st st' with
    | true => (match m with
      | 0 => K (.s (.lf (.ro nn cl st' len f))) H
      | m + 1 => (cl = true ∧ (len + (m + 1)) * bytes ≤ 140737488355328) ∧ newOwn e st (len + (m + 1)) [.recs st (len + (m + 1)) (catRow st len f g)] H K)
    | false => False)
  | .s (.lf (.own nm base st' off len)) => (match hget H nm with
    | some ⟨ty, [s1]⟩ => (match Nat.beq ty e, Nat.beq base 0, Nat.beq st st', Nat.beq off 0 with
      | true, true, true, true => segRow s1 st 0 len fun f => (s1.width = len * st ∧ (len + m) * bytes ≤ 140737488355328) ∧
          hsetK H nm none fun H1 => newOwn e st (len + m) [.recs st (len + m) (catRow st len f g)] H1 K
      | _, _, _, _ => False)
    | _ => False)
  | _ => False

def xtok : TD → Bool
  | .slice _ => true
  | .str => true
  | _ => false

def appK (Γ : Tab) (t xt : TypeId) (s x : FV) (H : Hp) (K : FV → Hp → Prop) : Prop :=
  match (tget Γ t).d with
  | .slice e => (match (tget Γ e).d.isOther, Nat.blt 0 (tget Γ e).size, Nat.blt 0 (tget Γ e).bytes, xtok (tget Γ xt).d with
    | false, true, true, true => (match (tget Γ e).d with
      | .int .u8 => (match Nat.beq (tget Γ e).size 1, Nat.beq (tget Γ e).bytes 1 with
        | true, true => srcB x H fun ys => appB e s ys H K
        | _, _ => False)
      | _ => srcR (tget Γ e).size x H fun m g => appR e (tget Γ e).size (tget Γ e).bytes s m g H K)
    | _, _, _, _ => False)
  | _ => False


theorem twoRows_bytes (xs ys : List UInt8) {n m : Nat} (hn : n = xs.length) (hm : m = ys.length) :
    TwoRows [.bytes (xs ++ ys).length (xs ++ ys)] 1 n m (fun i _ => .int .u8 ((xs.getD i 0).toNat : Int)) (fun i _ => .int .u8 ((ys.getD i 0).toNat : Int)) := by
  subst hn; subst hm
  refine ⟨by simp [tot, Seg.width], fun i hi j hj => ?_, fun i hi j hj => ?_⟩
  · have : j = 0 := by omega
    subst this
    simp only [cellD, Seg.width, Nat.mul_one, Nat.add_zero, List.length_append, Seg.at]
    rw [if_pos (by omega)]
    simp [List.getD_eq_getElem?_getD, List.getElem?_append_left hi]
  · have : j = 0 := by omega
    subst this
    simp only [cellD, Seg.width, Nat.mul_one, Nat.add_zero, List.length_append, Seg.at]
    rw [if_pos (by omega)]
    rw [List.getD_eq_getElem?_getD, List.getElem?_append_right (by omega), show xs.length + i - xs.length = i by omega, List.getD_eq_getElem?_getD]

theorem twoRows_recs (st n m : Nat) (f g : Nat → Nat → LV) : TwoRows [.recs st (n + m) (catRow st n f g)] st n m f g := by
  refine ⟨by simp [tot, Seg.width], fun i hi j hj => ?_, fun i hi j hj => ?_⟩
  · have h1 := mul_lt_of (show i < n + m by omega) hj
    simp only [cellD, Seg.width, h1, if_true, Seg.at]
    rw [show (i * st + j) / st = i by rw [Nat.mul_comm, Nat.mul_add_div (by omega), Nat.div_eq_of_lt hj]; rfl, show (i * st + j) % st = j by rw [Nat.mul_comm, Nat.mul_add_mod, Nat.mod_eq_of_lt hj]]
    unfold catRow
    rw [show Nat.blt i n = true from Nat.ble_eq_true_of_le hi]
  · have h1 := mul_lt_of (show n + i < n + m by omega) hj
    simp only [cellD, Seg.width, h1, if_true, Seg.at]
    rw [show ((n + i) * st + j) / st = n + i by rw [Nat.mul_comm, Nat.mul_add_div (by omega), Nat.div_eq_of_lt hj]; rfl, show ((n + i) * st + j) % st = j by rw [Nat.mul_comm, Nat.mul_add_mod, Nat.mod_eq_of_lt hj]]
    unfold catRow
    cases hb : Nat.blt (n + i) n with
    | true => have := blt_true hb; omega
    | false => simp only []; congr 1; omega

theorem twoRows_nil (st m : Nat) (f g : Nat → Nat → LV) : TwoRows [.recs st m g] st 0 m f g := by
  refine ⟨by simp [tot, Seg.width], fun i hi j hj => by omega, fun i hi j hj => ?_⟩
  have h1 := mul_lt_of hi hj
  simp only [Nat.zero_add, cellD, Seg.width, h1, if_true, Seg.at]
  rw [show (i * st + j) / st = i by rw [Nat.mul_comm, Nat.mul_add_div (by omega), Nat.div_eq_of_lt hj]; rfl, show (i * st + j) % st = j by rw [Nat.mul_comm, Nat.mul_add_mod, Nat.mod_eq_of_lt hj]]

theorem twoRows_bnil (ys : List UInt8) {m : Nat} (hm : m = ys.length) (f : Nat → Nat → LV) :
    TwoRows [.bytes ys.length ys] 1 0 m f (fun i _ => .int .u8 ((ys.getD i 0).toNat : Int)) := by
  subst hm
  refine ⟨by simp [tot, Seg.width], fun i hi j hj => by omega, fun i hi j hj => ?_⟩
  have : j = 0 := by omega
  subst this
  simp only [cellD, Seg.width, Nat.mul_one, Nat.add_zero, Nat.zero_add, hi, if_true, Seg.at]

/-- What an append gives, of its two values. -/
def AppSem (P : Program) (t xt : TypeId) (s x : FV) (H : Hp) (r : FV) (H' : Hp) : Prop :=
  ∀ (w : World) (L : NM) (sv xv : Value) (ty : TypeId), HRep w L H → repF w L s sv → repF w L x xv →
    ∃ rv w' L', (Builtin.append_ #[t, xt] ty #[sv, xv]).run P w = .ok rv w' ∧ HRep w' L' H' ∧ repF w' L' r rv ∧ Ev w L w' L'

theorem bytes_maxLen {n : Nat} (h : n ≤ 140737488355328) : n ≤ maxLen := by unfold maxLen; omega

theorem le_of_mul_bound {n b : Nat} (hb : 0 < b) (h : n * b ≤ 140737488355328) : n ≤ maxLen := by
  have : n * 1 ≤ n * b := Nat.mul_le_mul_left n hb
  unfold maxLen; omega

theorem xtok_fits (hΓ : TOK P Γ) {xt : TypeId} (h : xtok (tget Γ xt).d = true) : (∃ e', P.underlying xt = some (.slice e')) ∨ P.underlying xt = some .string := by
  cases hd : (tget Γ xt).d <;> rw [hd] at h <;> simp [xtok] at h
  · exact .inr (hΓ.und hd)
  · exact .inl ⟨_, hΓ.und hd⟩

theorem app_same (hΓ : TOK P Γ) {t xt e : TypeId} (hd : (tget Γ t).d = .slice e) (hno : (tget Γ e).d.isOther = false) (hx : (∃ e', P.underlying xt = some (.slice e')) ∨ P.underlying xt = some .string)
    {w : World} {L : NM} {a : Option Addr} {n cap : Nat} (hn : n ≤ cap) {x : Value} {news : List Value} {g : Nat → Nat → LV} (hs : Src P w L x (tget Γ e).size 0 news g) (ty : TypeId) :
    (Builtin.append_ #[t, xt] ty #[.slice a n cap, x]).run P w = .ok (.slice a n cap) w := by
  obtain ⟨i, z, g1, g2, g3, g4, g5, g6, g7, _⟩ := (hΓ e).info hno
  have : news = [] := List.eq_nil_of_length_eq_zero (by rw [hs.len]; simp)
  subst this
  exact run_append_room' (P := P) w (t := t) (xt := xt) (ty := ty) (hΓ.und hd) g1 hx a n cap 0 x [] (hs.lenOf w) (by rw [g2]; exact hs.first w rfl) hn (fun ad _ => rfl) (fun _ => rfl)

theorem appB_sound (hΓ : TOK P Γ) {t xt e : TypeId} (hd : (tget Γ t).d = .slice e) (hno : (tget Γ e).d.isOther = false) (hs1 : (tget Γ e).size = 1) (hb1 : (tget Γ e).bytes = 1)
    (hx : (∃ e', P.underlying xt = some (.slice e')) ∨ P.underlying xt = some .string) {s x : FV} {ys : List UInt8} {H : Hp} {K : FV → Hp → Prop} (h : appB e s ys H K)
    (hsrc : ∀ (w : World) (L : NM) (v : Value), HRep w L H → repF w L x v → ∃ news, Src P w L v 1 ys.length news (fun i _ => .int .u8 ((ys.getD i 0).toNat : Int))) :
    ∃ r H', K r H' ∧ AppSem P t xt s x H r H' := by
  unfold appB at h
  split at h
  · cases ys with
    | nil =>
      refine ⟨_, _, h, fun w L sv xv ty hw hs hxv => ?_⟩
      obtain ⟨news, hn⟩ := hsrc w L xv hw hxv
      rw [show sv = .slice none 0 0 from hs]
      exact ⟨_, w, L, app_same hΓ hd hno hx (Nat.le_refl _) (by rw [hs1]; exact hn) ty, hw, rfl, Ev.refl w L⟩
    | cons y r =>
      obtain ⟨hle, h⟩ := h
      refine ⟨_, _, newOwn_out h, fun w L sv xv ty hw hs hxv => ?_⟩
      obtain ⟨news, hn⟩ := hsrc w L xv hw hxv
      rw [show sv = .slice none 0 0 from hs]
      have := app_grow (n := 0) (m := (y :: r).length) (xt := xt) (ty := ty) hΓ hd hno (by omega) hx (f := fun _ _ => .any) (by rw [hs1]; exact twoRows_bnil (y :: r) rfl _) (by rw [hb1]; simpa using hle) (by simpa using bytes_maxLen hle) hw (a := none) (cap := 0)
        (olds := []) (by rw [hs1]; exact ⟨by simp, fun i hi => by omega, Nat.zero_le _, fun _ => rfl, fun _ k _ hk => by simp [Builtin.firstCells]⟩) (by rw [hs1]; exact hn) (by simp)
      rw [hs1, Nat.zero_add] at this
      exact this
  · rename_i nn cl xs
    cases ys with
    | nil =>
      refine ⟨_, _, h, fun w L sv xv ty hw hs hxv => ?_⟩
      obtain ⟨news, hn⟩ := hsrc w L xv hw hxv
      have : ∃ a cap, sv = .slice a xs.length cap ∧ xs.length ≤ cap := by
        rcases hs with ⟨_, h1, rfl⟩ | ⟨a, cap, rfl, h1, _⟩
        · exact ⟨_, _, by rw [h1], by omega⟩
        · exact ⟨_, _, rfl, h1⟩
      obtain ⟨a, cap, rfl, hc⟩ := this
      exact ⟨_, w, L, app_same hΓ hd hno hx hc (by rw [hs1]; exact hn) ty, hw, hs, Ev.refl w L⟩
    | cons y r =>
      obtain ⟨⟨hcl, hle⟩, h⟩ := h
      refine ⟨_, _, newOwn_out h, fun w L sv xv ty hw hs hxv => ?_⟩
      obtain ⟨news, hn⟩ := hsrc w L xv hw hxv
      obtain ⟨olds, ho⟩ := roRep_src (P := P) (g := fun i _ => .int .u8 ((xs.getD i 0).toNat : Int)) hs (fun i j c _ _ hc => by rw [hc]; exact ⟨rfl, u8_range _⟩)
      have : ∃ a cap, sv = .slice a xs.length cap ∧ cap = xs.length := by
        rcases hs with ⟨_, h1, rfl⟩ | ⟨a, cap, rfl, h1, _, h3, _⟩
        · exact ⟨_, _, by rw [h1], by omega⟩
        · exact ⟨_, _, rfl, h3 hcl⟩
      obtain ⟨a, cap, rfl, hc⟩ := this
      have hlen : (xs ++ (y :: r)).length = xs.length + (y :: r).length := List.length_append
      have := app_grow (n := xs.length) (m := (y :: r).length) (xt := xt) (ty := ty) hΓ hd hno (by omega) hx (by rw [hs1]; exact twoRows_bytes xs (y :: r) rfl rfl) (by rw [hb1, ← hlen]; simpa using hle) (by rw [← hlen]; exact bytes_maxLen hle) hw (a := a) (cap := cap)
        (olds := olds) (by rw [hs1]; exact ho) (by rw [hs1]; exact hn) (by simp; omega)
      rw [hs1, ← hlen] at this
      exact this
  · rename_i nm base st off len
    split at h
    · rename_i ty n xs hob
      split at h
      · rename_i c1 c2 c3 c4
        have c1 := beq_true c1; have c2 := beq_true c2; have c3 := beq_true c3; have c4 := beq_true c4
        subst c1; subst c2; subst c3; subst c4
        obtain ⟨⟨rfl, rfl, hle⟩, h⟩ := h
        have hout := newOwn_out (hsetK_out h)
        refine ⟨_, _, hout, fun w L sv xv ty' hw hs hxv => ?_⟩
        obtain ⟨news, hn⟩ := hsrc w L xv hw hxv
        have hlen : (xs ++ ys).length = xs.length + ys.length := List.length_append
        have := app_own (n := xs.length) (m := ys.length) (xt := xt) (ty := ty') (ob := ⟨ty, [.bytes xs.length xs]⟩) hΓ hd hno (by omega) hx (by rw [hs1]; exact twoRows_bytes xs ys rfl rfl) (by rw [hb1, ← hlen]; simpa using hle) (by rw [← hlen]; exact bytes_maxLen hle) (hget_some hob) rfl
          (by simp [tot, Seg.width, hs1]) (fun i hi j hj => by
            have : j = 0 := by omega
            subst this
            simp only [hs1, cellD, Seg.width, Nat.mul_one, Nat.add_zero, hi, if_true, Seg.at]) hw (v := sv) (by rw [hs1]; exact hs) (by rw [hs1]; exact hn)
        rw [hs1, ← hlen] at this
        exact this
      · exact h.elim
    · exact h.elim
  · exact h.elim

theorem appR_sound (hΓ : TOK P Γ) {t xt e : TypeId} (hd : (tget Γ t).d = .slice e) (hno : (tget Γ e).d.isOther = false) (hst : 0 < (tget Γ e).size) (hby : 0 < (tget Γ e).bytes)
    (hx : (∃ e', P.underlying xt = some (.slice e')) ∨ P.underlying xt = some .string) {s x : FV} {m : Nat} {g : Nat → Nat → LV} {H : Hp} {K : FV → Hp → Prop} (h : appR e (tget Γ e).size (tget Γ e).bytes s m g H K)
    (hsrc : ∀ (w : World) (L : NM) (v : Value), HRep w L H → repF w L x v → ∃ news, Src P w L v (tget Γ e).size m news g) :
    ∃ r H', K r H' ∧ AppSem P t xt s x H r H' := by
  unfold appR at h
  split at h
  · cases m with
    | zero =>
      refine ⟨_, _, h, fun w L sv xv ty hw hs hxv => ?_⟩
      obtain ⟨news, hn⟩ := hsrc w L xv hw hxv
      rw [show sv = .slice none 0 0 from hs]
      exact ⟨_, w, L, app_same hΓ hd hno hx (Nat.le_refl _) hn ty, hw, rfl, Ev.refl w L⟩
    | succ m =>
      obtain ⟨hle, h⟩ := h
      refine ⟨_, _, newOwn_out h, fun w L sv xv ty hw hs hxv => ?_⟩
      obtain ⟨news, hn⟩ := hsrc w L xv hw hxv
      rw [show sv = .slice none 0 0 from hs]
      have := app_grow (n := 0) (m := m + 1) (xt := xt) (ty := ty) hΓ hd hno hst hx (f := fun _ _ => .any) (twoRows_nil _ _ _ g) (by simpa using hle) (by simpa using le_of_mul_bound hby hle) hw (a := none) (cap := 0)
        (olds := []) ⟨by simp, fun i hi => by omega, Nat.zero_le _, fun _ => rfl, fun _ k _ hk => by simp [Builtin.firstCells]⟩ hn (by simp)
      rw [Nat.zero_add] at this
      exact this
  · rename_i nn cl st' len f
    split at h
    · rename_i c1
      have c1 := beq_true c1
      subst c1
      cases m with
      | zero =>
        refine ⟨_, _, h, fun w L sv xv ty hw hs hxv => ?_⟩
        obtain ⟨news, hn⟩ := hsrc w L xv hw hxv
        have : ∃ a cap, sv = .slice a len cap ∧ len ≤ cap := by
          rcases hs with ⟨_, h1, rfl⟩ | ⟨a, cap, rfl, h1, _⟩
          · exact ⟨_, _, by rw [h1], by omega⟩
          · exact ⟨_, _, rfl, h1⟩
        obtain ⟨a, cap, rfl, hc⟩ := this
        exact ⟨_, w, L, app_same hΓ hd hno hx hc hn ty, hw, hs, Ev.refl w L⟩
      | succ m =>
        obtain ⟨⟨hcl, hle⟩, h⟩ := h
        refine ⟨_, _, newOwn_out h, fun w L sv xv ty hw hs hxv => ?_⟩
        obtain ⟨news, hn⟩ := hsrc w L xv hw hxv
        obtain ⟨olds, ho⟩ := roRep_src (P := P) (g := f) hs (fun i j c _ _ hc => hc)
        have : ∃ a cap, sv = .slice a len cap ∧ cap = len := by
          rcases hs with ⟨_, h1, rfl⟩ | ⟨a, cap, rfl, h1, _, h3, _⟩
          · exact ⟨_, _, by rw [h1], by omega⟩
          · exact ⟨_, _, rfl, h3 hcl⟩
        obtain ⟨a, cap, rfl, hc⟩ := this
        exact app_grow (n := len) (m := m + 1) (xt := xt) (ty := ty) hΓ hd hno hst hx (twoRows_recs _ _ _ f g) hle (le_of_mul_bound hby hle) hw (a := a) (cap := cap) (olds := olds) ho hn (by omega)
    · exact h.elim
  · rename_i nm base st off len
    split at h
    · rename_i ty s1 hob
      split at h
      · rename_i c1 c2 c3 c4
        have c1 := beq_true c1; have c2 := beq_true c2; have c3 := beq_true c3; have c4 := beq_true c4
        subst c1; subst c2; subst c3; subst c4
        obtain ⟨f, h', hf⟩ := segRow_sound h
        obtain ⟨⟨hw1, hle⟩, h'⟩ := h'
        have hout := newOwn_out (hsetK_out h')
        refine ⟨_, _, hout, fun w L sv xv ty' hw hs hxv => ?_⟩
        obtain ⟨news, hn⟩ := hsrc w L xv hw hxv
        exact app_own (n := len) (m := m) (xt := xt) (ty := ty') (ob := ⟨ty, [s1]⟩) hΓ hd hno hst hx (twoRows_recs _ _ _ f g) hle (le_of_mul_bound hby hle) (hget_some hob) rfl
          (by simp [tot, hw1]) (fun i hi j hj => by
            obtain ⟨k1, k2⟩ := hf i hi j hj
            rw [Nat.zero_mul, Nat.zero_add] at k1 k2
            simp only [cellD, k1, if_true, k2]) hw (v := sv) hs hn
      · exact h.elim
    · exact h.elim
  · exact h.elim

theorem appK_sound (hΓ : TOK P Γ) {t xt : TypeId} {s x : FV} {H : Hp} {K : FV → Hp → Prop} (h : appK Γ t xt s x H K) : ∃ r H', K r H' ∧ AppSem P t xt s x H r H' := by
  unfold appK at h
  split at h
  · rename_i e hd
    split at h
    · rename_i hno hsz hby hxt
      have hsz := blt_true hsz
      have hby := blt_true hby
      have hx := xtok_fits hΓ hxt
      split at h
      · split at h
        · rename_i c1 c2
          have c1 := beq_true c1; have c2 := beq_true c2
          obtain ⟨ys, h', hs⟩ := srcB_src h
          exact appB_sound hΓ hd hno c1 c2 hx h' (fun w L v hw hv => hs P w L v hw hv)
        · exact h.elim
      · obtain ⟨m, g, h', hs⟩ := srcR_sound h
        exact appR_sound hΓ hd hno hsz hby hx h' (fun w L v hw hv => hs P w L v hw hv)
    · exact h.elim
  · exact h.elim

end Go.Sym

