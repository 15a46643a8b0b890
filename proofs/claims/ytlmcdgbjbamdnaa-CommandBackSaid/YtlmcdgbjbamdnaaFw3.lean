/- A framework for walking through the program's functions, proved sound, part 3: operations: slices, make, copy, building. It has no condition. -/
import Derived.Test.YtlmcdgbjbamdnaaFw2
import Derived.Laws.StructEq
set_option linter.unusedVariables false
set_option linter.unusedSimpArgs false
namespace Go.Sym
open Go

variable {P : Program} {Γ : Tab}

/-! ### Slices of slices, texts and arrays -/
def bI (v : Option FV) (d : Int) (K : Int → Prop) : Prop :=
  match v with
  | none => K d
  | some (.s (.lf (.int _ a))) => K a
  | _ => False

/-- A bound, as a value. -/
def Bnd (v : Option Value) (d : Int) (n : Int) : Prop :=
  match v with
  | none => n = d
  | some x => ∃ k, x = .int k n

def optRep (w : World) (L : NM) : Option FV → Option Value → Prop
  | none, none => True
  | some x, some y => repF w L x y
  | _, _ => False

theorem bI_sound {v : Option FV} {d : Int} {K : Int → Prop} (h : bI v d K) : ∃ n, K n ∧ ∀ (w : World) (L : NM) (rv : Option Value), optRep w L v rv → Bnd rv d n := by
  unfold bI at h
  split at h
  · refine ⟨d, h, fun w L rv hr => ?_⟩
    cases rv with
    | none => rfl
    | some y => exact hr.elim
  · rename_i k a
    refine ⟨a, h, fun w L rv hr => ?_⟩
    cases rv with
    | none => exact hr.elim
    | some y => exact ⟨k, hr.1⟩
  · exact h.elim

theorem run_sliceBounds {w : World} {isS : Bool} {len cap : Nat} {lo hi mx : Option Value} {l h m : Int} (hm : Bnd mx cap m) (hh : Bnd hi len h) (hl : Bnd lo 0 l)
    (hx : mx.isSome = true → hi.isSome = true) (h0 : 0 ≤ l) (h1 : l ≤ h) (h2 : h ≤ m) (h3 : m ≤ (cap : Int)) :
    (Instr.sliceBounds isS len cap lo hi mx).run P w = .ok (l.toNat, h.toNat, m.toNat) w := by
  have hm0 : 0 ≤ m := by omega
  have hh0 : 0 ≤ h := by omega
  cases mx with
  | none =>
    obtain rfl : m = cap := hm
    cases hi with
    | none =>
      obtain rfl : h = len := hh
      cases lo with
      | none => obtain rfl : l = 0 := hl; simp [Instr.sliceBounds]
      | some x => obtain ⟨k, rfl⟩ := hl; simp [Instr.sliceBounds, Instr.sliceBound, asIntOf, h0, h1]
    | some y =>
      obtain ⟨k, rfl⟩ := hh
      cases lo with
      | none => obtain rfl : l = 0 := hl; simp [Instr.sliceBounds, Instr.sliceBound, asIntOf, hh0, h2]
      | some x =>
        obtain ⟨k, rfl⟩ := hl
        have : l ≤ ((h.toNat : Nat) : Int) := by omega
        simp [Instr.sliceBounds, Instr.sliceBound, asIntOf, hh0, h2, h0, this]
        omega
  | some z =>
    obtain ⟨k, rfl⟩ := hm
    cases hi with
    | none => simp at hx
    | some y =>
      obtain ⟨k, rfl⟩ := hh
      have e1 : h ≤ ((m.toNat : Nat) : Int) := by omega
      cases lo with
      | none =>
        obtain rfl : l = 0 := hl
        simp [Instr.sliceBounds, Instr.sliceBound, asIntOf, hm0, h3, hh0, e1]
        omega
      | some x =>
        obtain ⟨k, rfl⟩ := hl
        have e2 : l ≤ ((h.toNat : Nat) : Int) := by omega
        simp [Instr.sliceBounds, Instr.sliceBound, asIntOf, hm0, h3, hh0, h2, h0, h1]
        rw [if_pos (by omega), if_pos (by omega)]

def clOf (hi : Option FV) (cl : Bool) : Bool := match hi with | none => cl | some _ => false

def sliceK (Γ : Tab) (t : TypeId) (x : FV) (lo hi mx : Option FV) (H : Hp) (K : FV → Prop) : Prop :=
  match (tget Γ t).d with
  | .str => (match mx with
    | none => (match x with
      | .s (.lf (.str s)) => bI lo 0 fun l => bI hi (s.length : Int) fun h => (0 ≤ l ∧ l ≤ h ∧ h ≤ (s.length : Int)) ∧ K (.s (.lf (.str ((s.take h.toNat).drop l.toNat))))
      | _ => False)
    | some _ => False)
  | .slice e => (match (tget Γ e).d.isOther with
    | true => False
    | false => (match x with
      | .s (.lf .sl0) => bI lo 0 fun l => bI hi 0 fun h => bI mx 0 fun m => (match mx, hi with | some _, none => False | _, _ => (l = 0 ∧ h = 0 ∧ m = 0) ∧ K (.s (.lf .sl0)))
      | .s (.lf (.rob nn cl xs)) => (match Nat.beq (tget Γ e).size 1 with
        | true => (match mx with
          | none => bI lo 0 fun l => bI hi (xs.length : Int) fun h => (0 ≤ l ∧ l ≤ h ∧ h ≤ (xs.length : Int)) ∧
              K (.s (.lf (.rob nn (clOf hi cl) ((xs.take h.toNat).drop l.toNat))))
          | some m => (match hi with
            | none => False
            | some _ => bI lo 0 fun l => bI hi 0 fun h => bI mx 0 fun m => (0 ≤ l ∧ l ≤ h ∧ h ≤ m ∧ m ≤ (xs.length : Int)) ∧ K (.s (.lf (.rob nn (decide (h = m)) ((xs.take h.toNat).drop l.toNat))))))
        | false => False)
      | .s (.lf (.ro nn cl st len f)) => (match Nat.beq (tget Γ e).size st with
        | true => (match mx with
          | none => bI lo 0 fun l => bI hi (len : Int) fun h => (0 ≤ l ∧ l ≤ h ∧ h ≤ (len : Int)) ∧
              K (.s (.lf (.ro nn (clOf hi cl) st (h.toNat - l.toNat) fun i j => f (l.toNat + i) j)))
          | some m => (match hi with
            | none => False
            | some _ => bI lo 0 fun l => bI hi 0 fun h => bI mx 0 fun m => (0 ≤ l ∧ l ≤ h ∧ h ≤ m ∧ m ≤ (len : Int)) ∧ K (.s (.lf (.ro nn (decide (h = m)) st (h.toNat - l.toNat) fun i j => f (l.toNat + i) j)))))
        | false => False)
      | .s (.lf (.own nm base st off len)) => (match Nat.beq (tget Γ e).size st with
        | true => (match mx with
          | none => bI lo 0 fun l => bI hi (len : Int) fun h => liveK H nm ((0 ≤ l ∧ l ≤ h ∧ h ≤ (len : Int)) ∧ K (.s (.lf (.own nm base st (off + l.toNat) (h.toNat - l.toNat)))))
          | some m => (match hi with
            | none => False
            | some _ => bI lo 0 fun l => bI hi 0 fun h => bI mx 0 fun m => liveK H nm ((0 ≤ l ∧ l ≤ h ∧ h ≤ m ∧ m ≤ (len : Int)) ∧ K (.s (.lf (.own nm base st (off + l.toNat) (h.toNat - l.toNat)))))))
        | false => False)
      | _ => False))
  | .arr n e => (match (tget Γ e).d.isOther, mx with
    | false, none => (match x with
      | .s (.lf (.ptr nm base)) => (match hget H nm with
        | some ob => rowK ob.segs base fun s => (match Nat.beq s.width (n * (tget Γ e).size) with
          | true => bI lo 0 fun l => bI hi (n : Int) fun h => ((0 ≤ l ∧ l ≤ h ∧ h ≤ (n : Int)) ∧ n ≤ maxLen) ∧ K (.s (.lf (.own nm base (tget Γ e).size l.toNat (h.toNat - l.toNat))))
          | false => False)
        | none => False)
      | _ => False)
    | _, _ => False)
  | _ => False

/-- What a slice expression does to a slice's place. -/
theorem slice_addr {a : Addr} {l m sz : Nat} (hs : a.spot = none) (h : l < m) : (if m = l then some a else (some a).map (·.add (l * sz))) = some ⟨a.block, a.off + l * sz, none⟩ := by
  rw [if_neg (by omega), Option.map_some, add_none hs]

theorem run_slice_gen (hΓ : TOK P Γ) {t e : TypeId} (hd : (tget Γ t).d = .slice e) (hno : (tget Γ e).d.isOther = false) {a : Option Addr} {len cap : Nat} {lo hi mx : Option Value} {l h m : Nat} {w : World}
    (hb : (Instr.sliceBounds true len cap lo hi mx).run P w = .ok (l, h, m) w) :
    (Instr.sliceAt t (.slice a len cap) lo hi mx).run P w = .ok (.slice (if m = l then a else a.map (·.add (l * (tget Γ e).size))) (h - l) (m - l)) w := by
  have hf : P.underlying t = some (.slice e) := hΓ.und hd
  simp [Instr.sliceAt, run_underlying hf, Instr.slice, hb, size_run hΓ hno]

/-- The values of the bounds. -/
structure BVals (w : World) (L : NM) (lo hi mx : Option FV) (vlo vhi vmx : Option Value) : Prop where
  lo : optRep w L lo vlo
  hi : optRep w L hi vhi
  mx : optRep w L mx vmx

def SliceSem (P : Program) (t : TypeId) (x : FV) (lo hi mx : Option FV) (H : Hp) (r : FV) : Prop :=
  ∀ (w : World) (L : NM) (xv : Value) (vlo vhi vmx : Option Value), HRep w L H → repF w L x xv → BVals w L lo hi mx vlo vhi vmx →
    ∃ rv, (Instr.sliceAt t xv vlo vhi vmx).run P w = .ok rv w ∧ repF w L r rv

theorem isSome_of_bvals {w : World} {L : NM} {a : Option FV} {b : Option Value} (h : optRep w L a b) : b.isSome = a.isSome := by
  cases a <;> cases b <;> first | rfl | exact h.elim

theorem roRep_sub {w : World} {L : NM} {nn cl cl' : Bool} {st len cap : Nat} {a : Option Addr} {p p' : Nat → Nat → Value → Prop} (h : roRep w L nn cl st len p (.slice a len cap)) {l hh m : Nat} (h1 : l ≤ hh) (h2 : hh ≤ len) (h3 : hh ≤ m) (h4 : m ≤ cap)
    (hcl : cl' = true → m = hh) (hp : ∀ i j c, l + i < hh → j < st → p (l + i) j c → p' i j c) (hst : 0 < st ∨ True) :
    roRep w L nn cl' st (hh - l) p' (.slice (if m = l then a else a.map (·.add (l * st))) (hh - l) (m - l)) := by
  rcases h with ⟨g1, g2, g3⟩ | ⟨ad, cap', g0, g1, g2, g3, g4, g5⟩
  · left
    simp only [Value.slice.injEq] at g3
    obtain ⟨rfl, g4, rfl⟩ := g3
    have : l = 0 := by omega
    subst this
    have : hh = 0 := by omega
    subst this
    have : m = 0 := by omega
    subst this
    exact ⟨g1, rfl, by simp⟩
  · right
    simp only [Value.slice.injEq] at g0
    obtain ⟨rfl, _, rfl⟩ := g0
    by_cases e : m = l
    · subst e
      exact ⟨ad, 0, by simp, by omega, Nat.zero_le _, fun h => by have := hcl h; omega, fun h => by omega, fun i hi => by omega⟩
    · refine ⟨ad.add (l * st), m - l, by rw [if_neg e]; rfl, by omega, by omega, fun h => by have := hcl h; omega, fun h => ?_, fun i hi j hj => ?_⟩
      · obtain ⟨s1, s2⟩ := g4 (by omega)
        rw [add_none s1]
        exact ⟨rfl, s2⟩
      · obtain ⟨s1, s2⟩ := g4 (by omega)
        obtain ⟨c, k1, k2, k3⟩ := g5 (l + i) (by omega) j hj
        refine ⟨c, ?_, k2, hp i j c (by omega) hj k3⟩
        rw [add_none s1]
        rw [← k1]
        congr 2
        simp only [Nat.add_mul]
        omega

theorem own_sub {w : World} {L : NM} {nm base st off len b : Nat} {a : Addr} {cap : Nat} (hL : L nm = some (some b)) (hv : rep w L (.own nm base st off len) (.slice (some a) len cap)) {l hh m : Nat} (h1 : l ≤ hh) (h2 : hh ≤ len) (h3 : hh ≤ m) (h4 : m ≤ cap) :
    rep w L (.own nm base st (off + l) (hh - l)) (.slice (if m = l then some a else (some a).map (·.add (l * st))) (hh - l) (m - l)) := by
  simp only [rep, hL] at hv ⊢
  obtain ⟨cap', o, g0, g1, g2, g3⟩ := hv
  simp only [Value.slice.injEq, Option.some.injEq] at g0
  obtain ⟨rfl, _, rfl⟩ := g0
  by_cases e : m = l
  · subst e
    exact ⟨0, o, by simp, by omega, Nat.zero_le _, fun h => by omega⟩
  · refine ⟨m - l, o + l * st, by rw [if_neg e, Option.map_some, Addr.add_at], by omega, by omega, fun h => ?_⟩
    obtain ⟨ho, c, t, fz, k1, k2⟩ := g3 (by omega)
    refine ⟨by rw [ho, Nat.add_mul]; omega, c, t, fz, k1, ?_⟩
    have : (off + l + (m - l)) * st ≤ (off + cap) * st := Nat.mul_le_mul_right _ (by omega)
    omega

theorem sliceK_sound (hΓ : TOK P Γ) {t : TypeId} {x : FV} {lo hi mx : Option FV} {H : Hp} {K : FV → Prop} (h : sliceK Γ t x lo hi mx H K) : ∃ r, K r ∧ SliceSem P t x lo hi mx H r := by
  unfold sliceK at h
  split at h
  · rename_i hd
    have hf : P.underlying t = some .string := hΓ.und hd
    split at h
    · split at h
      · rename_i s
        obtain ⟨l, h', hl⟩ := bI_sound h
        obtain ⟨hh, h'', hhi⟩ := bI_sound h'
        obtain ⟨⟨h0, h1, h2⟩, hK⟩ := h''
        refine ⟨_, hK, fun w L xv vlo vhi vmx hw hx hb => ?_⟩
        obtain ⟨rfl, hlen⟩ := hx
        have hm : vmx = none := by
          have := hb.mx
          cases vmx with
          | none => rfl
          | some y => exact this.elim
        subst hm
        have hb' := run_sliceBounds (P := P) (w := w) (isS := false) (len := s.length) (cap := s.length) (mx := none) (m := (s.length : Int)) rfl (hhi w L vhi hb.hi) (hl w L vlo hb.lo) (by simp) h0 h1 h2 (Int.le_refl _)
        refine ⟨.string ⟨((s.take hh.toNat).drop l.toNat).toArray⟩, ?_, ⟨rfl, by simp only [List.length_drop, List.length_take]; omega⟩⟩
        have hsz : (⟨s.toArray⟩ : ByteArray).size = s.length := by simp [ByteArray.size]
        have he : (⟨s.toArray⟩ : ByteArray).extract l.toNat hh.toNat = ⟨((s.take hh.toNat).drop l.toNat).toArray⟩ := by
          apply ByteArray.ext
          simp only [ByteArray.data_extract]
          apply Array.ext'
          simp [List.drop_take]
        simp only [Instr.sliceAt, Sem.run_bind, run_underlying hf, Result.andThen_ok, Instr.slice, hsz, hb', Option.isSome_none, Bool.false_eq_true, if_false, Sem.run_pure, he]
      · exact h.elim
    · exact h.elim
  · rename_i e hd
    split at h
    · exact h.elim
    rename_i hno
    split at h
    · -- nil
      obtain ⟨l, h1, hl⟩ := bI_sound h
      obtain ⟨hh, h2, hhi⟩ := bI_sound h1
      obtain ⟨m, h3, hmx⟩ := bI_sound h2
      split at h3
      · exact h3.elim
      · rename_i hne
        obtain ⟨⟨rfl, rfl, rfl⟩, hK⟩ := h3
        refine ⟨_, hK, fun w L xv vlo vhi vmx hw hx hb => ?_⟩
        rw [show xv = .slice none 0 0 from hx]
        have hb' := run_sliceBounds (P := P) (w := w) (isS := true) (len := 0) (cap := 0) (hmx w L vmx hb.mx) (hhi w L vhi hb.hi) (hl w L vlo hb.lo) (by
          rw [isSome_of_bvals hb.mx, isSome_of_bvals hb.hi]
          intro hm
          cases hi with
          | none =>
            cases mx with
            | none => simp at hm
            | some y => exact (hne y rfl rfl).elim
          | some y => rfl) (Int.le_refl _) (Int.le_refl _) (Int.le_refl _) (Int.le_refl _)
        exact ⟨_, run_slice_gen hΓ hd hno hb', by simp [repF, repS, rep]⟩
    · rename_i nn cl xs
      split at h
      · rename_i c1
        have c1 := beq_true c1
        have run : ∀ (w : World) (L : NM) (xv : Value), rep w L (.rob nn cl xs) xv → ∃ a cap, xv = .slice a xs.length cap ∧ xs.length ≤ cap ∧ cap ≤ maxLen ∧ (cl = true → cap = xs.length) := by
          intro w L xv hx
          rcases hx with ⟨_, h1, rfl⟩ | ⟨a, cap, rfl, h1, h2, h3, _⟩
          · exact ⟨_, _, by rw [h1], by omega, Nat.zero_le _, fun _ => h1.symm⟩
          · exact ⟨_, _, rfl, h1, h2, h3⟩
        have getsub : ∀ (l hh i : Nat), l + i < hh → hh ≤ xs.length → ((xs.take hh).drop l).getD i 0 = xs.getD (l + i) 0 := by
          intro l hh i h1 h2
          simp only [List.getD_eq_getElem?_getD, List.getElem?_drop, List.getElem?_take, h1, if_true]
        split at h
        · obtain ⟨l, h1, hl⟩ := bI_sound h
          obtain ⟨hh, h2, hhi⟩ := bI_sound h1
          obtain ⟨⟨k0, k1, k2⟩, hK⟩ := h2
          refine ⟨_, hK, fun w L xv vlo vhi vmx hw hx hb => ?_⟩
          obtain ⟨a, cap, rfl, g1, g2, g3⟩ := run w L xv hx
          have hm : vmx = none := by
            have := hb.mx
            cases vmx with
            | none => rfl
            | some y => exact this.elim
          subst hm
          have hb' := run_sliceBounds (P := P) (w := w) (isS := true) (len := xs.length) (cap := cap) (mx := none) (m := (cap : Int)) rfl (hhi w L vhi hb.hi) (hl w L vlo hb.lo) (by simp) k0 k1 (by omega) (Int.le_refl _)
          refine ⟨_, run_slice_gen hΓ hd hno hb', ?_⟩
          have hlen : ((xs.take hh.toNat).drop l.toNat).length = hh.toNat - l.toNat := by simp only [List.length_drop, List.length_take]; omega
          simp only [repF, repS, rep, hlen, Int.toNat_natCast]
          have := roRep_sub (cl' := clOf hi cl) (p' := fun i _ c => c = .int .u8 ((((xs.take hh.toNat).drop l.toNat).getD i 0).toNat : Int)) hx (l := l.toNat) (hh := hh.toNat) (m := cap) (by omega) (by omega) (by omega) (Nat.le_refl _) (by
            intro hc
            cases hi with
            | some y => simp [clOf] at hc
            | none =>
              have e1 := g3 hc
              have := hhi w L vhi hb.hi
              have hn : vhi = none := by
                have := hb.hi
                cases vhi with
                | none => rfl
                | some y => exact this.elim
              subst hn
              have : hh = xs.length := this
              omega) (fun i j c h1 h2 h3 => by rw [h3, getsub _ _ _ h1 (by omega)]) (.inr trivial)
          rw [c1]
          exact this
        · split at h
          · exact h.elim
          · obtain ⟨l, h1, hl⟩ := bI_sound h
            obtain ⟨hh, h2, hhi⟩ := bI_sound h1
            obtain ⟨m, h3, hmx⟩ := bI_sound h2
            obtain ⟨⟨k0, k1, k2, k3⟩, hK⟩ := h3
            refine ⟨_, hK, fun w L xv vlo vhi vmx hw hx hb => ?_⟩
            obtain ⟨a, cap, rfl, g1, g2, g3⟩ := run w L xv hx
            have e1 : vhi.isSome = true := by rw [isSome_of_bvals hb.hi]; rfl
            have hm' : Bnd vmx cap m := by
              have := hmx w L vmx hb.mx
              cases vmx with
              | none => have h5 := hb.mx; exact h5.elim
              | some y => exact this
            have hh' : Bnd vhi xs.length hh := by
              have := hhi w L vhi hb.hi
              cases vhi with
              | none => simp at e1
              | some y => exact this
            have hb' := run_sliceBounds (P := P) (w := w) (isS := true) (len := xs.length) (cap := cap) hm' hh' (hl w L vlo hb.lo) (fun _ => e1) k0 k1 k2 (by omega)
            refine ⟨_, run_slice_gen hΓ hd hno hb', ?_⟩
            have hlen : ((xs.take hh.toNat).drop l.toNat).length = hh.toNat - l.toNat := by simp only [List.length_drop, List.length_take]; omega
            simp only [repF, repS, rep, hlen]
            have := roRep_sub (cl' := decide (hh = m)) (p' := fun i _ c => c = .int .u8 ((((xs.take hh.toNat).drop l.toNat).getD i 0).toNat : Int)) hx (l := l.toNat) (hh := hh.toNat) (m := m.toNat) (by omega) (by omega) (by omega) (by omega) (by
              intro hc
              have := of_decide_eq_true hc
              omega) (fun i j c h1 h2 h3 => by rw [h3, getsub _ _ _ h1 (by omega)]) (.inr trivial)
            rw [c1]
            exact this
      · exact h.elim
    · rename_i nn cl st len f
      split at h
      · rename_i c1
        have c1 := beq_true c1
        have run : ∀ (w : World) (L : NM) (xv : Value), rep w L (.ro nn cl st len f) xv → ∃ a cap, xv = .slice a len cap ∧ len ≤ cap ∧ cap ≤ maxLen ∧ (cl = true → cap = len) := by
          intro w L xv hx
          rcases hx with ⟨_, h1, rfl⟩ | ⟨a, cap, rfl, h1, h2, h3, _⟩
          · exact ⟨_, _, by rw [h1], by omega, Nat.zero_le _, fun _ => h1.symm⟩
          · exact ⟨_, _, rfl, h1, h2, h3⟩
        split at h
        · obtain ⟨l, h1, hl⟩ := bI_sound h
          obtain ⟨hh, h2, hhi⟩ := bI_sound h1
          obtain ⟨⟨k0, k1, k2⟩, hK⟩ := h2
          refine ⟨_, hK, fun w L xv vlo vhi vmx hw hx hb => ?_⟩
          obtain ⟨a, cap, rfl, g1, g2, g3⟩ := run w L xv hx
          have hm : vmx = none := by
            have := hb.mx
            cases vmx with
            | none => rfl
            | some y => exact this.elim
          subst hm
          have hb' := run_sliceBounds (P := P) (w := w) (isS := true) (len := len) (cap := cap) (mx := none) (m := (cap : Int)) rfl (hhi w L vhi hb.hi) (hl w L vlo hb.lo) (by simp) k0 k1 (by omega) (Int.le_refl _)
          refine ⟨_, run_slice_gen hΓ hd hno hb', ?_⟩
          simp only [repF, repS, rep, Int.toNat_natCast]
          have := roRep_sub (cl' := clOf hi cl) (p' := fun i j c => rep w L (f (l.toNat + i) j) c) hx (l := l.toNat) (hh := hh.toNat) (m := cap) (by omega) (by omega) (by omega) (Nat.le_refl _) (by
            intro hc
            cases hi with
            | some y => simp [clOf] at hc
            | none =>
              have e1 := g3 hc
              have := hhi w L vhi hb.hi
              have hn : vhi = none := by
                have := hb.hi
                cases vhi with
                | none => rfl
                | some y => exact this.elim
              subst hn
              have : hh = len := this
              omega) (fun i j c h1 h2 h3 => h3) (.inr trivial)
          rw [c1]
          exact this
        · split at h
          · exact h.elim
          · obtain ⟨l, h1, hl⟩ := bI_sound h
            obtain ⟨hh, h2, hhi⟩ := bI_sound h1
            obtain ⟨m, h3, hmx⟩ := bI_sound h2
            obtain ⟨⟨k0, k1, k2, k3⟩, hK⟩ := h3
            refine ⟨_, hK, fun w L xv vlo vhi vmx hw hx hb => ?_⟩
            obtain ⟨a, cap, rfl, g1, g2, g3⟩ := run w L xv hx
            have e1 : vhi.isSome = true := by rw [isSome_of_bvals hb.hi]; rfl
            have hm' : Bnd vmx cap m := by
              have := hmx w L vmx hb.mx
              cases vmx with
              | none => have h5 := hb.mx; exact h5.elim
              | some y => exact this
            have hh' : Bnd vhi len hh := by
              have := hhi w L vhi hb.hi
              cases vhi with
              | none => simp at e1
              | some y => exact this
            have hb' := run_sliceBounds (P := P) (w := w) (isS := true) (len := len) (cap := cap) hm' hh' (hl w L vlo hb.lo) (fun _ => e1) k0 k1 k2 (by omega)
            refine ⟨_, run_slice_gen hΓ hd hno hb', ?_⟩
            simp only [repF, repS, rep]
            have := roRep_sub (cl' := decide (hh = m)) (p' := fun i j c => rep w L (f (l.toNat + i) j) c) hx (l := l.toNat) (hh := hh.toNat) (m := m.toNat) (by omega) (by omega) (by omega) (by omega) (by
              intro hc
              have := of_decide_eq_true hc
              omega) (fun i j c h1 h2 h3 => h3) (.inr trivial)
            rw [c1]
            exact this
      · exact h.elim
    · rename_i nm base st off len
      split at h
      · rename_i c1
        have c1 := beq_true c1
        split at h
        · obtain ⟨l, h1, hl⟩ := bI_sound h
          obtain ⟨hh, h2, hhi⟩ := bI_sound h1
          obtain ⟨⟨k0, k1, k2⟩, hK⟩ := liveK.out h2
          refine ⟨_, hK, fun w L xv vlo vhi vmx hw hx hb => ?_⟩
          obtain ⟨_, b, hL⟩ := hw.of_live h2
          have hx' := hx
          simp only [repF, repS, rep, hL] at hx'
          obtain ⟨cap, o, rfl, g1, g2, _⟩ := hx'
          have hm : vmx = none := by
            have := hb.mx
            cases vmx with
            | none => rfl
            | some y => exact this.elim
          subst hm
          have hb' := run_sliceBounds (P := P) (w := w) (isS := true) (len := len) (cap := cap) (mx := none) (m := (cap : Int)) rfl (hhi w L vhi hb.hi) (hl w L vlo hb.lo) (by simp) k0 k1 (by omega) (Int.le_refl _)
          refine ⟨_, run_slice_gen hΓ hd hno hb', ?_⟩
          rw [c1]
          exact own_sub hL hx (by omega) (by omega) (by omega) (by omega)
        · split at h
          · exact h.elim
          · obtain ⟨l, h1, hl⟩ := bI_sound h
            obtain ⟨hh, h2, hhi⟩ := bI_sound h1
            obtain ⟨m, h3, hmx⟩ := bI_sound h2
            obtain ⟨⟨k0, k1, k2, k3⟩, hK⟩ := liveK.out h3
            refine ⟨_, hK, fun w L xv vlo vhi vmx hw hx hb => ?_⟩
            obtain ⟨_, b, hL⟩ := hw.of_live h3
            have hx' := hx
            simp only [repF, repS, rep, hL] at hx'
            obtain ⟨cap, o, rfl, g1, g2, _⟩ := hx'
            have e1 : vhi.isSome = true := by rw [isSome_of_bvals hb.hi]; rfl
            have hm' : Bnd vmx cap m := by
              have := hmx w L vmx hb.mx
              cases vmx with
              | none => have h5 := hb.mx; exact h5.elim
              | some y => exact this
            have hh' : Bnd vhi len hh := by
              have := hhi w L vhi hb.hi
              cases vhi with
              | none => simp at e1
              | some y => exact this
            have hb' := run_sliceBounds (P := P) (w := w) (isS := true) (len := len) (cap := cap) hm' hh' (hl w L vlo hb.lo) (fun _ => e1) k0 k1 k2 (by omega)
            refine ⟨_, run_slice_gen hΓ hd hno hb', ?_⟩
            rw [c1]
            exact own_sub hL hx (by omega) (by omega) (by omega) (by omega)
      · exact h.elim
    · exact h.elim
  · rename_i n e hd
    split at h
    · rename_i hno
      split at h
      · rename_i nm base
        split at h
        · rename_i ob hob
          obtain ⟨p, s, q, e1, e2, h'⟩ := rowK_sound h
          clear h
          split at h'
          · rename_i c1
            have c1 := beq_true c1
            obtain ⟨l, h1, hl⟩ := bI_sound h'
            obtain ⟨hh, h2, hhi⟩ := bI_sound h1
            obtain ⟨⟨⟨k0, k1, k2⟩, k3⟩, hK⟩ := h2
            refine ⟨_, hK, fun w L xv vlo vhi vmx hw hx hb => ?_⟩
            obtain ⟨b, c, fz, f1, f2, f3, f4, f5⟩ := hw.live nm ob (hget_some hob)
            simp only [repF, repS, rep, f1] at hx ⊢
            subst hx
            have hm : vmx = none := by
              have := hb.mx
              cases vmx with
              | none => rfl
              | some y => exact this.elim
            subst hm
            have hf : P.underlying t = some (.array n e) := hΓ.und hd
            have hb' := run_sliceBounds (P := P) (w := w) (isS := false) (len := n) (cap := n) (mx := none) (m := (n : Int)) rfl (hhi w L vhi hb.hi) (hl w L vlo hb.lo) (by simp) k0 k1 k2 (Int.le_refl _)
            have hrun : (Instr.sliceAt t (.pointer (some ⟨b, base, none⟩)) vlo vhi none).run P w = .ok (.slice (some (if n = l.toNat then (⟨b, base, none⟩ : Addr) else (⟨b, base, none⟩ : Addr).add (l.toNat * (tget Γ e).size))) (hh.toNat - l.toNat) (n - l.toNat)) w := by
              simp [Instr.sliceAt, run_underlying hf, Instr.sureAddr, hb', size_run hΓ hno]
            refine ⟨_, hrun, ?_⟩
            by_cases e3 : n = l.toNat
            · rw [if_pos e3]
              exact ⟨n - l.toNat, base, rfl, by omega, by omega, fun h => by omega⟩
            · rw [if_neg e3, Addr.add_at]
              refine ⟨n - l.toNat, _, rfl, by omega, by omega, fun h => ⟨rfl, c, _, fz, f2, ?_⟩⟩
              have : (l.toNat + (n - l.toNat)) * (tget Γ e).size = s.width := by rw [show l.toNat + (n - l.toNat) = n by omega, c1]
              rw [this, ← e2]
              rw [e1, tot_append] at f4
              simp only [tot] at f4
              omega
          · exact h'.elim
        · exact h.elim
      · exact h.elim
    · exact h.elim
  · exact h.elim

end Go.Sym

set_option linter.unusedVariables false
set_option linter.unusedSimpArgs false
namespace Go.Sym
open Go

variable {P : Program} {Γ : Tab}

/-! ### make -/
def zrowK (ti : TI) (l : Nat) (K : List Seg → Prop) : Prop :=
  match ti.d with
  | .int .u8 => (match ti.zero with
    | [.one (.int .u8 n)] => (match decide (n = 0) with | true => K [.bytes l (List.replicate l 0)] | false => False)
    | _ => False)
  | .int k => (match ti.zero with
    | [.one (.int k' n)] => (match decide (k' = k ∧ n = 0) with | true => K [.ints k l (List.replicate l 0)] | false => False)
    | _ => False)
  | _ => K [.recs ti.size l fun _ j => cellD ti.zero j]

theorem zrowK_sound {ti : TI} {l : Nat} {K : List Seg → Prop} (h : zrowK ti l K) (hz : tot ti.zero = ti.size) : ∃ segs, K segs ∧ tot segs = l * ti.size ∧ ∀ k, k < l * ti.size → cellD segs k = cellD ti.zero (k % ti.size) := by
  unfold zrowK at h
  split at h
  · split at h
    · rename_i n hz0
      split at h
      · rename_i hn
        have hn := of_decide_eq_true hn
        subst hn
        have hs : ti.size = 1 := by rw [← hz, hz0]; rfl
        refine ⟨_, h, by simp [tot, Seg.width, hs], fun k hk => ?_⟩
        rw [hs, Nat.mul_one] at hk
        rw [hz0, hs, Nat.mod_one]
        simp [cellD, Seg.width, hk, Seg.at, List.getD_eq_getElem?_getD, List.getElem?_replicate]
      · exact h.elim
    · exact h.elim
  · split at h
    · rename_i k' n hz0
      split at h
      · rename_i hn
        have hn := of_decide_eq_true hn
        obtain ⟨rfl, rfl⟩ := hn
        have hs : ti.size = 1 := by rw [← hz, hz0]; rfl
        refine ⟨_, h, by simp [tot, Seg.width, hs], fun k hk => ?_⟩
        rw [hs, Nat.mul_one] at hk
        rw [hz0, hs, Nat.mod_one]
        simp [cellD, Seg.width, hk, Seg.at, List.getD_eq_getElem?_getD, List.getElem?_replicate]
      · exact h.elim
    · exact h.elim
  · refine ⟨_, h, by simp [tot, Seg.width], fun k hk => ?_⟩
    simp only [cellD, Seg.width, hk, if_true, Seg.at]

def makeK (Γ : Tab) (t : TypeId) (l c : FV) (H : Hp) (K : FV → Hp → Prop) : Prop :=
  match (tget Γ t).d with
  | .slice e => (match (tget Γ e).d.isOther, Nat.blt 0 (tget Γ e).bytes with
    | false, true => (match l, c with
      | .s (.lf (.int _ a)), .s (.lf (.int _ b)) => (0 ≤ a ∧ a ≤ b ∧ b * ((tget Γ e).bytes : Int) ≤ 140737488355328) ∧
          zrowK (tget Γ e) a.toNat fun z => newOwn e (tget Γ e).size a.toNat z H K
      | _, _ => False)
    | _, _ => False)
  | _ => False

theorem madeCells_get (z : Array Value) (n k : Nat) (h : k < n) : (madeCells z n)[k]? = some (z[k % z.size]!) := by
  simp [madeCells, h]

theorem makeK_sound (hΓ : TOK P Γ) {t : TypeId} {l c : FV} {H : Hp} {K : FV → Hp → Prop} (h : makeK Γ t l c H K) :
    ∃ r H', K r H' ∧ ∀ (w : World) (L : NM) (lv cv : Value), HRep w L H → repF w L l lv → repF w L c cv → ∃ rv w' L', (Instr.makeSlice t lv cv).run P w = .ok rv w' ∧ HRep w' L' H' ∧ repF w' L' r rv ∧ Ev w L w' L' := by
  unfold makeK at h
  split at h
  · rename_i e hd
    split at h
    · rename_i hno hby
      have hby := blt_true hby
      split at h
      · rename_i k1 a k2 b
        obtain ⟨⟨h0, h1, h2⟩, h⟩ := h
        obtain ⟨i, z, g1, g2, g3, g4, g5, g6, g7, _⟩ := (hΓ e).info hno
        obtain ⟨segs, hK, ht, hc⟩ := zrowK_sound h g6
        refine ⟨_, _, newOwn_out hK, fun w L lv cv hw hl hcv => ?_⟩
        obtain ⟨rfl, _⟩ := hl
        obtain ⟨rfl, _⟩ := hcv
        have hb : b * 1 ≤ b * ((tget Γ e).bytes : Int) := Int.mul_le_mul_of_nonneg_left (by omega) (by omega)
        have hrun := run_make (P := P) w t e i z (hΓ.und hd) g1 g4 k1 k2 a b h0 h1 (by rw [g3, Int.mul_comm]; omega) (by omega)
        have hle : a.toNat * (tget Γ e).size ≤ b.toNat * (tget Γ e).size := Nat.mul_le_mul_right _ (by omega)
        have hsz : (madeCells z.cells (b.toNat * i.size)).size = b.toNat * (tget Γ e).size := by rw [size_madeCells, g2]
        obtain ⟨q1, q2⟩ := hw.alloc ⟨e, segs⟩ (madeCells z.cells (b.toNat * i.size)) (0, 0) (.inl rfl) (by simp only; rw [ht, hsz]; exact hle) (by
          intro k hk
          rw [ht] at hk
          rw [hc k hk]
          have hpos : 0 < (tget Γ e).size := by
            rcases Nat.eq_zero_or_pos (tget Γ e).size with e0 | e0
            · rw [e0] at hk; simp at hk
            · exact e0
          have hlt : k % (tget Γ e).size < (tget Γ e).size := Nat.mod_lt _ hpos
          obtain ⟨y, y1, y2, y3⟩ := g7 w L (k % (tget Γ e).size) (by omega)
          refine ⟨y, ?_, y2, y3⟩
          rw [madeCells_get _ _ _ (by rw [g2]; omega), g5, g6]
          rw [getElem!_def, y1])
        refine ⟨_, _, _, hrun, q1, ?_, q2⟩
        simp only [repF, repS, rep, NM.with, if_true]
        refine ⟨b.toNat, 0, rfl, by omega, by unfold maxLen; omega, fun _ => ⟨by omega, _, _, _, heap_alloc_new' w _, ?_⟩⟩
        rw [hsz, Nat.zero_add, Nat.zero_add]; exact Nat.le_refl _
      · exact h.elim
    · exact h.elim
  · exact h.elim

/-! ### copy -/
def spl {α : Type} (xs : List α) (off : Nat) (zs : List α) : List α := xs.take off ++ zs ++ xs.drop (off + zs.length)

theorem spl_getD {α : Type} (xs : List α) (off : Nat) (zs : List α) (d : α) (h : off + zs.length ≤ xs.length) (i : Nat) :
    (spl xs off zs).getD i d = if off ≤ i ∧ i < off + zs.length then zs.getD (i - off) d else xs.getD i d := by
  unfold spl
  simp only [List.getD_eq_getElem?_getD, List.append_assoc]
  by_cases h1 : i < off
  · rw [if_neg (by omega), List.getElem?_append_left (by simp; omega), List.getElem?_take, if_pos h1]
  · rw [List.getElem?_append_right (by simp; omega), List.length_take, show min off xs.length = off by omega]
    by_cases h2 : i < off + zs.length
    · rw [if_pos ⟨by omega, h2⟩, List.getElem?_append_left (by omega)]
    · rw [if_neg (by omega), List.getElem?_append_right (by omega), List.getElem?_drop]
      congr 2; omega

/-- A whole number's row as a list. -/
def srcI (x : FV) (H : Hp) (K : IntKind → List Int → Prop) : Prop :=
  match x with
  | .s (.lf (.own nm base st off len)) => (match hget H nm, Nat.beq st 1 with
    | some ob, true => rowK ob.segs base fun s => (match s with
      | .ints k n xs => (off + len ≤ n ∧ off + len ≤ xs.length) ∧ K k ((xs.drop off).take len)
      | _ => False)
    | _, _ => False)
  | _ => False

theorem srcI_sound {x : FV} {H : Hp} {K : IntKind → List Int → Prop} (h : srcI x H K) :
    ∃ k xs, K k xs ∧ ∀ (P : Program) (w : World) (L : NM) (v : Value), HRep w L H → repF w L x v → ∃ news, Src P w L v 1 xs.length news (fun i _ => .int k (xs.getD i 0)) := by
  unfold srcI at h
  split at h
  · rename_i nm base st off len
    split at h
    · rename_i ob hob hs
      have hs := beq_true hs
      subst hs
      obtain ⟨p, s, q, e1, e2, h'⟩ := rowK_sound h
      clear h
      split at h'
      · rename_i k n xs
        obtain ⟨⟨h0, h1⟩, hK⟩ := h'
        refine ⟨_, _, hK, fun P w L v hw hv => ?_⟩
        obtain ⟨b, c, fz, f1, f2, f3, f4, f5⟩ := hw.live nm ob (hget_some hob)
        simp only [repF, repS, rep, f1] at hv
        obtain ⟨cap, o, rfl, g1, g2, g3⟩ := hv
        have hlen : ((xs.drop off).take len).length = len := by simp; omega
        rw [hlen]
        refine Src.of_slice (by omega) ?_
        rcases Nat.eq_zero_or_pos len with hl | hl
        · exact .inl hl
        · refine .inr ⟨_, rfl, rfl, fun i hi j hj => ?_⟩
          have : j = 0 := by omega
          subst this
          obtain ⟨ho, _⟩ := g3 (by omega)
          subst ho
          have hlt : off + i < (Seg.ints k n xs).width := by simp only [Seg.width]; omega
          have := f5 (base + (off + i)) (by rw [e1, ← e2]; exact tot_mid hlt)
          rw [e1, ← e2, cellD_mid hlt] at this
          obtain ⟨y, k1, k2, k3⟩ := this
          refine ⟨y, ?_, k2, ?_⟩
          · simp only [cell_of_block f2]
            rw [← k1]; congr 1; omega
          · simp only [List.getD_eq_getElem?_getD, List.getElem?_take, List.getElem?_drop, hi, if_true]
            simp only [Seg.at, List.getD_eq_getElem?_getD] at k3
            exact k3
      · exact h'.elim
    · exact h.elim
  · exact h.elim

/-- A segment of a row turned. -/
def rowModK : List Seg → Nat → (Seg → (Seg → Prop) → Prop) → (List Seg → Prop) → Prop
  | [], _, _, _ => False
  | s :: l, b, F, K => match Nat.beq b 0 with
    | true => F s fun s' => K (s' :: l)
    | false => match Nat.ble s.width b with | true => rowModK l (b - s.width) F fun l' => K (s :: l') | false => False

theorem rowModK_sound {l : List Seg} {b : Nat} {F : Seg → (Seg → Prop) → Prop} {K : List Seg → Prop} (h : rowModK l b F K) : ∃ p s q, l = p ++ s :: q ∧ tot p = b ∧ F s fun s' => K (p ++ s' :: q) := by
  induction l generalizing b K with
  | nil => exact h.elim
  | cons s l ih =>
    simp only [rowModK] at h
    split at h
    · rename_i hb
      exact ⟨[], s, l, rfl, (beq_true hb).symm, h⟩
    · split at h
      · rename_i hb
        obtain ⟨p, s', q, h1, h2, h3⟩ := ih h
        exact ⟨s :: p, s', q, by rw [h1]; rfl, by have := ble_true hb; simp [tot]; omega, h3⟩
      · exact h.elim

def copyK (Γ : Tab) (dT : TypeId) (d s : FV) (H : Hp) (K : FV → Hp → Prop) : Prop :=
  match (tget Γ dT).d with
  | .slice e => (match (tget Γ e).d.isOther, Nat.beq (tget Γ e).size 1 with
    | false, true => (match d with
      | .s (.lf (.own nm base st off len)) => (match hget H nm, Nat.beq st 1 with
        | some ob, true => (match (tget Γ e).d with
          | .int .u8 => srcB s H fun ys => rowModK ob.segs base (fun sg k => (match sg with
              | .bytes n xs => (off + len ≤ n ∧ off + len ≤ xs.length) ∧ k (.bytes n (spl xs off (ys.take len)))
              | _ => False)) fun l' => hsetK H nm (some ⟨ob.ty, l'⟩) fun H' => K (.s (.lf (.int .i64 ((min ys.length len : Nat) : Int)))) H'
          | .int k => srcI s H fun k' ys => rowModK ob.segs base (fun sg kk => (match sg with
              | .ints k2 n xs => (match decide (k2 = k') with
                | true => (off + len ≤ n ∧ off + len ≤ xs.length) ∧ kk (.ints k2 n (spl xs off (ys.take len)))
                | false => False)
              | _ => False)) fun l' => hsetK H nm (some ⟨ob.ty, l'⟩) fun H' => K (.s (.lf (.int .i64 ((min ys.length len : Nat) : Int)))) H'
          | _ => False)
        | _, _ => False)
      | _ => False)
    | _, _ => False)
  | _ => False

/-- The run of a copy into a row of the call's own, of single cells. -/
theorem copy_core (hΓ : TOK P Γ) {dT e : TypeId} (hd : (tget Γ dT).d = .slice e) (hno : (tget Γ e).d.isOther = false) (hs1 : (tget Γ e).size = 1) {H : Hp} {nm base off len m : Nat} {ob : OB} (hob : hget H nm = some ob)
    {p q : List Seg} {sg sg' : Seg} (e1 : ob.segs = p ++ sg :: q) (e2 : tot p = base) (hwid : sg'.width = sg.width) (hle : off + len ≤ sg.width) {g : Nat → Nat → LV}
    (hin : ∀ i, i < min m len → sg'.at (off + i) = g i 0) (hout : ∀ i, i < sg.width → ¬ (off ≤ i ∧ i < off + min m len) → sg'.at i = sg.at i)
    {w : World} {L : NM} {dv sv : Value} (hw : HRep w L H) (hdv : rep w L (.own nm base 1 off len) dv) {news : List Value} (hsv : Src P w L sv 1 m news g) (sT ty : TypeId) :
    ∃ w', (Builtin.copy_ #[dT, sT] ty #[dv, sv]).run P w = .ok (.int .i64 ((min m len : Nat) : Int)) w' ∧ HRep w' L (H.set nm (some ⟨ob.ty, p ++ sg' :: q⟩)) ∧ Ev w L w' L := by
  obtain ⟨b, c, fz, f1, f2, f3, f4, f5⟩ := hw.live nm ob (hget_some hob)
  simp only [rep, f1] at hdv
  obtain ⟨cap, o, rfl, q1, q2, q3⟩ := hdv
  have hfirst := hsv.firsts w (min m len) rfl (by omega)
  rw [Nat.mul_one] at hfirst
  have hnl : (news.take (min m len)).length = min m len := by rw [List.length_take, hsv.len]; omega
  have ht : P.underlying dT = some (.slice e) := hΓ.und hd
  have hmin : Nat.min m len = min m len := rfl
  have htot : tot p + sg.width + tot q = tot ob.segs := by rw [e1, tot_append]; simp [tot]; omega
  have h1 : ∀ v ∈ news.take (min m len), v.oneCell' = true := fun v hv => hsv.row.oneCell hsv.len v (List.mem_of_mem_take hv)
  have key : ∀ k, k < tot ob.segs → (wr c (base + off) (news.take (min m len)))[k]? = if base + off ≤ k ∧ k < base + off + min m len then news[k - (base + off)]? else c[k]? := by
    intro k hk
    rw [wr_get _ _ _ (by rw [hnl]; omega), hnl]
    by_cases hc : base + off ≤ k ∧ k < base + off + min m len
    · rw [if_pos hc, if_pos hc, List.getElem?_take, if_pos (by omega)]
    · rw [if_neg hc, if_neg hc]
  have hrow : repA w L (p ++ sg' :: q) (wr c (base + off) (news.take (min m len))) := by
    intro k hk
    have hk' : k < tot ob.segs := by rw [tot_append] at hk; simp only [tot] at hk; omega
    rw [key k hk']
    by_cases c1 : k < tot p
    · rw [if_neg (by omega), cellD_append_left _ _ _ c1]
      have := f5 k hk'
      rw [e1, cellD_append_left _ _ _ c1] at this
      exact this
    · by_cases c2 : k < tot p + sg.width
      · have hlt : k - tot p < sg.width := by omega
        have ek : k = tot p + (k - tot p) := by omega
        have e3 : cellD (p ++ sg' :: q) k = sg'.at (k - tot p) := by rw [ek, cellD_mid (by omega)]; congr 1; omega
        rw [e3]
        by_cases c3 : base + off ≤ k ∧ k < base + off + min m len
        · rw [if_pos c3]
          obtain ⟨y, y1, y2, y3⟩ := hsv.row (k - (base + off)) (by omega) 0 (by omega)
          refine ⟨y, by simpa using y1, y2, ?_⟩
          have := hin (k - (base + off)) (by omega)
          rw [show k - tot p = off + (k - (base + off)) by omega, this]
          exact y3
        · rw [if_neg c3, hout _ hlt (by omega)]
          have := f5 k hk'
          rw [e1, ek, cellD_mid hlt] at this
          rw [← ek] at this
          exact this
      · rw [if_neg (by omega)]
        have := f5 k hk'
        have ek : k = tot p + (sg.width + (k - tot p - sg.width)) := by omega
        have e3 : cellD (p ++ sg' :: q) k = cellD q (k - tot p - sg.width) := by
          rw [ek, cellD_append_right]; simp only [cellD]; rw [hwid, if_neg (by omega)]; congr 1; omega
        have e4 : cellD (p ++ sg :: q) k = cellD q (k - tot p - sg.width) := by
          rw [ek, cellD_append_right]; simp only [cellD]; rw [if_neg (by omega)]; congr 1; omega
        rw [e1, e4] at this
        rw [e3]
        exact this
  obtain ⟨k1, k2⟩ := hw.write (hget_some hob) f1 f2 (wr_size c (base + off) (news.take (min m len))) (ob' := ⟨ob.ty, p ++ sg' :: q⟩) rfl (by simp only [tot_append, tot]; omega) hrow
  refine ⟨_, ?_, k1, k2⟩
  have hst : (storeCells ⟨b, o, none⟩ (news.take (min m len))).run P w = .ok () (w.setRow b (wr c (base + off) (news.take (min m len)))) := by
    rcases Nat.eq_zero_or_pos (min m len) with h0 | h0
    · rw [h0]
      simp only [List.take_zero, storeCells, wr]
      rw [setRow_self w b c _ fz f2]; rfl
    · obtain ⟨ho, _⟩ := q3 (by omega)
      have := run_storeCells_wr (P := P) b (base + off) _ fz (news.take (min m len)) 0 c w f2 (by rw [hnl]; omega) f3.out h1
      rw [ho, Nat.mul_one]
      simpa using this
  simp [Builtin.copy_, run_underlying ht, hsv.lenOf, hmin, size_run hΓ hno, hs1, hfirst, hst, goInt]

theorem copyK_sound (hΓ : TOK P Γ) {dT : TypeId} {d s : FV} {H : Hp} {K : FV → Hp → Prop} (h : copyK Γ dT d s H K) :
    ∃ r H', K r H' ∧ ∀ (w : World) (L : NM) (dv sv : Value) (sT ty : TypeId), HRep w L H → repF w L d dv → repF w L s sv →
      ∃ rv w', (Builtin.copy_ #[dT, sT] ty #[dv, sv]).run P w = .ok rv w' ∧ HRep w' L H' ∧ repF w' L r rv ∧ Ev w L w' L := by
  unfold copyK at h
  split at h
  · rename_i e hd
    split at h
    · rename_i hno hs1
      have hs1 := beq_true hs1
      split at h
      · rename_i nm base st off len
        split at h
        · rename_i ob hob hst
          have hst := beq_true hst
          subst hst
          split at h
          · obtain ⟨ys, h', hsrc⟩ := srcB_src h
            obtain ⟨p, sg, q, e1, e2, h'⟩ := rowModK_sound h'
            split at h'
            · rename_i n xs
              obtain ⟨⟨k1, k2⟩, h'⟩ := h'
              refine ⟨_, _, hsetK_out h', fun w L dv sv sT ty hw hdv hsv => ?_⟩
              obtain ⟨news, hn⟩ := hsrc P w L sv hw hsv
              obtain ⟨w', r1, r2, r3⟩ := copy_core hΓ hd hno hs1 hob e1 e2 (sg' := .bytes n (spl xs off (ys.take len))) rfl (by simpa [Seg.width] using k1) (m := ys.length) (fun i hi => by
                simp only [Seg.at]
                rw [spl_getD _ _ _ _ (by rw [List.length_take]; omega), if_pos (by rw [List.length_take]; omega), show off + i - off = i by omega]
                simp only [List.getD_eq_getElem?_getD, List.getElem?_take]
                rw [if_pos (by omega)]) (fun i hi hni => by
                simp only [Seg.at]
                rw [spl_getD _ _ _ _ (by rw [List.length_take]; omega), if_neg (by rw [List.length_take]; omega)]) hw hdv hn sT ty
              exact ⟨_, w', r1, r2, ⟨rfl, len_range (by have := hn.le; omega)⟩, r3⟩
            · exact h'.elim
          · obtain ⟨k, ys, h', hsrc⟩ := srcI_sound h
            obtain ⟨p, sg, q, e1, e2, h2⟩ := rowModK_sound h'
            clear h'
            split at h2
            · rename_i kk n xs
              split at h2
              · rename_i hk
                have hk := of_decide_eq_true hk
                subst hk
                obtain ⟨⟨k1, k2⟩, h3⟩ := h2
                refine ⟨_, _, hsetK_out h3, fun w L dv sv sT ty hw hdv hsv => ?_⟩
                obtain ⟨news, hn⟩ := hsrc P w L sv hw hsv
                obtain ⟨w', r1, r2, r3⟩ := copy_core hΓ hd hno hs1 hob e1 e2 (sg' := .ints _ n (spl xs off (ys.take len))) rfl (by simpa [Seg.width] using k1) (m := ys.length) (fun i hi => by
                  simp only [Seg.at]
                  rw [spl_getD _ _ _ _ (by rw [List.length_take]; omega), if_pos (by rw [List.length_take]; omega), show off + i - off = i by omega]
                  simp only [List.getD_eq_getElem?_getD, List.getElem?_take]
                  rw [if_pos (by omega)]) (fun i hi hni => by
                  simp only [Seg.at]
                  rw [spl_getD _ _ _ _ (by rw [List.length_take]; omega), if_neg (by rw [List.length_take]; omega)]) hw hdv hn sT ty
                exact ⟨_, w', r1, r2, ⟨rfl, len_range (by have := hn.le; omega)⟩, r3⟩
              · exact h2.elim
            · exact h2.elim
          · exact h.elim
        · exact h.elim
      · exact h.elim
    · exact h.elim
  · exact h.elim

end Go.Sym

set_option linter.unusedVariables false
set_option linter.unusedSimpArgs false
namespace Go.Sym
open Go

variable {P : Program} {Γ : Tab}

/-! ### Literals -/
def partSegs (v : FV) : Option (List Seg) :=
  match v with
  | .s (.lf u) => (match leafy u with | true => some [.one u] | false => none)
  | .s (.agg l) => some l
  | _ => none

theorem partSegs_sound {v : FV} {l : List Seg} (h : partSegs v = some l) : ∀ w L x, repF w L v x → x.cells.size = tot l ∧ repA w L l x.cells := by
  intro w L x hx
  unfold partSegs at h
  split at h
  · rename_i u
    split at h
    · rename_i hl
      simp only [Option.some.injEq] at h
      subst h
      have h1 := leafy_oneCell hl hx
      rw [oneCell_cells h1]
      refine ⟨rfl, fun o ho => ?_⟩
      have : o = 0 := by simp [tot, Seg.width] at ho; omega
      subst this
      exact ⟨x, rfl, h1, hx⟩
    · simp at h
  · simp only [Option.some.injEq] at h
    subst h
    obtain ⟨arr, rfl, g1, g2⟩ := hx
    exact ⟨g1, g2⟩
  · simp at h

def fillSegs (pl : Nat → Option (Nat × Nat)) : List Seg → List (Nat × FV) → Option (List Seg)
  | segs, [] => some segs
  | segs, (i, v) :: rest => match pl i with
    | some (off, size) => (match partSegs v with
      | some vs => (match Nat.beq (tot vs) size with
        | true => (match dropS segs off with
          | some (p, r) => (match dropS r size with
            | some (_, q) => fillSegs pl (p ++ (vs ++ q)) rest
            | none => none)
          | none => none)
        | false => none)
      | none => none)
    | none => none

theorem foldl_wr (off : Nat) (l : List Value) (s : Nat) (c : Array Value) : (l.zipIdx s).foldl (fun cs (x : Value × Nat) => cs.setIfInBounds (off + x.2) x.1) c = wr c (off + s) l := by
  induction l generalizing s c with
  | nil => rfl
  | cons v l ih =>
    simp only [List.zipIdx_cons, List.foldl_cons, wr]
    rw [ih]
    rfl

theorem repA_splice {w : World} {L : NM} {segs p m q vs : List Seg} {off : Nat} {c arr : Array Value} (h : repA w L segs c) (hs : c.size = tot segs) (e1 : segs = p ++ (m ++ q)) (e2 : tot p = off) (e3 : tot vs = tot m)
    (ha : arr.size = tot vs) (hv : repA w L vs arr) : repA w L (p ++ (vs ++ q)) (wr c off arr.toList) := by
  intro k hk
  simp only [tot_append] at hk
  have htot : tot segs = tot p + tot m + tot q := by rw [e1, tot_append, tot_append]; omega
  rw [wr_get _ _ _ (by simp; omega)]
  simp only [Array.length_toList, Array.getElem?_toList]
  by_cases c1 : k < off
  · rw [if_neg (by omega)]
    obtain ⟨y, j1, j2, j3⟩ := h k (by omega)
    refine ⟨y, j1, j2, ?_⟩
    rw [cellD_append_left _ _ _ (by omega)]
    rw [e1, cellD_append_left _ _ _ (by omega)] at j3
    exact j3
  · by_cases c2 : k < off + arr.size
    · rw [if_pos ⟨by omega, c2⟩]
      obtain ⟨y, j1, j2, j3⟩ := hv (k - off) (by omega)
      refine ⟨y, j1, j2, ?_⟩
      rw [show k = tot p + (k - off) by omega, cellD_append_right, cellD_append_left _ _ _ (by omega)]
      exact j3
    · rw [if_neg (by omega)]
      obtain ⟨y, j1, j2, j3⟩ := h k (by omega)
      refine ⟨y, j1, j2, ?_⟩
      rw [show k = tot p + (tot vs + (k - off - tot vs)) by omega, cellD_append_right, cellD_append_right]
      rw [e1, show k = tot p + (tot m + (k - off - tot vs)) by omega, cellD_append_right, cellD_append_right] at j3
      exact j3

theorem fillSegs_sound {pl : Nat → Option (Nat × Nat)} {w : World} {L : NM} : ∀ {parts : List (Nat × FV)} {segs segs' : List Seg} {vparts : List (Nat × Value)} {c : Array Value},
    fillSegs pl segs parts = some segs' → repA w L segs c → c.size = tot segs → vparts.length = parts.length → (∀ (k i : Nat) (v : FV), parts[k]? = some (i, v) → ∃ x, vparts[k]? = some (i, x) ∧ repF w L v x) →
    ∃ c', Instr.fill pl c vparts = some c' ∧ repA w L segs' c' ∧ c'.size = tot segs' := by
  intro parts
  induction parts with
  | nil =>
    intro segs segs' vparts c h hr hs hl hp
    simp only [fillSegs, Option.some.injEq] at h
    subst h
    have : vparts = [] := List.eq_nil_of_length_eq_zero (by simpa using hl)
    subst this
    exact ⟨c, rfl, hr, hs⟩
  | cons pv rest ih =>
    obtain ⟨i, v⟩ := pv
    intro segs segs' vparts c h hr hs hl hp
    cases vparts with
    | nil => simp at hl
    | cons xv vrest =>
      obtain ⟨x, hx0, hx⟩ := hp 0 i v rfl
      simp only [List.getElem?_cons_zero, Option.some.injEq] at hx0
      subst hx0
      simp only [fillSegs] at h
      split at h
      · rename_i off size hpl
        split at h
        · rename_i vs hvs
          split at h
          · rename_i hsz
            have hsz := beq_true hsz
            split at h
            · rename_i p r hd
              split at h
              · rename_i m q hd2
                obtain ⟨e1, e2⟩ := dropS_sound hd
                obtain ⟨e3, e4⟩ := dropS_sound hd2
                obtain ⟨g1, g2⟩ := partSegs_sound hvs w L x hx
                have hr' := repA_splice hr hs (by rw [e1, e3]) e2 (by omega) g1 g2
                have hs' : (wr c off x.cells.toList).size = tot (p ++ (vs ++ q)) := by
                  rw [wr_size, hs, e1, e3]; simp only [tot_append]; omega
                obtain ⟨c', k1, k2, k3⟩ := ih (vparts := vrest) h hr' hs' (by simpa using hl) (fun k i' v' hk => hp (k + 1) i' v' hk)
                refine ⟨c', ?_, k2, k3⟩
                simp only [Instr.fill, hpl]
                have htot : tot segs = tot p + tot m + tot q := by rw [e1, e3, tot_append, tot_append]; omega
                have hc : (decide (x.cells.size ≠ size) || decide (off + x.cells.size > c.size)) = false := by
                  simp only [Bool.or_eq_false_iff, decide_eq_false_iff_not]; omega
                rw [hc]
                simp only [Bool.false_eq_true, if_false]
                rw [← k1]
                congr 1
                have := foldl_wr off x.cells.toList 0 c
                rw [Nat.add_zero] at this
                rw [← this]
                rw [← Array.foldl_toList]
                simp [Array.toList_zipIdx]
              · simp at h
            · simp at h
          · simp at h
        · simp at h
      · simp at h

def collectI (k : IntKind) : List Seg → Option (List Int)
  | [] => some []
  | .one (.int k' a) :: l => (match decide (k' = k) with
    | true => (match collectI k l with | some r => some (a :: r) | none => none)
    | false => none)
  | _ => none

theorem collectI_sound {k : IntKind} {l : List Seg} {xs : List Int} (h : collectI k l = some xs) : xs.length = tot l ∧ ∀ o, o < tot l → cellD l o = .int k (xs.getD o 0) := by
  induction l generalizing xs with
  | nil => simp [collectI] at h; subst h; exact ⟨rfl, fun o ho => by simp [tot] at ho⟩
  | cons s l ih =>
    unfold collectI at h
    split at h
    · rename_i heq; simp at heq
    · rename_i k' a l' heq
      simp only [List.cons.injEq] at heq
      obtain ⟨rfl, rfl⟩ := heq
      split at h
      · rename_i hk
        have hk := of_decide_eq_true hk
        subst hk
        split at h
        · rename_i r hr
          simp only [Option.some.injEq] at h
          subst h
          obtain ⟨h1, h2⟩ := ih hr
          refine ⟨by simp [tot, Seg.width, h1]; omega, fun o ho => ?_⟩
          cases o with
          | zero => simp [cellD, Seg.width, Seg.at]
          | succ o =>
            simp only [tot, Seg.width] at ho
            have e : ¬ (o + 1 < 1) := by omega
            simp only [cellD, Seg.width, e, if_false, Nat.add_sub_cancel]
            rw [h2 o (by omega)]
            simp
        · simp at h
      · simp at h
    · simp at h

def isNilParts : List (Nat × FV) → Bool
  | [] => true
  | _ => false

def mapParts (vs : Operand → FV) : List (Nat × Operand) → List (Nat × FV)
  | [] => []
  | (i, x) :: l => (i, vs x) :: mapParts vs l

theorem mapParts_eq (vs : Operand → FV) (l : List (Nat × Operand)) : mapParts vs l = l.map fun p => (p.1, vs p.2) := by
  induction l with
  | nil => rfl
  | cons p l ih => simp [mapParts, ih]

/-- The row of whole numbers, as one segment. -/
def packK (d : TD) (n : Nat) (segs : List Seg) (K : List Seg → Prop) : Prop :=
  match d with
  | .int .u8 => (match collectI .u8 segs with | some xs => K [.bytes n (xs.map fun a => UInt8.ofNat a.toNat)] | none => False)
  | .int k => (match collectI k segs with | some xs => K [.ints k n xs] | none => False)
  | _ => segsK segs K

theorem packK_sound {d : TD} {n : Nat} {segs : List Seg} {K : List Seg → Prop} (h : packK d n segs K) (hn : d.isInt = true → n = tot segs) : ∃ segs', K segs' ∧ tot segs' = tot segs ∧ ∀ w L c, repA w L segs c → repA w L segs' c := by
  unfold packK at h
  split at h
  · split at h
    · rename_i xs hxs
      obtain ⟨h1, h2⟩ := collectI_sound hxs
      have hn := hn rfl
      refine ⟨_, h, by simp [tot, Seg.width, hn], fun w L c hr o ho => ?_⟩
      simp only [tot, Seg.width, Nat.add_zero] at ho
      obtain ⟨y, k1, k2, k3⟩ := hr o (by omega)
      refine ⟨y, k1, k2, ?_⟩
      rw [h2 o (by omega)] at k3
      simp only [cellD, Seg.width, ho, if_true, Seg.at]
      have hlt : o < xs.length := by omega
      rw [List.getD_eq_getElem?_getD, List.getElem?_map, List.getElem?_eq_getElem hlt]
      rw [List.getD_eq_getElem?_getD, List.getElem?_eq_getElem hlt] at k3
      simp only [Option.getD_some] at k3
      obtain ⟨k4, k5, k6⟩ := k3
      exact ⟨by rw [Option.map_some, Option.getD_some, u8_back k5 k6]; exact k4, by rw [Option.map_some, Option.getD_some, u8_back k5 k6]; exact ⟨k5, k6⟩⟩
    · exact h.elim
  · split at h
    · rename_i xs hxs
      obtain ⟨h1, h2⟩ := collectI_sound hxs
      have hn := hn rfl
      refine ⟨_, h, by simp [tot, Seg.width, hn], fun w L c hr o ho => ?_⟩
      simp only [tot, Seg.width, Nat.add_zero] at ho
      obtain ⟨y, k1, k2, k3⟩ := hr o (by omega)
      refine ⟨y, k1, k2, ?_⟩
      rw [h2 o (by omega)] at k3
      simp only [cellD, Seg.width, ho, if_true, Seg.at]
      exact k3
    · exact h.elim
  · rw [segsK_eq] at h
    exact ⟨_, h, rfl, fun w L c hr => hr⟩

def placeF (Γ : Tab) (fs : List (Nat × TypeId)) (i : Nat) : Option (Nat × Nat) :=
  match nthF fs i with | some (off, ft) => some (off, (tget Γ ft).size) | none => none

def knownF (Γ : Tab) : List (Nat × TypeId) → Bool
  | [] => true
  | (_, ft) :: l => (match (tget Γ ft).d.isOther with | true => false | false => knownF Γ l)

def unOnes (z : List Seg) (n : Nat) : List Seg := ones (fun o => cellD z o) 0 n

theorem unOnes_rep {w : World} {L : NM} {z : List Seg} {n : Nat} {c : Array Value} (hn : tot z = n) (h : repA w L z c) : repA w L (unOnes z n) c := by
  intro o ho
  unfold unOnes at ho ⊢
  rw [tot_ones] at ho
  rw [cellD_ones _ _ _ _ ho, Nat.zero_add]
  exact h o (by omega)

def buildK (Γ : Tab) (t : TypeId) (parts : List (Nat × FV)) (K : FV → Prop) : Prop :=
  match (tget Γ t).d with
  | .struct fs => (match knownF Γ fs with
    | true => (match fillSegs (placeF Γ fs) (tget Γ t).zero parts with
      | some segs => segsK segs fun l => K (.s (.agg l))
      | none => False)
    | false => False)
  | .arr n e => (match (tget Γ e).d.isOther with
    | true => False
    | false => (match isNilParts parts with
      | true => segsK (tget Γ t).zero fun l => K (.s (.agg l))
      | false => (match Nat.beq (tget Γ e).size 1, Nat.beq (tget Γ t).size n with
        | true, true => (match fillSegs (fun i => some (i * 1, 1)) (unOnes (tget Γ t).zero n) parts with
          | some segs => (match Nat.beq (tot segs) n with | true => packK (tget Γ e).d n segs fun l => K (.s (.agg l)) | false => False)
          | none => False)
        | _, _ => False)))
  | _ => False


theorem run_build_places (hΓ : TOK P Γ) : ∀ (fields : List Field), knownF Γ (fields.map fun f => (f.offset, f.type)) = true →
    fields.mapM (fun f => (P.info? f.type).map fun i => (f.offset, i.size)) = some (fields.map fun f => (f.offset, (tget Γ f.type).size)) := by
  intro fields
  induction fields with
  | nil => intro _; rfl
  | cons f l ih =>
    intro h
    simp only [List.map_cons, knownF] at h
    split at h
    · simp at h
    · rename_i hno
      obtain ⟨i, z, g1, g2, _⟩ := (hΓ f.type).info hno
      simp [List.mapM_cons, g1, g2, ih h]

theorem placeF_eq (fields : List Field) (i : Nat) : placeF Γ (fields.map fun f => (f.offset, f.type)) i = ((fields.map fun f => (f.offset, (tget Γ f.type).size)).toArray)[i]? := by
  unfold placeF
  rw [nthF_eq]
  simp only [List.getElem?_map, List.getElem?_toArray]
  cases fields[i]? <;> rfl

theorem buildK_sound (hΓ : TOK P Γ) {t : TypeId} {parts : List (Nat × FV)} {K : FV → Prop} (h : buildK Γ t parts K) :
    ∃ r, K r ∧ ∀ (w : World) (L : NM) (vparts : Array (Nat × Value)), vparts.toList.length = parts.length → (∀ (k i : Nat) (v : FV), parts[k]? = some (i, v) → ∃ x, vparts.toList[k]? = some (i, x) ∧ repF w L v x) →
      ∃ rv, (Instr.build t vparts).run P w = .ok rv w ∧ repF w L r rv := by
  unfold buildK at h
  split at h
  · rename_i fs hd
    split at h
    · rename_i hk
      split at h
      · rename_i segs hfill
        rw [segsK_eq] at h
        refine ⟨_, h, fun w L vparts hl hp => ?_⟩
        have hno : (tget Γ t).d.isOther = false := by rw [hd]; rfl
        obtain ⟨i, z, g1, g2, g3, g4, g5, g6, g7, _⟩ := (hΓ t).info hno
        obtain ⟨fields, f1, f2, f3⟩ := hΓ.und hd
        subst f2
        obtain ⟨c', k1, k2, k3⟩ := fillSegs_sound (vparts := vparts.toList) hfill (g7 w L) g5 hl hp
        have hpl := run_build_places hΓ fields.toList hk
        have : P.built t vparts.toList = some c' := by
          unfold Program.built
          simp only [g1, f1, g4, hpl]
          rw [← k1]
          congr 1
          funext i
          exact (placeF_eq fields.toList i).symm
        exact ⟨_, run_build w t vparts c' this, ⟨c', rfl, k3, k2⟩⟩
      · exact h.elim
    · exact h.elim
  · rename_i n e hd
    have hno : (tget Γ t).d.isOther = false := by rw [hd]; rfl
    obtain ⟨i, z, g1, g2, g3, g4, g5, g6, g7, g8, _⟩ := (hΓ t).info hno
    have hf : P.underlying t = some (.array n e) := hΓ.und hd
    split at h
    · exact h.elim
    rename_i hnoe
    obtain ⟨ie, ze, i1, i2, i3, i4, i5, i6, i7, i8, i9⟩ := (hΓ e).info hnoe
    split at h
    · rename_i hnil
      rw [segsK_eq] at h
      refine ⟨_, h, fun w L vparts hl hp => ?_⟩
      have hp0 : parts = [] := by cases parts with | nil => rfl | cons a b => simp [isNilParts] at hnil
      subst hp0
      have hv0 : vparts.toList = [] := List.eq_nil_of_length_eq_zero (by simpa using hl)
      have hv1 : vparts = #[] := by cases vparts; simp at hv0; subst hv0; rfl
      subst hv1
      have : P.built t [] = some z.cells := by
        unfold Program.built
        simp only [g1, hf, g4, i1]
        rfl
      exact ⟨_, run_build w t #[] _ this, ⟨_, rfl, g5, g7 w L⟩⟩
    · split at h
      · rename_i c3 c4
        have c3 := beq_true c3; have c4 := beq_true c4
        split at h
        · rename_i segs hfill
          split at h
          · rename_i c5
            have c5 := beq_true c5
            obtain ⟨segs', hK, ht, hr⟩ := packK_sound h (fun _ => c5.symm)
            refine ⟨_, hK, fun w L vparts hl hp => ?_⟩
            obtain ⟨c', k1, k2, k3⟩ := fillSegs_sound (vparts := vparts.toList) hfill (unOnes_rep (by rw [g6, c4]) (g7 w L)) (by unfold unOnes; rw [tot_ones, g5, g6, c4]) hl hp
            have : P.built t vparts.toList = some c' := by
              unfold Program.built
              simp only [g1, hf, g4, i1, i2, c3]
              exact k1
            exact ⟨_, run_build w t vparts c' this, ⟨c', rfl, by rw [k3, ht], hr w L c' k2⟩⟩
          · exact h.elim
        · exact h.elim
      · exact h.elim
  · exact h.elim

/-! ### Slices written out -/
def zeroRep (z : List Seg) : Nat → List Seg
  | 0 => []
  | n + 1 => z ++ zeroRep z n

theorem tot_zeroRep (z : List Seg) (n : Nat) : tot (zeroRep z n) = n * tot z := by
  induction n with
  | zero => simp [zeroRep, tot]
  | succ n ih => simp only [zeroRep, tot_append, ih, Nat.add_mul]; omega

theorem cellD_zeroRep (z : List Seg) (n k : Nat) (h : k < n * tot z) : cellD (zeroRep z n) k = cellD z (k % tot z) := by
  induction n generalizing k with
  | zero => simp at h
  | succ n ih =>
    simp only [zeroRep]
    by_cases hk : k < tot z
    · rw [cellD_append_left _ _ _ hk, Nat.mod_eq_of_lt hk]
    · rw [show k = tot z + (k - tot z) by omega, cellD_append_right, ih _ (by rw [Nat.add_mul] at h; omega), Nat.add_mod_left]

def bsliceK (Γ : Tab) (t : TypeId) (len : Nat) (parts : List (Nat × FV)) (H : Hp) (K : FV → Hp → Prop) : Prop :=
  match (tget Γ t).d with
  | .slice e => (match (tget Γ e).d.isOther, Nat.ble (len * (tget Γ e).size) 16777216, Nat.blt 0 (tget Γ e).size with
    | false, true, true => (match fillSegs (fun i => some (i * (tget Γ e).size, (tget Γ e).size)) (zeroRep (tget Γ e).zero len) parts with
      | some segs => (match Nat.beq (tot segs) (len * (tget Γ e).size) with
        | true => (match (tget Γ e).d with
          | .int .u8 => (match Nat.beq (tget Γ e).size 1, collectI .u8 segs with
            | true, some xs => newOwn e 1 len [.bytes len (xs.map fun a => UInt8.ofNat a.toNat)] H K ∨ K (.s (.lf (.rob true true (xs.map fun a => UInt8.ofNat a.toNat)))) H
            | _, _ => False)
          | .int k => (match Nat.beq (tget Γ e).size 1, collectI k segs with
            | true, some xs => newOwn e 1 len [.ints k len xs] H K ∨ K (.s (.lf (.ro true true 1 len fun i _ => .int k (xs.getD i 0)))) H
            | _, _ => False)
          | _ => newOwn e (tget Γ e).size len [.recs (tget Γ e).size len fun i j => cellD segs (i * (tget Γ e).size + j)] H K ∨
              K (.s (.lf (.ro true true (tget Γ e).size len fun i j => cellD segs (i * (tget Γ e).size + j)))) H)
        | false => False)
      | none => False)
    | _, _, _ => False)
  | _ => False

/-- A new row of cells, with a name or without. -/
theorem newRow_own {w : World} {L : NM} {H : Hp} (hw : HRep w L H) {e st len : Nat} {segs : List Seg} {c : Array Value} (ht : tot segs = len * st) (hs : c.size = len * st) (hr : repA w L segs c) (hm : len ≤ maxLen) :
    HRep (w.alloc (.cells c e)) (L.with H.length (some w.heap.size)) (H ++ [some ⟨e, segs⟩]) ∧ rep (w.alloc (.cells c e)) (L.with H.length (some w.heap.size)) (.own H.length 0 st 0 len) (.slice (some ⟨w.heap.size, 0, none⟩) len len) ∧
      Ev w L (w.alloc (.cells c e)) (L.with H.length (some w.heap.size)) := by
  obtain ⟨q1, q2⟩ := hw.alloc ⟨e, segs⟩ c (0, 0) (.inl rfl) (by simp only; omega) hr
  refine ⟨q1, ?_, q2⟩
  simp only [rep, NM.with, if_true]
  exact ⟨len, 0, rfl, Nat.le_refl _, hm, fun _ => ⟨by omega, _, _, _, heap_alloc_new' w _, by rw [hs]; simp⟩⟩

theorem newRow_ro {w : World} {L : NM} {H : Hp} (hw : HRep w L H) {e st len : Nat} {segs : List Seg} {c : Array Value} (ht : tot segs = len * st) (hr : repA w L segs c) (hm : len ≤ maxLen) {p : Nat → Nat → Value → Prop}
    (hp : ∀ i j y, i < len → j < st → rep w L (cellD segs (i * st + j)) y → p i j y) :
    HRep (w.alloc (.cells c e)) L H ∧ roRep (w.alloc (.cells c e)) L true true st len p (.slice (some ⟨w.heap.size, 0, none⟩) len len) ∧ Ev w L (w.alloc (.cells c e)) L := by
  obtain ⟨q1, q2⟩ := hw.alloc_free (.cells c e)
  refine ⟨q1, .inr ⟨_, len, rfl, Nat.le_refl _, hm, fun _ => rfl, fun _ => ⟨rfl, by simp, hw.not_has (Nat.le_refl _), hw.not_X (Nat.le_refl _)⟩, fun i hi j hj => ?_⟩, q2⟩
  obtain ⟨y, y1, y2, y3⟩ := hr (i * st + j) (by rw [ht]; exact mul_lt_of hi hj)
  refine ⟨y, ?_, y2, hp i j y hi hj y3⟩
  refine (cell_of_block (heap_alloc_new' w _) _).trans ?_
  rw [Nat.zero_add]; exact y1

theorem bsliceK_sound (hΓ : TOK P Γ) {t : TypeId} {len : Nat} {parts : List (Nat × FV)} {H : Hp} {K : FV → Hp → Prop} (h : bsliceK Γ t len parts H K) :
    ∃ r H', K r H' ∧ ∀ (w : World) (L : NM) (vparts : Array (Nat × Value)), HRep w L H → vparts.toList.length = parts.length → (∀ (k i : Nat) (v : FV), parts[k]? = some (i, v) → ∃ x, vparts.toList[k]? = some (i, x) ∧ repF w L v x) →
      ∃ rv w' L', (Instr.buildSlice t len vparts).run P w = .ok rv w' ∧ HRep w' L' H' ∧ repF w' L' r rv ∧ Ev w L w' L' := by
  unfold bsliceK at h
  split at h
  · rename_i e hd
    split at h
    · rename_i hno hbig hsz
      have hbig := ble_true hbig; have hsz := blt_true hsz
      obtain ⟨i, z, g1, g2, g3, g4, g5, g6, g7, _⟩ := (hΓ e).info hno
      split at h
      · rename_i segs hfill
        split at h
        · rename_i c5
          have c5 := beq_true c5
          have hm : len ≤ maxLen := by
            have : len * 1 ≤ len * (tget Γ e).size := Nat.mul_le_mul_left _ hsz
            unfold maxLen; omega
          have run : ∀ (w : World) (L : NM) (vparts : Array (Nat × Value)), vparts.toList.length = parts.length → (∀ (k i : Nat) (v : FV), parts[k]? = some (i, v) → ∃ x, vparts.toList[k]? = some (i, x) ∧ repF w L v x) →
              ∃ c, (Instr.buildSlice t len vparts).run P w = .ok (.slice (some ⟨w.heap.size, 0, none⟩) len len) (w.alloc (.cells c e)) ∧ repA w L segs c ∧ c.size = tot segs := by
            intro w L vparts hl hp
            have hzr : repA w L (zeroRep (tget Γ e).zero len) ((Array.range (len * i.size)).map (z.cells[· % z.cells.size]!)) := by
              intro k hk
              rw [tot_zeroRep, g6] at hk
              rw [cellD_zeroRep _ _ _ (by rw [g6]; exact hk)]
              obtain ⟨y, y1, y2, y3⟩ := g7 w L (k % tot (tget Γ e).zero) (Nat.mod_lt _ (by omega))
              refine ⟨y, ?_, y2, y3⟩
              have : k < len * i.size := by rw [g2]; exact hk
              simp only [Array.getElem?_map, Array.getElem?_range, this, if_true, Option.map_some]
              rw [g5, getElem!_def, y1]
            obtain ⟨c', k1, k2, k3⟩ := fillSegs_sound (vparts := vparts.toList) hfill hzr (by rw [tot_zeroRep, g6]; simp [g2]) hl hp
            refine ⟨c', ?_, k2, k3⟩
            have hb2 : ¬ (len * (tget Γ e).size > 2 ^ 24) := by omega
            have hb3 : ¬ (16777216 < len * (tget Γ e).size) := by omega
            rw [g2] at k1
            by_cases h0 : len * (tget Γ e).size = 0
            · rw [h0] at k1
              simp only [Array.range_zero', Array.map_empty] at k1
              simp [Instr.buildSlice, run_underlying (hΓ.und hd), size_run hΓ hno, h0, k1, newRow, Array.range_zero']
            · simp [Instr.buildSlice, run_underlying (hΓ.und hd), size_run hΓ hno, hb3, h0, zeroValue, typeInfo, g1, g4, k1, newRow]
          split at h
          · split at h
            · rename_i xs c6 hcol
              have c6 := beq_true c6
              have c7 : tot segs = len := by rw [c5, c6, Nat.mul_one]
              obtain ⟨x1, x2⟩ := collectI_sound hcol
              rcases h with h | h
              · refine ⟨_, _, newOwn_out h, fun w L vparts hw hl hp => ?_⟩
                obtain ⟨c, r1, r2, r3⟩ := run w L vparts hl hp
                obtain ⟨segs', e1, e2, e3⟩ := packK_sound (d := .int .u8) (n := len) (segs := segs) (K := fun l => l = [.bytes len (xs.map fun a => UInt8.ofNat a.toNat)]) (by simp only [packK, hcol]) (fun _ => by omega)
                subst e1
                obtain ⟨q1, q2, q3⟩ := newRow_own (st := 1) (len := len) hw (by simp [tot, Seg.width]) (by rw [r3, c5, c6]) (e3 w L c r2) hm (e := e)
                exact ⟨_, _, _, r1, q1, q2, q3⟩
              · refine ⟨_, _, h, fun w L vparts hw hl hp => ?_⟩
                obtain ⟨c, r1, r2, r3⟩ := run w L vparts hl hp
                have hlen : (xs.map fun a => UInt8.ofNat a.toNat).length = len := by simp [x1, c5, c6]
                obtain ⟨segs', e1, e2, e3⟩ := packK_sound (d := .int .u8) (n := len) (segs := segs) (K := fun l => l = [.bytes len (xs.map fun a => UInt8.ofNat a.toNat)]) (by simp only [packK, hcol]) (fun _ => by omega)
                subst e1
                obtain ⟨q1, q2, q3⟩ := newRow_ro (st := 1) (len := len) (e := e) hw (by simp [tot, Seg.width]) (e3 w L c r2) hm (p := fun i _ y => y = .int .u8 ((((xs.map fun a => UInt8.ofNat a.toNat)).getD i 0).toNat : Int)) (fun i j y hi hj hy => by
                  have : j = 0 := by omega
                  subst this
                  simp only [cellD, Seg.width, Nat.mul_one, Nat.add_zero, hi, if_true, Seg.at] at hy
                  exact hy.1)
                refine ⟨_, _, L, r1, q1, ?_, q3⟩
                simp only [repF, repS, rep, hlen]
                exact q2
            · exact h.elim
          · rename_i k hku hdk
            split at h
            · rename_i xs c6 hcol
              have c6 := beq_true c6
              have c7 : tot segs = len := by rw [c5, c6, Nat.mul_one]
              obtain ⟨x1, x2⟩ := collectI_sound hcol
              rcases h with h | h
              · refine ⟨_, _, newOwn_out h, fun w L vparts hw hl hp => ?_⟩
                obtain ⟨c, r1, r2, r3⟩ := run w L vparts hl hp
                obtain ⟨q1, q2, q3⟩ := newRow_own (st := 1) (len := len) (segs := [.ints k len xs]) hw (by simp [tot, Seg.width]) (by rw [r3, c5, c6]) (fun o ho => by
                  simp only [tot, Seg.width, Nat.add_zero] at ho
                  obtain ⟨y, y1, y2, y3⟩ := r2 o (by omega)
                  rw [x2 o (by omega)] at y3
                  exact ⟨y, y1, y2, by simpa only [cellD, Seg.width, ho, if_true, Seg.at] using y3⟩) hm (e := e)
                exact ⟨_, _, _, r1, q1, q2, q3⟩
              · refine ⟨_, _, h, fun w L vparts hw hl hp => ?_⟩
                obtain ⟨c, r1, r2, r3⟩ := run w L vparts hl hp
                obtain ⟨q1, q2, q3⟩ := newRow_ro (st := 1) (len := len) (e := e) hw (by rw [c5, c6]) r2 hm (p := fun i j y => rep (w.alloc (.cells c e)) L (.int k (xs.getD i 0)) y) (fun i j y hi hj hy => by
                  have : j = 0 := by omega
                  subst this
                  rw [Nat.mul_one, Nat.add_zero, x2 i (by omega)] at hy
                  exact hy)
                exact ⟨_, _, L, r1, q1, q2, q3⟩
            · exact h.elim
          · rcases h with h | h
            · refine ⟨_, _, newOwn_out h, fun w L vparts hw hl hp => ?_⟩
              obtain ⟨c, r1, r2, r3⟩ := run w L vparts hl hp
              obtain ⟨q1, q2, q3⟩ := newRow_own (st := (tget Γ e).size) (len := len) (segs := [.recs (tget Γ e).size len fun i j => cellD segs (i * (tget Γ e).size + j)]) hw (by simp [tot, Seg.width]) (by rw [r3, c5]) (fun o ho => by
                simp only [tot, Seg.width, Nat.add_zero] at ho
                obtain ⟨y, y1, y2, y3⟩ := r2 o (by omega)
                refine ⟨y, y1, y2, ?_⟩
                simp only [cellD, Seg.width, ho, if_true, Seg.at]
                rw [Nat.mul_comm, Nat.div_add_mod]; exact y3) hm (e := e)
              exact ⟨_, _, _, r1, q1, q2, q3⟩
            · refine ⟨_, _, h, fun w L vparts hw hl hp => ?_⟩
              obtain ⟨c, r1, r2, r3⟩ := run w L vparts hl hp
              obtain ⟨q1, q2, q3⟩ := newRow_ro (st := (tget Γ e).size) (len := len) (e := e) hw c5 r2 hm (p := fun i j y => rep (w.alloc (.cells c e)) L (cellD segs (i * (tget Γ e).size + j)) y) (fun i j y hi hj hy => rep.mono (hw.alloc_free _).2 _ _ hy)
              exact ⟨_, _, L, r1, q1, q2, q3⟩
        · exact h.elim
      · exact h.elim
    · exact h.elim
  · exact h.elim

end Go.Sym

set_option linter.unusedVariables false
set_option linter.unusedSimpArgs false
namespace Go.Sym
open Go

variable {P : Program} {Γ : Tab}

/-! ### Equality of structs and arrays -/
def cutS (l : List Seg) (off sz : Nat) : Option (List Seg) :=
  match dropS l off with
  | some (_, r) => (match dropS r sz with | some (m, _) => some m | none => none)
  | none => none

def eqFs (rec : TypeId → List Seg → List Seg → Option Bool) (Γ : Tab) : List (Nat × TypeId) → List Seg → List Seg → Option Bool
  | [], _, _ => some true
  | (off, ft) :: fs, l1, l2 => match (tget Γ ft).d.isOther with
    | true => none
    | false => (match cutS l1 off (tget Γ ft).size, cutS l2 off (tget Γ ft).size with
      | some m1, some m2 => (match rec ft m1 m2, eqFs rec Γ fs l1 l2 with
        | some b, some c => some (b && c)
        | _, _ => none)
      | _, _ => none)

def eqLeaf (d : TD) (u v : LV) : Option Bool :=
  match d with
  | .int _ => (match u, v with
    | .int k a, .int k' b => (match decide (k = k') with | true => some (decide (a = b)) | false => none)
    | _, _ => none)
  | .str => (match u, v with | .str a, .str b => some (decide (a = b)) | _, _ => none)
  | .bool => (match toB u, toB v with | some a, some b => some (a == b) | _, _ => none)
  | _ => none

def eqT (Γ : Tab) : Nat → TypeId → List Seg → List Seg → Option Bool
  | 0, _, _, _ => none
  | f + 1, t, l1, l2 => match (tget Γ t).d with
    | .struct fs => eqFs (eqT Γ f) Γ fs l1 l2
    | .arr n e => (match (tget Γ e).d.isOther, (tget Γ e).d.isInt, Nat.beq (tget Γ e).size 1 with
      | false, true, true => (match l1, l2 with
        | [.ints k n1 xs], [.ints k' n2 ys] => (match decide (k = k'), Nat.beq n1 n, Nat.beq n2 n with
          | true, true, true => some (decide (∀ i, i < n → xs.getD i 0 = ys.getD i 0))
          | _, _, _ => none)
        | [.bytes n1 xs], [.bytes n2 ys] => (match Nat.beq n1 n, Nat.beq n2 n with
          | true, true => some (decide (∀ i, i < n → xs.getD i 0 = ys.getD i 0))
          | _, _ => none)
        | _, _ => none)
      | _, _, _ => none)
    | .bstruct _ => none
    | d => (match l1, l2 with
      | [.one u], [.one v] => eqLeaf d u v
      | _, _ => none)

/-- The value of a part whose cells these are. -/
def IsVal (d : TD) (arr : Array Value) (v : Value) : Prop := match d.isAgg with | true => v = .agg arr | false => arr = #[v]

theorem cutS_sound {l m : List Seg} {off sz : Nat} (h : cutS l off sz = some m) : ∃ p q, l = p ++ (m ++ q) ∧ tot p = off ∧ tot m = sz := by
  unfold cutS at h
  split at h
  · rename_i p r hd
    split at h
    · rename_i m' q hd2
      simp only [Option.some.injEq] at h
      subst h
      obtain ⟨e1, e2⟩ := dropS_sound hd
      obtain ⟨e3, e4⟩ := dropS_sound hd2
      exact ⟨p, q, by rw [e1, e3], e2, e4⟩
    · simp at h
  · simp at h

/-- A part of a struct's value. -/
theorem run_part (hΓ : TOK P Γ) {ft : TypeId} (hno : (tget Γ ft).d.isOther = false) {l m : List Seg} {off : Nat} (hc : cutS l off (tget Γ ft).size = some m) (hs : (tget Γ ft).d.isAgg = false → (tget Γ ft).size = 1) {w : World} {L : NM} {arr : Array Value}
    (h1 : arr.size = tot l) (h2 : repA w L l arr) :
    ∃ v a, (part ft arr off).run P w = .ok v w ∧ a.size = tot m ∧ repA w L m a ∧ IsVal (tget Γ ft).d a v := by
  obtain ⟨p, q, e1, e2, e3⟩ := cutS_sound hc
  subst e1
  obtain ⟨g1, g2⟩ := repA_sub h2 h1
  cases ha : (tget Γ ft).d.isAgg with
  | true =>
    refine ⟨.agg (arr.extract (tot p) (tot p + tot m)), _, ?_, g1, g2, ?_⟩
    · simp [part, isAgg_run hΓ hno, ha, size_run hΓ hno, e2, e3]
    · unfold IsVal; rw [ha]
  | false =>
    have hm1 := hs ha
    obtain ⟨y, k1, k2, k3⟩ := h2 (tot p) (by simp only [tot_append]; omega)
    refine ⟨y, _, by simp [part, isAgg_run hΓ hno, ha, ← e2, k1], g1, g2, ?_⟩
    unfold IsVal
    rw [ha]
    simp only []
    apply Array.ext
    · rw [g1, e3, hm1]; rfl
    · intro i h1 h2
      have : i = 0 := by simp at h2; omega
      subst this
      rw [Array.getElem_extract]
      have hlt : tot p < arr.size := by
        rcases Nat.lt_or_ge (tot p) arr.size with h' | h'
        · exact h'
        · rw [Array.getElem?_eq_none h'] at k1; simp at k1
      rw [Array.getElem?_eq_getElem hlt] at k1
      simpa using k1

theorem leafSize (hΓ : TOK P Γ) {t : TypeId} (hno : (tget Γ t).d.isOther = false) (ha : (tget Γ t).d.isAgg = false) : (tget Γ t).size = 1 := by
  obtain ⟨i, z, g1, g2, g3, g4, g5, g6, g7, g8, g9⟩ := (hΓ t).info hno
  have := oneCell_cells (g9 ha)
  rw [this] at g5
  simp at g5
  omega

theorem decide_list (f g : Nat → Int) (n : Nat) (w : World) {P : Program} {elem : TypeId} {d : Nat} {va vb : Nat → Value} {xs ys : Array Value}
    (hp : ∀ i, i < n → (part elem xs (i * 1)).run P w = .ok (va i) w ∧ (part elem ys (i * 1)).run P w = .ok (vb i) w ∧ (Op.equalIn d elem (va i) (vb i)).run P w = .ok (decide (f i = g i)) w) :
    ∀ (m s : Nat), s + m ≤ n → ((forIn (List.range' s m) ((none, ()) : Option Bool × Unit) fun i r => (do
        if (!(← Op.equalIn d elem (← part elem xs (i * 1)) (← part elem ys (i * 1)))) = true then pure (ForInStep.done (some false, ())) else pure (ForInStep.yield (none, ())) : Sem (ForInStep (Option Bool × Unit)))) : Sem (Option Bool × Unit)).run P w =
      .ok (if ∀ i, i < m → f (s + i) = g (s + i) then (none, ()) else (some false, ())) w := by
  intro m
  induction m with
  | zero =>
    intro s hs
    rw [if_pos (fun i h1 => by omega)]
    simp
  | succ m ih =>
    intro s hs
    obtain ⟨h1, h2, h3⟩ := hp s (by omega)
    rw [List.range'_succ]
    simp only [List.forIn_cons, Sem.run_bind, h1, h2, h3, Result.andThen_ok, Sem.run_ite, Sem.run_pure]
    by_cases hfg : f s = g s
    · simp only [hfg, decide_true, Bool.not_true, Bool.false_eq_true, if_false, Result.andThen_ok]
      rw [ih (s + 1) (by omega)]
      congr 1
      by_cases hall : ∀ i, i < m → f (s + 1 + i) = g (s + 1 + i)
      · rw [if_pos hall, if_pos (fun i a => by
          cases i with
          | zero => exact hfg
          | succ i => have := hall i (by omega); rw [show s + (i + 1) = s + 1 + i by omega]; exact this)]
      · rw [if_neg hall, if_neg (fun h => hall (fun i a => by have := h (i + 1) (by omega); rw [show s + 1 + i = s + (i + 1) by omega]; exact this))]
    · simp only [hfg, decide_false, Bool.not_false, if_true, Result.andThen_ok, Sem.run_pure]
      rw [if_neg (fun h => hfg (h 0 (by omega)))]

theorem run_equalIn_arr (f g : Nat → Int) {n d : Nat} {t elem : TypeId} {w : World} {va vb : Nat → Value} {xs ys : Array Value} (ht : P.underlying t = some (.array n elem)) (hs : (sizeOf elem).run P w = .ok 1 w)
    (hp : ∀ i, i < n → (part elem xs (i * 1)).run P w = .ok (va i) w ∧ (part elem ys (i * 1)).run P w = .ok (vb i) w ∧ (Op.equalIn d elem (va i) (vb i)).run P w = .ok (decide (f i = g i)) w) :
    (Op.equalIn (d + 1) t (.agg xs) (.agg ys)).run P w = .ok (decide (∀ i, i < n → f i = g i)) w := by
  have := decide_list f g n w hp n 0 (by omega)
  simp only [Op.equalIn, Sem.run_bind, run_underlying ht, Result.andThen_ok, hs, Std.Legacy.Range.forIn_eq_forIn_range', Std.Legacy.Range.size, Nat.sub_zero, Nat.add_sub_cancel, Nat.div_one] at this ⊢
  rw [this]
  simp only [Result.andThen_ok, Nat.zero_add]
  by_cases h : ∀ i, i < n → f i = g i
  · rw [if_pos h, decide_eq_true h]; rfl
  · rw [if_neg h, decide_eq_false h]; rfl


theorem eqLeaf_sound {d : TD} {u v : LV} {r : Bool} (h : eqLeaf d u v = some r) {t : TypeId} (hf : d.fits P t) (n : Nat) {w : World} {L : NM} {x y : Value} (hx : rep w L u x) (hy : rep w L v y) :
    (Op.equalIn (n + 1) t x y).run P w = .ok r w := by
  unfold eqLeaf at h
  split at h
  · split at h
    · rename_i k a k' b
      split at h
      · rename_i hk
        have hk := of_decide_eq_true hk
        subst hk
        simp only [Option.some.injEq] at h
        subst h
        obtain ⟨rfl, _⟩ := hx
        obtain ⟨rfl, _⟩ := hy
        rw [run_equalIn_int w n t k _ a b hf]
        congr 1
      · simp at h
    · simp at h
  · split at h
    · rename_i a b
      simp only [Option.some.injEq] at h
      subst h
      obtain ⟨rfl, _⟩ := hx
      obtain ⟨rfl, _⟩ := hy
      rw [run_equalIn_string w n t _ _ hf]
      simp only [ByteArray.toList_mk]
      congr 1
      rw [Bool.eq_iff_iff]; simp
    · simp at h
  · split at h
    · rename_i a b ha hb
      simp only [Option.some.injEq] at h
      subst h
      rw [toB_rep ha hx, toB_rep hb hy]
      exact equalIn_bool w n hf a b
    · simp at h
  · simp at h

theorem eqFs_sound (hΓ : TOK P Γ) {rec : TypeId → List Seg → List Seg → Option Bool} {n : Nat} {w : World} {L : NM}
    (hrec : ∀ t l1 l2 r, (tget Γ t).d.isOther = false → rec t l1 l2 = some r → ∀ a1 a2 v1 v2, a1.size = tot l1 → a2.size = tot l2 → repA w L l1 a1 → repA w L l2 a2 → IsVal (tget Γ t).d a1 v1 → IsVal (tget Γ t).d a2 v2 → (Op.equalIn n t v1 v2).run P w = .ok r w)
    {l1 l2 : List Seg} {a1 a2 : Array Value} (h1 : a1.size = tot l1) (h2 : a2.size = tot l2) (r1 : repA w L l1 a1) (r2 : repA w L l2 a2) :
    ∀ (fields : List Field) (r : Bool), (∀ f ∈ fields, f.name ≠ "_") → eqFs rec Γ (fields.map fun f => (f.offset, f.type)) l1 l2 = some r → (Op.eqFields n a1 a2 fields).run P w = .ok r w := by
  intro fields
  induction fields with
  | nil => intro r _ h; simp [eqFs] at h; subst h; rfl
  | cons f fs ih =>
    intro r hn h
    simp only [List.map_cons, eqFs] at h
    split at h
    · simp at h
    · rename_i hno
      split at h
      · rename_i m1 m2 c1 c2
        split at h
        · rename_i b c hb hc
          simp only [Option.some.injEq] at h
          subst h
          have hleaf : (tget Γ f.type).d.isAgg = false → (tget Γ f.type).size = 1 := leafSize hΓ hno
          obtain ⟨v1, b1, p1, p2, p3, p4⟩ := run_part hΓ hno c1 hleaf h1 r1
          obtain ⟨v2, b2, q1, q2, q3, q4⟩ := run_part hΓ hno c2 hleaf h2 r2
          have heq := hrec _ _ _ _ hno hb b1 b2 v1 v2 p2 q2 p3 q3 p4 q4
          have ih' := ih c (fun f' hf' => hn f' (by simp [hf'])) hc
          simp only [Op.eqFields]
          rw [if_pos (hn f (by simp))]
          simp only [Sem.run_bind, p1, q1, heq, Result.andThen_ok]
          cases b
          · simp
          · simp [ih']
        · simp at h
      · simp at h

theorem eqT_sound (hΓ : TOK P Γ) : ∀ (fuel : Nat) (t : TypeId) (l1 l2 : List Seg) (r : Bool), (tget Γ t).d.isOther = false → eqT Γ fuel t l1 l2 = some r → ∀ (n : Nat) (w : World) (L : NM) (a1 a2 : Array Value) (v1 v2 : Value),
    a1.size = tot l1 → a2.size = tot l2 → repA w L l1 a1 → repA w L l2 a2 → IsVal (tget Γ t).d a1 v1 → IsVal (tget Γ t).d a2 v2 → (Op.equalIn (n + fuel + 1) t v1 v2).run P w = .ok r w := by
  intro fuel
  induction fuel with
  | zero => intro t l1 l2 r _ h; simp [eqT] at h
  | succ fuel ih =>
    intro t l1 l2 r hno h n w L a1 a2 v1 v2 s1 s2 r1 r2 i1 i2
    simp only [eqT] at h
    split at h
    · rename_i fs hd
      obtain ⟨fields, f1, f2, f3⟩ := hΓ.und hd
      subst f2
      have ha : (tget Γ t).d.isAgg = true := by rw [hd]; rfl
      unfold IsVal at i1 i2
      rw [ha] at i1 i2
      simp only [] at i1 i2
      subst i1; subst i2
      have hfo : P.fieldsOf t = fields := by simp [Program.fieldsOf, f1]
      rw [show n + (fuel + 1) + 1 = (n + fuel + 1) + 1 by omega, run_equalIn_struct w (n + fuel + 1) t a1 a2 (by rw [hfo]; exact f1) ((hΓ t).nostood ha), hfo]
      exact eqFs_sound hΓ (fun t l1 l2 r hno h a1 a2 v1 v2 s1 s2 r1 r2 i1 i2 => ih t l1 l2 r hno h n w L a1 a2 v1 v2 s1 s2 r1 r2 i1 i2) s1 s2 r1 r2 fields.toList r f3 h
    · rename_i m e hd
      have ha : (tget Γ t).d.isAgg = true := by rw [hd]; rfl
      unfold IsVal at i1 i2
      rw [ha] at i1 i2
      simp only [] at i1 i2
      subst i1; subst i2
      have hf : P.underlying t = some (.array m e) := hΓ.und hd
      split at h
      · rename_i c1 c2 c3
        have c3 := beq_true c3
        obtain ⟨k0, hk0⟩ : ∃ k, (tget Γ e).d = .int k := by
          cases hde : (tget Γ e).d <;> rw [hde] at c2 <;> simp [TD.isInt] at c2
          exact ⟨_, rfl⟩
        have hea : (tget Γ e).d.isAgg = false := by rw [hk0]; rfl
        have hfe : P.underlying e = some (.int k0) := hΓ.und hk0
        have hsz : (sizeOf e).run P w = .ok 1 w := by rw [size_run hΓ c1, c3]
        have part1 : ∀ (arr : Array Value) (i : Nat) (y : Value), arr[i]? = some y → (part e arr (i * 1)).run P w = .ok y w := by
          intro arr i y hy
          simp [part, isAgg_run hΓ c1, hea, hy]
        split at h
        · rename_i k n1 xs k' n2 ys
          split at h
          · rename_i d1 d2 d3
            have d1 := of_decide_eq_true d1; have d2 := beq_true d2; have d3 := beq_true d3
            subst d1; subst d2; subst d3
            simp only [Option.some.injEq] at h
            subst h
            rw [show n + (fuel + 1) + 1 = (n + fuel + 1) + 1 by omega]
            refine run_equalIn_arr (fun i => xs.getD i 0) (fun i => ys.getD i 0) (va := fun i => .int k (xs.getD i 0)) (vb := fun i => .int k (ys.getD i 0)) hf hsz (fun i hi => ?_)
            obtain ⟨y1, g1, g2, g3⟩ := r1 i (by simpa [tot, Seg.width] using hi)
            obtain ⟨y2, j1, j2, j3⟩ := r2 i (by simpa [tot, Seg.width] using hi)
            simp only [cellD, Seg.width, hi, if_true, Seg.at] at g3 j3
            rw [g3.1] at g1
            rw [j3.1] at j1
            refine ⟨part1 a1 i _ g1, part1 a2 i _ j1, ?_⟩
            rw [run_equalIn_int w (n + fuel) e k k0 _ _ hfe]
            congr 1
          · simp at h
        · rename_i n1 xs n2 ys
          split at h
          · rename_i d2 d3
            have d2 := beq_true d2; have d3 := beq_true d3
            subst d2; subst d3
            simp only [Option.some.injEq] at h
            subst h
            rw [show n + (fuel + 1) + 1 = (n + fuel + 1) + 1 by omega]
            have key := run_equalIn_arr (d := n + fuel + 1) (w := w) (fun i => ((xs.getD i 0).toNat : Int)) (fun i => ((ys.getD i 0).toNat : Int)) (xs := a1) (ys := a2) (va := fun i => .int .u8 ((xs.getD i 0).toNat : Int)) (vb := fun i => .int .u8 ((ys.getD i 0).toNat : Int)) hf hsz (fun i hi => by
              obtain ⟨y1, g1, g2, g3⟩ := r1 i (by simpa [tot, Seg.width] using hi)
              obtain ⟨y2, j1, j2, j3⟩ := r2 i (by simpa [tot, Seg.width] using hi)
              simp only [cellD, Seg.width, hi, if_true, Seg.at] at g3 j3
              rw [g3.1] at g1
              rw [j3.1] at j1
              refine ⟨part1 a1 i _ g1, part1 a2 i _ j1, ?_⟩
              rw [run_equalIn_int w (n + fuel) e .u8 k0 _ _ hfe]
              congr 1)
            rw [key]
            congr 1
            rw [Bool.eq_iff_iff]
            simp only [decide_eq_true_eq]
            constructor
            · intro hh i hi
              have := hh i hi
              exact UInt8.toNat_inj.1 (by omega)
            · intro hh i hi
              rw [hh i hi]
          · simp at h
        · simp at h
      · simp at h
    · simp at h
    · rename_i hns hna hnb
      split at h
      · rename_i u v
        have ha : (tget Γ t).d.isAgg = false := by
          cases hd : (tget Γ t).d <;> first | rfl | (exfalso; exact hns _ hd) | (exfalso; exact hna _ _ hd) | (exfalso; exact hnb _ hd)
        unfold IsVal at i1 i2
        rw [ha] at i1 i2
        simp only [] at i1 i2
        subst i1; subst i2
        obtain ⟨y1, g1, _, g3⟩ := r1 0 (by simp [tot, Seg.width])
        obtain ⟨y2, j1, _, j3⟩ := r2 0 (by simp [tot, Seg.width])
        simp at g1 j1
        subst g1; subst j1
        exact eqLeaf_sound h (hΓ t).fits (n + (fuel + 1)) (by simpa [cellD, Seg.width, Seg.at] using g3) (by simpa [cellD, Seg.width, Seg.at] using j3)
      · simp at h

end Go.Sym

set_option linter.unusedVariables false
set_option linter.unusedSimpArgs false
namespace Go.Sym
open Go

variable {P : Program} {Γ : Tab}

/-! ### Calls -/
def RepArgs (w : World) (L : NM) (args : List FV) (vals : Array Value) : Prop :=
  vals.size = args.length ∧ ∀ (i : Nat) (v : FV), args[i]? = some v → ∃ x, vals[i]? = some x ∧ repF w L v x

/-- What a function gives: of any values that are worth args, over any heap that is worth H. -/
def CallSem (P : Program) (f : FuncId) (args : List FV) (H : Hp) (r : FV) (H' : Hp) : Prop :=
  ∀ (w : World) (L : NM) (vals : Array Value), HRep w L H → RepArgs w L args vals → ∀ (o : Oper) (a : Act) (next : Act → World → Prop) (Q : Exit → Act → World → Prop),
    (∀ rv w' L', HRep w' L' H' → repF w' L' r rv → Ev w L w' L' → next (a.put o.dst rv) w') → o.upon P a next Q ((callFunc f vals).run P w)

def SCalls (P : Program) (f : FuncId) (args : List FV) (H : Hp) (r : FV) (H' : Hp) : Prop :=
  (∃ fn, P.funcs[f]? = some fn ∧ fn.body.isNone = false ∧ (fn.name == "runtime.NumGoroutine") = false) ∧
  ∀ (w : World) (L : NM) (vals : Array Value), HRep w L H → RepArgs w L args vals →
    Calls P f vals w fun e w' => ∃ v L', e = .returned v ∧ HRep w' L' H' ∧ repF w' L' r v ∧ Ev w L w' L'

theorem SCalls.sem {f : FuncId} {args : List FV} {H : Hp} {r : FV} {H' : Hp} (h : SCalls P f args H r H') : CallSem P f args H r H' := by
  intro w L vals hw ha o a next Q hn
  obtain ⟨⟨fn, h1, h2, h3⟩, hc⟩ := h
  have : (callFunc f vals).run P w = .ok (.enter f vals) w := by
    simp only [callFunc, Sem.run_bind, run_program, Result.andThen_ok, h1, h3, h2, Bool.false_eq_true, if_false, Sem.run_pure]
  rw [this]
  refine (hc w L vals hw ha).mono fun e w' he => ?_
  obtain ⟨v, L', rfl, g1, g2, g3⟩ := he
  exact hn v w' L' g1 g2 g3

/-- A call: the user says what it gives. -/
structure CallK (P : Program) (f : FuncId) (args : List FV) (H : Hp) (K : FV → Hp → Prop) : Prop where
  out : ∃ r H', CallSem P f args H r H' ∧ K r H'

/-- A call that leaves the heap as it is. -/
structure CallR (P : Program) (f : FuncId) (args : List FV) (H : Hp) (K : FV → Prop) : Prop where
  out : ∃ r, CallSem P f args H r H ∧ K r

theorem CallK.mk' {f : FuncId} {args : List FV} {H : Hp} {K : FV → Hp → Prop} (r : FV) (H' : Hp) (h : SCalls P f args H r H') (k : K r H') : CallK P f args H K := ⟨⟨r, H', h.sem, k⟩⟩
theorem CallR.mk' {f : FuncId} {args : List FV} {H : Hp} {K : FV → Prop} (r : FV) (h : SCalls P f args H r H) (k : K r) : CallR P f args H K := ⟨⟨r, h.sem, k⟩⟩

def mapK (vs : Operand → FV) : List Operand → (List FV → Prop) → Prop
  | [], K => K []
  | x :: l, K => fK (vs x) fun v => mapK vs l fun l => K (v :: l)

theorem mapK_eq (vs : Operand → FV) (l : List Operand) (K : List FV → Prop) : mapK vs l K = K (l.map vs) := by
  induction l generalizing K with
  | nil => rfl
  | cons x l ih => simp [mapK, fK_eq, ih]

def capV (v : LV) : FV :=
  match v with
  | .aggl n f => .s (.agg (ones f 0 n))
  | v => .s (.lf v)

def capsK (caps : Nat → LV) : Nat → Nat → (List FV → Prop) → Prop
  | _, 0, K => K []
  | k, n + 1, K => lK (caps k) fun v => litK (k + 1) fun k' => (match v with
    | .aggl m f => onesK f 0 m fun l => capsK caps k' n fun r => K (.s (.agg l) :: r)
    | v => capsK caps k' n fun r => K (.s (.lf v) :: r))

def capsL (caps : Nat → LV) : Nat → Nat → List FV
  | _, 0 => []
  | k, n + 1 => capV (caps k) :: capsL caps (k + 1) n

theorem capsK_eq (caps : Nat → LV) (k n : Nat) (K : List FV → Prop) : capsK caps k n K = K (capsL caps k n) := by
  induction n generalizing k K with
  | zero => rfl
  | succ n ih =>
    simp only [capsK, capsL, lK_eq, litK_eq]
    cases h : caps k <;> simp [capV, ih, onesK_eq]

theorem capsL_length (caps : Nat → LV) (k n : Nat) : (capsL caps k n).length = n := by
  induction n generalizing k with
  | zero => rfl
  | succ n ih => simp [capsL, ih]

theorem capsL_get (caps : Nat → LV) (k n i : Nat) (h : i < n) : (capsL caps k n)[i]? = some (capV (caps (k + i))) := by
  induction n generalizing k i with
  | zero => omega
  | succ n ih =>
    cases i with
    | zero => simp [capsL]
    | succ i => simp only [capsL, List.getElem?_cons_succ]; rw [ih _ _ (by omega)]; congr 3; omega

theorem capV_rep {w : World} {L : NM} {v : LV} {x : Value} (h : rep w L v x) : repF w L (capV v) x := by
  cases v <;> try exact h
  rename_i n f
  obtain ⟨arr, rfl, g1, g2⟩ := h
  refine ⟨arr, rfl, by rw [tot_ones, g1], fun o ho => ?_⟩
  rw [tot_ones] at ho
  rw [cellD_ones _ _ _ _ ho, Nat.zero_add]
  obtain ⟨y, a, b, c⟩ := g2 o ho
  exact ⟨y, a, b, c⟩

def toLV (v : FV) : Option LV :=
  match v with
  | .s (.lf (.aggl _ _)) => none
  | .s (.lf v) => some v
  | .s (.agg l) => some (.aggl (tot l) (cellD l))
  | .tup _ => none

theorem toLV_rep {v : FV} {u : LV} (h : toLV v = some u) {w : World} {L : NM} {x : Value} (hx : repF w L v x) : rep w L u x := by
  unfold toLV at h
  split at h
  · simp at h
  · simp only [Option.some.injEq] at h; subst h; exact hx
  · simp only [Option.some.injEq] at h; subst h
    obtain ⟨arr, rfl, g1, g2⟩ := hx
    exact ⟨arr, rfl, g1, g2⟩
  · simp at h

def lvs (vs : Operand → FV) : List Operand → Option (List LV)
  | [] => some []
  | x :: l => match toLV (vs x) with
    | some u => (match lvs vs l with | some r => some (u :: r) | none => none)
    | none => none

theorem lvs_sound {vs : Operand → FV} {l : List Operand} {r : List LV} (h : lvs vs l = some r) : r.length = l.length ∧ ∀ (i : Nat) (x : Operand), l[i]? = some x → ∃ u, r[i]? = some u ∧ toLV (vs x) = some u := by
  induction l generalizing r with
  | nil => simp [lvs] at h; subst h; exact ⟨rfl, fun i x hx => by simp at hx⟩
  | cons x l ih =>
    simp only [lvs] at h
    split at h
    · rename_i u hu
      split at h
      · rename_i r' hr
        simp only [Option.some.injEq] at h
        subst h
        obtain ⟨h1, h2⟩ := ih hr
        refine ⟨by simp [h1], fun i y hy => ?_⟩
        cases i with
        | zero => simp at hy; subst hy; exact ⟨u, rfl, hu⟩
        | succ i => simp at hy; simpa using h2 i y hy
      · simp at h
    · simp at h

def nthL : List LV → Nat → LV
  | [], _ => .any
  | x :: _, 0 => x
  | _ :: l, n + 1 => nthL l n

theorem nthL_get {l : List LV} {i : Nat} {u : LV} (h : l[i]? = some u) : nthL l i = u := by
  induction l generalizing i with
  | nil => simp at h
  | cons x l ih =>
    cases i with
    | zero => simp at h; simp [nthL, h]
    | succ i => simp at h; simp [nthL, ih h]

/-! ### One operation -/
/-- Operations on whole numbers, texts and Bools. -/
def binP (op : BinOp) (d : TD) (u v : LV) (K : FV → Prop) : Prop :=
  match u with
  | .int k a => (match v with | .int k' b => intK op k k' a b K | _ => False)
  | .str s => (match v with | .str t => strK op s t K | _ => False)
  | .tt => (match d with | .bool => (match toB v with | some b => boolsK op true b K | none => False) | _ => False)
  | .ff => (match d with | .bool => (match toB v with | some b => boolsK op false b K | none => False) | _ => False)
  | .bool a => (match d with | .bool => (match toB v with | some b => boolsK op a b K | none => False) | _ => False)
  | _ => False

theorem binP_sound {op : BinOp} {d : TD} {u v : LV} {K : FV → Prop} (h : binP op d u v K) :
    ∃ r, K r ∧ ∀ (P : Program) (t : TypeId) (w : World) (L : NM) (x y : Value), d.fits P t → rep w L u x → rep w L v y →
      (∃ rv, (binOp op t x y).run P w = .ok rv w ∧ repF w L r rv) ∧ (x ≠ .nilIface ∧ ∀ c, x ≠ .agg c) := by
  cases u with
  | int k a =>
    cases v <;> try exact h.elim
    rename_i k' b
    obtain ⟨r, hr, hk⟩ := run_binOp_int h
    refine ⟨r, hr, fun P t w L x y _ hx hy => ?_⟩
    obtain ⟨rfl, hx⟩ := hx
    obtain ⟨rfl, _⟩ := hy
    exact ⟨hk P t w L hx, by simp⟩
  | str s =>
    cases v <;> try exact h.elim
    rename_i s'
    obtain ⟨r, hr, hk⟩ := run_strK h
    refine ⟨r, hr, fun P t w L x y _ hx hy => ?_⟩
    obtain ⟨rfl, hx⟩ := hx
    obtain ⟨rfl, _⟩ := hy
    exact ⟨hk P t w L, by simp⟩
  | tt =>
    obtain ⟨r, hr, hk⟩ := binL_bools (a := true) h
    exact ⟨r, hr, fun P t w L x y hf hx hy => by rw [show x = .bool true from hx]; exact ⟨hk P t w L y hf hy, by simp⟩⟩
  | ff =>
    obtain ⟨r, hr, hk⟩ := binL_bools (a := false) h
    exact ⟨r, hr, fun P t w L x y hf hx hy => by rw [show x = .bool false from hx]; exact ⟨hk P t w L y hf hy, by simp⟩⟩
  | bool b =>
    obtain ⟨r, hr, hk⟩ := binL_bools (a := b) h
    exact ⟨r, hr, fun P t w L x y hf hx hy => by rw [show x = .bool b from hx]; exact ⟨hk P t w L y hf hy, by simp⟩⟩
  | _ => exact h.elim

def isStore : Op → Bool
  | .store .. => true
  | _ => false

/-- Operations that neither read nor change the heap. -/
def opP (Γ : Tab) (op : Op) (vs : Operand → FV) (K : FV → Prop) : Prop :=
  match op with
  | .move x => fK (vs x) K
  | .assign x => fK (vs x) K
  | .pick c a b => boolK (vs c) fun t => match t with | true => fK (vs a) K | false => fK (vs b) K
  | .unOp op _ x => unK op (vs x) K
  | .binOp op t x y _ => (match vs x, vs y with
    | .s (.lf u), .s (.lf v) => binP op (tget Γ t).d u v K
    | _, _ => False)
  | .convert src dst x => (match (tget Γ src).d.isOther, (tget Γ dst).d with
    | false, .int k => (match vs x with | .s (.lf (.int _ n)) => K (.s (.lf (.int k (k.wrap n)))) | _ => False)
    | _, _ => False)
  | .field t x f => fieldVK Γ t (vs x) f K
  | .index t x i => indexVK Γ t (vs x) (vs i) K
  | .extract t i => extractK (vs t) i K
  | .build t parts => buildK Γ t (mapParts vs parts.toList) K
  | .makeFunc (.func f) first caps => (match first.toList with
    | [] => (match lvs vs caps.toList with | some l => K (.s (.lf (.fn f l.length fun i => nthL l i))) | none => False)
    | fl => (match caps.toList, lvs vs fl with | [], some l => K (.s (.lf (.bfn f l.length fun i => nthL l i))) | _, _ => False))
  | .makeInterface t x => (match (tget Γ t).d with
    | .iface => False
    | .other => False
    | .bstruct _ => False
    | _ => (match toLV (vs x) with | some u => K (.s (.lf (.ifc t u))) | none => False))
  | _ => False

end Go.Sym

