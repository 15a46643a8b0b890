/- A framework for walking through the program's functions, proved sound, part 6: plans of drawn regions; results; arithmetic of words; loops. It has no condition. -/
import Derived.Test.YtlmcdgbjbamdnaaFw5
set_option linter.unusedVariables false
set_option linter.unusedSimpArgs false
namespace Go.Sym
open Go

variable {P : Program} {Γ : Tab} {chain : Bool} {ops : Array Oper} {A : Nat → Nat → Prop} {plan : Plan} {n : Nat} {fr0 : Fr} {H0 : Hp} {q : List TS} {hs : List Hp}

theorem Setup.heap_at (S : Setup P chain ops A plan n fr0 H0 q hs) {a b : List TS} {s : TS} (h : q = a ++ s :: b) {hb hb' pre : List Hp} (hf : Fact P n ops.toList s (frR fr0 b) hb hb') (hp : hs = pre ++ hb') (hl : pre.length = n2 a) :
    (s.cls ≠ 2 → ∀ u k, u + k = n2 b → histN hb u = histN hs ((c2s plan).length - k)) ∧
    (s.cls = 2 → histN hb 0 = histN hs ((c2s plan).length - n2 b) ∧ histN hb' 0 = histN hs ((c2s plan).length - (n2 b + 1))) := by
  have hm : (c2s plan).length = n2 a + ((if s.cls = 2 then 1 else 0) + n2 b) := by rw [S.len, h, n2_append, n2_cons]
  refine ⟨fun hc u k hu => ?_, fun hc => ⟨?_, ?_⟩⟩
  · rw [if_neg hc] at hm
    rw [hf.keep hc] at hp
    rw [hp, show (c2s plan).length - k = pre.length + u by omega, histN_append]
  · rw [if_pos hc] at hm
    obtain ⟨H', e⟩ := hf.more hc
    rw [hp, show (c2s plan).length - n2 b = pre.length + 1 by omega, histN_append, e]; rfl
  · rw [if_pos hc] at hm
    rw [hp, show (c2s plan).length - (n2 b + 1) = pre.length + 0 by omega, histN_append]

theorem Setup.run (S : Setup P chain ops A plan n fr0 H0 q hs) {w0 : W0} {L0 : NM} {n0 : Nat} {Q : Exit → Act → World → Prop}
    (hQ : ∀ a w, R w0 L0 n0 n (frR fr0 q) (histN hs 0) a w → Q .normal a w) : ∀ (listed : Array Bool) (π : List Nat), Lin ops listed π → ∀ (p : List TS) (c : Nat) (a : Act) (w : World), Inv A plan q p c →
    (∀ i, i < ops.size → (listed.getD i true = true ↔ i ∈ p.map (·.i))) → listed.size = ops.size → (chain = true → (π.filter fun i => (c2s plan).contains i) = (c2s plan).drop c) →
    R w0 L0 n0 n (frR fr0 p) (histN hs ((c2s plan).length - c)) a w → wpOps P ops Q π a w := by
  intro listed π hL
  induction hL with
  | @done listed hr =>
    intro p c a w hI hl hsz hch hR
    have full : ∀ k i, i < k → i < ops.size → i ∈ p.map (·.i) := by
      intro k
      induction k with
      | zero => intro i h; omega
      | succ k ih =>
        intro i hik hi
        by_cases hm : i ∈ p.map (·.i)
        · exact hm
        · exfalso
          have hmem : i ∈ Region.ready .any ops listed := by
            refine mem_ready.2 ⟨?_, ops[i], by simp [hi], fun e he hb => ?_⟩
            · cases hb : listed.getD i true
              · rfl
              · exact absurd ((hl i hi).1 hb) hm
            · have hlt := S.ok.edge i ops[i] (by simp [hi]) e.on (mem_predsE he hb)
              have hes : e.on < ops.size := by omega
              have := (hl e.on hes).2 (ih e.on (by omega) hes)
              rw [Array.getD_eq_getD_getElem?] at this ⊢
              rw [Array.getElem?_eq_getElem (by omega)] at this ⊢
              exact this
          rw [hr] at hmem
          simp at hmem
    have hc : c = (c2s plan).length := by
      rcases Nat.lt_or_ge c (c2s plan).length with h | h
      · have hk : (c2s plan)[c]? = some (c2s plan)[c] := List.getElem?_eq_getElem h
        obtain ⟨s, h1, h2, _⟩ := S.c2mem hk
        have := (hI.pre c _ hk).1 (full (s.i + 1) _ (by omega) (by rw [← h2]; exact S.lt h1))
        omega
      · have := hI.cle; omega
    rw [hc, Nat.sub_self] at hR
    refine hQ a w (hR.get_same fun t => ?_)
    exact Go.Sym.get_same hI.topo S.topo hI.nodup S.nodup (fun s hs _ => hI.sub s hs) (fun s hs _ => S.mem_of hI.sub hs (full (s.i + 1) _ (by omega) (S.lt hs)))
      (fun x x' hx hx' hd hd' hne => S.writes (hI.sub x hx) (hI.sub x' hx') hd hd' hne)
  | @step listed i π hmem hrest ih =>
    intro p c a w hI hl hsz hch hR
    obtain ⟨hul, o, ho, hed⟩ := mem_ready.1 hmem
    have hi : i < ops.size := (Array.getElem?_eq_some_iff.1 ho).1
    obtain ⟨s, hsq, rfl⟩ := S.all hi
    have hso := S.at hsq
    rw [ho] at hso
    simp only [Option.some.injEq] at hso
    subst hso
    have hn : s.i ∉ p.map (·.i) := fun hm => by rw [(hl s.i hi).2 hm] at hul; simp at hul
    have hin : s.cls = 2 → (c2s plan).contains s.i = true := by
      intro hc
      obtain ⟨a', b', e⟩ := List.append_of_mem hsq
      have := List.mem_of_getElem? (S.pos e hc)
      simpa using this
    have hchain : ∀ e ∈ chainP chain (c2s plan) s.i, e ∈ p.map (·.i) := by
      intro e he
      unfold chainP at he
      split at he
      · rename_i hct
        split at he
        · rename_i j hj
          simp only [List.mem_singleton] at he
          subst he
          obtain ⟨k, h1, h2⟩ := prevIn_get hj
          have hf := hch rfl
          rw [List.filter_cons] at hf
          have hcont : (c2s plan).contains s.i = true := by have := List.mem_of_getElem? h2; simpa using this
          rw [hcont] at hf
          simp only [if_true] at hf
          have hc0 : (c2s plan)[c]? = some s.i := by
            have : ((c2s plan).drop c)[0]? = some s.i := by rw [← hf]; rfl
            simpa using this
          -- both places are one
          have hnd : (c2s plan).Nodup := by
            rw [S.c2]
            have h3 := S.nodup
            have : (q.reverse.map (·.i)).Nodup := by rw [List.map_reverse]; exact List.pairwise_reverse.2 (h3.imp fun h e => h e.symm)
            exact (List.filter_sublist.map _).nodup this
          have hck : c = k + 1 := by
            have hlt1 : c < (c2s plan).length := (List.getElem?_eq_some_iff.1 hc0).1
            have hlt2 : k + 1 < (c2s plan).length := (List.getElem?_eq_some_iff.1 h2).1
            have hpw := List.pairwise_iff_getElem.1 hnd
            have e1 : (c2s plan)[c] = s.i := (List.getElem?_eq_some_iff.1 hc0).2
            have e2 : (c2s plan)[k + 1] = s.i := (List.getElem?_eq_some_iff.1 h2).2
            rcases Nat.lt_trichotomy c (k + 1) with h | h | h
            · exact absurd (e1.trans e2.symm) (hpw _ _ hlt1 hlt2 h)
            · exact h
            · exact absurd (e2.trans e1.symm) (hpw _ _ hlt2 hlt1 h)
          exact (hI.pre k e h1).2 (by omega)
        · simp at he
      · simp at he
    have hanc : ∀ j, A j s.i → j ∈ p.map (·.i) := fun j hj => S.anc_in hI ho (fun e he => by
      obtain ⟨ed, h1, h2, rfl⟩ := predsE_mem he
      obtain ⟨h3, h4⟩ := listed_of (hed ed h1 h2)
      exact (hl ed.on (by omega)).1 h4) hchain hj
    obtain ⟨qa, qb, hq⟩ := List.append_of_mem hsq
    obtain ⟨hb, hb', hf, pre, hp, hpl⟩ := S.fact hq
    obtain ⟨hh1, hh2⟩ := S.heap_at hq hf hp hpl
    have hget : ∀ t ∈ s.o.looksAt ops, get (frR fr0 p) t = get (frR fr0 qb) t := fun t ht => S.same_reads hI hq hn hanc ht
    have hopv : ∀ x, x ∈ s.o.op.operands.toList → opv (frR fr0 qb) x = opv (frR fr0 p) x := fun x hx => (opv_same fun t e => hget t (mem_looksAt (by rw [← e]; exact hx))).symm
    have hwant : Region.wanted s.o (yielded ops a.tmps) = s.want := by
      have hg := hf.guard
      unfold GuardF at hg
      unfold Region.wanted
      split at hg
      · rename_i hgd; rw [hgd]; simp only; exact hg.symm
      · rename_i j w' hgd
        obtain ⟨oj, d, b, h1, h2, h3, h4⟩ := hg
        have h1' : ops[j]? = some oj := by simpa using h1
        rw [hgd]
        simp only
        obtain ⟨⟨L, g1, g2, g3⟩, _⟩ := id hR
        have hv := g2 d
        rw [hget d (mem_looksAt_guard hgd h1' h2)] at hv
        rw [yielded_eq rfl h1 h2 a, h4 w L _ hv, h3]
    -- going on
    have next : ∀ (c' : Nat), c' ≤ (c2s plan).length → (∀ (k x : Nat), (c2s plan)[k]? = some x → (x = s.i ∨ k < c ↔ k < c')) → (chain = true → (π.filter fun i => (c2s plan).contains i) = (c2s plan).drop c') →
        ∀ a' w', R w0 L0 n0 n (consF s.o.dst s.v (frR fr0 p)) (histN hs ((c2s plan).length - c')) a' w' → wpOps P ops Q π a' w' := by
      intro c' h1 h2 h3 a' w' hr
      refine ih (s :: p) c' a' w' (Setup.inv_cons hI hsq hn hanc h1 h2) (fun j hj => ?_) (by simpa using hsz) h3 hr
      by_cases e : s.i = j
      · subst e
        simp [Array.getD_eq_getD_getElem?, hsz, hi]
      · rw [getD_set_ne _ e, hl j hj]
        simp only [List.map_cons, List.mem_cons]
        constructor
        · exact .inr
        · rintro (h | h)
          · exact absurd h.symm e
          · exact h
    rw [wpOps_cons]
    unfold wpOp
    rw [ho]
    simp only [hwant]
    have hdn : ∀ (k x : Nat), (c2s plan)[k]? = some x → x = s.i → s.cls = 2 := by
      intro k x hk e
      obtain ⟨s', h1, h2, h3⟩ := S.c2mem hk
      rw [nodup_uniq S.nodup hsq h1 (by rw [h2, e])]; exact h3
    by_cases hc2 : s.cls = 2
    · -- it may change the heap
      have hpos := S.pos hq hc2
      have hclt : n2 qb < (c2s plan).length := (List.getElem?_eq_some_iff.1 hpos).1
      have hcc : c = n2 qb := by
        have hnot : ¬ n2 qb < c := fun h => hn ((hI.pre _ _ hpos).2 h)
        rcases Nat.lt_or_ge c (n2 qb) with h | h
        · exfalso
          have hk : (c2s plan)[c]? = some (c2s plan)[c] := List.getElem?_eq_getElem (by omega)
          have := S.ok.tot c (n2 qb) _ _ h hk hpos
          have := (hI.pre c _ hk).1 (hanc _ this)
          omega
        · omega
      have hpre' : ∀ (k x : Nat), (c2s plan)[k]? = some x → (x = s.i ∨ k < c ↔ k < c + 1) := by
        intro k x hk
        constructor
        · rintro (h | h)
          · -- one place
            have hx : x ∈ p.map (·.i) → False := fun hm => hn (h ▸ hm)
            have h1 : ¬ k < c := fun hkc => hx ((hI.pre k x hk).2 hkc)
            rcases Nat.lt_or_ge c k with h2 | h2
            · have := S.ok.tot c k _ _ h2 (by rw [hcc]; exact hpos) hk
              rw [h] at this
              exact absurd (hanc _ this) hn
            · omega
          · omega
        · intro h
          rcases Nat.lt_or_ge k c with h1 | h1
          · exact .inr h1
          · have : k = n2 qb := by omega
            rw [this, hpos] at hk
            simp only [Option.some.injEq] at hk
            exact .inl hk.symm
      have hch' : chain = true → (π.filter fun i => (c2s plan).contains i) = (c2s plan).drop (c + 1) := by
        intro hct
        have := hch hct
        rw [List.filter_cons, hin hc2] at this
        simp only [if_true] at this
        rw [← List.drop_drop, ← this]; rfl
      obtain ⟨g1, g2⟩ := hh2 hc2
      rw [← hcc] at g1 g2
      cases hw : s.want with
      | true =>
        simp only [if_true]
        left
        have hs2 := hf.c2 hc2 hw
        rw [g1, g2] at hs2
        exact hR.stepv hs2 hopv hf.dst fun a' w' hr => next (c + 1) (by omega) hpre' hch' a' w' hr
      | false =>
        simp only [Bool.false_eq_true, if_false]
        have hs2 := hf.c2s hc2 hw
        rw [g1, g2] at hs2
        refine next (c + 1) (by omega) hpre' hch' _ _ ?_
        rw [hf.skip hw, hs2]
        exact hR.skipv hf.dst
    · have hpre' : ∀ (k x : Nat), (c2s plan)[k]? = some x → (x = s.i ∨ k < c ↔ k < c) := by
        intro k x hk
        constructor
        · rintro (h | h)
          · exact absurd (hdn k x hk h) hc2
          · exact h
        · exact .inr
      have hch' : chain = true → (π.filter fun i => (c2s plan).contains i) = (c2s plan).drop c := by
        intro hct
        have := hch hct
        rw [List.filter_cons] at this
        have hnc : (c2s plan).contains s.i = false := by
          cases hcn : (c2s plan).contains s.i
          · rfl
          · exfalso
            have hm : s.i ∈ c2s plan := by simpa using hcn
            obtain ⟨k, hk⟩ := List.getElem?_of_mem hm
            exact hc2 (hdn k _ hk rfl)
        rw [hnc] at this
        simpa using this
      cases hw : s.want with
      | false =>
        simp only [Bool.false_eq_true, if_false]
        refine next c hI.cle hpre' hch' _ _ ?_
        rw [hf.skip hw]
        exact hR.skipv hf.dst
      | true =>
        simp only [if_true]
        left
        by_cases hc0 : s.cls = 0
        · exact hR.stepv (hf.c0 hc0 hw _) hopv hf.dst fun a' w' hr => next c hI.cle hpre' hch' a' w' hr
        · have hc1 : s.cls = 1 := by have := hf.low; omega
          rcases S.ok.vers _ _ _ (S.cut hq) hc1 c hI.cle with ⟨u, hu, hk⟩ | ⟨k', j, h1, h2, h3⟩ | ⟨k', j, h1, h2, h3⟩
          · have hk' : u + c = n2 qb := by rw [hk, c2s_map, List.length_map]; exact n2_reverse qb
            have hs1 := hf.c1 hc1 hw u hu
            rw [hh1 hc2 u c hk'] at hs1
            exact hR.stepv hs1 hopv hf.dst fun a' w' hr => next c hI.cle hpre' hch' a' w' hr
          · exfalso
            have hjp := (hI.pre k' j h2).2 h1
            obtain ⟨x, hx1, hx2⟩ := mem_map_i.1 hjp
            obtain ⟨a', b', e⟩ := List.append_of_mem hx1
            have := hI.topo a' x b' e _ (by rw [hx2]; exact h3)
            apply hn
            rw [e]
            simp only [List.map_append, List.map_cons, List.mem_append, List.mem_cons]
            exact .inr (.inr this)
          · exfalso
            have := (hI.pre k' j h2).1 (hanc j h3)
            omega

end Go.Sym

set_option linter.unusedVariables false
set_option linter.unusedSimpArgs false
namespace Go.Sym
open Go

variable {P : Program} {Γ : Tab}

/-! ### The plan, checked -/
def nthN : List Nat → Nat → Nat
  | [], _ => 0
  | x :: _, 0 => x
  | _ :: l, n + 1 => nthN l n

/-- j lies ahead of i: bit j of the i-th number. -/
def ancB (n : Nat) (anc : List Nat) (j i : Nat) : Bool := Nat.blt j n && (nthN anc i).testBit j

abbrev Info := Option Tmp × List Tmp × List Nat

def infoOf (ops : Array Oper) : List Info := ops.toList.map fun o => (o.dst, o.looksAt ops, predsE o)

def nthI : List Info → Nat → Info
  | [], _ => (none, [], [])
  | x :: _, 0 => x
  | _ :: l, n + 1 => nthI l n

theorem nthI_get {l : List Info} {i : Nat} {x : Info} (h : l[i]? = some x) : nthI l i = x := by
  induction l generalizing i with
  | nil => simp at h
  | cons y l ih => cases i with
    | zero => simpa [nthI] using h
    | succ i => simp only [nthI]; exact ih (by simpa using h)

theorem info_at {ops : Array Oper} {i : Nat} {o : Oper} (h : ops[i]? = some o) : nthI (infoOf ops) i = (o.dst, o.looksAt ops, predsE o) := by
  apply nthI_get
  simp only [infoOf, List.getElem?_map]
  rw [show ops.toList[i]? = some o by simpa using h]
  rfl

def memB (l : List Nat) (x : Nat) : Bool := l.any (Nat.beq x)

theorem memB_iff {l : List Nat} {x : Nat} : memB l x = true ↔ x ∈ l := by
  unfold memB
  rw [List.any_eq_true]
  exact ⟨fun ⟨y, h1, h2⟩ => by rw [Nat.eq_of_beq_eq_true h2]; exact h1, fun h => ⟨x, h, Nat.beq_refl x⟩⟩

def nodupB : List Nat → Bool
  | [] => true
  | x :: l => !(memB l x) && nodupB l

theorem nodupB_sound : ∀ {l : List Nat}, nodupB l = true → l.Nodup
  | [], _ => List.nodup_nil
  | x :: l, h => by
    simp only [nodupB, Bool.and_eq_true, Bool.not_eq_true'] at h
    refine List.nodup_cons.2 ⟨fun hm => ?_, nodupB_sound h.2⟩
    rw [memB_iff.2 hm] at h
    simp at h

def topoB (A : Nat → Nat → Bool) (n : Nat) : List Nat → Plan → Bool
  | _, [] => true
  | seen, x :: l => allB n (fun j => !(A j x.1) || memB seen j) && topoB A n (x.1 :: seen) l

def totB (A : Nat → Nat → Bool) : List Nat → Bool
  | [] => true
  | x :: l => l.all (fun y => A x y) && totB A l

def versB (A : Nat → Nat → Bool) (σ : List Nat) : Nat → Plan → Bool
  | _, [] => true
  | cb, x :: l => (match Nat.beq x.2.1 1 with
      | true => allB (σ.length + 1) (fun k => x.2.2.any (fun u => Nat.beq (u + k) cb) || (σ.take k).any (fun j => A x.1 j) || (σ.drop k).any (fun j => A j x.1))
      | false => true) && versB A σ (match Nat.beq x.2.1 2 with | true => cb + 1 | false => cb) l

def dokI (chain : Bool) (n : Nat) (inf : List Info) (A : Nat → Nat → Bool) (plan : Plan) : Bool :=
  allB n (fun i => memB (plan.map (·.1)) i) && nodupB (plan.map (·.1)) &&
  allB n (fun i => (nthI inf i).2.2.all fun e => Nat.blt e i) &&
  allB n (fun i => allB n fun j => !(A j i) || ((nthI inf i).2.2 ++ chainP chain (c2s plan) i).any fun e => Nat.beq e j || A j e) &&
  topoB A n [] plan &&
  allB n (fun j => match (nthI inf j).1 with
    | none => true
    | some t => allB n fun i => (Nat.beq j i || A j i || A i j) || (!(memB (nthI inf i).2.1 t) && (match (nthI inf i).1 with | some t' => !(Nat.beq t t') | none => true))) &&
  totB A (c2s plan) && versB A (c2s plan) 0 plan

def dokB (chain : Bool) (ops : Array Oper) (anc : List Nat) (plan : Plan) : Bool := dokI chain ops.size (infoOf ops) (ancB ops.size anc) plan

theorem topoB_sound {A : Nat → Nat → Bool} {n : Nat} (hlt : ∀ j i, A j i = true → j < n) : ∀ {plan : Plan} {seen : List Nat}, topoB A n seen plan = true → ∀ l1 x l2, plan = l1 ++ x :: l2 → ∀ j, A j x.1 = true → j ∈ seen ∨ j ∈ l1.map (·.1)
  | [], _, _, l1, x, l2, h, _, _ => by simp at h
  | y :: l, seen, h, l1, x, l2, e, j, hj => by
    simp only [topoB, Bool.and_eq_true] at h
    cases l1 with
    | nil =>
      simp only [List.nil_append, List.cons.injEq] at e
      obtain ⟨rfl, rfl⟩ := e
      have := allB_get h.1 (hlt j _ hj)
      rw [hj] at this
      simp only [Bool.not_true, Bool.false_or] at this
      exact .inl (memB_iff.1 this)
    | cons z l1 =>
      simp only [List.cons_append, List.cons.injEq] at e
      obtain ⟨rfl, rfl⟩ := e
      rcases topoB_sound hlt h.2 l1 x l2 rfl j hj with h1 | h1
      · rcases List.mem_cons.1 h1 with rfl | h1
        · exact .inr (by simp)
        · exact .inl h1
      · exact .inr (by simp only [List.map_cons, List.mem_cons]; exact .inr h1)

theorem totB_sound {A : Nat → Nat → Bool} : ∀ {l : List Nat}, totB A l = true → ∀ (a b : Nat) (x y : Nat), a < b → l[a]? = some x → l[b]? = some y → A x y = true
  | [], _, a, b, x, y, _, h, _ => by simp at h
  | z :: l, h, a, b, x, y, hab, h1, h2 => by
    simp only [totB, Bool.and_eq_true, List.all_eq_true] at h
    cases b with
    | zero => omega
    | succ b =>
      simp only [List.getElem?_cons_succ] at h2
      cases a with
      | zero =>
        simp only [List.getElem?_cons_zero, Option.some.injEq] at h1
        subst h1
        exact h.1 y (List.mem_of_getElem? h2)
      | succ a => exact totB_sound h.2 a b x y (by omega) (by simpa using h1) h2

theorem c2s_append (a b : Plan) : c2s (a ++ b) = c2s a ++ c2s b := by simp [c2s]

theorem versB_sound {A : Nat → Nat → Bool} {σ : List Nat} : ∀ {plan : Plan} {cb : Nat}, versB A σ cb plan = true → ∀ l1 x l2, plan = l1 ++ x :: l2 → x.2.1 = 1 → ∀ k, k ≤ σ.length →
    (∃ u ∈ x.2.2, u + k = cb + (c2s l1).length) ∨ (∃ (k' j : Nat), k' < k ∧ σ[k']? = some j ∧ A x.1 j = true) ∨ (∃ (k' j : Nat), k ≤ k' ∧ σ[k']? = some j ∧ A j x.1 = true)
  | [], _, _, l1, x, l2, e, _, _, _ => by simp at e
  | y :: l, cb, h, l1, x, l2, e, hx, k, hk => by
    simp only [versB, Bool.and_eq_true] at h
    cases l1 with
    | nil =>
      simp only [List.nil_append, List.cons.injEq] at e
      obtain ⟨rfl, rfl⟩ := e
      have h1 := h.1
      rw [hx, show Nat.beq 1 1 = true from rfl] at h1
      simp only [] at h1
      have := allB_get h1 (i := k) (by omega)
      simp only [Bool.or_eq_true, List.any_eq_true] at this
      rcases this with (⟨u, h2, h3⟩ | ⟨j, h2, h3⟩) | ⟨j, h2, h3⟩
      · exact .inl ⟨u, h2, by simpa [c2s] using Nat.eq_of_beq_eq_true h3⟩
      · right; left
        obtain ⟨k', hk'⟩ := List.getElem?_of_mem h2
        rw [List.getElem?_take] at hk'
        split at hk'
        · exact ⟨k', j, by assumption, hk', h3⟩
        · simp at hk'
      · right; right
        obtain ⟨k', hk'⟩ := List.getElem?_of_mem h2
        rw [List.getElem?_drop] at hk'
        exact ⟨k + k', j, by omega, hk', h3⟩
    | cons z l1 =>
      simp only [List.cons_append, List.cons.injEq] at e
      obtain ⟨rfl, rfl⟩ := e
      have := versB_sound h.2 l1 x l2 rfl hx k hk
      have e2 : (match Nat.beq y.2.1 2 with | true => cb + 1 | false => cb) + (c2s l1).length = cb + (c2s (y :: l1)).length := by
        simp only [c2s, List.filterMap_cons]
        cases Nat.beq y.2.1 2 <;> simp <;> omega
      rw [e2] at this
      exact this

theorem dokB_sound {chain : Bool} {ops : Array Oper} {anc : List Nat} {plan : Plan} (h : dokB chain ops anc plan = true) : DOK chain ops (fun j i => ancB ops.size anc j i = true) plan := by
  unfold dokB dokI at h
  simp only [Bool.and_eq_true] at h
  obtain ⟨⟨⟨⟨⟨⟨⟨b1, b2⟩, b3⟩, b4⟩, b5⟩, b6⟩, b7⟩, b8⟩ := h
  have hlt : ∀ j i, ancB ops.size anc j i = true → j < ops.size := fun j i hj => by
    simp only [ancB, Bool.and_eq_true] at hj; exact blt_true hj.1
  have hi : ∀ {i : Nat} {o : Oper}, ops[i]? = some o → i < ops.size := fun h => (Array.getElem?_eq_some_iff.1 h).1
  refine ⟨fun i hi => memB_iff.1 (allB_get b1 hi), nodupB_sound b2, fun i o ho e he => ?_, fun i o ho j hj => ?_, fun l1 x l2 e j hj => ?_, fun i oi j oj t h1 h2 h3 h4 h5 => ?_, fun i oi j oj t h1 h2 h3 h4 h5 => ?_, fun a b x y => totB_sound b7 a b x y, fun l1 x l2 e hx k hk => ?_⟩
  · have := allB_get b3 (hi ho)
    rw [info_at ho, List.all_eq_true] at this
    exact blt_true (this e he)
  · have := allB_get (allB_get b4 (hi ho)) (hlt j i hj)
    rw [info_at ho, hj] at this
    simp only [Bool.not_true, Bool.false_or, List.any_eq_true, Bool.or_eq_true] at this
    obtain ⟨e, h1, h2⟩ := this
    exact ⟨e, h1, h2.imp Nat.eq_of_beq_eq_true id⟩
  · rcases topoB_sound hlt b5 l1 x l2 e j hj with h1 | h1
    · simp at h1
    · exact h1
  · have := allB_get b6 (hi h2)
    rw [info_at h2, h4] at this
    simp only [] at this
    have := allB_get this (hi h1)
    rw [info_at h1] at this
    simp only [Bool.or_eq_true, Bool.and_eq_true, Bool.not_eq_true'] at this
    rcases this with ((h6 | h6) | h6) | ⟨h6, _⟩
    · exact absurd (Nat.eq_of_beq_eq_true h6) h5
    · exact .inl h6
    · exact .inr h6
    · rw [memB_iff.2 h3] at h6; simp at h6
  · have := allB_get b6 (hi h2)
    rw [info_at h2, h4] at this
    simp only [] at this
    have := allB_get this (hi h1)
    rw [info_at h1, h3] at this
    simp only [Bool.or_eq_true, Bool.and_eq_true, Bool.not_eq_true'] at this
    rcases this with ((h6 | h6) | h6) | ⟨_, h6⟩
    · exact absurd (Nat.eq_of_beq_eq_true h6) h5
    · exact .inl h6
    · exact .inr h6
    · rw [Nat.beq_refl] at h6; simp at h6
  · have := versB_sound b8 l1 x l2 e hx k hk
    rw [Nat.zero_add] at this
    exact this

/-! ### Regions that draw their order -/
theorem run_of_plan (hΓ : TOK P Γ) {chain : Bool} {ops : Array Oper} {anc : List Nat} {plan : Plan} (hok : dokB chain ops anc plan = true) {n : Nat} {fr : Fr} {H : Hp} {K : Fr → Hp → Prop} (h : drawV P Γ n ops.toList plan fr [H] K)
    {w0 : W0} {L0 : NM} {n0 : Nat} {a : Act} {w : World} {Q : Exit → Act → World → Prop} (hR : R w0 L0 n0 n fr H a w) (hQ : ∀ fr H a w, K fr H → R w0 L0 n0 n fr H a w → Q .normal a w) {π : List Nat}
    (hπ : Lin ops (Array.replicate ops.size false) π) (hch : chain = true → (π.filter fun i => (c2s plan).contains i) = c2s plan) : wpOps P ops Q π a w := by
  obtain ⟨q, hs, h1, h2, h3⟩ := drawV_sound hΓ (fr0 := fr) (H0 := H) plan [] [H] h .nil
  have S : Setup P chain ops (fun j i => ancB ops.size anc j i = true) plan n fr H q hs := ⟨dokB_sound hok, h1, by simpa using h3⟩
  refine S.run (hQ := fun a w hr => hQ _ _ a w h2 hr) _ π hπ [] 0 a w ⟨by simp, by simp, ?_, fun k x _ => by simp, Nat.zero_le _⟩ (fun i hi => by simp [Array.getD_eq_getD_getElem?, hi]) (by simp) (by simpa using hch) ?_
  · intro a s b e; simp at e
  · have hr := h1
    obtain ⟨pre, hb, g1, g2, g3⟩ := Ref.split (qa := q) (qb := []) (by rw [List.append_nil]; exact hr)
    cases g1
    have hl := S.len
    have : histN hs ((c2s plan).length - 0) = H := by
      rw [Nat.sub_zero, hl, ← g3, g2]
      have := histN_append pre [H] 0
      rw [Nat.add_zero] at this
      rw [this]; rfl
    rw [this]
    exact hR

theorem R.drew {w0 : W0} {L0 : NM} {n0 n : Nat} {fr : Fr} {H : Hp} {a : Act} {w : World} (hR : R w0 L0 n0 n fr H a w) : R w0 L0 n0 n fr H a { w with drawn := w.drawn + 1 } := by
  obtain ⟨⟨L, h1, h2, h3⟩, hb, h4, h5⟩ := hR
  exact ⟨⟨L, h1.drew, h2.mono (Ev.drew w L), h3.trans (Ev.drew w L)⟩, hb, h4, h5⟩

theorem DrawK.mk1 (hΓ : TOK P Γ) (hm : P.follows .mixedOrders = true) {n0 n : Nat} {ops : Array Oper} {fr : Fr} {H : Hp} {K : Fr → Hp → Prop} (anc : List Nat) (plan : Plan) (hok : dokB false ops anc plan = true)
    (h : drawV P Γ n ops.toList plan fr [H] K) : DrawK P Γ n0 n ops fr H K := by
  refine ⟨fun w0 L0 a w Q hR hQ id => wp_region_draw fun t => ?_⟩
  simp only [Region.schedule, hm, Bool.true_or, if_true]
  exact run_of_plan hΓ hok h hR.drew hQ (lin_linearise ops t) (fun h => by simp at h)

/-- One state for all that may come out. -/
theorem DrawK.join {n0 n : Nat} {ops : Array Oper} {fr : Fr} {H : Hp} {K : Fr → Hp → Prop} (fr' : Fr) (H' : Hp) (h : DrawK P Γ n0 n ops fr H fun fr1 H1 => Weak n0 fr1 H1 fr' H') (k : K fr' H') : DrawK P Γ n0 n ops fr H K :=
  ⟨fun w0 L0 a w Q hR hQ id => h.out w0 L0 a w Q hR (fun fr1 H1 a w hw hr => hQ fr' H' a w k (hw.out w0 L0 n a w hr)) id⟩

/-! ### Several orders -/
def exts (A : Nat → Nat → Bool) : Nat → List Nat → List (List Nat)
  | 0, rem => (match rem with | [] => [[]] | _ :: _ => [])
  | f + 1, rem => (match rem with
    | [] => [[]]
    | r :: rs => (r :: rs).flatMap fun c => match (r :: rs).any (fun c' => A c' c) with
      | true => []
      | false => (exts A f ((r :: rs).filter fun x => !(Nat.beq x c))).map (c :: ·))

def anc0B (ops : Array Oper) (anc : List Nat) (C : List Nat) : Bool :=
  nodupB C && C.all (fun c => Nat.blt c ops.size) &&
  allB ops.size (fun i => (nthI (infoOf ops) i).2.2.all fun e => Nat.blt e i) &&
  allB ops.size (fun i => allB ops.size fun j => !(ancB ops.size anc j i) || (nthI (infoOf ops) i).2.2.any fun e => Nat.beq e j || ancB ops.size anc j e)

theorem lin_exts {ops : Array Oper} {anc : List Nat} {C : List Nat} (hok : anc0B ops anc C = true) : ∀ (listed : Array Bool) (π : List Nat), Lin ops listed π → listed.size = ops.size →
    (∀ i, i < ops.size → listed.getD i true = true → ∀ j, ancB ops.size anc j i = true → listed.getD j true = true) →
    ∀ f, (C.filter fun c => !listed.getD c true).length ≤ f → (π.filter fun i => C.contains i) ∈ exts (ancB ops.size anc) f (C.filter fun c => !listed.getD c true) := by
  unfold anc0B at hok
  simp only [Bool.and_eq_true] at hok
  obtain ⟨⟨⟨h1, h2⟩, h3⟩, h4⟩ := hok
  have hnd := nodupB_sound h1
  rw [List.all_eq_true] at h2
  intro listed π hL
  induction hL with
  | @done listed hr =>
    intro hsz hcl f hf
    have full : ∀ k i, i < k → i < ops.size → listed.getD i true = true := by
      intro k
      induction k with
      | zero => intro i h; omega
      | succ k ih =>
        intro i hik hi
        cases hm : listed.getD i true
        · exfalso
          have hmem : i ∈ Region.ready .any ops listed := by
            refine mem_ready.2 ⟨hm, ops[i], by simp [hi], fun e he hb => ?_⟩
            have := allB_get h3 hi
            rw [info_at (o := ops[i]) (by simp [hi]), List.all_eq_true] at this
            have hlt := blt_true (this e.on (mem_predsE he hb))
            have hes : e.on < ops.size := by omega
            have := ih e.on (by omega) hes
            rw [Array.getD_eq_getD_getElem?] at this ⊢
            rw [Array.getElem?_eq_getElem (by omega)] at this ⊢
            exact this
          rw [hr] at hmem
          simp at hmem
        · rfl
    have he : (C.filter fun c => !listed.getD c true) = [] := by
      rw [List.filter_eq_nil_iff]
      intro c hc
      rw [full (c + 1) c (by omega) (blt_true (h2 c hc))]; simp
    rw [he]
    cases f <;> simp [exts]
  | @step listed i π hmem hrest ih =>
    intro hsz hcl f hf
    obtain ⟨hul, o, ho, hed⟩ := mem_ready.1 hmem
    have hi : i < ops.size := (Array.getElem?_eq_some_iff.1 ho).1
    have hanc : ∀ j, ancB ops.size anc j i = true → listed.getD j true = true := by
      intro j hj
      have hjn : j < ops.size := by simp only [ancB, Bool.and_eq_true] at hj; exact blt_true hj.1
      have := allB_get (allB_get h4 hi) hjn
      rw [info_at ho, hj] at this
      simp only [Bool.not_true, Bool.false_or, List.any_eq_true, Bool.or_eq_true] at this
      obtain ⟨e, g1, g2⟩ := this
      obtain ⟨ed, k1, k2, rfl⟩ := predsE_mem g1
      obtain ⟨k3, k4⟩ := listed_of (hed ed k1 k2)
      rcases g2 with g2 | g2
      · rw [← Nat.eq_of_beq_eq_true g2]; exact k4
      · exact hcl ed.on (by omega) k4 j g2
    have hset : ∀ j, (listed.setIfInBounds i true).getD j true = true ↔ (j = i ∨ listed.getD j true = true) := by
      intro j
      by_cases e : i = j
      · subst e
        simp [Array.getD_eq_getD_getElem?, hsz, hi]
      · rw [getD_set_ne _ e]
        constructor
        · exact .inr
        · rintro (h | h)
          · exact absurd h.symm e
          · exact h
    have ih' := ih (by simpa using hsz) (fun k hk hlk j hj => by
      rw [hset] at hlk ⊢
      rcases hlk with rfl | hlk
      · exact .inr (hanc j hj)
      · exact .inr (hcl k hk hlk j hj))
    have hfe : (C.filter fun c => !(listed.setIfInBounds i true).getD c true) = (C.filter fun c => !listed.getD c true).filter fun x => !(Nat.beq x i) := by
      rw [List.filter_filter]
      congr 1
      funext c
      have := hset c
      cases hg : (listed.setIfInBounds i true).getD c true
      · rw [hg] at this
        simp only [Bool.false_eq_true, false_iff, not_or] at this
        have h5 : Nat.beq c i = false := by
          cases hb : Nat.beq c i
          · rfl
          · exact absurd (Nat.eq_of_beq_eq_true hb) this.1
        have h6 : listed.getD c true = false := by cases hb : listed.getD c true; rfl; exact absurd hb this.2
        rw [h5, h6]; rfl
      · rw [hg] at this
        rcases this.1 rfl with h5 | h5
        · subst h5; rw [Nat.beq_refl]; rfl
        · rw [h5]; simp
    rw [List.filter_cons]
    cases hc : C.contains i
    · simp only [Bool.false_eq_true, if_false]
      have hne : (C.filter fun c => !(listed.setIfInBounds i true).getD c true) = C.filter fun c => !listed.getD c true := by
        rw [hfe]
        rw [List.filter_eq_self]
        intro x hx
        rw [List.mem_filter] at hx
        cases hb : Nat.beq x i
        · rfl
        · rw [Nat.eq_of_beq_eq_true hb] at hx
          have : C.contains i = true := by simpa using hx.1
          rw [this] at hc; simp at hc
      rw [hne] at ih'
      exact ih' f hf
    · simp only [if_true]
      have hiC : i ∈ C := by simpa using hc
      have himem : i ∈ C.filter fun c => !listed.getD c true := by rw [List.mem_filter]; exact ⟨hiC, by rw [hul]; rfl⟩
      cases f with
      | zero => have := List.length_pos_of_mem himem; omega
      | succ f =>
        have hlen : ((C.filter fun c => !listed.getD c true).filter fun x => !(Nat.beq x i)).length < (C.filter fun c => !listed.getD c true).length := by
          have := filter_lt (p := fun _ => true) (p' := fun x => !(Nat.beq x i)) (l := C.filter fun c => !listed.getD c true) (fun _ _ _ => rfl) ⟨i, himem, rfl, by simp [Nat.beq_refl]⟩
          simpa using this
        have := ih' f (by rw [hfe]; omega)
        rw [hfe] at this
        generalize hg : (C.filter fun c => !listed.getD c true) = rem at *
        cases rem with
        | nil => simp at himem
        | cons r rs =>
          simp only [exts]
          rw [List.mem_flatMap]
          refine ⟨i, himem, ?_⟩
          have hany : (r :: rs).any (fun c' => ancB ops.size anc c' i) = false := by
            rw [List.any_eq_false]
            intro c' hc' ha
            have h5 := hanc c' ha
            rw [← hg, List.mem_filter] at hc'
            rw [h5] at hc'
            simp at hc'
          rw [hany]
          simp only []
          rw [List.mem_map]
          exact ⟨_, this, rfl⟩

theorem DrawK.mkN (hΓ : TOK P Γ) (hm : P.follows .mixedOrders = true) {n0 n : Nat} {ops : Array Oper} {fr : Fr} {H : Hp} {K : Fr → Hp → Prop} (anc0 : List Nat) (C : List Nat) (hok0 : anc0B ops anc0 C = true)
    (h : ∀ σ ∈ exts (ancB ops.size anc0) C.length C, ∃ anc plan, c2s plan = σ ∧ (∀ x, x ∈ C ↔ x ∈ σ) ∧ dokB true ops anc plan = true ∧ drawV P Γ n ops.toList plan fr [H] K) : DrawK P Γ n0 n ops fr H K := by
  refine ⟨fun w0 L0 a w Q hR hQ id => wp_region_draw fun t => ?_⟩
  simp only [Region.schedule, hm, Bool.true_or, if_true]
  have hπ := lin_linearise ops t
  have hall : (C.filter fun c => !(Array.replicate ops.size false).getD c true) = C := by
    rw [List.filter_eq_self]
    intro c hc
    unfold anc0B at hok0
    simp only [Bool.and_eq_true, List.all_eq_true] at hok0
    have := blt_true (hok0.1.1.2 c hc)
    simp [Array.getD_eq_getD_getElem?, this]
  have hex := lin_exts hok0 _ _ hπ (by simp) (fun i hi hl => by simp [Array.getD_eq_getD_getElem?, hi] at hl) C.length (by rw [hall]; exact Nat.le_refl _)
  rw [hall] at hex
  obtain ⟨anc, plan, h1, h2, h3, h4⟩ := h _ hex
  refine run_of_plan hΓ h3 h4 hR.drew hQ hπ (fun _ => ?_)
  rw [h1]
  congr 1
  funext x
  have := h2 x
  cases h5 : C.contains x
  · cases h6 : (List.filter (fun i => C.contains i) (Region.linearise Region.Mode.any ops t)).contains x
    · rfl
    · have : x ∈ C := this.2 (by simpa using h6)
      have : C.contains x = true := by simpa using this
      rw [this] at h5; simp at h5
  · have := this.1 (by simpa using h5)
    simpa using this

end Go.Sym

set_option linter.unusedVariables false
set_option linter.unusedSimpArgs false
namespace Go.Sym
open Go

variable {P : Program} {Γ : Tab}

abbrev noHid : Nat → Prop := fun _ => False
/-- Names kept as they are. -/
abbrev DownI (H H' : Hp) : Rel := Down H H' id noHid

/-! ### Values whose names are all known -/
def okL (H : Hp) : LV → Prop
  | .ptr nm _ => known H nm
  | .pti nm _ _ _ _ => known H nm
  | .own nm _ _ _ _ => known H nm
  | .rop n f => ∀ j, j < n → okL H (f j)
  | .ro _ _ st len f => ∀ i, i < len → ∀ j, j < st → okL H (f i j)
  | .fn _ n caps => ∀ i, i < n → okL H (caps i)
  | .bfn _ n caps => ∀ i, i < n → okL H (caps i)
  | .aggl n f => ∀ i, i < n → okL H (f i)
  | .ifc _ v => okL H v
  | _ => True

theorem okL.wl {H H' : Hp} {hid : Nat → Prop} : ∀ {v : LV}, okL H' v → WL (Down H H' id hid) v v := by
  intro v
  induction v with
  | ptr nm b => intro h; exact WL.ptr h rfl
  | pti nm b i st j => intro h; exact WL.pti h rfl rfl rfl
  | own nm b st off len => intro h; exact WL.own h rfl rfl rfl
  | rop n f ih => intro h; exact WL.rop (Nat.le_refl _) fun j hj => ih j (h j hj)
  | ro nn cl st len f ih => intro h; exact WL.ro rfl (fun h => h) (fun h => h) fun i hi j hj => ih i j (h i hi j hj)
  | rob nn cl xs => intro _; exact WL.rob rfl (fun h => h) (fun h => h)
  | fn f n caps ih => intro h; exact WL.fn fun i hi => ih i (h i hi)
  | bfn f n caps ih => intro h; exact WL.bfn fun i hi => ih i (h i hi)
  | aggl n f ih => intro h; exact WL.aggl fun i hi => ih i (h i hi)
  | ifc t v ih => intro h; exact WL.ifc (ih h)
  | _ => intro _; exact fun _ _ _ _ _ hx => hx

def okG (H : Hp) : Seg → Prop
  | .one v => okL H v
  | .bytes _ _ => True
  | .ints _ _ _ => True
  | .recs st n f => ∀ i, i < n → ∀ j, j < st → okL H (f i j)

def okGs (H : Hp) : List Seg → Prop
  | [] => True
  | s :: l => okG H s ∧ okGs H l

theorem okGs.ws {H H' : Hp} {hid : Nat → Prop} : ∀ {l : List Seg}, okGs H' l → WSs (Down H H' id hid) l l
  | [], _ => trivial
  | s :: l, h => by
    refine ⟨?_, okGs.ws h.2⟩
    have h1 := h.1
    cases s with
    | one v => exact .one (okL.wl h1)
    | bytes n xs => exact .bytes rfl fun _ _ => rfl
    | ints k n xs => exact .ints rfl fun _ _ => rfl
    | recs st n f => exact .recs rfl fun i hi j hj => okL.wl (h1 i hi j hj)

def okS (H : Hp) : SV → Prop
  | .lf v => okL H v
  | .agg l => okGs H l

theorem okS.wv {H H' : Hp} {hid : Nat → Prop} {v : SV} (h : okS H' v) : WV (Down H H' id hid) (.s v) (.s v) := by
  cases v with
  | lf v => exact WV.lf (okL.wl h)
  | agg l => exact WV.agg (okGs.ws h)

def okSs (H : Hp) : List SV → Prop
  | [] => True
  | s :: l => okS H s ∧ okSs H l

theorem okSs.wvs {H H' : Hp} {hid : Nat → Prop} : ∀ {l : List SV}, okSs H' l → WVs (Down H H' id hid) l l
  | [], _ => trivial
  | s :: l, h => ⟨h.1.wv, okSs.wvs h.2⟩

def okF (H : Hp) : FV → Prop
  | .s v => okS H v
  | .tup l => okSs H l

theorem okF.wv {H H' : Hp} {hid : Nat → Prop} {v : FV} (h : okF H' v) : WV (Down H H' id hid) v v := by
  cases v with
  | s v => exact okS.wv h
  | tup l => exact WV.tup (okSs.wvs h)

/-! ### Heaps, name by name -/
def HpW (D : Rel) : Hp → Hp → Prop
  | _, [] => True
  | [], _ :: _ => False
  | _ :: l, none :: m => HpW D l m
  | some a :: l, some b :: m => a.ty = b.ty ∧ WSs D a.segs b.segs ∧ HpW D l m
  | none :: _, some _ :: _ => False

theorem HpW.nil {D : Rel} {l : Hp} : HpW D l [] := by
  cases l with
  | nil => trivial
  | cons x l => cases x <;> trivial

theorem HpW.get {D : Rel} : ∀ {l m : Hp}, HpW D l m → ∀ (i : Nat) (b : OB), m[i]? = some (some b) → ∃ a, l[i]? = some (some a) ∧ a.ty = b.ty ∧ WS D a.segs b.segs
  | _, [], _, i, b, h => by simp at h
  | [], _ :: _, h, _, _, _ => h.elim
  | x :: l, none :: m, h, i, b, hi => by
    cases i with
    | zero => simp at hi
    | succ i =>
      have h : HpW D l m := by cases x <;> exact h
      simpa using HpW.get h i b (by simpa using hi)
  | some a :: l, some b' :: m, h, i, b, hi => by
    cases i with
    | zero => simp at hi; subst hi; exact ⟨a, rfl, h.1, h.2.1.ws⟩
    | succ i => simpa using HpW.get h.2.2 i b (by simpa using hi)
  | none :: _, some _ :: _, h, _, _, _ => h.elim

theorem WHb.of {H H' : Hp} (h : HpW (DownI H H') H H') : WHb H H' id noHid :=
  ⟨fun i b hi => h.get i b hi, fun i j a b _ _ e => e, fun _ _ _ h => h⟩

theorem WHp.of {n0 : Nat} {H H' : Hp} (h : HpW (DownI H H') H H') (hn : n0 ≤ H'.length) : WHp n0 H H' id :=
  ⟨WHb.of h, fun i ob _ _ => rfl, hn⟩

theorem RetK.of {n0 : Nat} {r : FV} {H' : Hp} {v : FV} {H : Hp} (h : HpW (DownI H H') H H') (hn : n0 ≤ H'.length) (hv : WV (DownI H H') v r) : RetK n0 r H' v H := ⟨⟨id, WHp.of h hn, hv⟩⟩

/-- Nothing of a heap is left. -/
theorem RetK.empty {r v : FV} {H : Hp} (hv : WV (DownI H []) v r) : RetK 0 r [] v H := RetK.of HpW.nil (Nat.le_refl _) hv

theorem Weak.of {n0 : Nat} {fr : Fr} {H : Hp} {fr' : Fr} {H' : Hp} (h : HpW (DownI H H') H H') (hn : n0 ≤ H'.length) (hF : WFr (DownI H H') fr fr') : Weak n0 fr H fr' H' := Weak.mk id (WHp.of h hn) hF

/-! ### Calls that keep out of the caller's heap -/
theorem SCalls.pure {f : FuncId} {args : List FV} {r : FV} (h : SCalls P f args [] r []) (H : Hp) {cs : List FV} {rc : FV} (ha : WVs' (Down H [] id fun _ => True) cs args) (hr : WV (Up (fun nm => if nm < H.length then none else some (nm - H.length)) True) r rc) : SCalls P f cs H rc H := by
  refine h.frame (μ := id) (hid := fun _ => True) (ρ := fun nm => if nm < H.length then none else some (nm - H.length)) (nb := True) ⟨fun i ob hi => by simp at hi, fun i j a b hi => by simp at hi, fun i ob hi => by simp at hi⟩ ha ?_ hr (fun _ _ _ _ => trivial)
  refine ⟨fun nm hnm => ?_, fun nm i hnm hi => ?_, fun i ob hi => by simp at hi, fun nm _ _ => rfl, fun nm i hi _ => ?_, fun nm i _ hi => by simp at hi, fun nm i ob _ hi => by simp at hi⟩
  · rw [if_neg (by omega)]; simp
  · rw [if_pos hnm] at hi; simp at hi
  · split at hi
    · simp at hi
    · exact List.getElem?_eq_none (by omega)

/-- A value without names, handed up. -/
def freeL : LV → Prop
  | .ptr _ _ => False
  | .pti _ _ _ _ _ => False
  | .own _ _ _ _ _ => False
  | .rop n f => ∀ j, j < n → freeL (f j)
  | .ro _ _ st len f => ∀ i, i < len → ∀ j, j < st → freeL (f i j)
  | .fn _ n caps => ∀ i, i < n → freeL (caps i)
  | .bfn _ n caps => ∀ i, i < n → freeL (caps i)
  | .aggl n f => ∀ i, i < n → freeL (f i)
  | .ifc _ v => freeL v
  | _ => True

theorem freeL.wl {D : Rel} [ROk D] : ∀ {v : LV}, freeL v → WL D v v := by
  intro v
  induction v with
  | ptr nm b => intro h; exact h.elim
  | pti nm b i st j => intro h; exact h.elim
  | own nm b st off len => intro h; exact h.elim
  | rop n f ih => intro h; exact WL.rop (Nat.le_refl _) fun j hj => ih j (h j hj)
  | ro nn cl st len f ih => intro h; exact WL.ro rfl (fun h => h) (fun h => h) fun i hi j hj => ih i j (h i hi j hj)
  | rob nn cl xs => intro _; exact WL.rob rfl (fun h => h) (fun h => h)
  | fn f n caps ih => intro h; exact WL.fn fun i hi => ih i (h i hi)
  | bfn f n caps ih => intro h; exact WL.bfn fun i hi => ih i (h i hi)
  | aggl n f ih => intro h; exact WL.aggl fun i hi => ih i (h i hi)
  | ifc t v ih => intro h; exact WL.ifc (ih h)
  | _ => intro _; exact fun _ _ _ _ _ hx => hx

def freeG : Seg → Prop
  | .one v => freeL v
  | .bytes _ _ => True
  | .ints _ _ _ => True
  | .recs st n f => ∀ i, i < n → ∀ j, j < st → freeL (f i j)

def freeGs : List Seg → Prop
  | [] => True
  | s :: l => freeG s ∧ freeGs l

theorem freeGs.ws {D : Rel} [ROk D] : ∀ {l : List Seg}, freeGs l → WSs D l l
  | [], _ => trivial
  | s :: l, h => by
    refine ⟨?_, freeGs.ws h.2⟩
    have h1 := h.1
    cases s with
    | one v => exact .one (freeL.wl h1)
    | bytes n xs => exact .bytes rfl fun _ _ => rfl
    | ints k n xs => exact .ints rfl fun _ _ => rfl
    | recs st n f => exact .recs rfl fun i hi j hj => freeL.wl (h1 i hi j hj)

def freeS : SV → Prop
  | .lf v => freeL v
  | .agg l => freeGs l

def freeSs : List SV → Prop
  | [] => True
  | s :: l => freeS s ∧ freeSs l

def freeF : FV → Prop
  | .s v => freeS v
  | .tup l => freeSs l

theorem freeS.wv {D : Rel} [ROk D] {v : SV} (h : freeS v) : WV D (.s v) (.s v) := by
  cases v with
  | lf v => exact WV.lf (freeL.wl h)
  | agg l => exact WV.agg (freeGs.ws h)

theorem freeSs.wvs {D : Rel} [ROk D] : ∀ {l : List SV}, freeSs l → WVs D l l
  | [], _ => trivial
  | s :: l, h => ⟨h.1.wv, freeSs.wvs h.2⟩

theorem freeF.wv {D : Rel} [ROk D] {v : FV} (h : freeF v) : WV D v v := by
  cases v with
  | s v => exact freeS.wv h
  | tup l => exact WV.tup (freeSs.wvs h)

def freeFs : List FV → Prop
  | [] => True
  | v :: l => freeF v ∧ freeFs l

theorem freeFs.wvs {D : Rel} [ROk D] : ∀ {l : List FV}, freeFs l → WVs' D l l
  | [], _ => trivial
  | v :: l, h => ⟨h.1.wv, freeFs.wvs h.2⟩

/-- A call without names in it. -/
theorem SCalls.free {f : FuncId} {args : List FV} {r : FV} (h : SCalls P f args [] r []) (H : Hp) (ha : freeFs args) (hr : freeF r) : SCalls P f args H r H := h.pure H ha.wvs hr.wv

end Go.Sym

set_option linter.unusedVariables false
set_option linter.unusedSimpArgs false
namespace Go.Sym
open Go

/-! ### Words of 32 bits, bytes -/
theorem wrap_u32 (n : Int) : IntKind.u32.wrap n = n % 4294967296 := by simp [IntKind.wrap, IntKind.bits, IntKind.signed]
theorem wrap_u8 (n : Int) : IntKind.u8.wrap n = n % 256 := by simp [IntKind.wrap, IntKind.bits, IntKind.signed]
theorem wrap_u64 (n : Int) : IntKind.u64.wrap n = n % 18446744073709551616 := by simp [IntKind.wrap, IntKind.bits, IntKind.signed]

theorem wrap_i64 {n : Int} (h : -9223372036854775808 ≤ n) (h' : n < 9223372036854775808) : IntKind.i64.wrap n = n := by
  simp only [IntKind.wrap, IntKind.bits, IntKind.signed, Bool.true_and, decide_eq_true_eq, ge_iff_le]
  split <;> omega

theorem wrap_id {k : IntKind} {n : Int} (h : k.min ≤ n) (h' : n ≤ k.max) : k.wrap n = n := by
  cases k <;> simp only [IntKind.wrap, IntKind.min, IntKind.max, IntKind.signed, IntKind.bits, Bool.true_and, Bool.false_and, if_true, Bool.false_eq_true, if_false, decide_eq_true_eq, ge_iff_le] at h h' ⊢ <;> (try split) <;> omega

theorem u32_range (x : UInt32) : (0 : Int) ≤ (x.toNat : Int) ∧ (x.toNat : Int) < 4294967296 := ⟨by omega, by have := x.toNat_lt; omega⟩

theorem u32_add (x y : UInt32) : IntKind.u32.wrap ((x.toNat : Int) + (y.toNat : Int)) = ((x + y).toNat : Int) := by
  rw [wrap_u32, UInt32.toNat_add]; omega

theorem u32_mul (x y : UInt32) : IntKind.u32.wrap ((x.toNat : Int) * (y.toNat : Int)) = ((x * y).toNat : Int) := by
  rw [wrap_u32, UInt32.toNat_mul]
  have : (x.toNat : Int) * (y.toNat : Int) = ((x.toNat * y.toNat : Nat) : Int) := by simp
  rw [this]; omega

theorem u32_bv (x : UInt32) : BitVec.ofInt 32 (x.toNat : Int) = x.toBitVec := by
  rw [BitVec.ofInt_natCast]; apply BitVec.eq_of_toNat_eq; simp

theorem u32_xor (x y : UInt32) : bitsI .xor .u32 (x.toNat : Int) (y.toNat : Int) = ((x ^^^ y).toNat : Int) := by
  simp only [bitsI, IntKind.bits, u32_bv]
  rw [wrap_id (by simp [IntKind.min, IntKind.signed]) (by have := (x.toBitVec ^^^ y.toBitVec).isLt; simp only [IntKind.max, IntKind.signed, IntKind.bits, Bool.false_eq_true, if_false]; omega)]
  rfl

theorem u32_and (x y : UInt32) : bitsI .and .u32 (x.toNat : Int) (y.toNat : Int) = ((x &&& y).toNat : Int) := by
  simp only [bitsI, IntKind.bits, u32_bv]
  rw [wrap_id (by simp [IntKind.min, IntKind.signed]) (by have := (x.toBitVec &&& y.toBitVec).isLt; simp only [IntKind.max, IntKind.signed, IntKind.bits, Bool.false_eq_true, if_false]; omega)]
  rfl

theorem u32_or (x y : UInt32) : bitsI .or .u32 (x.toNat : Int) (y.toNat : Int) = ((x ||| y).toNat : Int) := by
  simp only [bitsI, IntKind.bits, u32_bv]
  rw [wrap_id (by simp [IntKind.min, IntKind.signed]) (by have := (x.toBitVec ||| y.toBitVec).isLt; simp only [IntKind.max, IntKind.signed, IntKind.bits, Bool.false_eq_true, if_false]; omega)]
  rfl

theorem u32_not (x : UInt32) : bitsI .xor .u32 (if IntKind.u32.signed then -1 else IntKind.u32.max) (x.toNat : Int) = ((~~~x).toNat : Int) := by
  have : (if IntKind.u32.signed then (-1 : Int) else IntKind.u32.max) = ((0xFFFFFFFF : UInt32).toNat : Int) := by decide
  rw [this, u32_xor, show (0xFFFFFFFF : UInt32) ^^^ x = ~~~x from by
    apply UInt32.toBitVec_inj.1
    simp only [UInt32.toBitVec_xor, UInt32.toBitVec_not]
    rw [show (0xFFFFFFFF : UInt32).toBitVec = BitVec.allOnes 32 from by decide, BitVec.allOnes_xor]]

theorem u32_shl (x : UInt32) (n : Nat) (h : n < 32) : shlI .u32 (x.toNat : Int) (n : Int) = ((x <<< (UInt32.ofNat n)).toNat : Int) := by
  simp only [shlI, wrap_u32, IntKind.bits, Int.toNat_natCast]
  rw [UInt32.toNat_shiftLeft, Nat.min_eq_left (by omega), Nat.shiftLeft_eq]
  have : (UInt32.ofNat n).toNat % 32 = n := by simp; omega
  rw [this]
  have : (x.toNat : Int) * 2 ^ n = ((x.toNat * 2 ^ n : Nat) : Int) := by simp
  rw [this]; omega

theorem u32_shr (x : UInt32) (n : Nat) (h : n < 32) : shrI .u32 (x.toNat : Int) (n : Int) = ((x >>> (UInt32.ofNat n)).toNat : Int) := by
  simp only [shrI, IntKind.bits, Int.toNat_natCast]
  rw [UInt32.toNat_shiftRight, Nat.min_eq_left (by omega), Nat.shiftRight_eq_div_pow]
  have : (UInt32.ofNat n).toNat % 32 = n := by simp; omega
  rw [this]
  have : ((2 : Int) ^ n) = ((2 ^ n : Nat) : Int) := by simp
  rw [this, Int.fdiv_eq_ediv_of_nonneg _ (Int.natCast_nonneg _)]
  simp

/-- A word as the model has it. -/
abbrev vU (x : UInt32) : FV := .s (.lf (.int .u32 (x.toNat : Int)))
abbrev vI (n : Int) : FV := .s (.lf (.int .i64 n))
abbrev vB (b : Bool) : FV := .s (.lf (.bool b))

/-- A word turned round to the right. -/
def ror (x : UInt32) (n : Nat) : UInt32 := (x >>> (UInt32.ofNat n)) ||| (x <<< (UInt32.ofNat (32 - n)))

end Go.Sym

set_option linter.unusedVariables false
set_option linter.unusedSimpArgs false
namespace Go.Sym
open Go

/-- A loop: the states it may be in at its head, one of them where it begins, and what a round makes of each. -/
theorem LoopK.mk' {n0 : Nat} {body : Fr → Hp → (Fr → Hp → Prop) → Prop} {fr : Fr} {H : Hp} {α : Type} (inv : α → Fr × Hp) (p : α → Prop) (m : α → Nat) (x0 : α) (h0 : p x0) (hw : Weak n0 fr H (inv x0).1 (inv x0).2)
    (h : ∀ x, p x → body (inv x).1 (inv x).2 fun fr' H' => ∃ y, p y ∧ m y < m x ∧ Weak n0 fr' H' (inv y).1 (inv y).2) : LoopK n0 body fr H :=
  ⟨⟨α, inv, p, m, ⟨x0, h0, hw⟩, h⟩⟩

/-- A loop that counts: state k, as long as k ≤ N. -/
theorem LoopK.count {n0 : Nat} {body : Fr → Hp → (Fr → Hp → Prop) → Prop} {fr : Fr} {H : Hp} (N : Nat) (F : Nat → Fr) (G : Nat → Hp) (hw : Weak n0 fr H (F 0) (G 0))
    (h : ∀ k, k ≤ N → body (F k) (G k) fun fr' H' => k < N ∧ Weak n0 fr' H' (F (k + 1)) (G (k + 1))) (hm : ∀ fr H (K K' : Fr → Hp → Prop), (∀ fr H, K fr H → K' fr H) → body fr H K → body fr H K') : LoopK n0 body fr H :=
  LoopK.mk' (fun k => (F k, G k)) (fun k => k ≤ N) (fun k => N - k) 0 (Nat.zero_le _) hw fun k hk => hm _ _ _ _ (fun fr H hh => ⟨k + 1, hh.1, by have := hh.1; show N - (k + 1) < N - k; omega, hh.2⟩) (h k hk)

/-- Going on with a round's end. -/
theorem next_round {n0 N k : Nat} {F : Nat → Fr} {G : Nat → Hp} {fr : Fr} {H : Hp} (hk : k < N) (hw : Weak n0 fr H (F (k + 1)) (G (k + 1))) :
    ∃ y, (fun k => k ≤ N) y ∧ (fun k => N - k) y < (fun k => N - k) k ∧ Weak n0 fr H ((fun k => (F k, G k)) y).1 ((fun k => (F k, G k)) y).2 :=
  ⟨k + 1, hk, by show N - (k + 1) < N - k; omega, hw⟩

/-- A loop that counts up to N. -/
theorem LoopK.upTo {n0 : Nat} {body : Fr → Hp → (Fr → Hp → Prop) → Prop} {fr : Fr} {H : Hp} (N : Nat) (F : Nat → Fr) (G : Nat → Hp) (hw : Weak n0 fr H (F 0) (G 0))
    (h : ∀ k, k ≤ N → body (F k) (G k) fun fr' H' => ∃ y, (fun k => k ≤ N) y ∧ (fun k => N - k) y < (fun k => N - k) k ∧ Weak n0 fr' H' ((fun k => (F k, G k)) y).1 ((fun k => (F k, G k)) y).2) : LoopK n0 body fr H :=
  LoopK.mk' (fun k => (F k, G k)) (fun k => k ≤ N) (fun k => N - k) 0 (Nat.zero_le _) hw h

theorem CaseB.of_true {b : Bool} {K : Bool → Prop} (hb : b = true) (h : K true) : CaseB b K := by subst hb; exact ⟨fun _ => h, fun h => by simp at h⟩
theorem CaseB.of_false {b : Bool} {K : Bool → Prop} (hb : b = false) (h : K false) : CaseB b K := by subst hb; exact ⟨fun h => by simp at h, fun _ => h⟩

end Go.Sym

