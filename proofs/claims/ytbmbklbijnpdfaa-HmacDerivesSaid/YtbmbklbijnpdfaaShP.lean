/- Contracts of the program's functions, proved by the framework (text ShP), without conditions but those that each theorem states. -/
import Derived.Test.YtbmbklbijnpdfaaShO
import Derived.Test.YtbmbklbijnpdfaaFw7
set_option linter.unusedVariables false
set_option linter.unusedSimpArgs false
set_option maxRecDepth 10000
namespace Go.Sym.Sh
open Go Go.Sym
attribute [local irreducible] ws acc rs addUp Kw highA highB choose most lowA lowB ror blockF writeF padF toldF shaF

/-- (*sha.Hash).Len -/
theorem c21 (s : St) : SCalls Proofs.Try.prog 21 [.s (.lf (.ptr 0 0))] [some (obSt s)] (vI s.n) [some (obSt s)] := by
  refine SCalls.intro tok Proofs.Try.func21 ?_
  conv => whnf
  exact RetK.of ⟨rfl, okGs.ws (by exact ⟨trivial, trivial, trivial, trivial, trivial⟩), trivial⟩ (by simp) (okF.wv trivial)

/-- The first i pieces, joined. -/
def joined (xs : Nat → List UInt8) : Nat → List UInt8
  | 0 => []
  | i + 1 => joined xs i ++ xs i

theorem obSt_ws {D : Rel} (s : St) : WSs D (obSt s).segs (obSt s).segs := plainGs.ws ⟨trivial, trivial, trivial, trivial, trivial⟩

theorem writeF_nil (s : St) : writeF s [] = s := by unfold writeF; rfl
theorem st0_ok : st0.ok := ⟨rfl, by simp [st0]⟩

/-- The state of the pieces' loop: with no piece yet, or with some. -/
def parFr (len : Nat) (f : Nat → Nat → LV) (i : Nat) (all : LV) : Fr :=
  [(3, .s (.lf (.ptr 0 0))), (4, .s (.lf all)), (12, .s (.lf (.ro false false 1 len f))), (13, vI len), (14, vI i)]

/-- baileylaw03.ShaParts -/
theorem c6 (len : Nat) (hlen : len ≤ maxLen) (f : Nat → Nat → LV) (xs : Nat → List UInt8) (hf : ∀ i, i < len → (f i 0 = .sl0 ∧ xs i = []) ∨ f i 0 = .rob true false (xs i)) :
    SCalls Proofs.Try.prog 6 [.s (.lf (.ro false false 1 len f))] [] (.s (.lf .tt)) [] := by
  have hm : maxLen = 9223372036854775807 := rfl
  refine SCalls.intro tok Proofs.Try.func6 ?_
  conv => whnf
  refine CallK.mk' _ _ c22 ?_
  conv => whnf
  refine LoopK.mk2 (fun (i : Nat) (b : Bool) => match b with
      | true => parFr len f i .sl0
      | false => parFr len f i (.own 1 0 1 0 (joined xs i).length))
    (fun i b => match b with
      | true => [some (obSt (writeF st0 (joined xs i)))]
      | false => [some (obSt (writeF st0 (joined xs i))), some ⟨5, [.bytes (joined xs i).length (joined xs i)]⟩])
    (fun i b => i ≤ len ∧ i ≤ 20 ∧ (joined xs i).length ≤ 300 * i ∧ (b = true → joined xs i = [])) (fun i b => len - i) 0 true ⟨by omega, by omega, by simp [joined], fun _ => rfl⟩ ?_ ?_
  · refine Weak.of ⟨rfl, ?_, trivial⟩ (by simp) ⟨okF.wv rfl, okF.wv trivial, okF.wv ?_, okF.wv trivial, okF.wv trivial, trivial⟩
    · show WSs _ _ (obSt (writeF st0 [])).segs
      rw [writeF_nil]
      exact okGs.ws ⟨trivial, trivial, trivial, trivial, trivial⟩
    · intro k hk j hj
      obtain rfl : j = 0 := by omega
      rcases hf k hk with ⟨e, _⟩ | e <;> rw [e] <;> trivial
  have okf : ∀ {H : Hp}, okF H (.s (.lf (.ro false false 1 len f))) := by
    intro H k hk j hj
    obtain rfl : j = 0 := by omega
    rcases hf k hk with ⟨e, _⟩ | e <;> rw [e] <;> trivial
  have frf : freeF (.s (.lf (.ro false false 1 len f))) := by
    intro k hk j hj
    obtain rfl : j = 0 := by omega
    rcases hf k hk with ⟨e, _⟩ | e <;> rw [e] <;> trivial
  intro i b hi
  obtain ⟨hi, hi20, hj, hb⟩ := hi
  have fin : shaF (joined xs i) = sumF (writeF st0 (joined xs i)) := by rw [shaF]
  have hn : (writeF st0 (joined xs i)).n = (joined xs i).length := by rw [writeF_n]; exact Nat.zero_add _
  have hok := writeF_ok st0_ok (joined xs i)
  have h20 := (c20 _ hok (by omega))
  have h24 := c24 (joined xs i) (by omega)
  cases b with
  | true =>
    have hb := hb rfl
    have h24' : SCalls Proofs.Try.prog 24 [.s (.lf .sl0)] [] (.s (.lf (.str (shaF (joined xs i))))) [] := h24.lend (fun _ => True) [] ⟨WV.lf (by rw [hb]; exact WL.sl0rob'), trivial⟩ (plainF.wv trivial)
    conv => whnf
    by_cases hl : i < len
    · refine CaseB.of_true (decide_eq_true (by omega)) ?_
      conv => whnf
      refine ⟨by omega, ?_⟩
      conv => whnf
      rcases hf i hl with ⟨e, e0⟩ | e
      · rw [show f (Int.toNat (i : Int)) 0 = .sl0 from e]
        conv => whnf
        by_cases h20i : 20 ≤ (i : Int)
        · refine CaseB.of_true (decide_eq_true h20i) ?_
          conv => whnf
          refine CallK.mk' _ _ h20 ?_
          conv => whnf
          refine CallK.mk' _ _ (h24'.free _ ⟨trivial, trivial⟩ trivial) ?_
          conv => whnf
          refine CaseB.of_true (decide_eq_true fin.symm) ?_
          conv => whnf
          refine CallK.mk' _ _ (c17.free _ trivial trivial) ?_
          conv => whnf
          exact RetK.empty (okF.wv trivial)
        refine CaseB.of_false (decide_eq_false h20i) ?_
        conv => whnf
        refine CaseB.of_false (decide_eq_false (by omega)) ?_
        conv => whnf
        refine CallK.mk' _ _ (c23n.free _ ⟨trivial, trivial⟩ trivial) ?_
        conv => whnf
        have h19 := c19 _ hok [] (by simp; omega)
        rw [writeF_nil] at h19
        refine CallK.mk' _ [some (obSt (writeF st0 (joined xs i)))] (h19.frame1l (H := [some (obSt (writeF st0 (joined xs i)))]) (fun _ => False) (nm := 0) (rc := .tup []) rfl rfl (fun h => h) (obSt_ws _) ⟨WV.lf (WL.ptr rfl rfl), WV.lf WL.sl0rob', trivial⟩ rfl (obSt_ws _) (plainF.wv trivial)) ?_
        conv => whnf
        refine LoopK.upTo 0 (fun _ => [(3, .s (.lf (.ptr 0 0))), (4, .s (.lf .sl0)), (6, .s (.lf .sl0)), (7, .s (.lf .sl0)), (12, .s (.lf (.ro false false 1 len f))), (13, vI len), (14, vI i), (32, vI 0), (33, vI 0)]) (fun _ => [some (obSt (writeF st0 (joined xs i)))]) ?_ ?_
        · exact Weak.of ⟨rfl, obSt_ws _, trivial⟩ (by simp) ⟨okF.wv rfl, okF.wv trivial, okF.wv trivial, okF.wv trivial, okF.wv okf, okF.wv trivial, okF.wv trivial, okF.wv trivial, okF.wv trivial, trivial⟩
        intro k hk
        conv => whnf
        refine CaseB.of_false rfl ?_
        conv => whnf
        refine CallK.mk' _ _ h20 ?_
        conv => whnf
        refine CallK.mk' _ _ (h24'.free _ ⟨trivial, trivial⟩ trivial) ?_
        conv => whnf
        refine CaseB.of_false (decide_eq_false fun h => h fin.symm) ?_
        conv => whnf
        refine CallK.mk' _ _ (c21 _) ?_
        conv => whnf
        refine CaseB.of_false (decide_eq_false fun h => h (by rw [hn, hb]; rfl)) ?_
        conv => whnf
        have ej : joined xs (i + 1) = joined xs i := by rw [joined, e0, List.append_nil]
        refine ⟨(i + 1, true), ⟨by omega, by omega, by rw [ej]; omega, fun _ => by rw [ej]; exact hb⟩, by show len - (i + 1) < len - i; omega, ?_⟩
        refine Weak.of ⟨rfl, ?_, trivial⟩ (by simp) ⟨okF.wv rfl, okF.wv trivial, okF.wv okf, okF.wv trivial, WV.lf (WL.int (by rw [wrap_i64 (by omega) (by omega)]; omega)), trivial⟩
        show WSs _ _ (obSt (writeF st0 (joined xs (i + 1)))).segs
        rw [ej]
        exact obSt_ws _
      · rw [show f (Int.toNat (i : Int)) 0 = .rob true false (xs i) from e]
        conv => whnf
        by_cases h20i : 20 ≤ (i : Int)
        · refine CaseB.of_true (decide_eq_true h20i) ?_
          conv => whnf
          refine CallK.mk' _ _ h20 ?_
          conv => whnf
          refine CallK.mk' _ _ (h24'.free _ ⟨trivial, trivial⟩ trivial) ?_
          conv => whnf
          refine CaseB.of_true (decide_eq_true fin.symm) ?_
          conv => whnf
          refine CallK.mk' _ _ (c17.free _ trivial trivial) ?_
          conv => whnf
          exact RetK.empty (okF.wv trivial)
        refine CaseB.of_false (decide_eq_false h20i) ?_
        conv => whnf
        by_cases h300 : 300 < ((xs i).length : Int)
        · refine CaseB.of_true (decide_eq_true h300) ?_
          conv => whnf
          refine CallK.mk' _ _ h20 ?_
          conv => whnf
          refine CallK.mk' _ _ (h24'.free _ ⟨trivial, trivial⟩ trivial) ?_
          conv => whnf
          refine CaseB.of_true (decide_eq_true fin.symm) ?_
          conv => whnf
          refine CallK.mk' _ _ (c17.free _ trivial trivial) ?_
          conv => whnf
          exact RetK.empty (okF.wv trivial)
        refine CaseB.of_false (decide_eq_false h300) ?_
        conv => whnf
        refine CallK.mk' (.s (.lf (.own 1 0 1 0 (xs i).length))) _ ((c23 (xs i) (by omega)).made [some (obSt (writeF st0 (joined xs i)))] (Hn := [some ⟨5, [.bytes (xs i).length (xs i)]⟩]) ⟨(freeF.wv trivial), trivial⟩ (WV.lf (WL.uown rfl rfl rfl)) ⟨rfl, ⟨.bytes rfl fun _ _ => rfl, trivial⟩, trivial⟩) ?_
        conv => whnf
        have hok' := writeF_ok st0_ok (joined xs (i + 1))
        have hn' : (writeF st0 (joined xs (i + 1))).n = (joined xs (i + 1)).length := by rw [writeF_n]; exact Nat.zero_add _
        have hl' : (joined xs (i + 1)).length = (joined xs i).length + (xs i).length := by rw [joined, List.length_append]
        have h20' := c20 _ hok' (by omega)
        have h24' := c24 (joined xs (i + 1)) (by omega)
        have h21' := c21 (writeF st0 (joined xs (i + 1)))
        have h19 := c19 _ hok (xs i) (by omega)
        rw [← writeF_append, ← joined] at h19
        refine CallK.mk' _ [some (obSt (writeF st0 (joined xs (i + 1)))), some ⟨5, [.bytes (xs i).length (xs i)]⟩] (h19.frame1l (H := [some (obSt (writeF st0 (joined xs i))), some ⟨5, [.bytes (xs i).length (xs i)]⟩]) (fun _ => False) (nm := 0) (rc := .tup []) rfl rfl (fun h => h) (obSt_ws _)
          ⟨WV.lf (WL.ptr rfl rfl), WV.lf (fun w L L' x h hx => rep_rob_weak (WL.freezeB (ob := ⟨5, [.bytes (xs i).length (xs i)]⟩) (p := []) (q := []) rfl rfl rfl (by omega) (by omega) (by rw [List.drop_zero, List.take_length]) ⟨fun h => h, fun i ob h => by simp⟩ w L L' x h hx)), trivial⟩ rfl (obSt_ws _) (plainF.wv trivial)) ?_
        conv => whnf
        refine LoopK.mk2 (fun (k : Nat) (ys : List UInt8) => [(3, .s (.lf (.ptr 0 0))), (4, .s (.lf .sl0)), (6, .s (.lf (.rob true false (xs i)))), (7, .s (.lf (.own 1 0 1 0 (xs i).length))), (12, .s (.lf (.ro false false 1 len f))), (13, vI len), (14, vI i), (32, vI (xs i).length), (33, vI k)])
          (fun k ys => [some (obSt (writeF st0 (joined xs (i + 1)))), some ⟨5, [.bytes (xs i).length ys]⟩]) (fun k ys => k ≤ (xs i).length ∧ ys.length = (xs i).length) (fun k ys => (xs i).length - k) 0 (xs i) ⟨by omega, rfl⟩ ?_ ?_
        · exact Weak.of ⟨rfl, obSt_ws _, rfl, ⟨.bytes rfl fun _ _ => rfl, trivial⟩, trivial⟩ (by simp) ⟨okF.wv rfl, okF.wv trivial, okF.wv trivial, okF.wv rfl, okF.wv okf, okF.wv trivial, okF.wv trivial, okF.wv trivial, okF.wv trivial, trivial⟩
        intro k ys hk
        obtain ⟨hk, hy⟩ := hk
        conv => whnf
        by_cases hk' : k < (xs i).length
        · refine CaseB.of_true (decide_eq_true (by omega)) ?_
          conv => whnf
          refine ⟨by omega, ?_⟩
          conv => whnf
          refine ⟨by omega, ?_⟩
          conv => whnf
          refine ⟨by omega, ?_⟩
          conv => whnf
          refine ⟨(k + 1, ys.set (0 + Int.toNat (k : Int)) 255), ⟨by omega, by rw [List.length_set]; exact hy⟩, by show (xs i).length - (k + 1) < (xs i).length - k; omega, ?_⟩
          exact Weak.of ⟨rfl, obSt_ws _, rfl, ⟨.bytes rfl fun _ _ => rfl, trivial⟩, trivial⟩ (by simp) ⟨okF.wv rfl, okF.wv trivial, okF.wv trivial, okF.wv rfl, okF.wv okf, okF.wv trivial, okF.wv trivial, okF.wv trivial, WV.lf (WL.int (by rw [wrap_i64 (by omega) (by omega)]; omega)), trivial⟩
        refine CaseB.of_false (decide_eq_false (by omega)) ?_
        conv => whnf
        rcases hx : xs i with _ | ⟨y, r⟩
        · conv => whnf
          have ej : joined xs (i + 1) = [] := by rw [joined, hb, hx]; rfl
          refine CallK.mk' _ [some (obSt (writeF st0 (joined xs (i + 1)))), some ⟨5, [.bytes (List.length ([] : List UInt8)) ys]⟩] (h20'.frame1 (H := [some (obSt (writeF st0 (joined xs (i + 1)))), some ⟨5, [.bytes (List.length ([] : List UInt8)) ys]⟩]) (nm := 0) rfl rfl (obSt_ws _) ⟨WV.lf (WL.ptr rfl rfl), trivial⟩ rfl (obSt_ws _) (freeF.wv trivial)) ?_
          conv => whnf
          refine CallK.mk' _ _ (h24'.lend (cs := [.s (.lf .sl0)]) (fun _ => True) [some (obSt (writeF st0 (joined xs (i + 1)))), some ⟨5, [.bytes (List.length ([] : List UInt8)) ys]⟩] ⟨WV.lf (by rw [ej]; exact WL.sl0rob'), trivial⟩ (plainF.wv trivial)) ?_
          conv => whnf
          refine CaseB.of_false (decide_eq_false fun h => h (by rw [shaF])) ?_
          conv => whnf
          refine CallK.mk' _ [some (obSt (writeF st0 (joined xs (i + 1)))), some ⟨5, [.bytes (List.length ([] : List UInt8)) ys]⟩] (h21'.frame1 (H := [some (obSt (writeF st0 (joined xs (i + 1)))), some ⟨5, [.bytes (List.length ([] : List UInt8)) ys]⟩]) (nm := 0) rfl rfl (obSt_ws _) ⟨WV.lf (WL.ptr rfl rfl), trivial⟩ rfl (obSt_ws _) (freeF.wv trivial)) ?_
          conv => whnf
          refine CaseB.of_false (decide_eq_false fun h => h (by rw [hn', ej]; rfl)) ?_
          conv => whnf
          refine ⟨(i + 1, true), ⟨by omega, by omega, by rw [ej]; exact Nat.zero_le _, fun _ => ej⟩, by show len - (i + 1) < len - i; omega, ?_⟩
          exact Weak.of ⟨rfl, obSt_ws _, trivial⟩ (by simp) ⟨okF.wv rfl, okF.wv trivial, okF.wv okf, okF.wv trivial, WV.lf (WL.int (by rw [wrap_i64 (by omega) (by omega)]; omega)), trivial⟩
        · conv => whnf
          have ej : joined xs (i + 1) = y :: r := by rw [joined, hb, hx]; rfl
          have hlr : (xs i).length = (y :: r).length := by rw [hx]
          refine ⟨by omega, ?_⟩
          conv => whnf
          refine CallK.mk' _ [some (obSt (writeF st0 (joined xs (i + 1)))), some ⟨5, [.bytes (y :: r).length ys]⟩, some ⟨5, [.bytes (y :: r).length (y :: r)]⟩] (h20'.frame1 (H := [some (obSt (writeF st0 (joined xs (i + 1)))), some ⟨5, [.bytes (y :: r).length ys]⟩, some ⟨5, [.bytes (y :: r).length (y :: r)]⟩]) (nm := 0) rfl rfl (obSt_ws _) ⟨WV.lf (WL.ptr rfl rfl), trivial⟩ rfl (obSt_ws _) (freeF.wv trivial)) ?_
          conv => whnf
          refine CallK.mk' _ _ (h24'.lend (cs := [.s (.lf (.own 2 0 1 0 (y :: r).length))]) (fun _ => False) [some (obSt (writeF st0 (joined xs (i + 1)))), some ⟨5, [.bytes (y :: r).length ys]⟩, some ⟨5, [.bytes (y :: r).length (y :: r)]⟩] ⟨WV.lf (fun w L L' x h hx => rep_rob_weak (WL.freezeB (ob := ⟨5, [.bytes (y :: r).length (y :: r)]⟩) (p := []) (q := []) rfl rfl rfl (by omega) (by omega) (by rw [List.drop_zero, List.take_length, ej]) ⟨fun h => h, fun i ob h => by simp at h⟩ w L L' x h hx)), trivial⟩ (plainF.wv trivial)) ?_
          conv => whnf
          refine CaseB.of_false (decide_eq_false fun h => h (by rw [shaF])) ?_
          conv => whnf
          refine CallK.mk' _ [some (obSt (writeF st0 (joined xs (i + 1)))), some ⟨5, [.bytes (y :: r).length ys]⟩, some ⟨5, [.bytes (y :: r).length (y :: r)]⟩] (h21'.frame1 (H := [some (obSt (writeF st0 (joined xs (i + 1)))), some ⟨5, [.bytes (y :: r).length ys]⟩, some ⟨5, [.bytes (y :: r).length (y :: r)]⟩]) (nm := 0) rfl rfl (obSt_ws _) ⟨WV.lf (WL.ptr rfl rfl), trivial⟩ rfl (obSt_ws _) (freeF.wv trivial)) ?_
          conv => whnf
          refine CaseB.of_false (decide_eq_false fun h => h (by rw [hn', ej])) ?_
          conv => whnf
          refine ⟨(i + 1, false), ⟨by omega, by omega, by show (joined xs (i + 1)).length ≤ 300 * (i + 1); omega, fun h => by simp at h⟩, by show len - (i + 1) < len - i; omega, ?_⟩
          refine Weak.perm [0, 2] ⟨⟨rfl, obSt_ws _⟩, ⟨rfl, ?_⟩, trivial⟩ ⟨WV.lf (WL.ptr rfl rfl), WV.lf (WL.own rfl rfl rfl (by rw [ej])), freeF.wv frf, freeF.wv trivial, WV.lf (WL.int (by rw [wrap_i64 (by omega) (by omega)]; omega)), trivial⟩ rfl (by simp) rfl (by simp)
          rw [ej]
          exact ⟨.bytes rfl fun _ _ => rfl, trivial⟩
    · refine CaseB.of_false (decide_eq_false (by omega)) ?_
      conv => whnf
      refine CallK.mk' _ _ h20 ?_
      conv => whnf
      refine CallK.mk' _ _ (h24'.free _ ⟨trivial, trivial⟩ trivial) ?_
      conv => whnf
      refine CaseB.of_true (decide_eq_true fin.symm) ?_
      conv => whnf
      refine CallK.mk' _ _ (c17.free _ trivial trivial) ?_
      conv => whnf
      exact RetK.empty (okF.wv trivial)
  | false =>
    conv => whnf
    by_cases hl : i < len
    · refine CaseB.of_true (decide_eq_true (by omega)) ?_
      conv => whnf
      refine ⟨by omega, ?_⟩
      conv => whnf
      rcases hf i hl with ⟨e, e0⟩ | e
      · rw [show f (Int.toNat (i : Int)) 0 = .sl0 from e]
        conv => whnf
        by_cases h20i : 20 ≤ (i : Int)
        · refine CaseB.of_true (decide_eq_true h20i) ?_
          conv => whnf
          refine CallK.mk' _ [some (obSt (writeF st0 (joined xs i))), some ⟨5, [.bytes (joined xs i).length (joined xs i)]⟩] (h20.frame1 (H := [some (obSt (writeF st0 (joined xs i))), some ⟨5, [.bytes (joined xs i).length (joined xs i)]⟩]) (nm := 0) rfl rfl (obSt_ws _) ⟨WV.lf (WL.ptr rfl rfl), trivial⟩ rfl (obSt_ws _) (freeF.wv trivial)) ?_
          conv => whnf
          refine CallK.mk' _ _ (h24.lend (cs := [.s (.lf (.own 1 0 1 0 (joined xs i).length))]) (fun _ => False) [some (obSt (writeF st0 (joined xs i))), some ⟨5, [.bytes (joined xs i).length (joined xs i)]⟩] ⟨WV.lf (fun w L L' x h hx => rep_rob_weak (WL.freezeB (ob := ⟨5, [.bytes (joined xs i).length (joined xs i)]⟩) (p := []) (q := []) rfl rfl rfl (by omega) (by omega) (by rw [List.drop_zero, List.take_length]) ⟨fun h => h, fun i ob h => by simp at h⟩ w L L' x h hx)), trivial⟩ (plainF.wv trivial)) ?_
          conv => whnf
          refine CaseB.of_true (decide_eq_true fin.symm) ?_
          conv => whnf
          refine CallK.mk' _ _ (c17.free _ trivial trivial) ?_
          conv => whnf
          exact RetK.empty (okF.wv trivial)
        refine CaseB.of_false (decide_eq_false h20i) ?_
        conv => whnf
        refine CaseB.of_false (decide_eq_false (by omega)) ?_
        conv => whnf
        refine CallK.mk' _ _ (c23n.free _ ⟨trivial, trivial⟩ trivial) ?_
        conv => whnf
        have h19 := c19 _ hok [] (by simp; omega)
        rw [writeF_nil] at h19
        refine CallK.mk' _ [some (obSt (writeF st0 (joined xs i))), some ⟨5, [.bytes (joined xs i).length (joined xs i)]⟩] (h19.frame1l (H := [some (obSt (writeF st0 (joined xs i))), some ⟨5, [.bytes (joined xs i).length (joined xs i)]⟩]) (fun _ => False) (nm := 0) (rc := .tup []) rfl rfl (fun h => h) (obSt_ws _) ⟨WV.lf (WL.ptr rfl rfl), WV.lf WL.sl0rob', trivial⟩ rfl (obSt_ws _) (plainF.wv trivial)) ?_
        conv => whnf
        refine LoopK.upTo 0 (fun _ => [(3, .s (.lf (.ptr 0 0))), (4, .s (.lf (.own 1 0 1 0 (joined xs i).length))), (6, .s (.lf .sl0)), (7, .s (.lf .sl0)), (12, .s (.lf (.ro false false 1 len f))), (13, vI len), (14, vI i), (32, vI 0), (33, vI 0)]) (fun _ => [some (obSt (writeF st0 (joined xs i))), some ⟨5, [.bytes (joined xs i).length (joined xs i)]⟩]) ?_ ?_
        · exact Weak.of ⟨rfl, obSt_ws _, rfl, ⟨.bytes rfl fun _ _ => rfl, trivial⟩, trivial⟩ (by simp) ⟨okF.wv rfl, okF.wv rfl, okF.wv trivial, okF.wv trivial, okF.wv okf, okF.wv trivial, okF.wv trivial, okF.wv trivial, okF.wv trivial, trivial⟩
        intro k hk
        conv => whnf
        refine CaseB.of_false rfl ?_
        conv => whnf
        have hok' := writeF_ok st0_ok (joined xs (i + 1))
        have hn' : (writeF st0 (joined xs (i + 1))).n = (joined xs (i + 1)).length := by rw [writeF_n]; exact Nat.zero_add _
        have hl' : (joined xs (i + 1)).length = (joined xs i).length + (xs i).length := by rw [joined, List.length_append]
        have hlx : (xs i).length = 0 := by rw [e0]; rfl
        have h20' := c20 _ hok' (by omega)
        have h24' := c24 (joined xs (i + 1)) (by omega)
        have h21' := c21 (writeF st0 (joined xs (i + 1)))
        have ew : writeF st0 (joined xs i) = writeF st0 (joined xs (i + 1)) := by rw [joined, e0, List.append_nil]
        rw [ew]
        refine ⟨⟨rfl, rfl, by rw [List.append_nil]; omega⟩, ?_⟩
        conv => whnf
        have ej : joined xs (i + 1) = joined xs i ++ ([] : List UInt8) := by rw [joined, e0]
        refine CallK.mk' _ [some (obSt (writeF st0 (joined xs (i + 1)))), none, some ⟨5, [.bytes (joined xs i ++ ([] : List UInt8)).length (joined xs i ++ ([] : List UInt8))]⟩] (h20'.frame1 (H := [some (obSt (writeF st0 (joined xs (i + 1)))), none, some ⟨5, [.bytes (joined xs i ++ ([] : List UInt8)).length (joined xs i ++ ([] : List UInt8))]⟩]) (nm := 0) rfl rfl (obSt_ws _) ⟨WV.lf (WL.ptr rfl rfl), trivial⟩ rfl (obSt_ws _) (freeF.wv trivial)) ?_
        conv => whnf
        refine CallK.mk' _ _ (h24'.lend (cs := [.s (.lf (.own 2 0 1 0 (joined xs i ++ ([] : List UInt8)).length))]) (fun _ => False) [some (obSt (writeF st0 (joined xs (i + 1)))), none, some ⟨5, [.bytes (joined xs i ++ ([] : List UInt8)).length (joined xs i ++ ([] : List UInt8))]⟩] ⟨WV.lf (fun w L L' x h hx => rep_rob_weak (WL.freezeB (ob := ⟨5, [.bytes (joined xs i ++ ([] : List UInt8)).length (joined xs i ++ ([] : List UInt8))]⟩) (p := []) (q := []) rfl rfl rfl (by omega) (by omega) (by rw [List.drop_zero, List.take_length, ej]) ⟨fun h => h, fun i ob h => by simp at h⟩ w L L' x h hx)), trivial⟩ (plainF.wv trivial)) ?_
        conv => whnf
        refine CaseB.of_false (decide_eq_false fun h => h (by rw [shaF])) ?_
        conv => whnf
        refine CallK.mk' _ [some (obSt (writeF st0 (joined xs (i + 1)))), none, some ⟨5, [.bytes (joined xs i ++ ([] : List UInt8)).length (joined xs i ++ ([] : List UInt8))]⟩] (h21'.frame1 (H := [some (obSt (writeF st0 (joined xs (i + 1)))), none, some ⟨5, [.bytes (joined xs i ++ ([] : List UInt8)).length (joined xs i ++ ([] : List UInt8))]⟩]) (nm := 0) rfl rfl (obSt_ws _) ⟨WV.lf (WL.ptr rfl rfl), trivial⟩ rfl (obSt_ws _) (freeF.wv trivial)) ?_
        conv => whnf
        refine CaseB.of_false (decide_eq_false fun h => h (by rw [hn', ej])) ?_
        conv => whnf
        refine ⟨(i + 1, false), ⟨by omega, by omega, by show (joined xs (i + 1)).length ≤ 300 * (i + 1); omega, fun h => by simp at h⟩, by show len - (i + 1) < len - i; omega, ?_⟩
        refine Weak.perm [0, 2] ⟨⟨rfl, obSt_ws _⟩, ⟨rfl, ?_⟩, trivial⟩ ⟨WV.lf (WL.ptr rfl rfl), WV.lf (WL.own rfl rfl rfl (by rw [ej])), freeF.wv frf, freeF.wv trivial, WV.lf (WL.int (by rw [wrap_i64 (by omega) (by omega)]; omega)), trivial⟩ rfl (by simp) rfl (by simp)
        rw [ej]
        exact ⟨.bytes rfl fun _ _ => rfl, trivial⟩
      · rw [show f (Int.toNat (i : Int)) 0 = .rob true false (xs i) from e]
        conv => whnf
        by_cases h20i : 20 ≤ (i : Int)
        · refine CaseB.of_true (decide_eq_true h20i) ?_
          conv => whnf
          refine CallK.mk' _ [some (obSt (writeF st0 (joined xs i))), some ⟨5, [.bytes (joined xs i).length (joined xs i)]⟩] (h20.frame1 (H := [some (obSt (writeF st0 (joined xs i))), some ⟨5, [.bytes (joined xs i).length (joined xs i)]⟩]) (nm := 0) rfl rfl (obSt_ws _) ⟨WV.lf (WL.ptr rfl rfl), trivial⟩ rfl (obSt_ws _) (freeF.wv trivial)) ?_
          conv => whnf
          refine CallK.mk' _ _ (h24.lend (cs := [.s (.lf (.own 1 0 1 0 (joined xs i).length))]) (fun _ => False) [some (obSt (writeF st0 (joined xs i))), some ⟨5, [.bytes (joined xs i).length (joined xs i)]⟩] ⟨WV.lf (fun w L L' x h hx => rep_rob_weak (WL.freezeB (ob := ⟨5, [.bytes (joined xs i).length (joined xs i)]⟩) (p := []) (q := []) rfl rfl rfl (by omega) (by omega) (by rw [List.drop_zero, List.take_length]) ⟨fun h => h, fun i ob h => by simp at h⟩ w L L' x h hx)), trivial⟩ (plainF.wv trivial)) ?_
          conv => whnf
          refine CaseB.of_true (decide_eq_true fin.symm) ?_
          conv => whnf
          refine CallK.mk' _ _ (c17.free _ trivial trivial) ?_
          conv => whnf
          exact RetK.empty (okF.wv trivial)
        refine CaseB.of_false (decide_eq_false h20i) ?_
        conv => whnf
        by_cases h300 : 300 < ((xs i).length : Int)
        · refine CaseB.of_true (decide_eq_true h300) ?_
          conv => whnf
          refine CallK.mk' _ [some (obSt (writeF st0 (joined xs i))), some ⟨5, [.bytes (joined xs i).length (joined xs i)]⟩] (h20.frame1 (H := [some (obSt (writeF st0 (joined xs i))), some ⟨5, [.bytes (joined xs i).length (joined xs i)]⟩]) (nm := 0) rfl rfl (obSt_ws _) ⟨WV.lf (WL.ptr rfl rfl), trivial⟩ rfl (obSt_ws _) (freeF.wv trivial)) ?_
          conv => whnf
          refine CallK.mk' _ _ (h24.lend (cs := [.s (.lf (.own 1 0 1 0 (joined xs i).length))]) (fun _ => False) [some (obSt (writeF st0 (joined xs i))), some ⟨5, [.bytes (joined xs i).length (joined xs i)]⟩] ⟨WV.lf (fun w L L' x h hx => rep_rob_weak (WL.freezeB (ob := ⟨5, [.bytes (joined xs i).length (joined xs i)]⟩) (p := []) (q := []) rfl rfl rfl (by omega) (by omega) (by rw [List.drop_zero, List.take_length]) ⟨fun h => h, fun i ob h => by simp at h⟩ w L L' x h hx)), trivial⟩ (plainF.wv trivial)) ?_
          conv => whnf
          refine CaseB.of_true (decide_eq_true fin.symm) ?_
          conv => whnf
          refine CallK.mk' _ _ (c17.free _ trivial trivial) ?_
          conv => whnf
          exact RetK.empty (okF.wv trivial)
        refine CaseB.of_false (decide_eq_false h300) ?_
        conv => whnf
        refine CallK.mk' (.s (.lf (.own 2 0 1 0 (xs i).length))) _ ((c23 (xs i) (by omega)).made [some (obSt (writeF st0 (joined xs i))), some ⟨5, [.bytes (joined xs i).length (joined xs i)]⟩] (Hn := [some ⟨5, [.bytes (xs i).length (xs i)]⟩]) ⟨(freeF.wv trivial), trivial⟩ (WV.lf (WL.uown rfl rfl rfl)) ⟨rfl, ⟨.bytes rfl fun _ _ => rfl, trivial⟩, trivial⟩) ?_
        conv => whnf
        have hok' := writeF_ok st0_ok (joined xs (i + 1))
        have hn' : (writeF st0 (joined xs (i + 1))).n = (joined xs (i + 1)).length := by rw [writeF_n]; exact Nat.zero_add _
        have hl' : (joined xs (i + 1)).length = (joined xs i).length + (xs i).length := by rw [joined, List.length_append]
        
        have h20' := c20 _ hok' (by omega)
        have h24' := c24 (joined xs (i + 1)) (by omega)
        have h21' := c21 (writeF st0 (joined xs (i + 1)))
        have h19 := c19 _ hok (xs i) (by omega)
        rw [← writeF_append, ← joined] at h19
        refine CallK.mk' _ [some (obSt (writeF st0 (joined xs (i + 1)))), some ⟨5, [.bytes (joined xs i).length (joined xs i)]⟩, some ⟨5, [.bytes (xs i).length (xs i)]⟩] (h19.frame1l (H := [some (obSt (writeF st0 (joined xs i))), some ⟨5, [.bytes (joined xs i).length (joined xs i)]⟩, some ⟨5, [.bytes (xs i).length (xs i)]⟩]) (fun _ => False) (nm := 0) (rc := .tup []) rfl rfl (fun h => h) (obSt_ws _)
          ⟨WV.lf (WL.ptr rfl rfl), WV.lf (fun w L L' x h hx => rep_rob_weak (WL.freezeB (ob := ⟨5, [.bytes (xs i).length (xs i)]⟩) (p := []) (q := []) rfl rfl rfl (by omega) (by omega) (by rw [List.drop_zero, List.take_length]) ⟨fun h => h, fun i ob h => by simp⟩ w L L' x h hx)), trivial⟩ rfl (obSt_ws _) (plainF.wv trivial)) ?_
        conv => whnf
        refine LoopK.mk2 (fun (k : Nat) (ys : List UInt8) => [(3, .s (.lf (.ptr 0 0))), (4, .s (.lf (.own 1 0 1 0 (joined xs i).length))), (6, .s (.lf (.rob true false (xs i)))), (7, .s (.lf (.own 2 0 1 0 (xs i).length))), (12, .s (.lf (.ro false false 1 len f))), (13, vI len), (14, vI i), (32, vI (xs i).length), (33, vI k)])
          (fun k ys => [some (obSt (writeF st0 (joined xs (i + 1)))), some ⟨5, [.bytes (joined xs i).length (joined xs i)]⟩, some ⟨5, [.bytes (xs i).length ys]⟩]) (fun k ys => k ≤ (xs i).length ∧ ys.length = (xs i).length) (fun k ys => (xs i).length - k) 0 (xs i) ⟨by omega, rfl⟩ ?_ ?_
        · exact Weak.of ⟨rfl, obSt_ws _, rfl, ⟨.bytes rfl fun _ _ => rfl, trivial⟩, rfl, ⟨.bytes rfl fun _ _ => rfl, trivial⟩, trivial⟩ (by simp) ⟨okF.wv rfl, okF.wv rfl, okF.wv trivial, okF.wv rfl, okF.wv okf, okF.wv trivial, okF.wv trivial, okF.wv trivial, okF.wv trivial, trivial⟩
        intro k ys hk
        obtain ⟨hk, hy⟩ := hk
        conv => whnf
        by_cases hk' : k < (xs i).length
        · refine CaseB.of_true (decide_eq_true (by omega)) ?_
          conv => whnf
          refine ⟨by omega, ?_⟩
          conv => whnf
          refine ⟨by omega, ?_⟩
          conv => whnf
          refine ⟨by omega, ?_⟩
          conv => whnf
          refine ⟨(k + 1, ys.set (0 + Int.toNat (k : Int)) 255), ⟨by omega, by rw [List.length_set]; exact hy⟩, by show (xs i).length - (k + 1) < (xs i).length - k; omega, ?_⟩
          exact Weak.of ⟨rfl, obSt_ws _, rfl, ⟨.bytes rfl fun _ _ => rfl, trivial⟩, rfl, ⟨.bytes rfl fun _ _ => rfl, trivial⟩, trivial⟩ (by simp) ⟨okF.wv rfl, okF.wv rfl, okF.wv trivial, okF.wv rfl, okF.wv okf, okF.wv trivial, okF.wv trivial, okF.wv trivial, WV.lf (WL.int (by rw [wrap_i64 (by omega) (by omega)]; omega)), trivial⟩
        refine CaseB.of_false (decide_eq_false (by omega)) ?_
        conv => whnf
        refine ⟨⟨rfl, rfl, by rw [List.length_append]; omega⟩, ?_⟩
        conv => whnf
        have ej : joined xs (i + 1) = joined xs i ++ xs i := by rw [joined]
        refine CallK.mk' _ [some (obSt (writeF st0 (joined xs (i + 1)))), none, some ⟨5, [.bytes (xs i).length ys]⟩, some ⟨5, [.bytes (joined xs i ++ xs i).length (joined xs i ++ xs i)]⟩] (h20'.frame1 (H := [some (obSt (writeF st0 (joined xs (i + 1)))), none, some ⟨5, [.bytes (xs i).length ys]⟩, some ⟨5, [.bytes (joined xs i ++ xs i).length (joined xs i ++ xs i)]⟩]) (nm := 0) rfl rfl (obSt_ws _) ⟨WV.lf (WL.ptr rfl rfl), trivial⟩ rfl (obSt_ws _) (freeF.wv trivial)) ?_
        conv => whnf
        refine CallK.mk' _ _ (h24'.lend (cs := [.s (.lf (.own 3 0 1 0 (joined xs i ++ xs i).length))]) (fun _ => False) [some (obSt (writeF st0 (joined xs (i + 1)))), none, some ⟨5, [.bytes (xs i).length ys]⟩, some ⟨5, [.bytes (joined xs i ++ xs i).length (joined xs i ++ xs i)]⟩] ⟨WV.lf (fun w L L' x h hx => rep_rob_weak (WL.freezeB (ob := ⟨5, [.bytes (joined xs i ++ xs i).length (joined xs i ++ xs i)]⟩) (p := []) (q := []) rfl rfl rfl (by omega) (by omega) (by rw [List.drop_zero, List.take_length, ej]) ⟨fun h => h, fun i ob h => by simp at h⟩ w L L' x h hx)), trivial⟩ (plainF.wv trivial)) ?_
        conv => whnf
        refine CaseB.of_false (decide_eq_false fun h => h (by rw [shaF])) ?_
        conv => whnf
        refine CallK.mk' _ [some (obSt (writeF st0 (joined xs (i + 1)))), none, some ⟨5, [.bytes (xs i).length ys]⟩, some ⟨5, [.bytes (joined xs i ++ xs i).length (joined xs i ++ xs i)]⟩] (h21'.frame1 (H := [some (obSt (writeF st0 (joined xs (i + 1)))), none, some ⟨5, [.bytes (xs i).length ys]⟩, some ⟨5, [.bytes (joined xs i ++ xs i).length (joined xs i ++ xs i)]⟩]) (nm := 0) rfl rfl (obSt_ws _) ⟨WV.lf (WL.ptr rfl rfl), trivial⟩ rfl (obSt_ws _) (freeF.wv trivial)) ?_
        conv => whnf
        refine CaseB.of_false (decide_eq_false fun h => h (by rw [hn', ej])) ?_
        conv => whnf
        refine ⟨(i + 1, false), ⟨by omega, by omega, by show (joined xs (i + 1)).length ≤ 300 * (i + 1); omega, fun h => by simp at h⟩, by show len - (i + 1) < len - i; omega, ?_⟩
        refine Weak.perm [0, 3] ⟨⟨rfl, obSt_ws _⟩, ⟨rfl, ?_⟩, trivial⟩ ⟨WV.lf (WL.ptr rfl rfl), WV.lf (WL.own rfl rfl rfl (by rw [ej])), freeF.wv frf, freeF.wv trivial, WV.lf (WL.int (by rw [wrap_i64 (by omega) (by omega)]; omega)), trivial⟩ rfl (by simp) rfl (by simp)
        rw [ej]
        exact ⟨.bytes rfl fun _ _ => rfl, trivial⟩
    · refine CaseB.of_false (decide_eq_false (by omega)) ?_
      conv => whnf
      refine CallK.mk' _ [some (obSt (writeF st0 (joined xs i))), some ⟨5, [.bytes (joined xs i).length (joined xs i)]⟩] (h20.frame1 (H := [some (obSt (writeF st0 (joined xs i))), some ⟨5, [.bytes (joined xs i).length (joined xs i)]⟩]) (nm := 0) rfl rfl (obSt_ws _) ⟨WV.lf (WL.ptr rfl rfl), trivial⟩ rfl (obSt_ws _) (freeF.wv trivial)) ?_
      conv => whnf
      refine CallK.mk' _ _ (h24.lend (cs := [.s (.lf (.own 1 0 1 0 (joined xs i).length))]) (fun _ => False) [some (obSt (writeF st0 (joined xs i))), some ⟨5, [.bytes (joined xs i).length (joined xs i)]⟩] ⟨WV.lf (fun w L L' x h hx => rep_rob_weak (WL.freezeB (ob := ⟨5, [.bytes (joined xs i).length (joined xs i)]⟩) (p := []) (q := []) rfl rfl rfl (by omega) (by omega) (by rw [List.drop_zero, List.take_length]) ⟨fun h => h, fun i ob h => by simp at h⟩ w L L' x h hx)), trivial⟩ (plainF.wv trivial)) ?_
      conv => whnf
      refine CaseB.of_true (decide_eq_true fin.symm) ?_
      conv => whnf
      refine CallK.mk' _ _ (c17.free _ trivial trivial) ?_
      conv => whnf
      exact RetK.empty (okF.wv trivial)
end Go.Sym.Sh
