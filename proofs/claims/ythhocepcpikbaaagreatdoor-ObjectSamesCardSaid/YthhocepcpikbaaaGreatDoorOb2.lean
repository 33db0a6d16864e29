import Derived.Test.YthhocepcpikbaaaGreatDoorOb1
import Derived.Test.YthhocepcpikbaaaGreatDoorAwZ
set_option linter.unusedVariables false
set_option linter.unusedSimpArgs false
set_option maxRecDepth 100000
namespace Go.Tw
open Go.Proofs
/-- The point of a program at two names. -/
def pt (s t : ByteArray) : List (List D) → Option (Int × Int)
  | [] => some (0, 8)
  | r :: rs => tcS r fun a q => tcS q fun b q => tcI .i64 q fun n q => tcE q (bif a.toList == s.toList && b.toList == t.toList then some (n, 0) else pt s t rs)
def ptC (c : List (List D)) (s t : ByteArray) : Option (Int × Int) := bif Nat.ble c.length 9223372036854775807 then pt s t c else none
def ptSpec : Spec := fun args bs k => match args, bs with
  | [.agg [.d (.sl _), .d (.sl _), .d (.sl c)], .d (.s s), .d (.s t)], [] => (ptC c s t).bind fun p => k (.ret (.tup [.d (.i .i64 p.1), .d (.i .i64 p.2)])) []
  | _, _ => none
def awakeSpec : Spec := fun args bs k => match args, bs with
  | [], [] => k (.ret (.d (.b true))) []
  | _, _ => none
theorem ptC_len {c : List (List D)} {s t : ByteArray} {p : Int × Int} (h : ptC c s t = some p) : c.length ≤ 9223372036854775807 ∧ pt s t c = some p := by
  unfold ptC at h
  cases hb : Nat.ble c.length 9223372036854775807 with
  | false => rw [hb] at h; cases h
  | true => rw [hb] at h; exact ⟨Nat.le_of_ble_eq_true hb, h⟩
theorem drop_cons {α : Type} {xs : List α} {i : Nat} {x : α} (h : xs[i]? = some x) : xs.drop i = x :: xs.drop (i + 1) := by
  obtain ⟨hi, he⟩ := List.getElem?_eq_some_iff.1 h
  rw [List.drop_eq_getElem_cons hi, he]
theorem getK_nat {α β : Type} {xs : List α} {i : Nat} {f : α → Option β} : getK xs (i : Int) f = (match xs[i]? with | some x => f x | none => none) := by
  unfold getK
  rw [if_pos (Int.natCast_nonneg i), Int.toNat_natCast]
  cases xs[i]? <;> rfl
theorem wrap_nat {i : Nat} (h : i < 9223372036854775807) : IntKind.wrap .i64 ((i : Int) + 1) = ((i + 1 : Nat) : Int) := by
  have : (IntKind.wrap .i64 ((i : Int) + 1)) = (i : Int) + 1 := by
    have h1 : ((i : Int) + 1) % 2 ^ IntKind.i64.bits = (i : Int) + 1 := Int.emod_eq_of_lt (by omega) (by show (i : Int) + 1 < 2 ^ 64; omega)
    have h2 : ¬ ((i : Int) + 1 ≥ 2 ^ (IntKind.i64.bits - 1)) := by show ¬ ((i : Int) + 1 ≥ 2 ^ 63); omega
    simp only [IntKind.wrap, h1, h2, decide_false, Bool.and_false, Bool.false_eq_true, if_false]
  rw [this]; push_cast; rfl
theorem obPoint_runs (N : Nat) (s t : ByteArray) (c : List (List D)) (p : Int × Int) (hl : c.length ≤ 9223372036854775807) : ∀ (m i n : Nat), i + m = c.length → m < n → pt s t (c.drop i) = some p → obPoint.L2 N n s t c (c.length : Int) (i : Int) = some (.ret (.tup [.d (.i .i64 p.1), .d (.i .i64 p.2)]), [])
  | m, i, 0, _, hn, _ => absurd hn (Nat.not_lt_zero _)
  | 0, i, n + 1, hi, hn, h => by
    rw [obPoint.L2_succ]
    rw [List.drop_eq_nil_of_le (by omega)] at h
    simp only [pt, Option.some.injEq] at h
    rw [show decide ((i : Int) < (c.length : Int)) = false from by simp; omega]
    rw [← h]
    exact obPoint.J7_eq N
  | m + 1, i, n + 1, hi, hn, h => by
    rw [obPoint.L2_succ]
    have hlt : i < c.length := by omega
    rw [show decide ((i : Int) < (c.length : Int)) = true from by simp; omega]
    have hg : c[i]? = some c[i] := List.getElem?_eq_getElem hlt
    rw [drop_cons hg] at h
    rw [cond_true, getK_nat, hg]
    generalize c[i] = r at h
    simp only [pt] at h ⊢
    have ih := obPoint_runs N s t c p hl m (i + 1) n (by omega) (by omega)
    match r, h with
    | [.s a, .s b, .i .i64 k], h =>
      simp only [tcS, tcI, tcE, if_true] at h ⊢
      have hj : pt s t (c.drop (i + 1)) = some p → obPoint.J6 N n s t c (c.length : Int) (i : Int) = some (.ret (.tup [.d (.i .i64 p.1), .d (.i .i64 p.2)]), []) := fun h => by
        rw [obPoint.J6_eq, wrap_nat (by omega)]; exact ih h
      cases ha : (a.toList == s.toList) <;> cases hb : (b.toList == t.toList) <;> simp only [ha, hb, Bool.true_and, Bool.false_and, cond_true, cond_false, Bool.and_self, Bool.and_false, Bool.and_true] at h ⊢
      · exact hj h
      · exact hj h
      · exact hj h
      · simp only [Option.some.injEq] at h; rw [← h]
theorem refPoint_runs (N : Nat) (s t : ByteArray) (a b c : List (List D)) (p : Int × Int) (hl : c.length ≤ 9223372036854775807) : ∀ (m i n : Nat), i + m = c.length → m < n → pt s t (c.drop i) = some p → refPoint.L2 N n s t (i : Int) a b c = some (.ret (.tup [.d (.i .i64 p.1), .d (.i .i64 p.2)]), [])
  | m, i, 0, _, hn, _ => absurd hn (Nat.not_lt_zero _)
  | 0, i, n + 1, hi, hn, h => by
    rw [refPoint.L2_succ]
    rw [List.drop_eq_nil_of_le (by omega)] at h
    simp only [pt, Option.some.injEq] at h
    rw [show decide ((i : Int) < (c.length : Int)) = false from by simp; omega]
    rw [← h]
    exact refPoint.J6_eq N
  | m + 1, i, n + 1, hi, hn, h => by
    rw [refPoint.L2_succ]
    have hlt : i < c.length := by omega
    rw [show decide ((i : Int) < (c.length : Int)) = true from by simp; omega]
    have hg : c[i]? = some c[i] := List.getElem?_eq_getElem hlt
    rw [drop_cons hg] at h
    simp only [cond_true, getK_nat, hg]
    generalize c[i] = r at h
    simp only [pt] at h ⊢
    have ih := refPoint_runs N s t a b c p hl m (i + 1) n (by omega) (by omega)
    match r, h with
    | [.s x, .s y, .i .i64 k], h =>
      simp only [tcS, tcI, tcE, if_true] at h ⊢
      have hj : pt s t (c.drop (i + 1)) = some p → refPoint.J3 N n s t (i : Int) a b c = some (.ret (.tup [.d (.i .i64 p.1), .d (.i .i64 p.2)]), []) := fun h => by
        rw [refPoint.J3_eq, wrap_nat (by omega)]; exact ih h
      cases ha : (x.toList == s.toList) <;> cases hb : (y.toList == t.toList) <;> simp only [ha, hb, Bool.true_and, Bool.false_and, cond_true, cond_false, Bool.and_self, Bool.and_false, Bool.and_true] at h ⊢
      · exact hj h
      · exact hj h
      · exact hj h
      · simp only [Option.some.injEq] at h; rw [← h]
/-- An environment without calls. -/
theorem env0_ok {E : Env} (hc : E.call = fun _ _ _ _ => none) (hx : E.ext = fun _ _ => none) (hm : E.cmb = comb) (hP : E.P = Tryz.prog) : EnvOK E := ⟨fun f args bs k r h => by (rw [hc] at h; cases h), fun f args v h => by (rw [hx] at h; cases h), by (rw [hP]; exact Checked.mixed Tryz.checked), fun a b r h => by (rw [hm] at h; exact comb_both h)⟩
theorem ptSpec_obPoint : SpecOK Tryz.prog 10 ptSpec := fun args bs k r h => by
  unfold ptSpec at h
  split at h
  case h_2 => cases h
  rename_i a b c s t
  obtain ⟨p, hp, hk⟩ := Option.bind_eq_some_iff.1 h
  obtain ⟨hl, hp⟩ := ptC_len hp
  refine ⟨_, _, hk, evFn_sound (E := obPoint.E) (env0_ok rfl rfl rfl rfl) (fn := Tryz.f10) rfl (S22_ok.enters 10 Tryz.f10 rfl rfl) (c.length + 1) true ?_⟩
  rw [obPoint.fn, obPoint.eq]
  exact obPoint_runs _ s t c p hl c.length 0 (c.length + 1) (by omega) (by omega) (by simpa using hp)
theorem ptSpec_refPoint : SpecOK Tryz.prog 11 ptSpec := fun args bs k r h => by
  unfold ptSpec at h
  split at h
  case h_2 => cases h
  rename_i a b c s t
  obtain ⟨p, hp, hk⟩ := Option.bind_eq_some_iff.1 h
  obtain ⟨hl, hp⟩ := ptC_len hp
  refine ⟨_, _, hk, evFn_sound (E := refPoint.E) (env0_ok rfl rfl rfl rfl) (fn := Tryz.f11) rfl (S22_ok.enters 11 Tryz.f11 rfl rfl) (c.length + 1) true ?_⟩
  rw [refPoint.fn, refPoint.eq]
  exact refPoint_runs _ s t a b c p hl c.length 0 (c.length + 1) (by omega) (by omega) (by simpa using hp)
theorem awakeSpec_ok : SpecOK Tryz.prog 9 awakeSpec := fun args bs k r h => by
  unfold awakeSpec at h
  split at h
  case h_2 => cases h
  exact ⟨_, _, h, Aww9⟩
end Go.Tw
