/- Rows of data of a given shape; two data are the same. -/
import Derived.Test.YthhocepcpikbaaaGreatDoorEv6
import Derived.Test.YthhocepcpikbaaaGreatDoorProg
set_option linter.unusedVariables false
namespace Go.Tw
inductive Ty where
  | b
  | i (k : IntKind)
  | s
  | sl (l : List Ty)
mutual
def okD : Ty → D → Bool
  | .b, .b _ => true
  | .i k, .i k' _ => decide (k = k')
  | .s, .s _ => true
  | .sl l, .sl xs => Nat.ble xs.length 9223372036854775807 && okAll l xs
  | _, _ => false
def okR : List Ty → List D → Bool
  | [], [] => true
  | t :: ts, x :: xs => okD t x && okR ts xs
  | _, _ => false
def okAll : List Ty → List (List D) → Bool
  | _, [] => true
  | l, x :: xs => okR l x && okAll l xs
end
def okRs (l : List Ty) (xs : List (List D)) : Bool := Nat.ble xs.length 9223372036854775807 && okAll l xs
theorem okD_sl (l : List Ty) (xs : List (List D)) : okD (.sl l) (.sl xs) = okRs l xs := by simp [okD, okRs]
theorem okAll_get {l : List Ty} : ∀ {xs : List (List D)}, okAll l xs = true → ∀ {i : Nat} {x}, xs[i]? = some x → okR l x = true
  | [], _, i, x, hx => by simp at hx
  | y :: ys, h, i, x, hx => by
    simp only [okAll, Bool.and_eq_true] at h
    match i with
    | 0 => simp only [List.getElem?_cons_zero, Option.some.injEq] at hx; rw [← hx]; exact h.1
    | i + 1 => rw [List.getElem?_cons_succ] at hx; exact okAll_get h.2 hx
theorem okRs_len {l : List Ty} {xs : List (List D)} (h : okRs l xs = true) : xs.length ≤ 9223372036854775807 := by
  simp only [okRs, Bool.and_eq_true] at h
  exact Nat.le_of_ble_eq_true h.1
theorem okRs_get {l : List Ty} {xs : List (List D)} (h : okRs l xs = true) {i : Nat} {x : List D} (hx : xs[i]? = some x) : okR l x = true := by
  simp only [okRs, Bool.and_eq_true] at h
  exact okAll_get h.2 hx

mutual
theorem eqD_refl : ∀ x : D, eqD x x = true
  | .b x => by simp [eqD]
  | .i k n => by simp [eqD]
  | .s x => by simp [eqD]
  | .sl xs => by simp only [eqD]; exact eqDLL_refl xs
theorem eqDL_refl : ∀ x : List D, eqDL x x = true
  | [] => rfl
  | x :: xs => by simp only [eqDL, eqD_refl x, eqDL_refl xs, Bool.and_self]
theorem eqDLL_refl : ∀ x : List (List D), eqDLL x x = true
  | [] => rfl
  | x :: xs => by simp only [eqDLL, eqDL_refl x, eqDLL_refl xs, Bool.and_self]
end
theorem eqDLL_len : ∀ {a b : List (List D)}, a.length ≠ b.length → eqDLL a b = false
  | [], [], h => absurd rfl h
  | [], _ :: _, _ => rfl
  | _ :: _, [], _ => rfl
  | x :: a, y :: b, h => by
    have : eqDLL a b = false := eqDLL_len (fun e => h (by simp [e]))
    simp only [eqDLL, this, Bool.and_false]
theorem bytes_beq (a b : ByteArray) : (a.toList == b.toList) = (a.data.toList == b.data.toList) := by
  rw [Bool.eq_iff_iff]
  simp only [beq_iff_eq, ByteArray.toList_eq]
theorem bytes_beq' (a b : ByteArray) : (a == b) = (a.data.toList == b.data.toList) := by
  show (a.data == b.data) = _
  rw [Bool.eq_iff_iff]
  simp only [beq_iff_eq, Array.toList_inj]
theorem eqD_b (x y : Bool) : eqD (.b x) (.b y) = (x == y) := rfl
theorem eqD_i (k : IntKind) (x y : Int) : eqD (.i k x) (.i k y) = (x == y) := by
  rw [Bool.eq_iff_iff]; simp [eqD]
theorem eqD_s (x y : ByteArray) : eqD (.s x) (.s y) = (x.toList == y.toList) := by rw [bytes_beq]; rfl
theorem eqD_sl (x y : List (List D)) : eqD (.sl x) (.sl y) = eqDLL x y := rfl
theorem bytes_beq2 (a b : ByteArray) : (a == b) = (a.toList == b.toList) := by rw [bytes_beq, bytes_beq']
theorem bif_not {α : Type} (c : Bool) (x y : α) : (bif !c then x else y) = bif c then y else x := by cases c <;> rfl
theorem bif_ne_int {α : Type} (a b : Int) (x y : α) : (bif a != b then x else y) = bif a == b then y else x := by
  show (bif !(a == b) then x else y) = _
  exact bif_not _ _ _
theorem bif_and {α : Type} (a b : Bool) (x y : α) : (bif a && b then x else y) = bif a then (bif b then x else y) else y := by cases a <;> rfl
theorem bif_bool (c : Bool) : (bif c then (some (.ret (.d (.b true)), []) : Res) else some (.ret (.d (.b false)), [])) = some (.ret (.d (.b c)), []) := by cases c <;> rfl

theorem getKn {α β : Type} {xs : List α} {i : Nat} {x : α} (h : xs[i]? = some x) (f : α → Option β) : getK xs (i : Int) f = f x := by
  unfold getK
  rw [if_pos (Int.natCast_nonneg i), Int.toNat_natCast, h]
theorem dropc {α : Type} {xs : List α} {i : Nat} {x : α} (h : xs[i]? = some x) : xs.drop i = x :: xs.drop (i + 1) := by
  obtain ⟨hi, he⟩ := List.getElem?_eq_some_iff.1 h
  rw [List.drop_eq_getElem_cons hi, he]
theorem wrapn {i : Nat} (h : i < 9223372036854775807) : IntKind.wrap .i64 ((i : Int) + 1) = ((i + 1 : Nat) : Int) := by
  have : (IntKind.wrap .i64 ((i : Int) + 1)) = (i : Int) + 1 := by
    have h1 : ((i : Int) + 1) % 2 ^ IntKind.i64.bits = (i : Int) + 1 := Int.emod_eq_of_lt (by omega) (by show (i : Int) + 1 < 2 ^ 64; omega)
    have h2 : ¬ ((i : Int) + 1 ≥ 2 ^ (IntKind.i64.bits - 1)) := by show ¬ ((i : Int) + 1 ≥ 2 ^ 63); omega
    simp only [IntKind.wrap, h1, h2, decide_false, Bool.and_false, Bool.false_eq_true, if_false]
  rw [this]; push_cast; rfl
theorem ltT {i l : Nat} (h : i < l) : decide ((i : Int) < (l : Int)) = true := by simp; omega
theorem ltF (l : Nat) : decide ((l : Int) < (l : Int)) = false := by simp
/-- A loop that compares row by row. -/
theorem loopEq {L : Nat → Int → Res} {J F : Res} {a b : List (List D)} (hlen : a.length = b.length) (hM : a.length ≤ 9223372036854775807)
    (hend : ∀ n, L (n + 1) (a.length : Int) = J)
    (hstep : ∀ (n i : Nat) r s, a[i]? = some r → b[i]? = some s → L (n + 1) (i : Int) = bif eqDL r s then L n (IntKind.wrap .i64 ((i : Int) + 1)) else F) :
    ∀ (m i n : Nat), i + m = a.length → m < n → L n (i : Int) = bif eqDLL (a.drop i) (b.drop i) then J else F
  | m, i, 0, _, hn => absurd hn (Nat.not_lt_zero _)
  | 0, i, n + 1, hi, hn => by
    obtain rfl : i = a.length := by omega
    rw [hend, List.drop_eq_nil_of_le (Nat.le_refl _), List.drop_eq_nil_of_le (by omega)]
    rfl
  | m + 1, i, n + 1, hi, hn => by
    have ha : a[i]? = some a[i] := List.getElem?_eq_getElem (by omega)
    have hb : b[i]? = some b[i] := List.getElem?_eq_getElem (by omega)
    rw [hstep n i _ _ ha hb, dropc ha, dropc hb, wrapn (by omega), loopEq hlen hM hend hstep m (i + 1) n (by omega) (by omega)]
    simp only [eqDLL]
    cases eqDL a[i] b[i] <;> rfl
/-- The whole comparison: first the lengths, then row by row. -/
theorem loopEq0 {L : Nat → Int → Res} {J F : Res} {a b : List (List D)} (hM : a.length ≤ 9223372036854775807) (N : Nat) (hN : a.length < N)
    (hend : a.length = b.length → ∀ n, L (n + 1) (a.length : Int) = J)
    (hstep : a.length = b.length → ∀ (n i : Nat) r s, a[i]? = some r → b[i]? = some s → L (n + 1) (i : Int) = bif eqDL r s then L n (IntKind.wrap .i64 ((i : Int) + 1)) else F) :
    (bif (a.length : Int) != (b.length : Int) then F else L N 0) = bif eqDLL a b then J else F := by
  by_cases h : a.length = b.length
  · rw [bif_ne_int, h, beq_self_eq_true, cond_true]
    exact loopEq h hM (hend h) (hstep h) a.length 0 N (by omega) hN
  · rw [eqDLL_len h, bif_ne_int, show ((a.length : Int) == (b.length : Int)) = false from by simp; omega]
    rfl

def tyVal : List Ty := [.i .i64, .i .i64, .b, .s]
def tyPt : List Ty := [.s, .s, .i .i64]
def tyTy : List Ty := [.i .i64]
def tyIn : List Ty := [.i .i64, .i .i64]
def tyNd : List Ty := [.s, .s, .sl tyTy, .i .i64]
def tyPr : List Ty := [.s, .b, .sl tyTy, .i .i64, .i .i64, .sl tyIn]
def slSpec (ty : List Ty) : Spec := fun args bs k => match args, bs with
  | [.d (.sl a), .d (.sl b)], [] => bif okRs ty a && okRs ty b then k (.ret (.d (.b (eqDLL a b)))) [] else none
  | _, _ => none
def slfSpec (f : Nat) (ty : List Ty) : Spec := fun args bs k => match args, bs with
  | [.d (.sl a), .d (.sl b), .fn g []], [] => bif Nat.beq g f then (bif okRs ty a && okRs ty b then k (.ret (.d (.b (eqDLL a b)))) [] else none) else none
  | _, _ => none
def ndSpec : Spec := fun args bs k => match args, bs with
  | [.agg [.d (.s a0), .d (.s a1), .d (.sl a2), .d (.i .i64 a3)], .agg [.d (.s b0), .d (.s b1), .d (.sl b2), .d (.i .i64 b3)]], [] =>
    bif (okRs tyTy a2 && okRs tyTy b2) then k (.ret (.d (.b (eqDL [.s a0, .s a1, .sl a2, .i .i64 a3] [.s b0, .s b1, .sl b2, .i .i64 b3])))) [] else none
  | _, _ => none
def prSpec : Spec := fun args bs k => match args, bs with
  | [.agg [.d (.s a0), .d (.b a1), .d (.sl a2), .d (.i .i64 a3), .d (.i .i64 a4), .d (.sl a5)], .agg [.d (.s b0), .d (.b b1), .d (.sl b2), .d (.i .i64 b3), .d (.i .i64 b4), .d (.sl b5)]], [] =>
    bif (okRs tyTy a2 && okRs tyTy b2) && (okRs tyIn a5 && okRs tyIn b5) then k (.ret (.d (.b (eqDL [.s a0, .b a1, .sl a2, .i .i64 a3, .i .i64 a4, .sl a5] [.s b0, .b b1, .sl b2, .i .i64 b3, .i .i64 b4, .sl b5])))) [] else none
  | _, _ => none
def objSpec : Spec := fun args bs k => match args, bs with
  | [.agg [.d (.s a0), .d (.sl a1), .d (.sl a2), .d (.sl a3)], .agg [.d (.s b0), .d (.sl b1), .d (.sl b2), .d (.sl b3)]], [] =>
    bif (okRs tyVal a1 && okRs tyVal b1) && (okRs tyNd a2 && okRs tyNd b2) && (okRs tyPr a3 && okRs tyPr b3) then k (.ret (.d (.b (eqDL [.s a0, .sl a1, .sl a2, .sl a3] [.s b0, .sl b1, .sl b2, .sl b3])))) [] else none
  | _, _ => none
def prgSpec : Spec := fun args bs k => match args, bs with
  | [.agg [.d (.sl a0), .d (.sl a1), .d (.sl a2)], .agg [.d (.sl b0), .d (.sl b1), .d (.sl b2)]], [] =>
    bif (okRs tyVal a0 && okRs tyVal b0) && (okRs tyPr a1 && okRs tyPr b1) && (okRs tyPt a2 && okRs tyPt b2) then k (.ret (.d (.b (eqDL [.sl a0, .sl a1, .sl a2] [.sl b0, .sl b1, .sl b2])))) [] else none
  | _, _ => none
def awakeSp : Spec := fun args bs k => match args, bs with
  | [], [] => k (.ret (.d (.b true))) []
  | _, _ => none
end Go.Tw
