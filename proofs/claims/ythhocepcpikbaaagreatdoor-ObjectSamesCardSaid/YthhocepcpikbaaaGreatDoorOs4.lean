/- The comparers: what each answers. -/
import Derived.Test.YthhocepcpikbaaaGreatDoorOs1
import Derived.Test.YthhocepcpikbaaaGreatDoorOs2
import Derived.Test.YthhocepcpikbaaaGreatDoorOs3
import Derived.Test.YthhocepcpikbaaaGreatDoorOb2
import Derived.KernelRfl
set_option linter.unusedVariables false
set_option linter.unusedSimpArgs false
set_option maxRecDepth 100000
namespace Go.Tw
open Go.Proofs
theorem okR_cons {t : Ty} {ts : List Ty} {r : List D} (h : okR (t :: ts) r = true) : ∃ x xs, r = x :: xs ∧ okD t x = true ∧ okR ts xs = true := by
  cases r with
  | nil => simp [okR] at h
  | cons x xs => simp only [okR, Bool.and_eq_true] at h; exact ⟨x, xs, rfl, h.1, h.2⟩
theorem okR_nil {r : List D} (h : okR [] r = true) : r = [] := by
  cases r with
  | nil => rfl
  | cons x xs => simp [okR] at h
theorem okD_ib {x : D} (h : okD .b x = true) : ∃ a, x = .b a := by cases x <;> simp [okD] at h ⊢
theorem okD_is {x : D} (h : okD .s x = true) : ∃ a, x = .s a := by cases x <;> simp [okD] at h ⊢
theorem okD_ii {k : IntKind} {x : D} (h : okD (.i k) x = true) : ∃ a, x = .i k a := by cases x <;> simp [okD] at h ⊢; exact h.symm
theorem okD_isl {l : List Ty} {x : D} (h : okD (.sl l) x = true) : ∃ a, x = .sl a ∧ okRs l a = true := by
  cases x with
  | sl a => exact ⟨a, rfl, by rw [okD_sl] at h; exact h⟩
  | b | i | s => simp [okD] at h
theorem inv_tyVal {r : List D} (h : okR tyVal r = true) : ∃ (a0 : Int) (a1 : Int) (a2 : Bool) (a3 : ByteArray), r = [.i .i64 a0, .i .i64 a1, .b a2, .s a3] := by
  obtain ⟨x0, _, rfl, h0, h⟩ := okR_cons h
  obtain ⟨x1, _, rfl, h1, h⟩ := okR_cons h
  obtain ⟨x2, _, rfl, h2, h⟩ := okR_cons h
  obtain ⟨x3, _, rfl, h3, h⟩ := okR_cons h
  obtain rfl := okR_nil h
  obtain ⟨a0, rfl⟩ := okD_ii h0
  obtain ⟨a1, rfl⟩ := okD_ii h1
  obtain ⟨a2, rfl⟩ := okD_ib h2
  obtain ⟨a3, rfl⟩ := okD_is h3
  exact ⟨a0, a1, a2, a3, rfl⟩
theorem inv_tyPt {r : List D} (h : okR tyPt r = true) : ∃ (a0 : ByteArray) (a1 : ByteArray) (a2 : Int), r = [.s a0, .s a1, .i .i64 a2] := by
  obtain ⟨x0, _, rfl, h0, h⟩ := okR_cons h
  obtain ⟨x1, _, rfl, h1, h⟩ := okR_cons h
  obtain ⟨x2, _, rfl, h2, h⟩ := okR_cons h
  obtain rfl := okR_nil h
  obtain ⟨a0, rfl⟩ := okD_is h0
  obtain ⟨a1, rfl⟩ := okD_is h1
  obtain ⟨a2, rfl⟩ := okD_ii h2
  exact ⟨a0, a1, a2, rfl⟩
theorem inv_tyTy {r : List D} (h : okR tyTy r = true) : ∃ (a0 : Int), r = [.i .i64 a0] := by
  obtain ⟨x0, _, rfl, h0, h⟩ := okR_cons h
  obtain rfl := okR_nil h
  obtain ⟨a0, rfl⟩ := okD_ii h0
  exact ⟨a0, rfl⟩
theorem inv_tyIn {r : List D} (h : okR tyIn r = true) : ∃ (a0 : Int) (a1 : Int), r = [.i .i64 a0, .i .i64 a1] := by
  obtain ⟨x0, _, rfl, h0, h⟩ := okR_cons h
  obtain ⟨x1, _, rfl, h1, h⟩ := okR_cons h
  obtain rfl := okR_nil h
  obtain ⟨a0, rfl⟩ := okD_ii h0
  obtain ⟨a1, rfl⟩ := okD_ii h1
  exact ⟨a0, a1, rfl⟩
theorem inv_tyNd {r : List D} (h : okR tyNd r = true) : ∃ (a0 : ByteArray) (a1 : ByteArray) (a2 : List (List D)) (a3 : Int), r = [.s a0, .s a1, .sl a2, .i .i64 a3] ∧ okRs tyTy a2 = true := by
  obtain ⟨x0, _, rfl, h0, h⟩ := okR_cons h
  obtain ⟨x1, _, rfl, h1, h⟩ := okR_cons h
  obtain ⟨x2, _, rfl, h2, h⟩ := okR_cons h
  obtain ⟨x3, _, rfl, h3, h⟩ := okR_cons h
  obtain rfl := okR_nil h
  obtain ⟨a0, rfl⟩ := okD_is h0
  obtain ⟨a1, rfl⟩ := okD_is h1
  obtain ⟨a2, rfl, g2⟩ := okD_isl h2
  obtain ⟨a3, rfl⟩ := okD_ii h3
  exact ⟨a0, a1, a2, a3, rfl, g2⟩
theorem inv_tyPr {r : List D} (h : okR tyPr r = true) : ∃ (a0 : ByteArray) (a1 : Bool) (a2 : List (List D)) (a3 : Int) (a4 : Int) (a5 : List (List D)), r = [.s a0, .b a1, .sl a2, .i .i64 a3, .i .i64 a4, .sl a5] ∧ okRs tyTy a2 = true ∧ okRs tyIn a5 = true := by
  obtain ⟨x0, _, rfl, h0, h⟩ := okR_cons h
  obtain ⟨x1, _, rfl, h1, h⟩ := okR_cons h
  obtain ⟨x2, _, rfl, h2, h⟩ := okR_cons h
  obtain ⟨x3, _, rfl, h3, h⟩ := okR_cons h
  obtain ⟨x4, _, rfl, h4, h⟩ := okR_cons h
  obtain ⟨x5, _, rfl, h5, h⟩ := okR_cons h
  obtain rfl := okR_nil h
  obtain ⟨a0, rfl⟩ := okD_is h0
  obtain ⟨a1, rfl⟩ := okD_ib h1
  obtain ⟨a2, rfl, g2⟩ := okD_isl h2
  obtain ⟨a3, rfl⟩ := okD_ii h3
  obtain ⟨a4, rfl⟩ := okD_ii h4
  obtain ⟨a5, rfl, g5⟩ := okD_isl h5
  exact ⟨a0, a1, a2, a3, a4, a5, rfl, g2, g5⟩
theorem slSpec_ok {f : FuncId} {fn : Func} {ty : List Ty} {E : Env} (hE : EnvOK E) (hP : E.P = Tryz.prog) (hf : Tryz.prog.funcs[f]? = some fn) (hb : fn.body.isSome = true) (h : ∀ a b, okRs ty a = true → okRs ty b = true → ∃ N, evFn E N true fn [.d (.sl a), .d (.sl b)] [] = some (.ret (.d (.b (eqDLL a b))), [])) : SpecOK Tryz.prog f (slSpec ty) := fun args bs k r hr => by
  unfold slSpec at hr
  split at hr
  case h_2 => cases hr
  rename_i a b
  cases hc : (okRs ty a && okRs ty b) with
  | false => rw [hc] at hr; cases hr
  | true =>
    rw [hc] at hr
    simp only [Bool.and_eq_true] at hc
    obtain ⟨N, hN⟩ := h a b hc.1 hc.2
    exact ⟨_, _, hr, by rw [← hP]; exact evFn_sound hE (by rw [hP]; exact hf) (by rw [hP]; exact S22_ok.enters f fn hf hb) N true hN⟩
theorem slfSpec_ok {f g : FuncId} {fn : Func} {ty : List Ty} {E : Env} (hE : EnvOK E) (hP : E.P = Tryz.prog) (hf : Tryz.prog.funcs[f]? = some fn) (hb : fn.body.isSome = true) (h : ∀ a b, okRs ty a = true → okRs ty b = true → ∃ N, evFn E N true fn [.d (.sl a), .d (.sl b), .fn g []] [] = some (.ret (.d (.b (eqDLL a b))), [])) : SpecOK Tryz.prog f (slfSpec g ty) := fun args bs k r hr => by
  unfold slfSpec at hr
  split at hr
  case h_2 => cases hr
  rename_i a b g'
  cases hg : Nat.beq g' g with
  | false => rw [hg] at hr; cases hr
  | true =>
  obtain rfl := Nat.eq_of_beq_eq_true hg
  rw [hg] at hr
  simp only [cond_true] at hr
  cases hc : (okRs ty a && okRs ty b) with
  | false => rw [hc] at hr; cases hr
  | true =>
    rw [hc] at hr
    simp only [Bool.and_eq_true] at hc
    obtain ⟨N, hN⟩ := h a b hc.1 hc.2
    exact ⟨_, _, hr, by rw [← hP]; exact evFn_sound hE (by rw [hP]; exact hf) (by rw [hP]; exact S22_ok.enters f fn hf hb) N true hN⟩
theorem le_max_list (f : List D → Nat) : ∀ (a : List (List D)), ∃ N, ∀ x, x ∈ a → f x < N
  | [] => ⟨0, fun x hx => by cases hx⟩
  | y :: ys => by
    obtain ⟨N, hN⟩ := le_max_list f ys
    refine ⟨N + f y + 1, fun x hx => ?_⟩
    rcases List.mem_cons.1 hx with rfl | hx
    · omega
    · have := hN x hx; omega
theorem g39_ok : SpecOK Tryz.prog 39 (slSpec tyTy) := slSpec_ok (E := g39.E) (env0_ok rfl rfl rfl rfl) rfl (fn := Tryz.f39) rfl rfl fun a b ha hb => ⟨a.length + 1, by
  rw [g39.fn, g39.eq]
  refine (loopEq0 (L := fun n i => g39.L4 (a.length + 1) n a b (a.length : Int) i) (J := some (.ret (.d (.b true)), [])) (okRs_len ha) (a.length + 1) (Nat.lt_succ_self _) (fun _ n => ?_) (fun _ n i r s hr hs => ?_)).trans (bif_bool _)
  · show g39.L4 _ (n + 1) a b _ _ = _
    rw [g39.L4_succ, ltF]
    exact g39.J9_eq _
  · obtain ⟨x0, rfl⟩ := inv_tyTy (okRs_get ha hr)
    obtain ⟨y0, rfl⟩ := inv_tyTy (okRs_get hb hs)
    show g39.L4 _ (n + 1) a b _ _ = bif _ then g39.L4 _ n a b _ _ else _
    rw [g39.L4_succ, ltT (List.getElem?_eq_some_iff.1 hr).1, cond_true, getKn hr]
    simp only [tcI, tcB, tcS, tcL, tcE, if_true]
    rw [getKn hs]
    simp only [tcI, tcB, tcS, tcL, tcE, if_true, Bool.and_self, cond_true, eqDL, eqD_i, eqD_b, eqD_s, eqD_sl, Bool.and_true, bif_not, bif_ne_int, bytes_beq2]⟩
theorem g59_ok : SpecOK Tryz.prog 59 (slSpec tyTy) := slSpec_ok (E := g59.E) (env0_ok rfl rfl rfl rfl) rfl (fn := Tryz.f59) rfl rfl fun a b ha hb => ⟨a.length + 1, by
  rw [g59.fn, g59.eq]
  refine (loopEq0 (L := fun n i => g59.L4 (a.length + 1) n a b i) (J := some (.ret (.d (.b true)), [])) (okRs_len ha) (a.length + 1) (Nat.lt_succ_self _) (fun _ n => ?_) (fun _ n i r s hr hs => ?_)).trans (bif_bool _)
  · show g59.L4 _ (n + 1) a b _ = _
    rw [g59.L4_succ, ltF]
    exact g59.J8_eq _
  · obtain ⟨x0, rfl⟩ := inv_tyTy (okRs_get ha hr)
    obtain ⟨y0, rfl⟩ := inv_tyTy (okRs_get hb hs)
    show g59.L4 _ (n + 1) a b _ = bif _ then g59.L4 _ n a b _ else _
    rw [g59.L4_succ, ltT (List.getElem?_eq_some_iff.1 hr).1, cond_true, getKn hr]
    simp only [tcI, tcB, tcS, tcL, tcE, if_true]
    rw [getKn hs]
    simp only [tcI, tcB, tcS, tcL, tcE, if_true, Bool.and_self, cond_true, eqDL, eqD_i, eqD_b, eqD_s, eqD_sl, Bool.and_true, bif_not, bif_ne_int, bytes_beq2]⟩
theorem g58_ok : SpecOK Tryz.prog 58 (slSpec tyIn) := slSpec_ok (E := g58.E) (env0_ok rfl rfl rfl rfl) rfl (fn := Tryz.f58) rfl rfl fun a b ha hb => ⟨a.length + 1, by
  rw [g58.fn, g58.eq]
  refine (loopEq0 (L := fun n i => g58.L4 (a.length + 1) n a b (a.length : Int) i) (J := some (.ret (.d (.b true)), [])) (okRs_len ha) (a.length + 1) (Nat.lt_succ_self _) (fun _ n => ?_) (fun _ n i r s hr hs => ?_)).trans (bif_bool _)
  · show g58.L4 _ (n + 1) a b _ _ = _
    rw [g58.L4_succ, ltF]
    exact g58.J9_eq _
  · obtain ⟨x0, x1, rfl⟩ := inv_tyIn (okRs_get ha hr)
    obtain ⟨y0, y1, rfl⟩ := inv_tyIn (okRs_get hb hs)
    show g58.L4 _ (n + 1) a b _ _ = bif _ then g58.L4 _ n a b _ _ else _
    rw [g58.L4_succ, ltT (List.getElem?_eq_some_iff.1 hr).1, cond_true, getKn hr]
    simp only [tcI, tcB, tcS, tcL, tcE, if_true]
    rw [getKn hs]
    simp only [tcI, tcB, tcS, tcL, tcE, if_true, Bool.and_self, cond_true, eqDL, eqD_i, eqD_b, eqD_s, eqD_sl, Bool.and_true, bif_not, bif_ne_int, bytes_beq2]⟩
theorem g29_ok : SpecOK Tryz.prog 29 (slSpec tyVal) := slSpec_ok (E := g29.E) (env0_ok rfl rfl rfl rfl) rfl (fn := Tryz.f29) rfl rfl fun a b ha hb => ⟨a.length + 1, by
  rw [g29.fn, g29.eq]
  refine (loopEq0 (L := fun n i => g29.L4 (a.length + 1) n a b (a.length : Int) i) (J := some (.ret (.d (.b true)), [])) (okRs_len ha) (a.length + 1) (Nat.lt_succ_self _) (fun _ n => ?_) (fun _ n i r s hr hs => ?_)).trans (bif_bool _)
  · show g29.L4 _ (n + 1) a b _ _ = _
    rw [g29.L4_succ, ltF]
    exact g29.J9_eq _
  · obtain ⟨x0, x1, x2, x3, rfl⟩ := inv_tyVal (okRs_get ha hr)
    obtain ⟨y0, y1, y2, y3, rfl⟩ := inv_tyVal (okRs_get hb hs)
    show g29.L4 _ (n + 1) a b _ _ = bif _ then g29.L4 _ n a b _ _ else _
    rw [g29.L4_succ, ltT (List.getElem?_eq_some_iff.1 hr).1, cond_true, getKn hr]
    simp only [tcI, tcB, tcS, tcL, tcE, if_true]
    rw [getKn hs]
    simp only [tcI, tcB, tcS, tcL, tcE, if_true, Bool.and_self, cond_true, eqDL, eqD_i, eqD_b, eqD_s, eqD_sl, Bool.and_true, bif_not, bif_ne_int, bytes_beq2]⟩
theorem g33_ok : SpecOK Tryz.prog 33 (slSpec tyVal) := slSpec_ok (E := g33.E) (env0_ok rfl rfl rfl rfl) rfl (fn := Tryz.f33) rfl rfl fun a b ha hb => ⟨a.length + 1, by
  rw [g33.fn, g33.eq]
  refine (loopEq0 (L := fun n i => g33.L4 (a.length + 1) n a b i) (J := some (.ret (.d (.b true)), [])) (okRs_len ha) (a.length + 1) (Nat.lt_succ_self _) (fun _ n => ?_) (fun _ n i r s hr hs => ?_)).trans (bif_bool _)
  · show g33.L4 _ (n + 1) a b _ = _
    rw [g33.L4_succ, ltF]
    exact g33.J8_eq _
  · obtain ⟨x0, x1, x2, x3, rfl⟩ := inv_tyVal (okRs_get ha hr)
    obtain ⟨y0, y1, y2, y3, rfl⟩ := inv_tyVal (okRs_get hb hs)
    show g33.L4 _ (n + 1) a b _ = bif _ then g33.L4 _ n a b _ else _
    rw [g33.L4_succ, ltT (List.getElem?_eq_some_iff.1 hr).1, cond_true, getKn hr]
    simp only [tcI, tcB, tcS, tcL, tcE, if_true]
    rw [getKn hs]
    simp only [tcI, tcB, tcS, tcL, tcE, if_true, Bool.and_self, cond_true, eqDL, eqD_i, eqD_b, eqD_s, eqD_sl, Bool.and_true, bif_not, bif_ne_int, bytes_beq2]⟩
theorem g36_ok : SpecOK Tryz.prog 36 (slSpec tyPt) := slSpec_ok (E := g36.E) (env0_ok rfl rfl rfl rfl) rfl (fn := Tryz.f36) rfl rfl fun a b ha hb => ⟨a.length + 1, by
  rw [g36.fn, g36.eq]
  refine (loopEq0 (L := fun n i => g36.L4 (a.length + 1) n a b (a.length : Int) i) (J := some (.ret (.d (.b true)), [])) (okRs_len ha) (a.length + 1) (Nat.lt_succ_self _) (fun _ n => ?_) (fun _ n i r s hr hs => ?_)).trans (bif_bool _)
  · show g36.L4 _ (n + 1) a b _ _ = _
    rw [g36.L4_succ, ltF]
    exact g36.J9_eq _
  · obtain ⟨x0, x1, x2, rfl⟩ := inv_tyPt (okRs_get ha hr)
    obtain ⟨y0, y1, y2, rfl⟩ := inv_tyPt (okRs_get hb hs)
    show g36.L4 _ (n + 1) a b _ _ = bif _ then g36.L4 _ n a b _ _ else _
    rw [g36.L4_succ, ltT (List.getElem?_eq_some_iff.1 hr).1, cond_true, getKn hr]
    simp only [tcI, tcB, tcS, tcL, tcE, if_true]
    rw [getKn hs]
    simp only [tcI, tcB, tcS, tcL, tcE, if_true, Bool.and_self, cond_true, eqDL, eqD_i, eqD_b, eqD_s, eqD_sl, Bool.and_true, bif_not, bif_ne_int, bytes_beq2]⟩
end Go.Tw
