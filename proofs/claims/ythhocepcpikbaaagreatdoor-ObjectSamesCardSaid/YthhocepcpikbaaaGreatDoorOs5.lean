/- The comparers: what each answers. -/
import Derived.Test.YthhocepcpikbaaaGreatDoorOs4
import Derived.Test.YthhocepcpikbaaaGreatDoorOb2
import Derived.KernelRfl
set_option linter.unusedVariables false
set_option linter.unusedSimpArgs false
set_option maxRecDepth 100000
namespace Go.Tw
open Go.Proofs
theorem bifn_some {α : Type} {c : Bool} {x : Option α} {r : α} (h : (bif c then x else none) = some r) : c = true ∧ x = some r := by
  cases c with
  | true => exact ⟨rfl, h⟩
  | false => cases h
theorem bif_false (c : Bool) : (bif c then (some (.ret (.d (.b c)), []) : Res) else some (.ret (.d (.b false)), [])) = some (.ret (.d (.b c)), []) := by cases c <;> rfl
theorem bif_andT (c d : Bool) : (bif c then (some (.ret (.d (.b d)), []) : Res) else some (.ret (.d (.b false)), [])) = some (.ret (.d (.b (c && d))), []) := by cases c <;> rfl
theorem env20 : EnvOK g20.E where
  call f := by
    show SpecOK Tryz.prog f (g20.E.call f)
    unfold g20.E
    dsimp only
    split
    · exact g39_ok
    · exact SpecOK.none _ _
  ext f args v h := by cases h
  mixed := Checked.mixed Tryz.checked
  cmb a b r h := comb_both h
theorem g20_ok : SpecOK Tryz.prog 20 ndSpec := fun args bs k r hr => by
  unfold ndSpec at hr
  split at hr
  case h_2 => cases hr
  rename_i a0 a1 a2 a3 b0 b1 b2 b3
  obtain ⟨hc, hr⟩ := bifn_some hr
  refine ⟨_, _, hr, evFn_sound (E := g20.E) (env20) (fn := Tryz.f20) rfl (S22_ok.enters 20 Tryz.f20 rfl rfl) 0 true ?_⟩
  simp only [Bool.and_eq_true] at hc
  rw [g20.fn, g20.eq]
  simp only [hc.1, hc.2, Bool.and_self, cond_true, eqDL, eqD_i, eqD_b, eqD_s, eqD_sl, Bool.and_true, bif_not, bif_ne_int, bytes_beq2, bif_andT]
  cases (a0.toList == b0.toList) <;> cases (a1.toList == b1.toList) <;> cases eqDLL a2 b2 <;> cases (a3 == b3) <;> rfl
theorem env35 : EnvOK g35.E where
  call f := by
    show SpecOK Tryz.prog f (g35.E.call f)
    unfold g35.E
    dsimp only
    split
    · exact g59_ok
    · exact SpecOK.none _ _
  ext f args v h := by cases h
  mixed := Checked.mixed Tryz.checked
  cmb a b r h := comb_both h
theorem g35_ok : SpecOK Tryz.prog 35 ndSpec := fun args bs k r hr => by
  unfold ndSpec at hr
  split at hr
  case h_2 => cases hr
  rename_i a0 a1 a2 a3 b0 b1 b2 b3
  obtain ⟨hc, hr⟩ := bifn_some hr
  refine ⟨_, _, hr, evFn_sound (E := g35.E) (env35) (fn := Tryz.f35) rfl (S22_ok.enters 35 Tryz.f35 rfl rfl) 0 true ?_⟩
  simp only [Bool.and_eq_true] at hc
  rw [g35.fn, g35.eq]
  simp only [hc.1, hc.2, Bool.and_self, cond_true, eqDL, eqD_i, eqD_b, eqD_s, eqD_sl, Bool.and_true, bif_not, bif_ne_int, bytes_beq2, bif_andT]
  cases (a0.toList == b0.toList) <;> cases (a1.toList == b1.toList) <;> cases eqDLL a2 b2 <;> cases (a3 == b3) <;> rfl
theorem env32 : EnvOK g32.E where
  call f := by
    show SpecOK Tryz.prog f (g32.E.call f)
    unfold g32.E
    dsimp only
    split
    · exact g39_ok
    · exact g58_ok
    · exact SpecOK.none _ _
  ext f args v h := by cases h
  mixed := Checked.mixed Tryz.checked
  cmb a b r h := comb_both h
theorem g32_ok : SpecOK Tryz.prog 32 prSpec := fun args bs k r hr => by
  unfold prSpec at hr
  split at hr
  case h_2 => cases hr
  rename_i a0 a1 a2 a3 a4 a5 b0 b1 b2 b3 b4 b5
  obtain ⟨hc, hr⟩ := bifn_some hr
  refine ⟨_, _, hr, evFn_sound (E := g32.E) (env32) (fn := Tryz.f32) rfl (S22_ok.enters 32 Tryz.f32 rfl rfl) 0 true ?_⟩
  simp only [Bool.and_eq_true] at hc
  rw [g32.fn, g32.eq]
  obtain ⟨⟨c1, c2⟩, c3, c4⟩ := hc
  simp only [c1, c2, c3, c4, Bool.and_self, cond_true, eqDL, eqD_i, eqD_b, eqD_s, eqD_sl, Bool.and_true, bif_not, bif_ne_int, bytes_beq2, bif_andT]
  cases (a0.toList == b0.toList) <;> cases (a1 == b1) <;> cases eqDLL a2 b2 <;> cases (a3 == b3) <;> cases (a4 == b4) <;> cases eqDLL a5 b5 <;> rfl
theorem env30 : EnvOK g30.E where
  call f := by
    show SpecOK Tryz.prog f (g30.E.call f)
    unfold g30.E
    dsimp only
    split
    · exact g20_ok
    · exact SpecOK.none _ _
  ext f args v h := by cases h
  mixed := Checked.mixed Tryz.checked
  cmb a b r h := comb_both h
theorem g30_ok : SpecOK Tryz.prog 30 (slfSpec 20 tyNd) := slfSpec_ok (E := g30.E) (env30) rfl (fn := Tryz.f30) rfl rfl fun a b ha hb => ⟨a.length + 1, by
  rw [g30.fn, g30.eq]
  refine (loopEq0 (L := fun n i => g30.L4 (a.length + 1) n b a (a.length : Int) i) (J := some (.ret (.d (.b true)), [])) (okRs_len ha) (a.length + 1) (Nat.lt_succ_self _) (fun _ n => ?_) (fun _ n i r s hr hs => ?_)).trans (bif_bool _)
  · show g30.L4 _ (n + 1) b a _ _ = _
    rw [g30.L4_succ, ltF]
    exact g30.J10_eq _
  · obtain ⟨x0, x1, x2, x3, rfl, p2⟩ := inv_tyNd (okRs_get ha hr)
    obtain ⟨y0, y1, y2, y3, rfl, q2⟩ := inv_tyNd (okRs_get hb hs)
    show g30.L4 _ (n + 1) b a _ _ = bif _ then g30.L4 _ n b a _ _ else _
    rw [g30.L4_succ, ltT (List.getElem?_eq_some_iff.1 hr).1, cond_true, getKn hr]
    simp only [tcI, tcB, tcS, tcL, tcE, if_true]
    rw [getKn hs]
    simp only [tcI, tcB, tcS, tcL, tcE, if_true, p2, q2, Bool.and_self, cond_true, eqDL, eqD_i, eqD_b, eqD_s, eqD_sl, Bool.and_true, bif_not, bif_ne_int, bytes_beq2]⟩
theorem env31 : EnvOK g31.E where
  call f := by
    show SpecOK Tryz.prog f (g31.E.call f)
    unfold g31.E
    dsimp only
    split
    · exact g32_ok
    · exact SpecOK.none _ _
  ext f args v h := by cases h
  mixed := Checked.mixed Tryz.checked
  cmb a b r h := comb_both h
theorem g31_ok : SpecOK Tryz.prog 31 (slfSpec 32 tyPr) := slfSpec_ok (E := g31.E) (env31) rfl (fn := Tryz.f31) rfl rfl fun a b ha hb => ⟨a.length + 1, by
  rw [g31.fn, g31.eq]
  refine (loopEq0 (L := fun n i => g31.L4 (a.length + 1) n b a (a.length : Int) i) (J := some (.ret (.d (.b true)), [])) (okRs_len ha) (a.length + 1) (Nat.lt_succ_self _) (fun _ n => ?_) (fun _ n i r s hr hs => ?_)).trans (bif_bool _)
  · show g31.L4 _ (n + 1) b a _ _ = _
    rw [g31.L4_succ, ltF]
    exact g31.J10_eq _
  · obtain ⟨x0, x1, x2, x3, x4, x5, rfl, p2, p5⟩ := inv_tyPr (okRs_get ha hr)
    obtain ⟨y0, y1, y2, y3, y4, y5, rfl, q2, q5⟩ := inv_tyPr (okRs_get hb hs)
    show g31.L4 _ (n + 1) b a _ _ = bif _ then g31.L4 _ n b a _ _ else _
    rw [g31.L4_succ, ltT (List.getElem?_eq_some_iff.1 hr).1, cond_true, getKn hr]
    simp only [tcI, tcB, tcS, tcL, tcE, if_true]
    rw [getKn hs]
    simp only [tcI, tcB, tcS, tcL, tcE, if_true, p2, q2, p5, q5, Bool.and_self, cond_true, eqDL, eqD_i, eqD_b, eqD_s, eqD_sl, Bool.and_true, bif_not, bif_ne_int, bytes_beq2]⟩
end Go.Tw
