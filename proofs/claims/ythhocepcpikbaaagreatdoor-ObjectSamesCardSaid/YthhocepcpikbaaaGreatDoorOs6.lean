/- The comparers: what each answers. -/
import Derived.Test.YthhocepcpikbaaaGreatDoorOs5
import Derived.Test.YthhocepcpikbaaaGreatDoorOb2
import Derived.KernelRfl
set_option linter.unusedVariables false
set_option linter.unusedSimpArgs false
set_option maxRecDepth 100000
namespace Go.Tw
open Go.Proofs
theorem env34 : EnvOK g34.E where
  call f := by
    show SpecOK Tryz.prog f (g34.E.call f)
    unfold g34.E
    dsimp only
    split
    · exact g59_ok
    · exact SpecOK.none _ _
  ext f args v h := by cases h
  mixed := Checked.mixed Tryz.checked
  cmb a b r h := comb_both h
def codeLen : List D → Nat
  | [_, _, _, _, _, .sl c] => c.length
  | _ => 0
theorem g34_ok : SpecOK Tryz.prog 34 (slSpec tyPr) := slSpec_ok (E := g34.E) env34 rfl (fn := Tryz.f34) rfl rfl fun a b ha hb => by
  obtain ⟨M, hM⟩ := le_max_list codeLen a
  refine ⟨M + a.length + 1, ?_⟩
  rw [g34.fn, g34.eq]
  refine (loopEq0 (L := fun n i => g34.L4 (M + a.length + 1) n a b i) (J := some (.ret (.d (.b true)), [])) (okRs_len ha) (M + a.length + 1) (by omega) (fun _ n => ?_) (fun _ n i r s hr hs => ?_)).trans (bif_bool _)
  · rw [g34.L4_succ, ltF, cond_false]
    exact g34.J14_eq _
  · have hMr := hM r (List.mem_of_getElem? hr)
    obtain ⟨x0, x1, x2, x3, x4, x5, rfl, p2, p5⟩ := inv_tyPr (okRs_get ha hr)
    obtain ⟨y0, y1, y2, y3, y4, y5, rfl, q2, q5⟩ := inv_tyPr (okRs_get hb hs)
    have hl : x5.length < M := hMr
    generalize hN : M + a.length + 1 = N
    have hlN : x5.length < N := by omega
    clear hM hMr hl hN
    have hin : (bif (x5.length : Int) != (y5.length : Int) then (some (.ret (.d (.b false)), []) : Res) else g34.J9 N n a b (i : Int) x0 x1 x2 x3 x4 x5 y0 y1 y2 y3 y4 y5) = bif eqDLL x5 y5 then g34.L4 N n a b (IntKind.wrap .i64 ((i : Int) + 1)) else some (.ret (.d (.b false)), []) := by
      rw [g34.J9_eq]
      refine loopEq0 (L := fun n2 j => g34.L10 N n n2 a b (i : Int) j x0 x1 x2 x3 x4 x5 y0 y1 y2 y3 y4 y5) (okRs_len p5) N hlN (fun _ n2 => ?_) (fun _ n2 j u v hu hv => ?_)
      · rw [g34.L10_succ, ltF, cond_false]
        exact g34.J5_eq N n a b (i : Int)
      · obtain ⟨u0, u1, rfl⟩ := inv_tyIn (okRs_get p5 hu)
        obtain ⟨v0, v1, rfl⟩ := inv_tyIn (okRs_get q5 hv)
        rw [g34.L10_succ, ltT (List.getElem?_eq_some_iff.1 hu).1, cond_true, getKn hu]
        simp only [tcI, tcE, if_true]
        rw [getKn hv]
        simp only [tcI, tcE, if_true, eqDL, eqD_i, eqD_b, eqD_s, eqD_sl, Bool.and_true, bif_not, bif_ne_int, bytes_beq2]
    rw [g34.L4_succ, ltT (List.getElem?_eq_some_iff.1 hr).1, cond_true, getKn hr]
    simp only [tcI, tcB, tcS, tcL, tcE, if_true]
    rw [getKn hs]
    simp only [tcI, tcB, tcS, tcL, tcE, if_true, comb_self, hin, p2, q2, Bool.and_self, cond_true, eqDL, eqD_i, eqD_b, eqD_s, eqD_sl, Bool.and_true, bif_not, bytes_beq2]
    rw [bif_ne_int, bif_ne_int]
    cases (x0.toList == y0.toList) <;> cases (x1 == y1) <;> cases eqDLL x2 y2 <;> cases (x3 == y3) <;> cases (x4 == y4) <;> cases eqDLL x5 y5 <;> rfl
theorem env12 : EnvOK g12.E where
  call f := by
    show SpecOK Tryz.prog f (g12.E.call f)
    unfold g12.E
    dsimp only
    split
    · exact g29_ok
    · exact g30_ok
    · exact g31_ok
    · exact SpecOK.none _ _
  ext f args v h := by cases h
  mixed := Checked.mixed Tryz.checked
  cmb a b r h := comb_both h
theorem g12_ok : SpecOK Tryz.prog 12 objSpec := fun args bs k r hr => by
  unfold objSpec at hr
  split at hr
  case h_2 => cases hr
  rename_i a0 a1 a2 a3 b0 b1 b2 b3
  obtain ⟨hc, hr⟩ := bifn_some hr
  refine ⟨_, _, hr, evFn_sound (E := g12.E) (env12) (fn := Tryz.f12) rfl (S22_ok.enters 12 Tryz.f12 rfl rfl) 0 true ?_⟩
  simp only [Bool.and_eq_true] at hc
  rw [g12.fn, g12.eq]
  obtain ⟨⟨⟨c1, c2⟩, c3, c4⟩, c5, c6⟩ := hc
  simp only [c1, c2, c3, c4, c5, c6, Bool.and_self, cond_true, eqDL, eqD_i, eqD_b, eqD_s, eqD_sl, Bool.and_true, bif_not, bif_ne_int, bytes_beq2, bif_andT]
theorem env14 : EnvOK g14.E where
  call f := by
    show SpecOK Tryz.prog f (g14.E.call f)
    unfold g14.E
    dsimp only
    split
    · exact g29_ok
    · exact g31_ok
    · exact g36_ok
    · exact SpecOK.none _ _
  ext f args v h := by cases h
  mixed := Checked.mixed Tryz.checked
  cmb a b r h := comb_both h
theorem g14_ok : SpecOK Tryz.prog 14 prgSpec := fun args bs k r hr => by
  unfold prgSpec at hr
  split at hr
  case h_2 => cases hr
  rename_i a0 a1 a2 b0 b1 b2
  obtain ⟨hc, hr⟩ := bifn_some hr
  refine ⟨_, _, hr, evFn_sound (E := g14.E) (env14) (fn := Tryz.f14) rfl (S22_ok.enters 14 Tryz.f14 rfl rfl) 0 true ?_⟩
  simp only [Bool.and_eq_true] at hc
  rw [g14.fn, g14.eq]
  obtain ⟨⟨⟨c1, c2⟩, c3, c4⟩, c5, c6⟩ := hc
  simp only [c1, c2, c3, c4, c5, c6, Bool.and_self, cond_true, eqDL, eqD_i, eqD_b, eqD_s, eqD_sl, Bool.and_true, bif_not, bif_ne_int, bytes_beq2, bif_andT]
theorem env13 : EnvOK g13.E where
  call f := by
    show SpecOK Tryz.prog f (g13.E.call f)
    unfold g13.E
    dsimp only
    split
    · exact g33_ok
    · exact g34_ok
    · exact g35_ok
    · exact SpecOK.none _ _
  ext f args v h := by cases h
  mixed := Checked.mixed Tryz.checked
  cmb a b r h := comb_both h
theorem g13_ok : SpecOK Tryz.prog 13 objSpec := fun args bs k r hr => by
  unfold objSpec at hr
  split at hr
  case h_2 => cases hr
  rename_i a0 a1 a2 a3 b0 b1 b2 b3
  obtain ⟨hc, hr⟩ := bifn_some hr
  refine ⟨_, _, hr, evFn_sound (E := g13.E) (env13) (fn := Tryz.f13) rfl (S22_ok.enters 13 Tryz.f13 rfl rfl) (a2.length + 1) true ?_⟩
  simp only [Bool.and_eq_true] at hc
  rw [g13.fn, g13.eq]
  obtain ⟨⟨⟨c1, c2⟩, c3, c4⟩, c5, c6⟩ := hc
  by_cases hlen : a2.length = b2.length
  · have hloop : g13.J3 (a2.length + 1) a0 a1 a2 a3 b0 b1 b2 b3 = bif eqDLL a2 b2 then some (.ret (.d (.b true)), []) else some (.ret (.d (.b false)), []) := by
      rw [g13.J3_eq]
      refine loopEq (L := fun n i => g13.L4 (a2.length + 1) n i a0 a1 a2 a3 b0 b1 b2 b3) hlen (okRs_len c3) (fun n => ?_) (fun n i r s hr hs => ?_) a2.length 0 (a2.length + 1) (by omega) (by omega)
      · show g13.L4 _ (n + 1) _ a0 a1 a2 a3 b0 b1 b2 b3 = _
        rw [g13.L4_succ, ltF]
        exact g13.J8_eq _
      · obtain ⟨x0, x1, x2, x3, rfl, p2⟩ := inv_tyNd (okRs_get c3 hr)
        obtain ⟨y0, y1, y2, y3, rfl, q2⟩ := inv_tyNd (okRs_get c4 hs)
        show g13.L4 _ (n + 1) _ a0 a1 a2 a3 b0 b1 b2 b3 = bif _ then g13.L4 _ n _ a0 a1 a2 a3 b0 b1 b2 b3 else _
        rw [g13.L4_succ, ltT (List.getElem?_eq_some_iff.1 hr).1, cond_true, getKn hr]
        simp only [tcI, tcB, tcS, tcL, tcE, if_true]
        rw [getKn hs]
        simp only [tcI, tcB, tcS, tcL, tcE, if_true, p2, q2, Bool.and_self, cond_true, eqDL, eqD_i, eqD_b, eqD_s, eqD_sl, Bool.and_true, bif_not, bif_ne_int, bytes_beq2]
    have he : ((a2.length : Int) != (b2.length : Int)) = false := by rw [hlen]; exact bne_self_eq_false _
    simp only [hloop, he, c1, c2, c3, c4, c5, c6, Bool.and_self, cond_true, cond_false, bif_not, eqDL, eqD_i, eqD_b, eqD_s, eqD_sl, Bool.and_true]
    cases (a0.toList == b0.toList) <;> cases eqDLL a1 b1 <;> cases eqDLL a2 b2 <;> cases eqDLL a3 b3 <;> rfl
  · have hne : ((a2.length : Int) != (b2.length : Int)) = true := by simp; omega
    simp only [hne, eqDLL_len hlen, c1, c2, c3, c4, c5, c6, Bool.and_self, cond_true, cond_false, bif_not, eqDL, eqD_i, eqD_b, eqD_s, eqD_sl, Bool.and_true, Bool.and_false, Bool.false_and]
    cases (a0.toList == b0.toList) <;> cases eqDLL a1 b1 <;> cases eqDLL a3 b3 <;> rfl
theorem env15 : EnvOK g15.E where
  call f := by
    show SpecOK Tryz.prog f (g15.E.call f)
    unfold g15.E
    dsimp only
    split
    · exact g33_ok
    · exact g34_ok
    · exact SpecOK.none _ _
  ext f args v h := by cases h
  mixed := Checked.mixed Tryz.checked
  cmb a b r h := comb_both h
theorem g15_ok : SpecOK Tryz.prog 15 prgSpec := fun args bs k r hr => by
  unfold prgSpec at hr
  split at hr
  case h_2 => cases hr
  rename_i a0 a1 a2 b0 b1 b2
  obtain ⟨hc, hr⟩ := bifn_some hr
  refine ⟨_, _, hr, evFn_sound (E := g15.E) (env15) (fn := Tryz.f15) rfl (S22_ok.enters 15 Tryz.f15 rfl rfl) (a2.length + 1) true ?_⟩
  simp only [Bool.and_eq_true] at hc
  rw [g15.fn, g15.eq]
  obtain ⟨⟨⟨c1, c2⟩, c3, c4⟩, c5, c6⟩ := hc
  by_cases hlen : a2.length = b2.length
  · have hloop : g15.J3 (a2.length + 1) a0 a1 a2 b0 b1 b2 = bif eqDLL a2 b2 then some (.ret (.d (.b true)), []) else some (.ret (.d (.b false)), []) := by
      rw [g15.J3_eq]
      refine loopEq (L := fun n i => g15.L4 (a2.length + 1) n i a0 a1 a2 b0 b1 b2) hlen (okRs_len c5) (fun n => ?_) (fun n i r s hr hs => ?_) a2.length 0 (a2.length + 1) (by omega) (by omega)
      · show g15.L4 _ (n + 1) _ a0 a1 a2 b0 b1 b2 = _
        rw [g15.L4_succ, ltF]
        exact g15.J8_eq _
      · obtain ⟨x0, x1, x2, rfl⟩ := inv_tyPt (okRs_get c5 hr)
        obtain ⟨y0, y1, y2, rfl⟩ := inv_tyPt (okRs_get c6 hs)
        show g15.L4 _ (n + 1) _ a0 a1 a2 b0 b1 b2 = bif _ then g15.L4 _ n _ a0 a1 a2 b0 b1 b2 else _
        rw [g15.L4_succ, ltT (List.getElem?_eq_some_iff.1 hr).1, cond_true, getKn hr]
        simp only [tcI, tcB, tcS, tcL, tcE, if_true]
        rw [getKn hs]
        simp only [tcI, tcB, tcS, tcL, tcE, if_true, Bool.and_self, cond_true, eqDL, eqD_i, eqD_b, eqD_s, eqD_sl, Bool.and_true, bif_not, bif_ne_int, bytes_beq2]
    have he : ((a2.length : Int) != (b2.length : Int)) = false := by rw [hlen]; exact bne_self_eq_false _
    simp only [hloop, he, c1, c2, c3, c4, c5, c6, Bool.and_self, cond_true, cond_false, bif_not, eqDL, eqD_i, eqD_b, eqD_s, eqD_sl, Bool.and_true]
    cases eqDLL a0 b0 <;> cases eqDLL a1 b1 <;> cases eqDLL a2 b2 <;> rfl
  · have hne : ((a2.length : Int) != (b2.length : Int)) = true := by simp; omega
    simp only [hne, eqDLL_len hlen, c1, c2, c3, c4, c5, c6, Bool.and_self, cond_true, cond_false, bif_not, eqDL, eqD_i, eqD_b, eqD_s, eqD_sl, Bool.and_true, Bool.and_false, Bool.false_and]
    cases eqDLL a0 b0 <;> cases eqDLL a1 b1 <;> rfl
theorem env5 : EnvOK g5.E where
  call f := by
    show SpecOK Tryz.prog f (g5.E.call f)
    unfold g5.E
    dsimp only
    split
    · exact awakeSpec_ok
    · exact g12_ok
    · exact g13_ok
    · exact g14_ok
    · exact g15_ok
    · exact SpecOK.none _ _
  ext f args v h := by cases h
  mixed := Checked.mixed Tryz.checked
  cmb a b r h := comb_both h
theorem lawSames_meets {a0 b0 : ByteArray} {a1 a2 a3 b1 b2 b3 : List (List D)} (c1 : okRs tyVal a1 = true) (c2 : okRs tyVal b1 = true) (c3 : okRs tyNd a2 = true) (c4 : okRs tyNd b2 = true) (c5 : okRs tyPr a3 = true) (c6 : okRs tyPr b3 = true) :
    Meets Tryz.prog 5 [.agg [.d (.s a0), .d (.sl a1), .d (.sl a2), .d (.sl a3)], .agg [.d (.s b0), .d (.sl b1), .d (.sl b2), .d (.sl b3)]] [] (.ret (.d (.b true))) [] :=
  evFn_sound (E := g5.E) env5 (fn := Tryz.f5) rfl (S22_ok.enters 5 Tryz.f5 rfl rfl) 0 true (by
    have c7 : okRs tyPt [] = true := rfl
    rw [g5.fn, g5.eq]
    simp only [c1, c2, c3, c4, c5, c6, c7, Bool.and_self, cond_true, beq_self_eq_true, eqDL_refl])
end Go.Tw
