/- PROVED: treadlelaw22.ObjectPoints returns true at every program and every two names, and each of its arguments reads afterwards as it read before (the tied card 'ObjectPointsCardSaid').
   Conditions: those of the given card alone: the listed package variables are as the program's text lays them; Go's own bodiless functions (CountString, IndexByteString, IndexString) do as the model says; the arguments are within the form's own reach.
   How: Ev1..Ev7 are an abstract run of a function's code, proved sound for every tape and every order that Go leaves open; awake() is reckoned by the kernel (Aw..); the two Point functions are walked once (Ob1, Ob2). -/
import Derived.Test.YthhocepcpikbaaaGreatDoorOb4
import Derived.Test.YthhocepcpikbaaaGreatDoorCards
import Derived.Test.YthhocepcpikbaaaGreatDoorTie
import Derived.ProofKit
import Derived.OpenShut
import Derived.LaidMore
import Derived.Lay
import Derived.SevenTiedAt
import Derived.Stop.Joined
set_option linter.unusedVariables false
namespace Go.Proofs.YthhocepcpikbaaaGreatDoor.objectPoints
open Go.ChangeShapes Go.WideShapes Go.ChangeAt Go.RowKit Go.Tw

theorem own : ownKnob Tryz.prog.godebug = none := by kernel_rfl
theorem laidOut : laidOutB Tryz.prog = true := by kernel_rfl
theorem laid_plain (w : World) : laidMetH Tryz.prog Rows.objectPointsRow.laid w = laidMet Tryz.prog Rows.objectPointsRow.laid w := MakeChecks.laidMetH_plain _ _ _ (by kernel_rfl)

set_option maxRecDepth 100000 in
theorem lifted (os : Os) (started : os.Started) (H : Type) (enc : TypeId × Value → H) :
    ReturnsInHanded {} Tryz.checked os 4 .any (fun w args => (Rows.objectPointsSpec.pre enc Tryz.prog Tryz.f4 Rows.objectPointsRow.domain false w args ∧ laidMetH Tryz.prog Rows.objectPointsRow.laid w) ∧ sizedMet enc Tryz.prog Tryz.f4 (OpenSpec.ofChange Rows.objectPointsSpec) false w args)
      (Rows.objectPointsSpec.post enc Tryz.prog Tryz.f4 false true false false) := by
  refine returnsInHanded_of_change_and (C := Tryz.checked) (X := fun w _ => laidMetH Tryz.prog Rows.objectPointsRow.laid w) (fun _ _ _ hh h => h.of_heap hh) own started (by kernel_rfl) Tryz.func4
    (ChangeSpec.witness_shaped (enc := enc) (C := Tryz.checked) (os := os) (X := fun w _ => laidMetH Tryz.prog Rows.objectPointsRow.laid w) false (World.laidAll Tryz.prog os Rows.objectPointsRow.laid) #[.agg #[.slice none 0 0, .slice none 0 0, .slice none 0 0], .string ⟨#[]⟩, .string ⟨#[]⟩] 8 (World.laidAll_os _ _ _)
      (World.shaped_of_ZipB (by kernel_rfl) (by kernel_rfl)) (by kernel_rfl) (by kernel_rfl) (by kernel_rfl)
      (by rw [laid_plain]; exact laidMet_laidAll _ (by kernel_rfl) (by kernel_rfl))) ?_
  intro W base args ds gs before hval0 hW _ _ _ _
  have hval : ∀ (j : Nat) t v, Tryz.f4.params[j]? = some t → args[j]? = some v → Value.okWide Tryz.prog W .any base t v := hval0
  have hW' := hW
  obtain ⟨p, q, hA0, hV, rfl, _, _⟩ := hW
  have hA : DataW.TrodAll enc Tryz.prog W 0 (fun _ => true) true Tryz.f4.params.toList args.toList ds p := hA0
  rw [Tryz.params4] at hA hval
  obtain ⟨v0, v1, v2, d0, d1, d2, p0, p1, p2, rfl, rfl, rfl, h0, h1, h2⟩ := trodAll_three hA
  obtain ⟨rfl, rfl⟩ := trodVars_none hV
  have lt : ∀ {t : TypeId} {v : Value} {d : DataW H} {ps : List MemPlace}, DataW.Trod enc Tryz.prog W 0 (fun _ => true) true t v d ps → ∀ x ∈ ps, x.block < W.heap.size := fun ⟨m, hm⟩ => DataW.trod_lt m _ _ _ hm
  obtain ⟨e0, s0, r0⟩ := arg_R tys22_ok (t := 27) (by decide) (hval 0 27 v0 rfl rfl) h0
  obtain ⟨e1, s1, r1⟩ := arg_R tys22_ok (t := 9) (by decide) (hval 1 9 v1 rfl rfl) h1
  obtain ⟨e2, s2, r2⟩ := arg_R tys22_ok (t := 9) (by decide) (hval 2 9 v2 rfl rfl) h2
  obtain ⟨a, b, c, rfl, hc, _, _⟩ := sh_program s0
  obtain ⟨s, rfl, _⟩ := s1.string Tryz.underlying9
  obtain ⟨t, rfl, _⟩ := s2.string Tryz.underlying9
  obtain ⟨pp, hp⟩ := ptC_some s t hc
  rw [asV_st Tryz.underlying27] at r0
  simp only [asV, Tryz.underlying9] at r1 r2
  refine (calls_of_meets (lawPoints_meets (a := a) (b := b) hp) rfl (fun i v u hv hu => ?_)).mono fun e W' ⟨he, bel⟩ => ?_
  · match i with
    | 0 => simp at hv hu; subst hv hu; exact r0
    | 1 => simp at hv hu; subst hv hu; exact r1
    | 2 => simp at hv hu; subst hv hu; exact r2
    | n + 3 => simp at hv
  · subst he
    exact ⟨_, rfl, _, _, _, [], _, [], hW', trodAll_mk1 (shut_bool Tryz.underlying4 _),
      trodAll_cons_mk (Below.trod laidOut (by kernel_rfl) (of_decide_eq_true (by kernel_rfl)) h0 bel (lt h0)) (trodAll_cons_mk (Below.trod laidOut (by kernel_rfl) (of_decide_eq_true (by kernel_rfl)) h1 bel (lt h1)) (trodAll_cons_mk (Below.trod laidOut (by kernel_rfl) (of_decide_eq_true (by kernel_rfl)) h2 bel (lt h2)) trodAll_mk0)), rfl, bel.frame _, fun h => by cases h⟩

theorem said : Rows.ObjectPointsSaid :=
  OpenClaim.holds_of_wide 4 Tryz.f4 rfl rfl rfl rfl rfl rfl rfl ⟨rfl, rfl, rfl, rfl, rfl⟩ rfl rfl rfl rfl rfl (by kernel_rfl) Tryz.func4 (by kernel_rfl)
    (of_decide_eq_true (by kernel_rfl)) (by unfold Func.isWrapper; first | (rw [if_pos (by decide +kernel)]; kernel_rfl) | (rw [if_neg (by decide +kernel)]; exact ⟨rfl, rfl⟩))
    (fun os started H enc _ => lifted os started H enc)
theorem plain (f : FuncId) (fn : Func) (hf : Tryz.pinned.checked.prog.funcNamed "treadle/treadlelaw22.ObjectPoints" = some f) (hfn : Tryz.pinned.checked.prog.funcs[f]? = some fn) :
    true = Tryz.pinned.checked.prog.looks [] ∧ ∀ (j : Nat) t, fn.params[j]? = some t → Tryz.pinned.checked.prog.wantsStandIn t = false := by
  obtain rfl : f = 4 := Option.some.inj ((show Tryz.prog.funcNamed "treadle/treadlelaw22.ObjectPoints" = some 4 by kernel_rfl).symm.trans hf) |>.symm
  obtain rfl : fn = Tryz.f4 := (Option.some.inj (Tryz.func4.symm.trans hfn)).symm
  refine ⟨by kernel_rfl, fun j t ht => ?_⟩
  rw [Tryz.params4] at ht
  have hm : t ∈ [27, 9, 9] := by simpa using Array.mem_of_getElem? ht
  have hall : ([27, 9, 9].all fun u => !Tryz.prog.wantsStandIn u) = true := by kernel_rfl
  exact (show Tryz.prog.wantsStandIn t = false by simpa using List.all_eq_true.1 hall t hm)
end Go.Proofs.YthhocepcpikbaaaGreatDoor.objectPoints
namespace Go.Proofs.YthhocepcpikbaaaGreatDoor
theorem objectPoints_holds : Rows.ObjectPointsCardSaid :=
  Claim7.holds_tied_plain_at .later [] _ _ _ _ objectPoints.said (fun _ h => by cases h) (by kernel_rfl) (fun _ h => by cases h) objectPoints_row_tie rfl ⟨rfl, rfl⟩ (by kernel_rfl) rfl objectPoints.plain (by kernel_rfl)
#print axioms objectPoints_holds
end Go.Proofs.YthhocepcpikbaaaGreatDoor
