/- PROVED: treadlelaw22.ObjectSames returns true at every two objects, and each of them reads afterwards as it read before (the tied card 'ObjectSamesCardSaid').
   Conditions: those of the given card alone: the listed package variables are as the program's text lays them; Go's own bodiless functions (CountString, IndexByteString, IndexString) do as the model says; the arguments are within the form's own reach.
   How: Ev1..Ev7 are an abstract run of a function's code, proved sound for every tape and every order that Go leaves open; awake() is reckoned by the kernel (Aw..); each comparing function is walked once (Os1..Os3) and answers whether two data are the same (Os4..Os6). -/
import Derived.Test.YthhocepcpikbaaaGreatDoorOs6
import Derived.Test.YthhocepcpikbaaaGreatDoorEv9
import Derived.Test.YthhocepcpikbaaaGreatDoorTy22
import Derived.Test.YthhocepcpikbaaaGreatDoorCards
import Derived.Test.YthhocepcpikbaaaGreatDoorTie
import Derived.ProofKit
import Derived.OpenShut
import Derived.LaidMore
import Derived.Lay
import Derived.SevenTiedAt
import Derived.Stop.Joined
set_option linter.unusedVariables false
namespace Go.Proofs.YthhocepcpikbaaaGreatDoor.objectSames
open Go.ChangeShapes Go.WideShapes Go.ChangeAt Go.RowKit Go.Tw

theorem own : ownKnob Tryz.prog.godebug = none := by kernel_rfl
theorem laidOut : laidOutB Tryz.prog = true := by kernel_rfl
theorem laid_plain (w : World) : laidMetH Tryz.prog Rows.objectSamesRow.laid w = laidMet Tryz.prog Rows.objectSamesRow.laid w := MakeChecks.laidMetH_plain _ _ _ (by kernel_rfl)

set_option maxRecDepth 100000 in
theorem lifted (os : Os) (started : os.Started) (H : Type) (enc : TypeId × Value → H) :
    ReturnsInHanded {} Tryz.checked os 5 .any (fun w args => (Rows.objectSamesSpec.pre enc Tryz.prog Tryz.f5 Rows.objectSamesRow.domain false w args ∧ laidMetH Tryz.prog Rows.objectSamesRow.laid w) ∧ sizedMet enc Tryz.prog Tryz.f5 (OpenSpec.ofChange Rows.objectSamesSpec) false w args)
      (Rows.objectSamesSpec.post enc Tryz.prog Tryz.f5 false true false false) := by
  refine returnsInHanded_of_change_and (C := Tryz.checked) (X := fun w _ => laidMetH Tryz.prog Rows.objectSamesRow.laid w) (fun _ _ _ hh h => h.of_heap hh) own started (by kernel_rfl) Tryz.func5
    (ChangeSpec.witness_shaped (enc := enc) (C := Tryz.checked) (os := os) (X := fun w _ => laidMetH Tryz.prog Rows.objectSamesRow.laid w) false (World.laidAll Tryz.prog os Rows.objectSamesRow.laid) #[.agg #[.string ⟨#[]⟩, .slice none 0 0, .slice none 0 0, .slice none 0 0], .agg #[.string ⟨#[]⟩, .slice none 0 0, .slice none 0 0, .slice none 0 0]] 8 (World.laidAll_os _ _ _)
      (World.shaped_of_ZipB (by kernel_rfl) (by kernel_rfl)) (by kernel_rfl) (by kernel_rfl) (by kernel_rfl)
      (by rw [laid_plain]; exact laidMet_laidAll _ (by kernel_rfl) (by kernel_rfl))) ?_
  intro W base args ds gs before hval0 hW _ _ _ _
  have hval : ∀ (j : Nat) t v, Tryz.f5.params[j]? = some t → args[j]? = some v → Value.okWide Tryz.prog W .any base t v := hval0
  have hW' := hW
  obtain ⟨p, q, hA0, hV, rfl, _, _⟩ := hW
  have hA : DataW.TrodAll enc Tryz.prog W 0 (fun _ => true) true Tryz.f5.params.toList args.toList ds p := hA0
  rw [Tryz.params5] at hA hval
  obtain ⟨v0, v1, d0, d1, p0, p1, rfl, rfl, rfl, h0, h1⟩ := trodAll_two hA
  obtain ⟨rfl, rfl⟩ := trodVars_none hV
  have lt : ∀ {t : TypeId} {v : Value} {d : DataW H} {ps : List MemPlace}, DataW.Trod enc Tryz.prog W 0 (fun _ => true) true t v d ps → ∀ x ∈ ps, x.block < W.heap.size := fun ⟨m, hm⟩ => DataW.trod_lt m _ _ _ hm
  obtain ⟨e0, s0, r0⟩ := arg_R tys22_ok (t := 38) (by decide) (hval 0 38 v0 rfl rfl) h0
  obtain ⟨e1, s1, r1⟩ := arg_R tys22_ok (t := 38) (by decide) (hval 1 38 v1 rfl rfl) h1
  obtain ⟨a0, a1, a2, a3, rfl, c1, c3, c5⟩ := ok_object s0
  obtain ⟨b0, b1, b2, b3, rfl, c2, c4, c6⟩ := ok_object s1
  rw [asV_st Tryz.underlying38] at r0 r1
  refine (calls_of_meets (lawSames_meets (a0 := a0) (b0 := b0) c1 c2 c3 c4 c5 c6) rfl (fun i v u hv hu => ?_)).mono fun e W' ⟨he, bel⟩ => ?_
  · match i with
    | 0 => simp at hv hu; subst hv hu; exact r0
    | 1 => simp at hv hu; subst hv hu; exact r1
    | n + 2 => simp at hv
  · subst he
    exact ⟨_, rfl, _, _, _, [], _, [], hW', trodAll_mk1 (shut_bool Tryz.underlying4 _),
      trodAll_cons_mk (Below.trod laidOut (by kernel_rfl) (of_decide_eq_true (by kernel_rfl)) h0 bel (lt h0)) (trodAll_cons_mk (Below.trod laidOut (by kernel_rfl) (of_decide_eq_true (by kernel_rfl)) h1 bel (lt h1)) trodAll_mk0), rfl, bel.frame _, fun h => by cases h⟩

theorem said : Rows.ObjectSamesSaid :=
  OpenClaim.holds_of_wide 5 Tryz.f5 rfl rfl rfl rfl rfl rfl rfl ⟨rfl, rfl, rfl, rfl, rfl⟩ rfl rfl rfl rfl rfl (by kernel_rfl) Tryz.func5 (by kernel_rfl)
    (of_decide_eq_true (by kernel_rfl)) (by unfold Func.isWrapper; first | (rw [if_pos (by decide +kernel)]; kernel_rfl) | (rw [if_neg (by decide +kernel)]; exact ⟨rfl, rfl⟩))
    (fun os started H enc _ => lifted os started H enc)
theorem plain (f : FuncId) (fn : Func) (hf : Tryz.pinned.checked.prog.funcNamed "treadle/treadlelaw22.ObjectSames" = some f) (hfn : Tryz.pinned.checked.prog.funcs[f]? = some fn) :
    true = Tryz.pinned.checked.prog.looks [] ∧ ∀ (j : Nat) t, fn.params[j]? = some t → Tryz.pinned.checked.prog.wantsStandIn t = false := by
  obtain rfl : f = 5 := Option.some.inj ((show Tryz.prog.funcNamed "treadle/treadlelaw22.ObjectSames" = some 5 by kernel_rfl).symm.trans hf) |>.symm
  obtain rfl : fn = Tryz.f5 := (Option.some.inj (Tryz.func5.symm.trans hfn)).symm
  refine ⟨by kernel_rfl, fun j t ht => ?_⟩
  rw [Tryz.params5] at ht
  have hm : t ∈ [38, 38] := by simpa using Array.mem_of_getElem? ht
  have hall : ([38, 38].all fun u => !Tryz.prog.wantsStandIn u) = true := by kernel_rfl
  exact (show Tryz.prog.wantsStandIn t = false by simpa using List.all_eq_true.1 hall t hm)
end Go.Proofs.YthhocepcpikbaaaGreatDoor.objectSames
namespace Go.Proofs.YthhocepcpikbaaaGreatDoor
theorem objectSames_holds : Rows.ObjectSamesCardSaid :=
  Claim7.holds_tied_plain_at .later [] _ _ _ _ objectSames.said (fun _ h => by cases h) (by kernel_rfl) (fun _ h => by cases h) objectSames_row_tie rfl ⟨rfl, rfl⟩ (by kernel_rfl) rfl objectSames.plain (by kernel_rfl)
#print axioms objectSames_holds
end Go.Proofs.YthhocepcpikbaaaGreatDoor
