import Derived.Test.YthhocepcpikbaaaGreatDoorOb2
import Derived.KernelRfl
set_option linter.unusedVariables false
set_option maxRecDepth 100000
namespace Go.Tw
open Go.Proofs
noncomputable section
/-! ### treadle/treadlelaw22.ObjectPoints (function 4) -/
noncomputable def lawPoints.E : Env := { P := Tryz.prog, call := fun f => match f with | 9 => awakeSpec | 10 => ptSpec | 11 => ptSpec | _ => fun _ _ _ => none, byRow := fun _ => false, cmb := comb, head := fun i => match i with  | _ => none, n0 := 0 }
noncomputable def lawPoints.cd : Code := Tryz.f4.body.getD .skip
noncomputable def lawPoints.fin : Kont := finK Tryz.prog 0 true Tryz.f4.results
noncomputable def lawPoints (N : Nat) (a0_0 : List (List D)) (a0_1 : List (List D)) (a0_2 : List (List D)) (a1 : ByteArray) (a2 : ByteArray) : Res := ev lawPoints.E N lawPoints.cd [.agg [.d (.sl a0_0), .d (.sl a0_1), .d (.sl a0_2)], .d (.s a1), .d (.s a2), .gun, .gun, .gun, .gun, .gun, .gun, .gun, .gun, .gun, .gun, .gun, .gun, .gun, .gun, .gun, .gun, .gun, .gun, .gun, .gun, .gun, .gun, .gun, .gun, .gun, .gun, .gun, .gun, .gun, .gun, .gun, .gun, .gun] [] lawPoints.fin
theorem lawPoints.eq (N : Nat) (a0_0 : List (List D)) (a0_1 : List (List D)) (a0_2 : List (List D)) (a1 : ByteArray) (a2 : ByteArray) : lawPoints N a0_0 a0_1 a0_2 a1 a2 = (Option.bind (ptC a0_2 a1 a2) fun p1 => (Option.bind (ptC a0_2 a1 a2) fun p2 => (bif p1.1 == p2.1 then (bif p1.2 == p2.2 then some (.ret (.d (.b true)), []) else some (.ret (.d (.b false)), [])) else some (.ret (.d (.b false)), [])))) := by kernel_rfl
theorem lawPoints.fn (N : Nat) (a0_0 : List (List D)) (a0_1 : List (List D)) (a0_2 : List (List D)) (a1 : ByteArray) (a2 : ByteArray) : evFn lawPoints.E N true Tryz.f4 [.agg [.d (.sl a0_0), .d (.sl a0_1), .d (.sl a0_2)], .d (.s a1), .d (.s a2)] [] = lawPoints N a0_0 a0_1 a0_2 a1 a2 := by kernel_rfl
end
end Go.Tw
