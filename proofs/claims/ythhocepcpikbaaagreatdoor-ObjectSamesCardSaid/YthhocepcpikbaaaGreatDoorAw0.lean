import Derived.Test.YthhocepcpikbaaaGreatDoorEv7
import Derived.Test.YthhocepcpikbaaaGreatDoorChecked
import Derived.Eval
import Derived.KernelRfl
set_option maxRecDepth 100000
namespace Go.Tw
open Go.Proofs
noncomputable def S22 : Set := { P := Tryz.prog, ext := extG Tryz.prog [147, 158], dfr := fun f => Nat.beq f 83, n := 60 }
theorem S22_ok : SetOK S22 := {
  ext := fun _ _ _ h => extG_ok h
  mixed := Checked.mixed Tryz.checked
  enters := enters_of (by kernel_rfl) }
theorem ext147 : S22.ext 147 [.d (.s ⟨#[97, 98, 97]⟩), .d (.i .u8 97)] = some (.d (.i .i64 2)) := by kernel_rfl
theorem ext158 : S22.ext 158 [.d (.s ⟨#[98, 98, 97]⟩), .d (.i .u8 97)] = some (.d (.i .i64 2)) := by kernel_rfl
end Go.Tw
