import Derived.Test.YthhocepcpikbaaaGreatDoorOb3
import Derived.Test.YthhocepcpikbaaaGreatDoorEv8
import Derived.KernelRfl
set_option maxRecDepth 100000
set_option linter.unusedVariables false

namespace Go.Tw
open Go.Proofs
theorem lawPoints_env : EnvOK lawPoints.E where
  call f := by
    show SpecOK Tryz.prog f (lawPoints.E.call f)
    unfold lawPoints.E
    dsimp only
    split
    · exact awakeSpec_ok
    · exact ptSpec_obPoint
    · exact ptSpec_refPoint
    · exact SpecOK.none _ _
  ext f args v h := by cases h
  mixed := Checked.mixed Tryz.checked
  cmb a b r h := comb_both h
theorem lawPoints_meets {a b c : List (List D)} {s t : ByteArray} {p : Int × Int} (h : ptC c s t = some p) : Meets Tryz.prog 4 [.agg [.d (.sl a), .d (.sl b), .d (.sl c)], .d (.s s), .d (.s t)] [] (.ret (.d (.b true))) [] :=
  evFn_sound (E := lawPoints.E) lawPoints_env (fn := Tryz.f4) rfl (S22_ok.enters 4 Tryz.f4 rfl rfl) 0 true (by
    rw [lawPoints.fn, lawPoints.eq, h]
    simp)
/-- The types that the laws' arguments lead to. -/
def tys22 : List TypeId := [27, 38, 53, 23, 24, 25, 9, 31, 50, 51, 75, 73, 80, 3, 2, 4, 71, 70, 68]
end Go.Tw
namespace Go.Tw
open Go.Proofs Go.RowKit Go.WideShapes Go.ChangeShapes
theorem tys22_ok : typesOK Tryz.prog tys22 = true := by kernel_rfl
/-- The shape of a program, of a point. -/
theorem sh_program {ds : List D} (h : Sh Tryz.prog 27 ds) : ∃ a b c, ds = [.sl a, .sl b, .sl c] ∧ (c.length ≤ maxLen ∧ ∀ x, x ∈ c → Sh Tryz.prog 80 x) ∧ (a.length ≤ maxLen ∧ ∀ x, x ∈ a → Sh Tryz.prog 75 x) ∧ (b.length ≤ maxLen ∧ ∀ x, x ∈ b → Sh Tryz.prog 73 x) := by
  obtain ⟨_, _, rfl, h1, h⟩ := (h.struct Tryz.underlying27).inv
  obtain ⟨_, _, rfl, h2, h⟩ := h.inv
  obtain ⟨_, _, rfl, h3, h⟩ := h.inv
  obtain rfl := h.inv0
  obtain ⟨a, rfl, ha⟩ := h1.slice Tryz.underlying23
  obtain ⟨b, rfl, hb⟩ := h2.slice Tryz.underlying24
  obtain ⟨c, rfl, hc⟩ := h3.slice Tryz.underlying25
  exact ⟨a, b, c, rfl, hc, ha, hb⟩
theorem sh_point {ds : List D} (h : Sh Tryz.prog 80 ds) : ∃ a b n, ds = [.s a, .s b, .i .i64 n] := by
  obtain ⟨_, _, rfl, h1, h⟩ := (h.struct Tryz.underlying80).inv
  obtain ⟨_, _, rfl, h2, h⟩ := h.inv
  obtain ⟨_, _, rfl, h3, h⟩ := h.inv
  obtain rfl := h.inv0
  obtain ⟨a, rfl, _⟩ := h1.string Tryz.underlying9
  obtain ⟨b, rfl, _⟩ := h2.string Tryz.underlying9
  obtain ⟨n, rfl, _⟩ := h3.int Tryz.underlying3
  exact ⟨a, b, n, rfl⟩
theorem pt_some (s t : ByteArray) : ∀ (c : List (List D)), (∀ x, x ∈ c → Sh Tryz.prog 80 x) → ∃ p, pt s t c = some p
  | [], _ => ⟨_, rfl⟩
  | r :: rs, h => by
    obtain ⟨a, b, n, rfl⟩ := sh_point (h r List.mem_cons_self)
    obtain ⟨p, hp⟩ := pt_some s t rs (fun x hx => h x (List.mem_cons_of_mem _ hx))
    simp only [pt, tcS, tcI, tcE, if_true]
    cases (a.toList == s.toList && b.toList == t.toList) with
    | true => exact ⟨_, rfl⟩
    | false => exact ⟨p, hp⟩
theorem ptC_some {c : List (List D)} (s t : ByteArray) (h : c.length ≤ maxLen ∧ ∀ x, x ∈ c → Sh Tryz.prog 80 x) : ∃ p, ptC c s t = some p := by
  obtain ⟨p, hp⟩ := pt_some s t c h.2
  refine ⟨p, ?_⟩
  have : Nat.ble c.length 9223372036854775807 = true := Nat.ble_eq_true_of_le h.1
  unfold ptC
  rw [this]
  exact hp
end Go.Tw
