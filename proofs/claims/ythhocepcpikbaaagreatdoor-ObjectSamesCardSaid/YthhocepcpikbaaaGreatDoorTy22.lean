/- The types that the arguments of these laws lead to; an object's shape. -/
import Derived.Test.YthhocepcpikbaaaGreatDoorEv9
import Derived.Test.YthhocepcpikbaaaGreatDoorOs4
import Derived.KernelRfl
set_option maxRecDepth 100000
namespace Go.Tw
open Go.Proofs
def tys22 : List TypeId := [27, 38, 53, 23, 24, 25, 9, 31, 50, 51, 75, 73, 80, 3, 2, 4, 71, 70, 68]
theorem tys22_ok : typesOK Tryz.prog tys22 = true := by kernel_rfl
theorem ty_object : tyOf Tryz.prog 6 38 = [.s, .sl tyVal, .sl tyNd, .sl tyPr] := by kernel_rfl
theorem ok_object {ds : List D} (h : Sh Tryz.prog 38 ds) : ∃ a0 a1 a2 a3, ds = [.s a0, .sl a1, .sl a2, .sl a3] ∧ okRs tyVal a1 = true ∧ okRs tyNd a2 = true ∧ okRs tyPr a3 = true := by
  have h := h.ok 6 (by kernel_rfl)
  rw [ty_object] at h
  obtain ⟨x0, _, rfl, h0, h⟩ := okR_cons h
  obtain ⟨x1, _, rfl, h1, h⟩ := okR_cons h
  obtain ⟨x2, _, rfl, h2, h⟩ := okR_cons h
  obtain ⟨x3, _, rfl, h3, h⟩ := okR_cons h
  obtain rfl := okR_nil h
  obtain ⟨a0, rfl⟩ := okD_is h0
  obtain ⟨a1, rfl, g1⟩ := okD_isl h1
  obtain ⟨a2, rfl, g2⟩ := okD_isl h2
  obtain ⟨a3, rfl, g3⟩ := okD_isl h3
  exact ⟨a0, a1, a2, a3, rfl, g1, g2, g3⟩
end Go.Tw
