/- Data of a type are of that type's shape. -/
import Derived.Test.YthhocepcpikbaaaGreatDoorEv8
import Derived.Test.YthhocepcpikbaaaGreatDoorOs0
set_option linter.unusedVariables false
namespace Go.Tw
def tyOf (P : Program) : Nat → TypeId → List Ty
  | 0, _ => []
  | n + 1, t => match P.underlying t with
    | some .bool => [.b]
    | some (.int k) => [.i k]
    | some .string => [.s]
    | some (.slice e) => [.sl (tyOf P n e)]
    | some (.struct fs) => fs.toList.flatMap fun f => tyOf P n f.type
    | _ => []
def deepTy (P : Program) : Nat → TypeId → Bool
  | 0, _ => false
  | n + 1, t => match P.underlying t with
    | some (.slice e) => deepTy P n e
    | some (.struct fs) => fs.toList.all fun f => deepTy P n f.type
    | _ => true
theorem okR_append : ∀ {l m : List Ty} {a b : List D}, okR l a = true → okR m b = true → okR (l ++ m) (a ++ b) = true
  | [], m, [], b, _, h => h
  | [], m, _ :: _, b, h, _ => by simp [okR] at h
  | _ :: _, m, [], b, h, _ => by simp [okR] at h
  | t :: l, m, x :: a, b, h, h' => by
    simp only [List.cons_append, okR, Bool.and_eq_true] at h ⊢
    exact ⟨h.1, okR_append h.2 h'⟩
theorem okAll_of {l : List Ty} : ∀ {xs : List (List D)}, (∀ x, x ∈ xs → okR l x = true) → okAll l xs = true
  | [], _ => rfl
  | x :: xs, h => by
    simp only [okAll, Bool.and_eq_true]
    exact ⟨h x List.mem_cons_self, okAll_of fun y hy => h y (List.mem_cons_of_mem _ hy)⟩
mutual
theorem Sh.ok {P : Program} {t : TypeId} {ds : List D} : Sh P t ds → ∀ n, deepTy P n t = true → okR (tyOf P n t) ds = true
  | _, 0, hd => by cases hd
  | .b hu x, n + 1, hd => by simp [tyOf, hu, okR, okD]
  | .i hu x _, n + 1, hd => by simp [tyOf, hu, okR, okD]
  | .s hu x _, n + 1, hd => by simp [tyOf, hu, okR, okD]
  | .sl hu xs hw h, n + 1, hd => by
    simp only [deepTy, hu] at hd
    have h1 : okAll (tyOf P n _) xs = true := okAll_of fun x hx => Sh.ok (h x hx) n hd
    have h2 : Nat.ble xs.length 9223372036854775807 = true := Nat.ble_eq_true_of_le hw
    simp [tyOf, hu, okR, okD, h1, h2]
  | .st hu h, n + 1, hd => by
    simp only [deepTy, hu] at hd
    have := Shs.ok h n (by simpa [List.all_map] using hd)
    simp only [tyOf, hu]
    simpa [List.flatMap_map] using this
theorem Shs.ok {P : Program} {ts : List TypeId} {ds : List D} : Shs P ts ds → ∀ n, ts.all (deepTy P n) = true → okR (ts.flatMap (tyOf P n)) ds = true
  | .nil, n, hd => rfl
  | .cons h hs, n, hd => by
    simp only [List.all_cons, Bool.and_eq_true] at hd
    simp only [List.flatMap_cons]
    exact okR_append (Sh.ok h n hd.1) (Shs.ok hs n hd.2)
end
end Go.Tw
