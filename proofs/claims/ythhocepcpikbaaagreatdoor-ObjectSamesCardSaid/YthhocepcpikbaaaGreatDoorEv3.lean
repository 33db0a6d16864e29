/- The abstract run is sound: what it comes to, the machine comes to (operations). -/
import Derived.Test.YthhocepcpikbaaaGreatDoorEv2
import Derived.Laws.CopyRow
import Derived.Laws.Cells
import Derived.Laws.Entries
import Derived.OwnWalk
set_option linter.unusedVariables false
set_option linter.unusedSimpArgs false
namespace Go.Tw

/-- Since the call began: what was not handed over to be written stays. -/
structure Since (c0 c : Ctx) : Prop where
  os : c.w.os = c0.w.os
  tape : c.w.tape = c0.w.tape
  output : c.w.output = c0.w.output
  size : c0.w.heap.size ≤ c.w.heap.size
  stay : ∀ g, g < c0.w.heap.size → (∀ i, c0.m i ≠ some g) → c.w.heap[g]? = c0.w.heap[g]?
  X : c.X = c0.X
  own : ∀ i g, c.m i = some g → (∃ j, c0.m j = some g) ∨ c0.w.heap.size ≤ g
  lt : ∀ g, c.X g → g < c0.w.heap.size

theorem Since.refl {c : Ctx} (hX : ∀ g, c.X g → g < c.w.heap.size) : Since c c := ⟨rfl, rfl, rfl, Nat.le_refl _, fun _ _ _ => rfl, rfl, fun i g h => .inl ⟨i, h⟩, hX⟩

theorem Ctx.Le.refl (c : Ctx) : c.Le c := ⟨Nat.le_refl _, rfl, fun _ _ => .inl rfl, fun _ _ => rfl, fun i g h hg => hg.2.2 i h, fun _ _ C _ _ _ _ h => ⟨C, h, rfl⟩⟩

theorem R.int {c : Ctx} {k : IntKind} {n : Int} {u : Value} (h : R c (.d (.i k n)) u) : u = .int k n := by
  cases h with | d h => cases h; rfl
theorem R.bool {c : Ctx} {b : Bool} {u : Value} (h : R c (.d (.b b)) u) : u = .bool b := by
  cases h with | d h => cases h; rfl
theorem R.str {c : Ctx} {b : ByteArray} {u : Value} (h : R c (.d (.s b)) u) : u = .string b := by
  cases h with | d h => cases h; rfl

theorem ofConst0_sound (c : Ctx) (v : Value) : R c (ofConst0 v) v := by
  unfold ofConst0
  split
  · exact .d (.b _)
  · exact .d (.i _ _)
  · exact .d (.s _)
  · exact .nilp
  · exact .nilsl
  · exact .nilmap
  · exact .nilif
  · exact .undef _
theorem ofConst_sound (c : Ctx) (v : Value) : R c (ofConst v) v := by
  unfold ofConst
  split
  · rename_i cs
    refine .agg (by simp) (fun i x u hx hu => ?_)
    simp only [List.getElem?_map, Array.getElem?_toList, hu, Option.map_some, Option.some.injEq] at hx
    subst hx
    exact ofConst0_sound c u
  · exact ofConst0_sound c v

theorem evO_sound {c : Ctx} {fr : List V} {a : Act} (hF : RF c fr a.tmps) (x : Operand) : R c (evO fr x) (a.eval x) := by
  cases x with
  | tmp t =>
    simp only [evO, Act.eval]
    by_cases h : t < fr.length
    · have h2 : t < a.tmps.size := by rw [← hF.n]; exact h
      rw [List.getD_eq_getElem?_getD, List.getElem?_eq_getElem h, Array.getD_eq_getD_getElem?, Array.getElem?_eq_getElem h2]
      exact hF.at_ t _ _ (List.getElem?_eq_getElem h) (Array.getElem?_eq_getElem h2)
    · rw [List.getD_eq_getElem?_getD, List.getElem?_eq_none (Nat.le_of_not_lt h)]
      exact .undef _
  | const v => exact ofConst_sound c v
  | global g => exact .undef _
  | func f => exact .fn rfl (fun i x u h => by simp at h)

/-- A block more. -/
def Ctx.push (c : Ctx) (o : Obj) : Ctx := { c with m := fun i => if i = c.n then some c.w.heap.size else c.m i, n := c.n + 1, w := c.w.alloc o }

theorem heap_alloc_lt (w : World) (o : Obj) {g : Nat} (h : g < w.heap.size) : (w.alloc o).heap[g]? = w.heap[g]? := by
  show (w.heap.push o)[g]? = w.heap[g]?
  rw [Array.getElem?_push, if_neg (by omega)]
theorem heap_alloc_at (w : World) (o : Obj) : (w.alloc o).heap[w.heap.size]? = some o := by
  show (w.heap.push o)[w.heap.size]? = some o
  rw [Array.getElem?_push, if_pos rfl]
theorem size_alloc (w : World) (o : Obj) : (w.alloc o).heap.size = w.heap.size + 1 := by
  show (w.heap.push o).size = _
  rw [Array.size_push]

theorem push_le {c : Ctx} {L : List B} (hL : RL c L) (o : Obj) : c.Le (c.push o) where
  n := Nat.le_succ _
  X := rfl
  m := fun k hk => .inl (by simp only [Ctx.push]; rw [if_neg (by omega)])
  data := fun g hg => heap_alloc_lt _ _ hg.1
  dis := fun i g hi hg => by
    simp only [Ctx.push] at hi
    split at hi
    · injection hi with hi; have := hg.1; omega
    · exact hg.2.2 i hi
  shape := fun k g C e _ h1 _ h2 => ⟨C, (heap_alloc_lt _ _ (hL.lt _ _ h1).1).trans h2, rfl⟩

theorem push_RL {c : Ctx} {L : List B} (hL : RL c L) (hX : ∀ g, c.X g → g < c.w.heap.size) (o : Obj) {b : B} (hb : RB (c.push o) b c.w.heap.size) (hd : b ≠ .dead) : RL (c.push o) (L ++ [b]) where
  n := by simp [Ctx.push, hL.n]
  inj := fun i j g hi hj => by
    simp only [Ctx.push] at hi hj
    split at hi
    · injection hi with hi
      split at hj
      · omega
      · have := (hL.lt _ _ hj).1; omega
    · split at hj
      · injection hj with hj; have := (hL.lt _ _ hi).1; omega
      · exact hL.inj i j g hi hj
  lt := fun i g hi => by
    simp only [Ctx.push, size_alloc] at hi ⊢
    split at hi
    · injection hi with hi; omega
    · have := hL.lt _ _ hi; omega
  live := fun i b' hi hb' => by
    have hn := hL.n
    by_cases h : i < L.length
    · rw [List.getElem?_append_left h] at hi
      obtain ⟨g, hg, hr⟩ := hL.live i b' hi hb'
      exact ⟨g, by simp only [Ctx.push]; rw [if_neg (by omega)]; exact hg, hr.mono (push_le hL o) (heap_alloc_lt _ _ (hL.lt _ _ hg).1)⟩
    · rw [List.getElem?_append_right (by omega)] at hi
      have hi0 : i = L.length := by have := (List.getElem?_eq_some_iff.1 hi).1; simp at this; omega
      subst hi0
      simp at hi
      subst hi
      exact ⟨c.w.heap.size, by simp only [Ctx.push]; rw [if_pos (by omega)], hb⟩
  dead := fun i hi => by
    have hn := hL.n
    by_cases h : i < L.length
    · rw [List.getElem?_append_left h] at hi
      simp only [Ctx.push]; rw [if_neg (by omega)]; exact hL.dead i hi
    · rw [List.getElem?_append_right (by omega)] at hi
      have hi0 : i - L.length = 0 := by have := (List.getElem?_eq_some_iff.1 hi).1; simp at this; omega
      rw [hi0] at hi
      simp at hi
      exact absurd hi hd
  nx := fun i g hi hx => by
    simp only [Ctx.push] at hi hx
    split at hi
    · injection hi with hi; have := hX g hx; omega
    · exact hL.nx i g hi hx

theorem push_since {c0 c : Ctx} (hS : Since c0 c) (o : Obj) : Since c0 (c.push o) where
  os := hS.os
  tape := hS.tape
  output := hS.output
  size := by simp only [Ctx.push, size_alloc]; have := hS.size; omega
  stay := fun g hg hm => (heap_alloc_lt _ _ (Nat.lt_of_lt_of_le hg hS.size)).trans (hS.stay g hg hm)
  X := hS.X
  own := fun i g hi => by
    simp only [Ctx.push] at hi
    split at hi
    · injection hi with hi; have := hS.size; right; omega
    · exact hS.own i g hi
  lt := hS.lt

/-- What an operation leaves. -/
structure Next' (c0 c : Ctx) (v : V) (L' : List B) (u : Value) (c' : Ctx) : Prop where
  le : c.Le c'
  L : RL c' L'
  since : Since c0 c'
  v : R c' v u

theorem atom_one {c : Ctx} {v : V} {u : Value} (h : R c v u) (ha : atom v = true) : u.oneCell' = true := by
  cases h with
  | undef => simp [atom] at ha
  | gun => simp [atom] at ha
  | d h => cases h <;> rfl
  | agg => simp [atom] at ha
  | tup => simp [atom] at ha
  | ptr ho => exact ho
  | row ho => exact ho
  | rp ho => exact ho
  | map ho => exact ho
  | _ => rfl

/-! ### values alone -/
theorem wp_value {P : Program} {o : Oper} {a : Act} {w w' : World} {u : Value} {next : Act → World → Prop} {Q : Exit → Act → World → Prop}
    (h : (execOp a.eval o).run P w = .ok (.value u) w') (hn : next (a.put o.dst u) w') : o.wp P a w next Q := by
  simp only [Oper.wp, h, Oper.upon]
  exact hn
theorem wp_skipped {P : Program} {o : Oper} {a : Act} {w w' : World} {next : Act → World → Prop} {Q : Exit → Act → World → Prop}
    (h : (execOp a.eval o).run P w = .ok .skip w') (hn : next (a.put o.dst undef) w') : o.wp P a w next Q := by
  simp only [Oper.wp, h, Oper.upon]
  exact hn

theorem intArith_sound {c : Ctx} {P : Program} {w : World} {op : BinOp} {k : IntKind} {x y : Int} {v : V} (h : intArith op k x y = some v) :
    ∃ u, (Op.intArith op k x y).run P w = .ok u w ∧ R c v u ∧ (op = .add ∨ op = .sub ∨ op = .mul) := by
  unfold intArith at h
  split at h <;> first | (injection h with h; subst h; exact ⟨_, rfl, .d (.i _ _), by simp⟩) | cases h
theorem intCmp_sound {c : Ctx} {P : Program} {w : World} {op : BinOp} {x y : Int} {v : V} (h : intCmp op x y = some v) :
    ∃ u, (Op.intCmp op x y).run P w = .ok u w ∧ R c v u ∧ (op = .eql ∨ op = .neq ∨ op = .lss ∨ op = .leq ∨ op = .gtr ∨ op = .geq) := by
  unfold intCmp at h
  split at h <;> first | (injection h with h; subst h; exact ⟨_, rfl, .d (.b _), by simp⟩) | cases h
theorem strOp_sound {c : Ctx} {P : Program} {w : World} {op : BinOp} {x y : ByteArray} {v : V} (h : strOp op x y = some v) :
    ∃ u, (Op.stringOp op x y).run P w = .ok u w ∧ R c v u := by
  unfold strOp at h
  split at h <;> first | (injection h with h; subst h; exact ⟨_, rfl, .d (.b _)⟩) | cases h

theorem binOp_int {P : Program} {w : World} {op : BinOp} {t : TypeId} {k : IntKind} {x y : Int} {v : V} {c : Ctx} (h : (match intArith op k x y with | some v => some v | none => intCmp op x y) = some v) :
    ∃ u, (binOp op t (.int k x) (.int k y)).run P w = .ok u w ∧ R c v u := by
  cases h1 : intArith op k x y with
  | some v1 =>
    rw [h1] at h
    injection h with h
    subst h
    obtain ⟨u, hu, hr, ho⟩ := intArith_sound (c := c) (P := P) (w := w) h1
    refine ⟨u, ?_, hr⟩
    rcases ho with rfl | rfl | rfl <;> simpa [binOp] using hu
  | none =>
    rw [h1] at h
    obtain ⟨u, hu, hr, ho⟩ := intCmp_sound (c := c) (P := P) (w := w) h
    refine ⟨u, ?_, hr⟩
    rcases ho with rfl | rfl | rfl | rfl | rfl | rfl <;> simpa [binOp] using hu

theorem equalIn_bool {P : Program} (w : World) (d : Nat) {t : TypeId} (a b : Bool) (ht : P.underlying t = some .bool) : (Op.equalIn (d + 1) t (.bool a) (.bool b)).run P w = .ok (a == b) w := by
  rw [Op.equalIn, Sem.run_bind, run_underlying ht]
  rfl
theorem eql_bool {P : Program} (w : World) {t : TypeId} (a b : Bool) (ht : P.underlying t = some .bool) : (binOp .eql t (.bool a) (.bool b)).run P w = .ok (.bool (a == b)) w := by
  have h : (Op.equal t (.bool a) (.bool b)).run P w = .ok (a == b) w := equalIn_bool w 9999 a b ht
  simp only [binOp, Sem.run_bind, h]
  rfl
theorem neq_bool {P : Program} (w : World) {t : TypeId} (a b : Bool) (ht : P.underlying t = some .bool) : (binOp .neq t (.bool a) (.bool b)).run P w = .ok (.bool (!(a == b))) w := by
  have h : (Op.equal t (.bool a) (.bool b)).run P w = .ok (a == b) w := equalIn_bool w 9999 a b ht
  simp only [binOp, Sem.run_bind, h]
  rfl

theorem binS_sound {c : Ctx} {P : Program} {w : World} {op : BinOp} {t : TypeId} {x y : V} {x' y' : Value} {v : V} (h : binS P op t x y = some v) (hx : R c x x') (hy : R c y y') (X Y : Operand) :
    ∃ u, (do eqGuard op t X Y x' y'; binOp op t x' y' : Sem Value).run P w = .ok u w ∧ R c v u := by
  unfold binS at h
  split at h
  · rename_i k a k' b
    rw [hx.int, hy.int]
    split at h
    · rename_i hk
      subst hk
      obtain ⟨u, hu, hr⟩ := binOp_int (P := P) (w := w) (t := t) (c := c) h
      refine ⟨u, ?_, hr⟩
      have hg : (eqGuard op t X Y (.int k a) (.int k b)).run P w = .ok () w := by unfold eqGuard; split <;> rfl
      rw [Sem.run_bind, hg]
      exact hu
    · cases h
  · rename_i a b
    rw [hx.str, hy.str]
    obtain ⟨u, hu, hr⟩ := strOp_sound (c := c) (P := P) (w := w) h
    refine ⟨u, ?_, hr⟩
    have hg : (eqGuard op t X Y (.string a) (.string b)).run P w = .ok () w := by unfold eqGuard; split <;> rfl
    rw [Sem.run_bind, hg]
    have : binOp op t (.string a) (.string b) = Op.stringOp op a b := by cases op <;> rfl
    simpa [this] using hu
  · rename_i a b
    rw [hx.bool, hy.bool]
    split at h
    · rename_i ht
      split at h
      · injection h with h
        subst h
        refine ⟨.bool (a == b), ?_, .d (.b _)⟩
        have hg : (eqGuard .eql t X Y (.bool a) (.bool b)).run P w = .ok () w := by unfold eqGuard; split <;> rfl
        rw [Sem.run_bind, hg]
        exact eql_bool w a b ht
      · injection h with h
        subst h
        refine ⟨.bool (!(a == b)), ?_, .d (.b _)⟩
        have hg : (eqGuard .neq t X Y (.bool a) (.bool b)).run P w = .ok () w := by unfold eqGuard; split <;> rfl
        rw [Sem.run_bind, hg]
        exact neq_bool w a b ht
      · cases h
    · cases h
  · cases h


/-! ### memory -/
theorem cells_sound {c : Ctx} {v : V} {u : Value} (h : R c v u) (ha : (cellsV v).all atom = true) :
    (cellsV v).length = u.cells.size ∧ ∀ (i : Nat) x y, (cellsV v)[i]? = some x → u.cells[i]? = some y → R c x y ∧ y.oneCell' = true := by
  by_cases hv : ∃ cs, v = .agg cs
  · obtain ⟨cs, rfl⟩ := hv
    cases h with
    | agg hl h =>
      refine ⟨hl, fun i x y hx hy => ⟨h i x y hx hy, atom_one (h i x y hx hy) ?_⟩⟩
      simp only [cellsV, List.all_eq_true] at ha
      exact ha x (List.mem_of_getElem? hx)
  · have h1 : cellsV v = [v] := by
      cases v <;> first | rfl | exact absurd ⟨_, rfl⟩ hv
    rw [h1] at ha ⊢
    have h2 := atom_one h (by simpa using ha)
    have h3 : u.cells = #[u] := by cases u <;> first | rfl | simp [Value.oneCell'] at h2
    rw [h3]
    refine ⟨rfl, fun i x y hx hy => ?_⟩
    cases i with
    | zero => simp at hx hy; subst hx; subst hy; exact ⟨h, h2⟩
    | succ i => simp at hx

theorem cells_all {c : Ctx} {v : V} {u : Value} (h : R c v u) (ha : (cellsV v).all atom = true) : ∀ y ∈ u.cells.toList, y.oneCell' = true := by
  obtain ⟨h1, h2⟩ := cells_sound h ha
  intro y hy
  obtain ⟨i, hi⟩ := List.mem_iff_getElem?.1 hy
  rw [Array.getElem?_toList] at hi
  have hlt := lt_of_get hi
  exact (h2 i _ y (List.getElem?_eq_getElem (by omega)) hi).2

theorem zero_sound {P : Program} {t : TypeId} {z : V} (h : zeroT P t = some z) (c : Ctx) (w : World) : ∃ u, (zeroValue t).run P w = .ok u w ∧ R c z u := by
  unfold zeroT at h
  obtain ⟨u, hu, rfl⟩ := Option.map_eq_some_iff.1 h
  obtain ⟨i, hi, hz⟩ := Option.bind_eq_some_iff.1 hu
  refine ⟨u, ?_, ofConst_sound c u⟩
  have ht : (typeInfo t).run P w = .ok i w := by
    unfold typeInfo
    rw [Sem.run_bind]
    show ((match P.info? t with | some i => pure i | none => stuck "no such type") : Sem TypeInfo).run P w = _
    rw [hi]; rfl
  unfold zeroValue
  rw [Sem.run_bind, ht]
  show ((match i.zero with | some v => pure v | none => _) : Sem Value).run P w = _
  rw [hz]; rfl

theorem new_sound {P : Program} {c0 c : Ctx} {L : List B} (hL : RL c L) (hS : Since c0 c) {t : TypeId} {v : V} {u : Value} (h : R c v u) (ha : (cellsV v).all atom = true) :
    (newVar t u).run P c.w = .ok ⟨c.w.heap.size, 0, none⟩ (c.w.alloc (.cells u.cells t)) ∧
    Next' c0 c (.ptr L.length 0) (L ++ [.cells t (cellsV v)]) (.pointer (some ⟨c.w.heap.size, 0, none⟩)) (c.push (.cells u.cells t)) := by
  have hle := push_le hL (.cells u.cells t)
  refine ⟨rfl, hle, push_RL hL (fun g hg => Nat.lt_of_lt_of_le (hS.lt g hg) hS.size) _ (.cells u.cells (heap_alloc_at _ _) (Nat.le_of_eq (cells_sound h ha).1) (cells_all h ha) (fun i x y hx hy => ((cells_sound h ha).2 i x y hx hy).1.mono hle)) (by simp), push_since hS _, ?_⟩
  refine .ptr rfl (by simp only [Ctx.push]; rw [hL.n]; omega) (fun g hg => ?_)
  simp only [Ctx.push] at hg
  rw [if_pos hL.n.symm] at hg
  injection hg with hg
  rw [hg]

theorem alloc_sound {P : Program} {c0 c : Ctx} {L : List B} (hL : RL c L) (hS : Since c0 c) {t : TypeId} {z : V} (hz : zeroT P t = some z) (ha : (cellsV z).all atom = true) :
    ∃ u c', (Instr.alloc t true (.tuple #[])).run P c.w = .ok u c'.w ∧ Next' c0 c (.ptr L.length 0) (L ++ [.cells t (cellsV z)]) u c' := by
  obtain ⟨u, hu, hr⟩ := zero_sound hz c c.w
  obtain ⟨h1, h2⟩ := new_sound (P := P) hL hS (t := t) hr ha
  refine ⟨_, _, ?_, h2⟩
  simp only [Instr.alloc, Sem.run_bind, hu, Result.andThen_ok, h1]
  rfl
theorem box_sound {P : Program} {c0 c : Ctx} {L : List B} (hL : RL c L) (hS : Since c0 c) {t : TypeId} {v : V} {u : Value} (h : R c v u) (ha : (cellsV v).all atom = true) :
    ∃ u' c', (Instr.box t u).run P c.w = .ok u' c'.w ∧ Next' c0 c (.ptr L.length 0) (L ++ [.cells t (cellsV v)]) u' c' := by
  obtain ⟨h1, h2⟩ := new_sound (P := P) hL hS (t := t) h ha
  refine ⟨_, _, ?_, h2⟩
  simp only [Instr.box, Sem.run_bind, h1, Result.andThen_ok]
  rfl

/-- Cells read at a pointer. -/
theorem add_plain' (g o j : Nat) : (⟨g, o, none⟩ : Addr).add j = ⟨g, o + j, none⟩ := by unfold Addr.add; split <;> simp_all

theorem cellsAt_sound {c : Ctx} {L : List B} (hL : RL c L) {p : V} {u : Value} (hp : R c p u) {n : Nat} {vs : List V} (h : cellsAt L p n = some vs) (hn : 0 < n) :
    ∃ (ad : Addr) (us : List Value), u = .pointer (some ad) ∧ ad.spot = none ∧ us.length = n ∧ vs.length = n ∧ (∀ (j : Nat) y, us[j]? = some y → c.w.cell? ⟨ad.block, ad.off + j, none⟩ = some y) ∧ ∀ (j : Nat) x y, vs[j]? = some x → us[j]? = some y → R c x y := by
  cases p with
  | ptr k off =>
    simp only [cellsAt] at h
    split at h
    · rename_i e cs hk
      split at h
      · rename_i hlen
        injection h with h
        subst h
        obtain ⟨g, hg, hb⟩ := hL.live k _ hk (by simp)
        cases hp with
        | ptr _ _ hpt =>
          cases hb with
          | cells C hC hl _ hR =>
            refine ⟨⟨g, off, none⟩, (C.toList.drop off).take n, hpt g hg, rfl, by simp; omega, by simp; omega, fun j y hy => ?_, fun j x y hx hy => ?_⟩
            · rw [List.getElem?_take] at hy
              split at hy
              · rw [List.getElem?_drop, Array.getElem?_toList] at hy
                simp [World.cell?, hC, hy]
              · cases hy
            · rw [List.getElem?_take] at hx hy
              split at hy
              · rw [if_pos (by assumption)] at hx
                rw [List.getElem?_drop] at hx hy
                rw [Array.getElem?_toList] at hy
                exact hR _ x y hx hy
              · cases hy
      · cases h
    · cases h
  | dp cs off =>
    simp only [cellsAt] at h
    split at h
    · rename_i hlen
      injection h with h
      subst h
      cases hp with
      | dp vs hok hs hc =>
        rename_i ad
        refine ⟨ad, (List.range n).map (fun j => vs (off + j)), rfl, hs, by simp, by simp; omega, fun j y hy => ?_, fun j x y hx hy => ?_⟩
        · have hj := (List.getElem?_eq_some_iff.1 hy).1
          simp at hj
          simp [hj] at hy
          subst hy
          have h1 := (hc (off + j) _ (List.getElem?_eq_getElem (by omega)) (by omega)).1
          rwa [show off + j - off = j by omega] at h1
        · have hj := (List.getElem?_eq_some_iff.1 hy).1
          simp at hj
          simp [hj] at hy
          subst hy
          simp only [List.getElem?_map, List.getElem?_take, if_pos hj, List.getElem?_drop, Option.map_eq_some_iff] at hx
          obtain ⟨d, hd, rfl⟩ := hx
          exact .d (hc (off + j) d hd (by omega)).2
    · cases h
  | rp sz k j off =>
    simp only [cellsAt] at h
    split at h
    · rename_i e sz' xs hk
      split at h
      · rename_i hsz
        subst hsz
        split at h
        · rename_i cs hj
          split at h
          · rename_i hlen
            injection h with h
            subst h
            obtain ⟨g, hg, hb⟩ := hL.live k _ hk (by simp)
            cases hp with
            | rp _ _ hpt =>
              obtain ⟨e', C', hC', hsz, rfl⟩ := hpt g hg
              cases hb with
              | row C hC hl _ hz hR =>
                have hcs : cs.length = sz := hz cs (List.mem_of_getElem? hj)
                have hjl := (List.getElem?_eq_some_iff.1 hj).1
                have hCs : j * sz + sz ≤ C.size := by
                  have : (j + 1) * sz ≤ xs.length * sz := Nat.mul_le_mul_right _ hjl
                  rw [Nat.succ_mul] at this; omega
                refine ⟨⟨g, j * sz + off, none⟩, (C.toList.drop (j * sz + off)).take n, rfl, rfl, by simp; omega, by simp; omega, fun i y hy => ?_, fun i x y hx hy => ?_⟩
                · rw [List.getElem?_take] at hy
                  split at hy
                  · rw [List.getElem?_drop, Array.getElem?_toList] at hy
                    simp [World.cell?, hC, hy]
                  · cases hy
                · rw [List.getElem?_take] at hy
                  split at hy
                  · rename_i hin
                    simp only [List.getElem?_map, List.getElem?_take, if_pos hin, List.getElem?_drop, Option.map_eq_some_iff] at hx
                    obtain ⟨d, hd, rfl⟩ := hx
                    obtain ⟨y', hy', hk'⟩ := hR j cs (off + i) d hj hd
                    rw [List.getElem?_drop, Array.getElem?_toList, Nat.add_assoc, hy'] at hy
                    injection hy with hy
                    subst hy
                    exact .d hk'
                  · cases hy
          · cases h
        · cases h
      · cases h
    · cases h
  | _ => simp [cellsAt] at h

theorem isAgg_sound {P : Program} {t : TypeId} {b : Bool} (h : isAggT P t = some b) (w : World) : (isAgg t).run P w = .ok b w := by
  unfold isAggT at h
  unfold isAgg
  split at h
  · injection h with h; subst h; rename_i hu; rw [Sem.run_bind, run_underlying hu]; rfl
  · injection h with h; subst h; rename_i hu; rw [Sem.run_bind, run_underlying hu]; rfl
  · rename_i d h1 h2 hu
    injection h with h; subst h
    rw [Sem.run_bind, run_underlying hu]
    simp only [Result.andThen_ok]
    rfl
  · cases h
theorem size_sound {P : Program} {t : TypeId} {n : Nat} (h : sizeT P t = some n) (w : World) : (sizeOf t).run P w = .ok n w := by
  unfold sizeT at h
  obtain ⟨i, hi, rfl⟩ := Option.map_eq_some_iff.1 h
  have ht : (typeInfo t).run P w = .ok i w := by
    unfold typeInfo
    rw [Sem.run_bind]
    show ((match P.info? t with | some i => pure i | none => stuck "no such type") : Sem TypeInfo).run P w = _
    rw [hi]; rfl
  unfold sizeOf
  rw [Sem.run_bind, ht]
  rfl


theorem cell_eta {w : World} {ad : Addr} {j : Nat} {y : Value} (hs : ad.spot = none) (h : w.cell? ⟨ad.block, ad.off + j, none⟩ = some y) : w.cell? (ad.add j) = some y := by
  obtain ⟨g, o, s⟩ := ad
  simp only at hs h
  subst hs
  rw [add_plain']
  exact h

theorem loadV_sound {P : Program} {c : Ctx} {L : List B} (hL : RL c L) {t : TypeId} {p v : V} {u : Value} (hp : R c p u) (h : loadV P L t p = some v) :
    ∃ u', (Instr.loadAt t u).run P c.w = .ok u' c.w ∧ R c v u' := by
  unfold loadV at h
  split at h
  · rename_i n ha hn
    split at h
    · rename_i h0
      obtain ⟨vs, hvs, rfl⟩ := Option.map_eq_some_iff.1 h
      obtain ⟨ad, us, rfl, hs, hul, hvl, hc, hr⟩ := cellsAt_sound hL hp hvs h0
      refine ⟨.agg us.toArray, ?_, .agg (by simp; omega) (fun i x y hx hy => hr i x y hx (by simpa using hy))⟩
      have h1 : (loadCells ad n).run P c.w = .ok us.toArray c.w := by
        rw [← hul]
        exact run_loadCells_list c.w ad us (fun j y hj => cell_eta hs (hc j y hj))
      simp only [Instr.loadAt, Instr.sureAddr, loadVar, Sem.run_bind, Result.andThen_ok, isAgg_sound ha, size_sound hn, h1]
      simp [isAgg_sound ha, size_sound hn, h1]
    · cases h
  · rename_i n ha
    split at h
    · rename_i v' hv'
      injection h with h
      subst h
      obtain ⟨ad, us, rfl, hs, hul, hvl, hc, hr⟩ := cellsAt_sound hL hp hv' (by omega)
      obtain ⟨y, rfl⟩ : ∃ y, us = [y] := by
        match us, hul with
        | [y], _ => exact ⟨y, rfl⟩
      refine ⟨y, ?_, hr 0 _ _ rfl rfl⟩
      have hce : c.w.cell? ad = some y := by
        have := cell_eta hs (hc 0 y rfl)
        have h2 : ad.add 0 = ad := by simp [Addr.add]
        rwa [h2] at this
      have h1 : (load ad).run P c.w = .ok y c.w := by simp only [load, Sem.run, hce]
      simp only [Instr.loadAt, Instr.sureAddr, loadVar, Sem.run_bind, isAgg_sound ha]
      simp only [Sem.run_pure, Result.andThen_ok, Sem.run_bind, isAgg_sound ha]
      exact h1
    · cases h
  · cases h

theorem live_at {c : Ctx} {L : List B} (hL : RL c L) {k : Nat} (h : liveB L k = true) : ∃ g, c.m k = some g := by
  unfold liveB at h
  split at h
  · cases h
  · rename_i b hb hk
    obtain ⟨g, hg, _⟩ := hL.live k b hk (fun e => hb (by rw [← e]))
    exact ⟨g, hg⟩
  · cases h

theorem fieldV_sound {P : Program} {c : Ctx} {L : List B} (hL : RL c L) {t : TypeId} {p v : V} {u : Value} {f : Nat} (hp : R c p u) (h : fieldV P L t p f = some v) :
    ∃ u', (Instr.fieldAt t u f).run P c.w = .ok u' c.w ∧ R c v u' := by
  unfold fieldV at h
  split at h
  · rename_i fs hu
    split at h
    · rename_i fd hf
      split at h
      · rename_i s hs
        split at h
        · cases h
        · rename_i h0
          have key : ∀ ad : Addr, u = .pointer (some ad) → ad.spot = none → (Instr.fieldAt t u f).run P c.w = .ok (.pointer (some ⟨ad.block, ad.off + fd.offset, none⟩)) c.w := by
            rintro ⟨g, o, sp⟩ rfl hsp
            simp only at hsp
            subst hsp
            unfold Instr.fieldAt
            rw [Sem.run_bind, run_underlying hu]
            simp only [Result.andThen_ok, hf, Instr.sureAddr, Sem.run_bind, fieldPlace, size_sound hs, Sem.run_pure]
            simp [h0, add_plain', size_sound hs]
          split at h
          · rename_i k off
            split at h
            case isFalse => cases h
            rename_i hlv
            injection h with h
            subst h
            cases hp with
            | ptr ho hk hpt =>
              obtain ⟨g, hg⟩ := live_at hL hlv
              exact ⟨_, key _ (hpt g hg) rfl, .ptr rfl hk (fun g' hg' => by rw [hg] at hg'; injection hg' with hg'; subst hg'; rfl)⟩
          · rename_i cs off
            injection h with h
            subst h
            cases hp with
            | dp vs hok hsp hc =>
              rename_i ad
              refine ⟨_, key _ rfl hsp, .dp vs hok rfl (fun i x hi hle => ?_)⟩
              have := hc i x hi (by omega)
              rw [show ad.off + fd.offset + (i - (off + fd.offset)) = ad.off + (i - off) by omega]
              exact this
          · rename_i sz k j off
            split at h
            case isFalse => cases h
            rename_i hlv
            injection h with h
            subst h
            cases hp with
            | rp ho hk hpt =>
              obtain ⟨g, hg⟩ := live_at hL hlv
              obtain ⟨e, C, hC, hsz, hu'⟩ := hpt g hg
              exact ⟨_, key _ hu' rfl, .rp rfl hk (fun g' hg' => by rw [hg] at hg'; injection hg' with hg'; subst hg'; exact ⟨e, C, hC, hsz, by rw [Nat.add_assoc]⟩)⟩
          · cases h
      · cases h
    · cases h
  · cases h


/-! ### a store -/
/-- The block g is written, its shape kept. -/
def Ctx.put (c : Ctx) (g : Nat) (C : Array Value) : Ctx := { c with w := c.w.setRow g C }

theorem setRow_other (w : World) (g : Nat) (C : Array Value) {g' : Nat} (h : g' ≠ g) : (w.setRow g C).heap[g']? = w.heap[g']? := by
  simp only [World.setRow]
  rw [Array.getElem?_modify]
  split
  · rename_i e; exact absurd e.symm h
  · rfl
theorem setRow_size (w : World) (g : Nat) (C : Array Value) : (w.setRow g C).heap.size = w.heap.size := by simp [World.setRow]

theorem put_le {c : Ctx} {L : List B} (hL : RL c L) {k g : Nat} {C C' : Array Value} {e : TypeId} (hk : c.m k = some g) (hC : c.w.heap[g]? = some (.cells C e (0, 0))) (hs : C'.size = C.size) : c.Le (c.put g C') where
  n := Nat.le_refl _
  X := rfl
  m := fun _ _ => .inl rfl
  data := fun g' hg' => setRow_other _ _ _ (fun e => hg'.2.2 k (by rw [e]; exact hk))
  dis := fun i g' hi hg' => hg'.2.2 i hi
  shape := fun k' g' C1 e' hk' h1 _ h2 => by
    by_cases e : g' = g
    · subst e
      rw [hC] at h2
      injection h2 with h2
      injection h2 with h2 h3
      subst h2; subst h3
      exact ⟨C', setRow_heap c.w g' C C' _ _ hC, hs⟩
    · exact ⟨C1, (setRow_other _ _ _ e).trans h2, rfl⟩

theorem put_RL {c : Ctx} {L : List B} (hL : RL c L) {k g : Nat} {C C' : Array Value} {e : TypeId} (hk : c.m k = some g) (hC : c.w.heap[g]? = some (.cells C e (0, 0))) (hs : C'.size = C.size) {b : B} (hb : RB (c.put g C') b g) (hd : b ≠ .dead) : RL (c.put g C') (L.set k b) where
  n := by simp [Ctx.put, hL.n]
  inj := hL.inj
  lt := fun i g' hi => by
    have := hL.lt i g' hi
    simp only [Ctx.put, setRow_size]
    exact this
  live := fun i b' hi hb' => by
    rw [List.getElem?_set] at hi
    split at hi
    · rename_i e
      subst e
      split at hi
      · injection hi with hi; subst hi; exact ⟨g, hk, hb⟩
      · cases hi
    · rename_i hne
      obtain ⟨g', hg', hr⟩ := hL.live i b' hi hb'
      exact ⟨g', hg', hr.mono (put_le hL hk hC hs) (setRow_other _ _ _ (fun e => hne (hL.inj k i g hk (by rw [← e]; exact hg'))))⟩
  dead := fun i hi => by
    rw [List.getElem?_set] at hi
    split at hi
    · split at hi
      · injection hi with hi; exact absurd hi hd
      · cases hi
    · exact hL.dead i hi
  nx := hL.nx

theorem put_since {c0 c : Ctx} (hS : Since c0 c) {k g : Nat} (hk : c.m k = some g) (C : Array Value) : Since c0 (c.put g C) where
  os := hS.os
  tape := hS.tape
  output := hS.output
  size := by simp only [Ctx.put, setRow_size]; exact hS.size
  stay := fun g' hg' hm => by
    refine (setRow_other _ _ _ (fun e => ?_)).trans (hS.stay g' hg' hm)
    subst e
    rcases hS.own k g' hk with ⟨j, hj⟩ | h
    · exact hm j hj
    · omega
  X := hS.X
  own := hS.own
  lt := hS.lt

theorem over_length (vs : List V) : ∀ (cs : List V) (off : Nat), (over cs off vs).length = cs.length := by
  induction vs with
  | nil => intro cs off; rfl
  | cons v vs ih => intro cs off; rw [over, ih, List.length_set]
theorem over_at (vs : List V) : ∀ (cs : List V) (off : Nat), off + vs.length ≤ cs.length → ∀ (i : Nat), (over cs off vs)[i]? = if off ≤ i ∧ i < off + vs.length then vs[i - off]? else cs[i]? := by
  induction vs with
  | nil => intro cs off _ i; rw [over, if_neg (by simp)]
  | cons v vs ih =>
    intro cs off h i
    rw [over, ih _ _ (by simp at h ⊢; omega)]
    simp only [List.length_cons] at h ⊢
    by_cases h1 : off + 1 ≤ i ∧ i < off + 1 + vs.length
    · rw [if_pos h1, if_pos (by omega), show i - off = (i - (off + 1)) + 1 by omega, List.getElem?_cons_succ]
    · rw [if_neg h1, List.getElem?_set]
      by_cases h2 : off = i
      · rw [if_pos h2, if_pos (by omega), if_pos (by omega), h2, Nat.sub_self]; rfl
      · rw [if_neg h2, if_neg (by omega)]

theorem closeAll_sound {vs : List V} {ds : List D} (h : closeAll vs = some ds) : ds.length = vs.length ∧ ∀ (i : Nat) d, ds[i]? = some d → ∃ v, vs[i]? = some v ∧ close0 v = some d := by
  induction vs generalizing ds with
  | nil => simp [closeAll] at h; subst h; simp
  | cons v vs ih =>
    unfold closeAll at h
    split at h
    · rename_i x hx
      split at h
      · rename_i xs hxs
        injection h with h
        subst h
        obtain ⟨h1, h2⟩ := ih hxs
        refine ⟨by simp [h1], fun i d hi => ?_⟩
        cases i with
        | zero => simp at hi; subst hi; exact ⟨v, rfl, hx⟩
        | succ i => simpa using h2 i d (by simpa using hi)
      · cases h
    · cases h
theorem close0_sound {c : Ctx} {v : V} {u : Value} {d : D} (h : close0 v = some d) (hr : R c v u) : K c.w c.ok d u := by
  unfold close0 at h
  split at h
  · injection h with h; subst h; cases hr with | d h => exact h
  · injection h with h; subst h
    cases hr
    exact .sl [] 0 none 0 (fun _ _ => undef) (Nat.le_refl _) (Nat.zero_le _) (fun h => absurd h (by simp)) (fun j x i d hj => by simp at hj)
  · cases h

theorem storeV_sound {P : Program} {c0 c : Ctx} {L L' : List B} (hL : RL c L) (hS : Since c0 c) {t : TypeId} {p v : V} {u x : Value} (hp : R c p u) (hv : R c v x) (h : storeV P L t p v = some L') :
    ∃ c', (Instr.storeAt t u x).run P c.w = .ok () c'.w ∧ c.Le c' ∧ RL c' L' ∧ Since c0 c' := by
  unfold storeV at h
  split at h
  case h_2 => cases h
  rename_i n hn
  split at h
  case isFalse => cases h
  rename_i hcond
  obtain ⟨hlen, hat⟩ := hcond
  obtain ⟨hcl, hcs⟩ := cells_sound hv hat
  have hone := cells_all hv hat
  have run : ∀ (g o : Nat) (e : TypeId) (C : Array Value), u = .pointer (some ⟨g, o, none⟩) → c.w.heap[g]? = some (.cells C e (0, 0)) → o + n ≤ C.size →
      (Instr.storeAt t u x).run P c.w = .ok () (c.w.setRow g (C.toList.take o ++ x.cells.toList ++ C.toList.drop (o + n)).toArray) := by
    intro g o e C hu hC ho
    subst hu
    have h1 := run_storeCells_at (P := P) g o e x.cells.toList 0 C c.w hC (by simp; omega) hone
    have hsz : x.cells.size = n := by omega
    simp only [Instr.storeAt, Instr.sureAddr, storeVar, Sem.run_bind, Sem.run_pure, Result.andThen_ok, size_sound hn]
    rw [if_neg (by simp [hsz])]
    simp only [Nat.add_zero, Array.length_toList, hsz] at h1
    simpa using h1
  have hxc : x.cells.toList.length = n := by simp; omega
  have at_ : ∀ (C : Array Value) (o : Nat), o + n ≤ C.size → ∀ (i : Nat), (C.toList.take o ++ x.cells.toList ++ C.toList.drop (o + n))[i]? = if o ≤ i ∧ i < o + n then x.cells[i - o]? else C[i]? := by
    intro C o ho i
    have hC : C.toList.length = C.size := by simp
    by_cases h1 : i < o
    · rw [if_neg (by omega), List.append_assoc, List.getElem?_append_left (by simp; omega), List.getElem?_take, if_pos h1, Array.getElem?_toList]
    · by_cases h2 : i < o + n
      · rw [if_pos (by omega), List.append_assoc, List.getElem?_append_right (by simp; omega), List.getElem?_append_left (by simp; omega)]
        simp only [List.length_take, hC, Nat.min_eq_left (show o ≤ C.size by omega), Array.getElem?_toList]
      · rw [if_neg (by omega), List.getElem?_append_right (by simp; omega), List.getElem?_drop]
        simp only [List.length_append, List.length_take, hC, Nat.min_eq_left (show o ≤ C.size by omega), hxc, Array.getElem?_toList]
        rw [show o + n + (i - (o + n)) = i by omega]
  have sz_ : ∀ (C : Array Value) (o : Nat), o + n ≤ C.size → (C.toList.take o ++ x.cells.toList ++ C.toList.drop (o + n)).toArray.size = C.size := by
    intro C o ho
    simp
    omega
  split at h
  · rename_i k off
    split at h
    case h_2 => cases h
    rename_i e cs hk
    split at h
    case isFalse => cases h
    rename_i hoff
    injection h with h
    subst h
    obtain ⟨g, hg, hb⟩ := hL.live k _ hk (by simp)
    cases hp with
    | ptr _ _ hpt =>
      cases hb with
      | cells C hC hl ho hR =>
        have hbd : off + n ≤ C.size := by omega
        have hle := put_le hL hg hC (sz_ C off hbd)
        refine ⟨c.put g _, run g off e C (hpt g hg) hC hbd, hle, put_RL hL hg hC (sz_ C off hbd) (.cells _ (setRow_heap c.w g C _ _ _ hC) ?_ ?_ ?_) (by simp), put_since hS hg _⟩
        · rw [over_length, sz_ C off hbd]; exact hl
        · intro y hy
          simp only [List.mem_append] at hy
          rcases hy with (hy | hy) | hy
          · exact ho y (List.mem_of_mem_take hy)
          · exact hone y hy
          · exact ho y (List.mem_of_mem_drop hy)
        · intro i a b ha hb
          rw [over_at _ _ _ (by omega)] at ha
          rw [List.getElem?_toArray, at_ C off hbd] at hb
          rw [hlen] at ha
          split at ha
          · rename_i hin
            rw [if_pos hin] at hb
            exact (hcs _ a b ha hb).1.mono hle
          · rename_i hin
            rw [if_neg hin] at hb
            exact (hR i a b ha hb).mono hle
  · rename_i sz k j off
    split at h
    case h_2 => cases h
    rename_i e sz' xs ds hk hds
    split at h
    case isFalse => cases h
    rename_i hoff
    obtain ⟨rfl, rfl, rfl, hj⟩ := hoff
    injection h with h
    subst h
    obtain ⟨g, hg, hb⟩ := hL.live k _ hk (by simp)
    cases hp with
    | rp _ _ hpt =>
      obtain ⟨e', C', hC', hsz, hu⟩ := hpt g hg
      cases hb with
      | row C hC hl ho hz hR =>
        rw [hC] at hC'
        injection hC' with hC'
        injection hC' with hC' _
        subst hC'
        have hbd : j * n + 0 + n ≤ C.size := by omega
        have hle := put_le hL hg hC (sz_ C _ hbd)
        obtain ⟨hdl, hdat⟩ := closeAll_sound hds
        refine ⟨c.put g _, run g _ e C hu hC hbd, hle, put_RL hL hg hC (sz_ C _ hbd) (.row _ (setRow_heap c.w g C _ _ _ hC) ?_ ?_ ?_ ?_) (by simp), put_since hS hg _⟩
        · rw [List.length_set, sz_ C _ hbd]; exact hl
        · intro y hy
          simp only [List.mem_append] at hy
          rcases hy with (hy | hy) | hy
          · exact ho y (List.mem_of_mem_take hy)
          · exact hone y hy
          · exact ho y (List.mem_of_mem_drop hy)
        · intro y hy
          rcases List.mem_or_eq_of_mem_set hy with hy | hy
          · exact hz y hy
          · rw [hy, hdl, hlen]
        · intro j' y i d hy hd
          rw [List.getElem?_set] at hy
          split at hy
          · rename_i ejj
            subst ejj
            injection hy with hy
            subst hy
            have hi : i < n := by have := (List.getElem?_eq_some_iff.1 hd).1; omega
            obtain ⟨v', hv', hcl'⟩ := hdat i d hd
            have hix : i < x.cells.size := by omega
            refine ⟨x.cells[i], ?_, hle.kd (close0_sound hcl' (hcs i v' _ hv' (Array.getElem?_eq_getElem hix)).1)⟩
            rw [List.getElem?_toArray, at_ C _ hbd, if_pos (by omega), show j * n + i - (j * n + 0) = i by omega]
            exact Array.getElem?_eq_getElem hix
          · rename_i hne
            obtain ⟨y', hy', hk'⟩ := hR j' y i d hy hd
            refine ⟨y', ?_, hle.kd hk'⟩
            have hi : i < n := by have := (List.getElem?_eq_some_iff.1 hd).1; have := hz y (List.mem_of_getElem? hy); omega
            rw [List.getElem?_toArray, at_ C _ hbd, if_neg ?_]
            · exact hy'
            · intro ⟨h1, h2⟩
              rcases Nat.lt_or_gt_of_ne hne with h3 | h3
              · have := Nat.mul_le_mul_right n h3; rw [Nat.succ_mul] at this; omega
              · have := Nat.mul_le_mul_right n h3; rw [Nat.succ_mul] at this; omega
  · cases h


theorem add_zero' (ad : Addr) : ad.add 0 = ad := by simp [Addr.add]

theorem getK_some {α β : Type} {xs : List α} {i : Int} {f : α → Option β} {r : β} (h : getK xs i f = some r) : 0 ≤ i ∧ ∃ x, xs[i.toNat]? = some x ∧ f x = some r := by
  unfold getK at h
  split at h
  case isFalse => cases h
  rename_i h0
  split at h
  case h_2 => cases h
  rename_i x hx
  exact ⟨h0, x, hx, h⟩
theorem bytK_some {β : Type} {s : ByteArray} {i : Int} {f : Int → Option β} {r : β} (h : bytK s i f = some r) : 0 ≤ i ∧ ∃ x : UInt8, s[i.toNat]? = some x ∧ f x.toNat = some r := by
  unfold bytK at h
  split at h
  case isFalse => cases h
  rename_i h0
  split at h
  case h_2 => cases h
  rename_i x hx
  exact ⟨h0, x, hx, h⟩
theorem tcells_some {α : Type} : ∀ {q : List Kd} {cs : List D} {f : List D → Option α} {r : α}, tcells q cs f = some r → f cs = some r ∧ cs.length = q.length
  | [], cs, f, r, h => by
    unfold tcells tcE at h
    split at h
    · exact ⟨h, rfl⟩
    · cases h
  | .i k :: q, cs, f, r, h => by
    unfold tcells tcI at h
    split at h
    · split at h
      case isFalse => cases h
      rename_i e
      subst e
      obtain ⟨h1, h2⟩ := tcells_some h
      exact ⟨h1, by simp [h2]⟩
    · cases h
  | .b :: q, cs, f, r, h => by
    unfold tcells tcB at h
    split at h
    · obtain ⟨h1, h2⟩ := tcells_some h
      exact ⟨h1, by simp [h2]⟩
    · cases h
  | .s :: q, cs, f, r, h => by
    unfold tcells tcS at h
    split at h
    · obtain ⟨h1, h2⟩ := tcells_some h
      exact ⟨h1, by simp [h2]⟩
    · cases h
  | .sl :: q, cs, f, r, h => by
    unfold tcells tcL at h
    split at h
    · obtain ⟨h1, h2⟩ := tcells_some h
      exact ⟨h1, by simp [h2]⟩
    · cases h

theorem indexAddr_sound {E : Env} {c0 c : Ctx} {L : List B} {k : V → List B → Res} {r : End × List B} (hL : RL c L) (hS : Since c0 c) {t : TypeId} {x : V} {u : Value} {i : Int} (hx : R c x u) (h : indexAddrK E k L t x i = some r) :
    ∃ v u', (Instr.indexAt t u (.int .i64 i)).run E.P c.w = .ok u' c.w ∧ R c v u' ∧ k v L = some r := by
  unfold indexAddrK at h
  split at h
  case h_3 => cases h
  case h_2 =>
    rename_i len e hu
    split at h
    case h_2 => cases h
    rename_i s b off hs
    split at h
    case isFalse => cases h
    rename_i hc
    obtain ⟨hlv, hi0, hi1⟩ := hc
    obtain ⟨g, hg⟩ := live_at hL hlv
    cases hx with
    | ptr ho hk hpt =>
      refine ⟨_, .pointer (some ⟨g, off + i.toNat * s, none⟩), ?_, .ptr rfl hk (fun g' hg' => ?_), h⟩
      · have hil : 0 ≤ i ∧ i < (len : Int) := ⟨hi0, hi1⟩
        rw [hpt g hg]
        simp only [Instr.indexAt, asIntOf, Instr.sureAddr, Sem.run_bind, Sem.run_pure, Result.andThen_ok, run_underlying hu]
        simp [size_sound hs, hil, add_plain', run_underlying hu]
      · rw [hg] at hg'
        injection hg' with hg'
        rw [hg']
  rename_i e hu
  split at h
  case h_2 => cases h
  rename_i s hs
  split at h
  · rename_i xs
    split at h
    case h_2 => cases h
    rename_i q hq
    split at h
    case isFalse => cases h
    rename_i hlen0
    obtain ⟨hi, cs, hcs, h⟩ := getK_some h
    obtain ⟨h, hlen1⟩ := tcells_some h
    have hlen : cs.length = s ∧ 0 < s := by omega
    cases hx with
    | d hx =>
      cases hx with
      | sl _ sz A cap uu hc hm hA hK =>
        have hlt := (List.getElem?_eq_some_iff.1 hcs).1
        obtain ⟨ad, rfl, hok, hsp, hcell⟩ := hA (by omega)
        obtain ⟨hsz, hcl⟩ := hcell _ cs hcs
        obtain rfl : sz = s := by omega
        obtain ⟨g, o, sp⟩ := ad
        simp only at hsp hok hcl
        subst hsp
        refine ⟨.dp cs 0, .pointer (some ⟨g, o + i.toNat * sz, none⟩), ?_, .dp (fun j => uu i.toNat j) hok rfl (fun j d hj _ => ⟨?_, hK _ _ _ _ hcs hj⟩), h⟩
        · have hil : 0 ≤ i ∧ i < (xs.length : Int) := by omega
          simp only [Instr.indexAt, asIntOf, Sem.run_bind, Sem.run_pure, Result.andThen_ok, run_underlying hu]
          simp [size_sound hs, hil, add_plain', run_underlying hu]
        · have := hcl j d hj
          rw [show o + i.toNat * sz + (j - 0) = o + (i.toNat * sz + j) by omega]
          exact this
  · rename_i sz b n0 n
    split at h
    case h_3 => cases h
    case h_2 =>
      rename_i e' cs hb
      split at h
      case isFalse => cases h
      rename_i hc
      obtain ⟨rfl, h0, hi0, hi1⟩ := hc
      obtain ⟨g, hg, hbb⟩ := hL.live b _ hb (by simp)
      cases hx with
      | row ho hk hrow =>
        obtain ⟨A, cap, e2, C, rfl, hC, hcap, hCs, hml, hA⟩ := hrow g hg
        have hA' := hA (.inr (by omega))
        subst hA'
        refine ⟨_, .pointer (some ⟨g, n0 * sz + i.toNat * sz, none⟩), ?_, .ptr rfl hk (fun g' hg' => ?_), h⟩
        · have hil : 0 ≤ i ∧ i < (n : Int) := ⟨hi0, hi1⟩
          simp only [Instr.indexAt, asIntOf, Sem.run_bind, Sem.run_pure, Result.andThen_ok, run_underlying hu]
          simp [size_sound hs, hil, add_plain', run_underlying hu]
        · rw [hg] at hg'
          injection hg' with hg'
          rw [hg', Nat.add_mul]
    rename_i e' sz' xs hb
    split at h
    case isFalse => cases h
    rename_i hsz
    obtain ⟨rfl, rfl, h0⟩ := hsz
    split at h
    case isFalse => cases h
    rename_i hil
    obtain ⟨hi0, hi1, hlen⟩ := hil
    obtain ⟨g, hg, hbb⟩ := hL.live b _ hb (by simp)
    cases hx with
    | row ho hk hrow =>
      obtain ⟨A, cap, e2, C, rfl, hC, hcap, hCs, hml, hA⟩ := hrow g hg
      have hA' := hA (.inr (by omega))
      subst hA'
      cases hbb with
      | row C2 hC2 hl ho2 hz hR =>
        refine ⟨.rp sz b (n0 + i.toNat) 0, .pointer (some ⟨g, n0 * sz + i.toNat * sz, none⟩), ?_, .rp rfl hk (fun g' hg' => ?_), h⟩
        · have hil : 0 ≤ i ∧ i < (n : Int) := ⟨hi0, hi1⟩
          simp only [Instr.indexAt, asIntOf, Sem.run_bind, Sem.run_pure, Result.andThen_ok, run_underlying hu]
          simp [size_sound hs, hil, add_plain', run_underlying hu]
        · rw [hg] at hg'
          injection hg' with hg'
          subst hg'
          refine ⟨e2, C, hC, ?_, by rw [Nat.add_mul, Nat.add_zero]⟩
          have h1 : n0 + i.toNat + 1 ≤ n0 + cap := by omega
          have h2 := Nat.mul_le_mul_right sz h1
          rw [hCs, Nat.succ_mul] at h2
          exact h2
  · cases h

theorem index_sound {E : Env} {c0 c : Ctx} {L : List B} {k : V → List B → Res} {r : End × List B} (hS : Since c0 c) {t : TypeId} {x : V} {u : Value} {i : Int} (hx : R c x u) (h : indexK E k L t x i = some r) :
    ∃ v u', (Instr.index t u (.int .i64 i)).run E.P c.w = .ok u' c.w ∧ R c v u' ∧ k v L = some r := by
  unfold indexK at h
  split at h
  · rename_i b hu
    obtain ⟨hi, ch, hch, h⟩ := bytK_some h
    rw [hx.str]
    refine ⟨_, .int .u8 ch.toNat, ?_, .d (.i _ _), h⟩
    simp only [Instr.index, asIntOf, Sem.run_bind, Sem.run_pure, Result.andThen_ok, run_underlying hu]
    simp [hi, hch, run_underlying hu]
  · rename_i len e cs hu
    split at h
    case h_2 => cases h
    rename_i ha hs
    split at h
    case isFalse => cases h
    rename_i hi
    split at h
    case h_2 => cases h
    rename_i v hv
    cases hx with
    | agg hl hR =>
      rename_i us
      have hlt := (List.getElem?_eq_some_iff.1 hv).1
      have hlt2 : i.toNat < us.size := by omega
      refine ⟨v, us[i.toNat], ?_, hR _ _ _ hv (Array.getElem?_eq_getElem hlt2), h⟩
      simp only [Instr.index, asIntOf, Sem.run_bind, Sem.run_pure, Result.andThen_ok, run_underlying hu]
      simp [hi, run_underlying hu, size_sound hs, part, isAgg_sound ha, Array.getElem?_eq_getElem hlt2]
  · cases h

theorem len_sound {P : Program} {c : Ctx} {L : List B} (hL : RL c L) {x : V} {u : Value} {n : Int} {t ty : TypeId} (hx : R c x u) (h : lenV P L t x = some n) : (Builtin.len_ #[t] ty #[u]).run P c.w = .ok (.int .i64 n) c.w := by
  unfold lenV at h
  split at h
  · rename_i b hu
    injection h with h; subst h
    rw [hx.str]
    simp [Builtin.len_, run_underlying hu, goInt]
  · rename_i e xs hu
    injection h with h; subst h
    cases hx with
    | d hx => cases hx; simp [Builtin.len_, run_underlying hu, goInt]
  · rename_i e hu
    injection h with h; subst h
    cases hx
    simp [Builtin.len_, run_underlying hu, goInt]
  · rename_i e sz k a n hu
    split at h
    case isFalse => cases h
    rename_i hlv
    injection h with h; subst h
    obtain ⟨g, hg⟩ := live_at hL hlv
    cases hx with
    | row _ _ hr =>
      obtain ⟨A, cap, _, _, rfl, _⟩ := hr g hg
      simp [Builtin.len_, run_underlying hu, goInt]
  · rename_i e hu
    injection h with h; subst h
    cases hx
    simp [Builtin.len_, run_underlying hu, goInt]
  · rename_i kt et hu
    injection h with h; subst h
    cases hx
    simp [Builtin.len_, run_underlying hu, goInt]
  · rename_i kt et k hu
    split at h
    case h_2 => cases h
    rename_i clock es hb
    injection h with h; subst h
    obtain ⟨g, hg, hbb⟩ := hL.live k _ hb (by simp)
    cases hx with
    | map ho hkn hpt =>
      rw [hpt g hg]
      cases hbb with
      | vmap C clock hC hall =>
        have hget : (getObj g).run P c.w = .ok (.map C clock) c.w := by simp [getObj, Sem.run, hC]
        have hlen : es.length = C.size := by rw [← Array.length_toList]; exact hall.length
        simp [Builtin.len_, run_underlying hu, goInt, hget, hlen]
  · rename_i n e hu
    injection h with h; subst h
    simp [Builtin.len_, run_underlying hu, goInt]
  · cases h

theorem unS_sound {P : Program} {c : Ctx} {op : UnOp} {x v : V} {u : Value} (hx : R c x u) (h : unS op x = some v) : ∃ u', (Op.unary op u).run P c.w = .ok u' c.w ∧ R c v u' := by
  unfold unS at h
  split at h
  · injection h with h; subst h; rw [hx.bool]; exact ⟨_, rfl, .d (.b _)⟩
  · injection h with h; subst h; rw [hx.int]; exact ⟨_, rfl, .d (.i _ _)⟩
  · cases h

/-! ### a value built of its parts -/
theorem fold_over (vs : List Value) : ∀ (C : Array Value) (off k : Nat), ((vs.zipIdx k).foldl (fun cs (q : Value × Nat) => cs.setIfInBounds (off + q.2) q.1) C).size = C.size ∧ (off + k + vs.length ≤ C.size → ∀ (i : Nat), ((vs.zipIdx k).foldl (fun cs (q : Value × Nat) => cs.setIfInBounds (off + q.2) q.1) C)[i]? = if off + k ≤ i ∧ i < off + k + vs.length then vs[i - (off + k)]? else C[i]?) := by
  induction vs with
  | nil => intro C off k; exact ⟨rfl, fun _ i => by rw [if_neg (by simp)]; rfl⟩
  | cons v vs ih =>
    intro C off k
    obtain ⟨h1, h2⟩ := ih (C.setIfInBounds (off + k) v) off (k + 1)
    simp only [List.zipIdx_cons, List.foldl_cons]
    refine ⟨by rw [h1]; simp, fun h i => ?_⟩
    simp only [List.length_cons] at h ⊢
    rw [h2 (by simp; omega) i]
    by_cases c1 : off + (k + 1) ≤ i ∧ i < off + (k + 1) + vs.length
    · rw [if_pos c1, if_pos (by omega), show i - (off + k) = (i - (off + (k + 1))) + 1 by omega, List.getElem?_cons_succ]
    · rw [if_neg c1, Array.getElem?_setIfInBounds]
      by_cases c2 : off + k = i
      · rw [if_pos c2, if_pos (by omega), if_pos (by omega), c2, Nat.sub_self]; rfl
      · rw [if_neg c2, if_neg (by omega)]

theorem fill_sound {c : Ctx} {place place' : Nat → Option (Nat × Nat)} (hpl : ∀ i, place i = place' i) {parts : List (Nat × V)} {vals : List (Nat × Value)} (hp : parts.length = vals.length)
    (hv : ∀ (i : Nat) p q, parts[i]? = some p → vals[i]? = some q → p.1 = q.1 ∧ R c p.2 q.2) : ∀ {cs cs' : List V} {C : Array Value} (hl : cs.length = C.size) (hR : ∀ (i : Nat) x u, cs[i]? = some x → C[i]? = some u → R c x u) (h : fillS place cs parts = some cs'),
    ∃ C', Instr.fill place' C vals = some C' ∧ cs'.length = C'.size ∧ ∀ (i : Nat) x u, cs'[i]? = some x → C'[i]? = some u → R c x u := by
  induction parts generalizing vals with
  | nil =>
    intro cs cs' C hl hR h
    obtain rfl : vals = [] := List.eq_nil_of_length_eq_zero (by simpa using hp.symm)
    injection h with h
    subst h
    exact ⟨C, rfl, hl, hR⟩
  | cons p parts ih =>
    intro cs cs' C hl hR h
    obtain ⟨i, v⟩ := p
    match vals, hp, hv with
    | (j, u) :: vals, hp, hv =>
      obtain ⟨e, hr⟩ := hv 0 _ _ rfl rfl
      simp only at e hr
      subst e
      unfold fillS at h
      split at h
      case h_1 => cases h
      rename_i off size hpi
      split at h
      case isFalse => cases h
      rename_i hc
      obtain ⟨h1, h2, h3⟩ := hc
      have hcells := cells_sound hr h3
      obtain ⟨f1, f2⟩ := fold_over u.cells.toList C off 0
      have hul : u.cells.toList.length = size := by simp; omega
      have f3 := f2 (by rw [hul]; omega)
      obtain ⟨C', hC', hr'⟩ := ih (vals := vals) (by simpa using hp) (fun i p q hp hq => hv (i + 1) p q (by simpa using hp) (by simpa using hq)) (C := (u.cells.toList.zipIdx 0).foldl (fun cs (q : Value × Nat) => cs.setIfInBounds (off + q.2) q.1) C) (by rw [over_length, f1]; exact hl) (fun i x y hx hy => by
        rw [over_at _ _ _ (by omega)] at hx
        rw [f3] at hy
        rw [hul] at hy
        rw [h1] at hx
        split at hx
        · rename_i hin
          rw [if_pos (by omega)] at hy
          rw [Nat.add_zero, Array.getElem?_toList] at hy
          exact (hcells.2 _ x y hx hy).1
        · rename_i hin
          rw [if_neg (by omega)] at hy
          exact hR i x y hx hy) h
      refine ⟨C', ?_, hr'⟩
      unfold Instr.fill
      rw [← hpl, hpi]
      simp only
      rw [if_neg (by simp; omega)]
      rw [← hC']
      congr 1
      rw [← Array.foldl_toList, Array.toList_zipIdx]


theorem run_mapM_list {P : Program} {w : World} {α β : Type} (f : α → Sem β) (g : α → β) : ∀ (l : List α), (∀ a ∈ l, (f a).run P w = .ok (g a) w) → (l.mapM f).run P w = .ok (l.map g) w
  | [], _ => rfl
  | a :: l, h => by
    rw [List.mapM_cons, Sem.run_bind, h a (by simp)]
    simp only [Result.andThen_ok, Sem.run_bind]
    rw [run_mapM_list f g l (fun b hb => h b (by simp [hb]))]
    rfl

theorem build_sound {P : Program} {c : Ctx} {t : TypeId} {z : V} {fs : Array Field} {parts : Array (Nat × Operand)} {fr : List V} {a : Act} (hF : RF c fr a.tmps) (hz : zeroT P t = some z) (hu : P.underlying t = some (.struct fs))
    (h0 : (cellsV z).all atom = true) (h1 : (fs.toList.all fun f => (sizeT P f.type).isSome) = true) {cs : List V}
    (h : fillS (fun i => match fs[i]? with | some f => (sizeT P f.type).map (f.offset, ·) | none => none) (cellsV z) (parts.toList.map fun q => (q.1, evO fr q.2)) = some cs) :
    ∃ u, (Instr.build t (parts.map fun (i, x) => (i, a.eval x))).run P c.w = .ok u c.w ∧ R c (.agg cs) u := by
  obtain ⟨u, hzu, hzr⟩ := zero_sound hz c c.w
  have hm : (fs.mapM fun f => do pure (f.offset, ← sizeOf f.type) : Sem (Array (Nat × Nat))).run P c.w = .ok (fs.map fun f => (f.offset, (sizeT P f.type).getD 0)) c.w := by
    rw [Array.mapM_eq_mapM_toList, Sem.run_map, run_mapM_list _ (fun f => (f.offset, (sizeT P f.type).getD 0)) fs.toList (fun f hf => by
      have := List.all_eq_true.1 h1 f hf
      obtain ⟨n, hn⟩ := Option.isSome_iff_exists.1 this
      rw [Sem.run_bind, size_sound hn, hn]
      rfl)]
    simp only [Result.andThen_ok]
    rw [← Array.toList_map]
  obtain ⟨C', hC', hl, hr⟩ := fill_sound (c := c) (place' := fun i => (fs.map fun f => (f.offset, (sizeT P f.type).getD 0))[i]?) (vals := parts.toList.map fun q => (q.1, a.eval q.2)) (fun i => by
      rw [Array.getElem?_map]
      cases hf : fs[i]? with
      | none => rfl
      | some f =>
        have := List.all_eq_true.1 h1 f (by rw [← Array.getElem?_toList] at hf; exact List.mem_of_getElem? hf)
        obtain ⟨n, hn⟩ := Option.isSome_iff_exists.1 this
        simp [hn]) (by simp) (fun i p q hp hq => by
      simp only [List.getElem?_map, Option.map_eq_some_iff] at hp hq
      obtain ⟨x, hx, rfl⟩ := hp
      obtain ⟨y, hy, rfl⟩ := hq
      rw [hx] at hy
      injection hy with hy
      subst hy
      exact ⟨rfl, evO_sound hF _⟩) (cells_sound hzr h0).1 (fun i x y hx hy => ((cells_sound hzr h0).2 i x y hx hy).1) h
  refine ⟨.agg C', ?_, .agg hl hr⟩
  simp only [Instr.build, Sem.run_bind, hzu, Result.andThen_ok, run_underlying hu]
  rw [hm]
  simp only [Result.andThen_ok, Array.toList_map]
  have e : (parts.map fun (x : Nat × Operand) => (x.1, a.eval x.2)).toList = parts.toList.map fun q => (q.1, a.eval q.2) := by simp
  rw [hC']
  rfl

theorem Next'.same {c0 c : Ctx} {L : List B} (hL : RL c L) (hS : Since c0 c) {v : V} {u : Value} (h : R c v u) : Next' c0 c v L u c := ⟨.refl c, hL, hS, h⟩

end Go.Tw
