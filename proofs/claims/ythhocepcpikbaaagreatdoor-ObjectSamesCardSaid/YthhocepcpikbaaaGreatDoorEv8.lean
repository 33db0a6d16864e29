/- From what a row says of the arguments to closed data, and from the abstract run to the row. -/
import Derived.Test.YthhocepcpikbaaaGreatDoorEv5
import Derived.ChangeArms
import Derived.DataReads
import Derived.WideShapes
import Derived.Carry
set_option linter.unusedVariables false
namespace Go.Tw
open Go.RowKit Go.WideShapes Go.ChangeShapes

/- Data of a type. -/
mutual
inductive Sh (P : Program) : TypeId → List D → Prop
  | b {t : TypeId} (hu : P.underlying t = some .bool) (x : Bool) : Sh P t [.b x]
  | i {t : TypeId} {k : IntKind} (hu : P.underlying t = some (.int k)) (n : Int) (hw : (Lit.int k n).wf = true) : Sh P t [.i k n]
  | s {t : TypeId} (hu : P.underlying t = some .string) (x : ByteArray) (hw : x.size ≤ maxLen) : Sh P t [.s x]
  | sl {t e : TypeId} (hu : P.underlying t = some (.slice e)) (xs : List (List D)) (hw : xs.length ≤ maxLen) (h : ∀ x, x ∈ xs → Sh P e x) : Sh P t [.sl xs]
  | st {t : TypeId} {fs : Array Field} {ds : List D} (hu : P.underlying t = some (.struct fs)) (h : Shs P (fs.toList.map (·.type)) ds) : Sh P t ds
inductive Shs (P : Program) : List TypeId → List D → Prop
  | nil : Shs P [] []
  | cons {t : TypeId} {ts : List TypeId} {a b : List D} (h : Sh P t a) (hs : Shs P ts b) : Shs P (t :: ts) (a ++ b)
end
theorem Sh.bool {P : Program} {t : TypeId} {ds : List D} (h : Sh P t ds) (hu : P.underlying t = some .bool) : ∃ x, ds = [.b x] := by
  cases h with
  | b _ x => exact ⟨x, rfl⟩
  | i h1 | s h1 | sl h1 | st h1 => rw [hu] at h1; cases h1
theorem Sh.int {P : Program} {t : TypeId} {k : IntKind} {ds : List D} (h : Sh P t ds) (hu : P.underlying t = some (.int k)) : ∃ n, ds = [.i k n] ∧ (Lit.int k n).wf = true := by
  cases h with
  | i h1 n hw => rw [hu] at h1; cases h1; exact ⟨n, rfl, hw⟩
  | b h1 | s h1 | sl h1 | st h1 => rw [hu] at h1; cases h1
theorem Sh.string {P : Program} {t : TypeId} {ds : List D} (h : Sh P t ds) (hu : P.underlying t = some .string) : ∃ x, ds = [.s x] ∧ x.size ≤ maxLen := by
  cases h with
  | s h1 x hw => exact ⟨x, rfl, hw⟩
  | b h1 | i h1 | sl h1 | st h1 => rw [hu] at h1; cases h1
theorem Sh.slice {P : Program} {t e : TypeId} {ds : List D} (h : Sh P t ds) (hu : P.underlying t = some (.slice e)) : ∃ xs, ds = [.sl xs] ∧ xs.length ≤ maxLen ∧ ∀ x, x ∈ xs → Sh P e x := by
  cases h with
  | sl h1 xs hw hx => rw [hu] at h1; cases h1; exact ⟨xs, rfl, hw, hx⟩
  | b h1 | i h1 | s h1 | st h1 => rw [hu] at h1; cases h1
theorem Sh.struct {P : Program} {t : TypeId} {fs : Array Field} {ds : List D} (h : Sh P t ds) (hu : P.underlying t = some (.struct fs)) : Shs P (fs.toList.map (·.type)) ds := by
  cases h with
  | st h1 h => rw [hu] at h1; cases h1; exact h
  | b h1 | i h1 | s h1 | sl h1 => rw [hu] at h1; cases h1
theorem Shs.inv {P : Program} {t : TypeId} {ts : List TypeId} {ds : List D} (h : Shs P (t :: ts) ds) : ∃ a b, ds = a ++ b ∧ Sh P t a ∧ Shs P ts b := by
  cases h with
  | cons h hs => exact ⟨_, _, rfl, h, hs⟩
theorem Shs.inv0 {P : Program} {ds : List D} (h : Shs P [] ds) : ds = [] := by
  cases h; rfl

/-- The types of a set lead to types of the set alone, and structs lie close. -/
def offsOK (P : Program) (S : List TypeId) (tot : Nat) : Nat → List Field → Bool
  | o, [] => Nat.beq o tot
  | o, f :: l => Nat.beq f.offset o && (S.contains f.type && offsOK P S tot (o + P.cellsOf f.type) l)
def stepOK (P : Program) (S : List TypeId) (t : TypeId) : Bool :=
  match P.underlying t with
  | some .bool => true
  | some (.int _) => true
  | some .string => true
  | some (.slice e) => S.contains e && Nat.ble 1 (P.cellsOf e)
  | some (.struct fs) => offsOK P S (P.cellsOf t) 0 fs.toList
  | _ => false
def typesOK (P : Program) (S : List TypeId) : Bool := S.all (stepOK P S)

def KL (w : World) (ds : List D) (cs : List Value) : Prop := ds.length = cs.length ∧ ∀ (i : Nat) x u, ds[i]? = some x → cs[i]? = some u → K w (fun g => g < w.heap.size) x u
theorem KL.nil (w : World) : KL w [] [] := ⟨rfl, fun i x u h => by simp at h⟩
theorem KL.one {w : World} {x : D} {u : Value} (h : K w (fun g => g < w.heap.size) x u) : KL w [x] [u] := ⟨rfl, fun i x' u' h1 h2 => by
  match i with
  | 0 => simp only [List.getElem?_cons_zero, Option.some.injEq] at h1 h2; rw [← h1, ← h2]; exact h
  | i + 1 => simp at h1⟩
theorem KL.append {w : World} {a b : List D} {cs ds : List Value} (h : KL w a cs) (h' : KL w b ds) : KL w (a ++ b) (cs ++ ds) := ⟨by simp [h.1, h'.1], fun i x u h1 h2 => by
  rcases Nat.lt_or_ge i a.length with hi | hi
  · rw [List.getElem?_append_left hi] at h1
    rw [List.getElem?_append_left (by rw [← h.1]; exact hi)] at h2
    exact h.2 i x u h1 h2
  · rw [List.getElem?_append_right hi] at h1
    rw [List.getElem?_append_right (by rw [← h.1]; exact hi), ← h.1] at h2
    exact h'.2 _ x u h1 h2⟩
theorem cell_some {w : World} {a : Addr} {v : Value} (h : w.cell? a = some v) : a.block < w.heap.size ∧ a.spot = none := by
  unfold World.cell? at h
  split at h
  · rename_i c t fr hc
    refine ⟨(Array.getElem?_eq_some_iff.1 hc).1, ?_⟩
    cases hs : a.spot with
    | none => rfl
    | some x => rw [hs] at h; simp at h
  · cases h
theorem add_eq {a : Addr} (h : a.spot = none) (n : Nat) : a.add n = ⟨a.block, a.off + n, none⟩ := by
  unfold Addr.add
  split
  · rename_i hn; subst hn; cases a; simp only at h; subst h; rfl
  · rfl

variable {H : Type} {enc : TypeId × Value → H} {P : Program} {S : List TypeId} {w : World} {sp : Nat → Bool} {held : Bool}
theorem trod_K (hS : typesOK P S = true) : ∀ (n : Nat) (t : TypeId) (cs : List Value) (x : DataW H × List MemPlace), t ∈ S → DataW.trod enc P w 0 sp held n t cs = some x → ∃ ds, Sh P t ds ∧ KL w ds cs
  | 0, t, cs, x, ht, h => by simp [DataW.trod] at h
  | n + 1, t, cs, x, ht, h => by
    have hst := List.all_eq_true.1 hS t ht
    unfold stepOK at hst
    split at hst
    · rename_i hu
      obtain ⟨b, rfl, _⟩ := DataW.trod_bool hu h
      exact ⟨_, .b hu b, KL.one (.b b)⟩
    · rename_i k hu
      obtain ⟨m, rfl, _, hw⟩ := DataW.trod_int hu h
      exact ⟨_, .i hu m hw, KL.one (.i k m)⟩
    · rename_i hu
      obtain ⟨s, rfl, _, hw⟩ := DataW.trod_string hu h
      exact ⟨_, .s hu s hw, KL.one (.s s)⟩
    · rename_i e hu
      simp only [Bool.and_eq_true] at hst
      have he : e ∈ S := by simpa using hst.1
      have hsz : 1 ≤ P.cellsOf e := Nat.le_of_ble_eq_true hst.2
      rcases DataW.trod_slice hu h with ⟨rfl, _⟩ | ⟨a, len, cap, elems, rest, m, hm, rfl, _, _, hlc, hcm, hel, hget, _, _⟩
      · exact ⟨_, .sl hu [] (Nat.zero_le _) (fun x hx => by cases hx), KL.one (K.sl [] 0 none 0 (fun _ _ => .bool false) (Nat.le_refl _) (Nat.zero_le _) (fun hp => absurd hp (Nat.lt_irrefl _)) (fun j x i d h => by simp at h))⟩
      · obtain rfl : n = m := by omega
        have key : ∀ i : Nat, ∃ ds : List D, i < len → ∃ vs, w.cells? 0 (a.add (i * P.cellsOf e)) (P.cellsOf e) = some vs ∧ Sh P e ds ∧ KL w ds vs := by
          intro i
          by_cases hi : i < len
          · have h1 := hget i hi
            rw [List.getElem?_eq_getElem (show i < elems.length by omega)] at h1
            obtain ⟨vs, hv, ht'⟩ := Option.bind_eq_some_iff.1 h1
            obtain ⟨ds, hd, hk⟩ := trod_K hS n e vs _ he ht'
            exact ⟨ds, fun _ => ⟨vs, hv, hd, hk⟩⟩
          · exact ⟨[], fun h => absurd h hi⟩
        obtain ⟨f, hf⟩ := Classical.axiomOfChoice key
        have hlen : ((List.range len).map f).length = len := by simp
        have hxs : ∀ (j : Nat) x, ((List.range len).map f)[j]? = some x → j < len ∧ x = f j := by
          intro j x hj
          have hj' : j < len := by have := (List.getElem?_eq_some_iff.1 hj).1; simpa using this
          refine ⟨hj', ?_⟩
          simp only [List.getElem?_map, List.getElem?_range hj', Option.map_some, Option.some.injEq] at hj
          exact hj.symm
        have hspot : 0 < len → a.block < w.heap.size ∧ a.spot = none := by
          intro hp
          obtain ⟨vs, hv, _, _⟩ := hf 0 hp
          obtain ⟨_, hvl, hvc⟩ := World.cells?_some hv
          have h0 := hvc 0 (by omega)
          rw [List.getElem?_eq_getElem (show 0 < vs.length by omega)] at h0
          have ha : (a.add (0 * P.cellsOf e)).add 0 = a := by simp [Addr.add]
          rw [ha] at h0
          exact cell_some h0
        have hcell : ∀ (j : Nat), j < len → ∀ i, i < P.cellsOf e → ∃ vs, KL w (f j) vs ∧ vs.length = P.cellsOf e ∧ w.cell? ⟨a.block, a.off + (j * P.cellsOf e + i), none⟩ = vs[i]? := by
          intro j hj i hi
          obtain ⟨vs, hv, _, hk⟩ := hf j hj
          obtain ⟨_, hvl, hvc⟩ := World.cells?_some hv
          have hs := (hspot (by omega)).2
          refine ⟨vs, hk, hvl, ?_⟩
          have h0 := hvc i hi
          rw [add_eq hs, add_eq rfl] at h0
          rw [← h0, Nat.add_assoc]
        have hl' : ∀ j, j < len → (f j).length = P.cellsOf e := by
          intro j hj
          obtain ⟨vs, hv, _, hk⟩ := hf j hj
          rw [hk.1, (World.cells?_some hv).2.1]
        let u : Nat → Nat → Value := fun j i => (w.cell? ⟨a.block, a.off + (j * P.cellsOf e + i), none⟩).getD (.bool false)
        have hu' : ∀ (j : Nat) x i d, ((List.range len).map f)[j]? = some x → x[i]? = some d → w.cell? ⟨a.block, a.off + (j * P.cellsOf e + i), none⟩ = some (u j i) ∧ K w (fun g => g < w.heap.size) d (u j i) := by
          intro j x i d hx hd
          obtain ⟨hj, rfl⟩ := hxs j x hx
          have hi : i < P.cellsOf e := by rw [← hl' j hj]; exact (List.getElem?_eq_some_iff.1 hd).1
          obtain ⟨vs, hk, hvl, hc⟩ := hcell j hj i hi
          rw [List.getElem?_eq_getElem (show i < vs.length by omega)] at hc
          have : u j i = vs[i]'(by omega) := by show (w.cell? _).getD _ = _; rw [hc]; rfl
          rw [hc, this]
          exact ⟨rfl, hk.2 i d _ hd (List.getElem?_eq_getElem _)⟩
        have hK := K.sl (w := w) (ok := fun g => g < w.heap.size) ((List.range len).map f) (P.cellsOf e) (some a) cap u (by rw [hlen]; exact hlc) hcm
          (fun hp => ⟨a, rfl, (hspot (by rw [hlen] at hp; exact hp)).1, (hspot (by rw [hlen] at hp; exact hp)).2, fun j x hx => ⟨by obtain ⟨hj, rfl⟩ := hxs j x hx; exact hl' j hj, fun i d hd => (hu' j x i d hx hd).1⟩⟩)
          (fun j x i d hx hd => (hu' j x i d hx hd).2)
        rw [hlen] at hK
        refine ⟨_, .sl hu ((List.range len).map f) (by rw [hlen]; omega) (fun x hx => ?_), KL.one hK⟩
        obtain ⟨j, hj, rfl⟩ := List.mem_map.1 hx
        obtain ⟨vs, _, hs, _⟩ := hf j (by simpa using hj)
        exact hs
    · rename_i fs hu
      obtain ⟨xs, m, hm, _, hcl, hxl, hget⟩ := DataW.trod_struct hu h
      obtain rfl : n = m := by omega
      have go : ∀ (l : List Field) (o : Nat), offsOK P S (P.cellsOf t) o l = true → (∀ f ∈ l, ∃ y, DataW.trod enc P w 0 sp held n f.type ((cs.drop f.offset).take (P.cellsOf f.type)) = some y) → ∃ ds, Shs P (l.map (·.type)) ds ∧ KL w ds (cs.drop o) := by
        intro l
        induction l with
        | nil =>
          intro o ho _
          have := Nat.eq_of_beq_eq_true ho
          exact ⟨[], .nil, by rw [List.drop_eq_nil_of_le (by omega)]; exact KL.nil w⟩
        | cons f l ih =>
          intro o ho hy
          simp only [offsOK, Bool.and_eq_true] at ho
          obtain ⟨h1, h2, h3⟩ := ho
          have hfo := Nat.eq_of_beq_eq_true h1
          obtain ⟨y, hy0⟩ := hy f List.mem_cons_self
          obtain ⟨a, ha, hka⟩ := trod_K hS n f.type _ _ (by simpa using h2) hy0
          obtain ⟨b, hb, hkb⟩ := ih _ h3 (fun g hg => hy g (List.mem_cons_of_mem _ hg))
          refine ⟨a ++ b, .cons ha hb, ?_⟩
          have := hka.append hkb
          rw [hfo, ← List.drop_drop, List.take_append_drop] at this
          exact this
      obtain ⟨ds, hd, hk⟩ := go fs.toList 0 hst (fun f hf => by
        obtain ⟨i, hi⟩ := List.mem_iff_getElem?.1 hf
        have hi' : fs[i]? = some f := by simpa using hi
        have h1 := hget i f hi'
        rw [List.getElem?_eq_getElem (show i < xs.length by rw [hxl]; exact (Array.getElem?_eq_some_iff.1 hi').1)] at h1
        exact ⟨_, h1⟩)
      exact ⟨ds, .st hu hd, by simpa using hk⟩
    · cases hst

/-- The context in which a call from without begins. -/
def ctx0 (w : World) : Ctx := { X := fun _ => False, m := fun _ => none, n := 0, w := w, ds := [] }
theorem K0 {w : World} {x : D} {u : Value} (h : K w (fun g => g < w.heap.size) x u) : K (ctx0 w).w (ctx0 w).ok x u := h.mono fun g hg => ⟨⟨hg, fun h => h, fun i h => by cases h⟩, rfl⟩
def asV (P : Program) (t : TypeId) (ds : List D) : V := match P.underlying t with
  | some (.struct _) => .agg (ds.map .d)
  | _ => match ds with
    | [x] => .d x
    | _ => .undef
theorem asV_st {t : TypeId} {fs : Array Field} (hu : P.underlying t = some (.struct fs)) (ds : List D) : asV P t ds = .agg (ds.map .d) := by simp [asV, hu]
theorem arg_R (hS : typesOK P S = true) {t : TypeId} (ht : t ∈ S) {r : Reach} {b0 : Nat} {v : Value} {d : DataW H} {ps : List MemPlace} (hval : Value.okWide P w r b0 t v) (hd : DataW.Trod enc P w 0 sp held t v d ps) : ∃ ds, Sh P t ds ∧ R (ctx0 w) (asV P t ds) v := by
  obtain ⟨n, hn⟩ := hd
  obtain ⟨ds, hs, hk⟩ := trod_K hS n t _ _ ht hn
  refine ⟨ds, hs, ?_⟩
  have one : ∀ (x : D) (u : Value), ds = [x] → v.cells.toList = [u] → K (ctx0 w).w (ctx0 w).ok x u := fun x u h1 h2 => K0 (hk.2 0 x u (by rw [h1]; rfl) (by rw [h2]; rfl))
  have hst := List.all_eq_true.1 hS t ht
  unfold stepOK at hst
  unfold asV
  split at hst
  · rename_i hu
    obtain ⟨b, rfl⟩ := okWide_bool hu hval
    obtain ⟨x, rfl⟩ := hs.bool hu
    rw [hu]
    exact .d (one _ _ rfl rfl)
  · rename_i k hu
    obtain ⟨b, rfl⟩ := okWide_int hu hval
    obtain ⟨x, rfl, _⟩ := hs.int hu
    rw [hu]
    exact .d (one _ _ rfl rfl)
  · rename_i hu
    obtain ⟨b, rfl⟩ := okWide_string hu hval
    obtain ⟨x, rfl, _⟩ := hs.string hu
    rw [hu]
    exact .d (one _ _ rfl rfl)
  · rename_i e hu
    obtain ⟨a, l, c, rfl⟩ := okWide_slice hu hval
    obtain ⟨x, rfl, _⟩ := hs.slice hu
    rw [hu]
    exact .d (one _ _ rfl rfl)
  · rename_i fs hu
    obtain ⟨cs, rfl, _⟩ := okWide_struct hu hval
    rw [hu]
    refine .agg (by rw [List.length_map, hk.1]; simp [Value.cells]) (fun i x u hx hu => ?_)
    rw [List.getElem?_map, Option.map_eq_some_iff] at hx
    obtain ⟨x', hx', rfl⟩ := hx
    exact .d (K0 (hk.2 i x' u hx' (by simpa [Value.cells] using hu)))
  · cases hst

/-- What a call from without comes to. -/
theorem calls_of_meets {f : FuncId} {args : Array Value} {vs : List V} (hm : Meets P f vs [] (.ret (.d (.b true))) []) (hl : vs.length = args.size) (hR : ∀ (i : Nat) v u, vs[i]? = some v → args[i]? = some u → R (ctx0 w) v u) :
    Calls P f args w fun e w' => e = .returned (.bool true) ∧ Below w.heap.size w w' := by
  refine (hm.2 (ctx0 w) args rfl ⟨rfl, fun i j g h => (by cases h), fun i g h => (by cases h), fun i b h => (by simp at h), fun i h => (by simp at h), fun i g h => (by cases h)⟩ hl hR (fun g hg => hg.elim)).mono fun e w' ⟨c', hw, he, hL, hS, hle⟩ => ?_
  subst hw
  refine ⟨?_, hS.os, hS.tape, hS.output, hS.size, fun k hk => hS.stay k hk (fun i h => by cases h)⟩
  cases he with
  | ret h => rw [h.bool]
end Go.Tw
