/- The abstract run is sound: maps of any keys, and what is left. -/
import Derived.Test.YthhocepcpikbaaaGreatDoorEv4e
set_option linter.unusedVariables false
set_option linter.unusedSimpArgs false
namespace Go.Tw

theorem putObj_le {c : Ctx} {k g : Nat} (hk : c.m k = some g) {o0 : Obj} (hC : c.w.heap[g]? = some o0) (hn : ∀ C e f, o0 ≠ .cells C e f) (o : Obj) : c.Le (c.putMap g o) where
  n := Nat.le_refl _
  X := rfl
  m := fun _ _ => .inl rfl
  data := fun g' hg' => putMap_other c g o (fun e => hg'.2.2 k (by rw [e]; exact hk))
  dis := fun i g' hi hg' => hg'.2.2 i hi
  shape := fun k' g' C' e _ _ _ hC' => ⟨C', (putMap_other c g o (fun he => by subst he; rw [hC] at hC'; injection hC' with hC'; exact hn _ _ _ hC')).trans hC', rfl⟩
theorem putObj_RL {c : Ctx} {L : List B} (hL : RL c L) {k g : Nat} (hk : c.m k = some g) {o0 : Obj} (hC : c.w.heap[g]? = some o0) (hn : ∀ C e f, o0 ≠ .cells C e f) (o : Obj) {b : B} (hb : RB (c.putMap g o) b g) (hd : b ≠ .dead) : RL (c.putMap g o) (L.set k b) where
  n := by rw [List.length_set]; exact hL.n
  inj := hL.inj
  lt := fun i g' hi => by
    have := hL.lt i g' hi
    exact ⟨by show g' < (c.w.heap.setIfInBounds g o).size; rw [Array.size_setIfInBounds]; exact this.1, this.2⟩
  live := fun i b' hi hb' => by
    rw [List.getElem?_set] at hi
    split at hi
    · rename_i e
      subst e
      split at hi
      · injection hi with hi
        subst hi
        exact ⟨g, hk, hb⟩
      · cases hi
    · rename_i hne
      obtain ⟨g', hg', hr⟩ := hL.live i b' hi hb'
      exact ⟨g', hg', hr.mono (putObj_le hk hC hn o) (putMap_other c g o (fun e => hne (hL.inj k i g hk (by rw [← e]; exact hg'))))⟩
  dead := fun i hi => by
    rw [List.getElem?_set] at hi
    split at hi
    · split at hi
      · injection hi with hi; exact absurd hi hd
      · cases hi
    · exact hL.dead i hi
  nx := hL.nx

theorem AllV.at {c : Ctx} {ps : List (Value × V × Nat)} {es : List MapEntry} (h : AllV c ps es) : ∀ (i : Nat) p, ps[i]? = some p → ∃ e, es[i]? = some e ∧ e.key = p.1 ∧ e.born = p.2.2 ∧ R c p.2.1 e.val := by
  induction h with
  | nil => intro i p hp; simp at hp
  | cons hk hb hv _ ih =>
    intro i p hp
    cases i with
    | zero => simp at hp; subst hp; exact ⟨_, rfl, hk, hb, hv⟩
    | succ i => exact ih i p (by simpa using hp)
theorem AllV.empty {c : Ctx} {ps : List (Value × V × Nat)} {C : Array MapEntry} (h : AllV c ps C.toList) : C.isEmpty = ps.isEmpty := by
  have := h.length
  cases C with
  | mk l =>
    simp only at this
    cases ps <;> cases l <;> simp at this <;> simp [Array.isEmpty]
theorem AllV.snoc {c : Ctx} {ps : List (Value × V × Nat)} {es : List MapEntry} (h : AllV c ps es) {k : Value} {v : V} {b : Nat} {e : MapEntry} (hk : e.key = k) (hb : e.born = b) (hv : R c v e.val) : AllV c (ps ++ [(k, v, b)]) (es ++ [e]) := by
  induction h with
  | nil => exact .cons hk hb hv .nil
  | cons hk' hb' hv' _ ih => exact .cons hk' hb' hv' ih
theorem AllV.set {c : Ctx} {ps : List (Value × V × Nat)} {es : List MapEntry} (h : AllV c ps es) {k : Value} {v : V} {b : Nat} {e : MapEntry} (hk : e.key = k) (hb : e.born = b) (hv : R c v e.val) : ∀ j, AllV c (ps.set j (k, v, b)) (es.set j e) := by
  induction h with
  | nil => intro j; exact .nil
  | cons hk' hb' hv' t ih =>
    intro j
    cases j with
    | zero => exact .cons hk hb hv t
    | succ j => exact .cons hk' hb' hv' (ih j)
theorem AllV.erase {c : Ctx} {ps : List (Value × V × Nat)} {es : List MapEntry} (h : AllV c ps es) : ∀ j, AllV c (ps.eraseIdx j) (es.eraseIdx j) := by
  induction h with
  | nil => intro j; exact .nil
  | cons hk' hb' hv' t ih =>
    intro j
    cases j with
    | zero => exact t
    | succ j => exact .cons hk' hb' hv' (ih j)
theorem AllV.keys {c : Ctx} {ps : List (Value × V × Nat)} {es : List MapEntry} (h : AllV c ps es) : keysOf ps = es.map fun e => { key := e.key, val := .tuple #[], born := 0 } := by
  induction h with
  | nil => rfl
  | cons hk' hb' hv' t ih => simp only [keysOf, List.map_cons] at ih ⊢; rw [ih, hk']

/-- A key is looked for by its kind alone: what the entries hold does not matter. -/
def atI (es : List MapEntry) (i0 : Nat) (r : Option (Nat × Value)) : Option (Option (Nat × Value)) :=
  match r with
  | none => some none
  | some (i, _) => (es[i - i0]?).map fun e => some (i, e.val)
theorem findNow_strip {kind : TypeDesc} {k : Value} : ∀ (es : List MapEntry) (i : Nat), match Instr.findNow kind k (es.map fun e => { key := e.key, val := .tuple #[], born := 0 }) i with
    | some none => Instr.findNow kind k es i = some none
    | some (some (j, _)) => i ≤ j ∧ ∃ e, es[j - i]? = some e ∧ Instr.findNow kind k es i = some (some (j, e.val))
    | none => Instr.findNow kind k es i = none
  | [], i => by simp [Instr.findNow]
  | e :: es, i => by
    simp only [List.map_cons, Instr.findNow]
    cases hs : Instr.sameNow kind k e.key with
    | none => simp
    | some b =>
      cases b with
      | true => simp
      | false =>
        simp only
        have ih := findNow_strip (kind := kind) (k := k) es (i + 1)
        split at ih
        · exact ih
        · rename_i j _ h
          obtain ⟨h1, e', h2, h3⟩ := ih
          refine ⟨by omega, e', ?_, h3⟩
          rw [show j - i = (j - (i + 1)) + 1 by omega, List.getElem?_cons_succ]
          exact h2
        · exact ih
theorem run_pureBind {P : Program} {α β : Type} : ∀ {s : Sem α} {f : α → Sem β} {b : β}, pureRun P (s.bind f) = some b → ∃ a, pureRun P s = some a ∧ pureRun P (f a) = some b
  | .pure a, f, b, h => ⟨a, rfl, h⟩
  | .program k, f, b, h => run_pureBind (s := k P) h
  | .mark m k, f, b, h => run_pureBind (s := k) h
  | .load .., _, _, h | .store .., _, _, h | .new .., _, _, h | .shape .., _, _, h | .freeze .., _, _, h | .frozen .., _, _, h | .getObj .., _, _, h | .setObj .., _, _, h | .choose .., _, _, h | .sys .., _, _, h | .halt .., _, _, h => by cases h
theorem findAsking_strip {P : Program} {kt : TypeId} {k : Value} : ∀ (es : List MapEntry) (i : Nat) (r : Option (Nat × Value)), pureRun P (Instr.findAsking kt k (es.map fun e => { key := e.key, val := .tuple #[], born := 0 }) i) = some r → ∀ w, match r with
    | none => (Instr.findAsking kt k es i).run P w = .ok none w
    | some (j, _) => i ≤ j ∧ ∃ e, es[j - i]? = some e ∧ (Instr.findAsking kt k es i).run P w = .ok (some (j, e.val)) w
  | [], i, r, h, w => by
    simp only [List.map_nil, Instr.findAsking] at h
    injection h with h
    subst h
    rfl
  | e :: es, i, r, h, w => by
    simp only [List.map_cons, Instr.findAsking] at h
    obtain ⟨b, h1, h2⟩ := run_pureBind h
    have h1 := pureRun_sound h1 w
    cases b with
    | true =>
      simp only [if_true] at h2
      injection h2 with h2
      subst h2
      refine ⟨Nat.le_refl _, e, by simp, ?_⟩
      simp [Instr.findAsking, h1]
    | false =>
      simp only [Bool.false_eq_true, if_false] at h2
      have ih := findAsking_strip es (i + 1) r h2 w
      cases r with
      | none =>
        simp only at ih ⊢
        simp [Instr.findAsking, h1, ih]
      | some q =>
        obtain ⟨j, v⟩ := q
        simp only at ih ⊢
        obtain ⟨g1, e', g2, g3⟩ := ih
        refine ⟨by omega, e', ?_, by simp [Instr.findAsking, h1, g3]⟩
        rw [show j - i = (j - (i + 1)) + 1 by omega, List.getElem?_cons_succ]
        exact g2

theorem findC_sound {P : Program} {c : Ctx} {empty : Bool} {kt : TypeId} {k : Value} {ps : List (Value × V × Nat)} {es : List MapEntry} (ha : AllV c ps es) {r : Option Nat} (h : findC P empty kt k ps = some r) :
    (∀ w, (Instr.checkKey empty 10000 kt k).run P w = .ok () w) ∧ match r with
      | none => ∀ w, (Instr.findKey kt k es).run P w = .ok none w
      | some i => ∃ e, es[i]? = some e ∧ ∀ w, (Instr.findKey kt k es).run P w = .ok (some (i, e.val)) w := by
  unfold findC at h
  split at h
  case h_2 => cases h
  rename_i hck
  split at h
  case h_2 => cases h
  rename_i q hq
  injection h with h
  subst h
  refine ⟨fun w => pureRun_sound hck w, ?_⟩
  rw [ha.keys] at hq
  unfold Instr.findKey at hq
  obtain ⟨d, hd, hq⟩ := run_pureBind hq
  have hd' := fun w => pureRun_sound hd w
  have hs := findNow_strip (kind := d) (k := k) es 0
  split at hq
  · rename_i r' hr'
    injection hq with hq
    subst hq
    rw [hr'] at hs
    cases r' with
    | none =>
      simp only at hs
      intro w
      simp [Instr.findKey, hd' w, hs]
    | some p =>
      obtain ⟨j, v⟩ := p
      simp only at hs
      obtain ⟨_, e, h1, h2⟩ := hs
      refine ⟨e, by simpa using h1, fun w => ?_⟩
      simp [Instr.findKey, hd' w, h2]
  · rename_i hr'
    rw [hr'] at hs
    simp only at hs
    cases q with
    | none =>
      intro w
      have := findAsking_strip es 0 none hq w
      simp only at this
      simp [Instr.findKey, hd' w, hs, this]
    | some p =>
      obtain ⟨j, v⟩ := p
      obtain ⟨_, e, h1, _⟩ := findAsking_strip es 0 _ hq default
      refine ⟨e, by simpa using h1, fun w => ?_⟩
      obtain ⟨_, e', h1', h2'⟩ := findAsking_strip es 0 _ hq w
      rw [h1] at h1'
      injection h1' with h1'
      subst h1'
      simp [Instr.findKey, hd' w, hs, h2']

theorem okV_sound {c : Ctx} {ok : Bool} {v : V} {u : Value} (b : Bool) (hr : R c v u) : R c (okV ok v b) (if ok then .tuple #[u, .bool b] else u) := by
  cases ok with
  | false => exact hr
  | true =>
    refine .tup rfl (fun i x y hx hy => ?_)
    match i, hx, hy with
    | 0, hx, hy => simp at hx hy; subst hx; subst hy; exact hr
    | 1, hx, hy => simp at hx hy; subst hx; subst hy; exact .d (.b b)
theorem tup2 {c : Ctx} {v w : V} {u x : Value} (h : R c v u) (k : R c w x) : R c (.tup [v, w]) (.tuple #[u, x]) := by
  refine .tup rfl (fun i a b ha hb => ?_)
  match i, ha, hb with
  | 0, ha, hb => simp at ha hb; subst ha; subst hb; exact h
  | 1, ha, hb => simp at ha hb; subst ha; subst hb; exact k
theorem tup3 {c : Ctx} {v w z : V} {u x y : Value} (h : R c v u) (k : R c w x) (l : R c z y) : R c (.tup [v, w, z]) (.tuple #[u, x, y]) := by
  refine .tup rfl (fun i a b ha hb => ?_)
  match i, ha, hb with
  | 0, ha, hb => simp at ha hb; subst ha; subst hb; exact h
  | 1, ha, hb => simp at ha hb; subst ha; subst hb; exact k
  | 2, ha, hb => simp at ha hb; subst ha; subst hb; exact l

theorem lookupC_sound {P : Program} {c : Ctx} {L : List B} (hL : RL c L) {t : TypeId} {x key : V} {u ku : Value} {ok : Bool} {v : V} (hx : R c x u) (hkey : R c key ku) (h : lookupC P L t x key ok = some v) :
    ∃ u', (Instr.lookup t u ku ok).run P c.w = .ok u' c.w ∧ R c v u' := by
  unfold lookupC at h
  split at h
  case h_2 => cases h
  rename_i kt et hu
  split at h
  case h_2 => cases h
  rename_i z k hz hk
  obtain rfl := valV_sound hkey hk
  obtain ⟨zu, hzu, hzr⟩ := zero_sound hz c c.w
  split at h
  · split at h
    case h_2 => cases h
    rename_i q hq
    injection h with h
    subst h
    cases hx
    obtain ⟨h1, h2⟩ := findC_sound (c := c) .nil hq
    refine ⟨_, ?_, okV_sound false hzr⟩
    cases q with
    | some i => obtain ⟨e, he, _⟩ := h2; simp at he
    | none => simp [Instr.lookup, run_underlying hu, h1 c.w, h2 c.w, hzu]
  · rename_i b
    split at h
    case h_2 => cases h
    rename_i n es hb
    obtain ⟨g, hg, hbb⟩ := hL.live b _ hb (by simp)
    cases hx with
    | map ho hkn hpt =>
      rw [hpt g hg]
      cases hbb with
      | vmap C clock hC hall =>
        have hget : (getObj g).run P c.w = .ok (.map C n) c.w := MapKept.run_getObj_map hC
        have hem := hall.empty
        split at h
        · rename_i hf
          injection h with h
          subst h
          obtain ⟨h1, h2⟩ := findC_sound hall hf
          refine ⟨_, ?_, okV_sound false hzr⟩
          simp [Instr.lookup, run_underlying hu, hget, hem, h1 c.w, h2 c.w, hzu]
        · rename_i i hf
          split at h
          case h_2 => cases h
          rename_i e he
          injection h with h
          subst h
          obtain ⟨h1, e', he', h2⟩ := findC_sound hall hf
          obtain ⟨e2, g1, g2, g3, g4⟩ := hall.at i e he
          rw [he'] at g1
          injection g1 with g1
          subst g1
          refine ⟨_, ?_, okV_sound true g4⟩
          simp [Instr.lookup, run_underlying hu, hget, hem, h1 c.w, h2 c.w]
        · cases h
  · cases h

/-- A map's block written. -/
theorem map_put {c0 c : Ctx} {L : List B} (hL : RL c L) (hS : Since c0 c) {b g : Nat} (hg : c.m b = some g) {C C' : Array MapEntry} {n n' : Nat} (hC : c.w.heap[g]? = some (.map C n)) {es : List (Value × V × Nat)} (ha : AllV c es C'.toList) :
    c.Le (c.putMap g (.map C' n')) ∧ RL (c.putMap g (.map C' n')) (L.set b (.vmap n' es)) ∧ Since c0 (c.putMap g (.map C' n')) := by
  have hne : ∀ X e f, (Obj.map C n) ≠ .cells X e f := fun _ _ _ => by simp
  have hle := putObj_le hg hC hne (.map C' n')
  exact ⟨hle, putObj_RL hL hg hC hne _ (.vmap C' n' (putMap_at c _ (hL.lt _ _ hg).1) (ha.mono hle)) (by simp), putMap_since hS hg _⟩

theorem modify_list {C : Array MapEntry} {j : Nat} {e : MapEntry} (h : C[j]? = some e) (f : MapEntry → MapEntry) : (C.modify j f).toList = C.toList.set j (f e) := by
  apply List.ext_getElem?
  intro i
  rw [Array.getElem?_toList, Array.getElem?_modify, List.getElem?_set]
  split
  · rename_i hij
    subst hij
    have hlt := lt_of_get h
    rw [if_pos (by simpa using hlt), h]
    rfl
  · rw [Array.getElem?_toList]

theorem keeps {P : Program} {w : World} {a b : Value} (h : Instr.sameBits 10000 a b = true) : (Instr.keyThatStays a b).run P w = .ok b w := by
  simp [Instr.keyThatStays, h]

theorem updateC_sound {P : Program} {c0 c : Ctx} {L L' : List B} (hL : RL c L) (hS : Since c0 c) {t : TypeId} {x key v : V} {u ku vu : Value} (hx : R c x u) (hkey : R c key ku) (hv : R c v vu) (h : updateC P L t x key v = some L') :
    ∃ c', (Instr.mapUpdate t u ku vu).run P c.w = .ok () c'.w ∧ c.Le c' ∧ RL c' L' ∧ Since c0 c' := by
  unfold updateC at h
  split at h
  case h_2 => cases h
  rename_i kt et hu
  split at h
  case h_2 => cases h
  rename_i b k hk
  obtain rfl := valV_sound hkey hk
  split at h
  case h_2 => cases h
  rename_i n es hb
  obtain ⟨g, hg, hbb⟩ := hL.live b _ hb (by simp)
  cases hx with
  | map ho hkn hpt =>
    rw [hpt g hg]
    cases hbb with
    | vmap C clock hC hall =>
      have hget := MapKept.run_getObj_map (P := P) hC
      split at h
      · rename_i hf
        injection h with h
        subst h
        obtain ⟨h1, h2⟩ := findC_sound hall hf
        obtain ⟨f1, f2, f3⟩ := map_put hL hS hg hC (n' := n + 1) (C' := C.push { key := ku, val := vu, born := n }) (es := es ++ [(ku, v, n)]) (by rw [Array.toList_push]; exact hall.snoc rfl rfl hv)
        refine ⟨_, ?_, f1, f2, f3⟩
        simp [Instr.mapUpdate, run_underlying hu, hget, h1 c.w, h2 c.w, MapKept.run_setObj_map _ hC, Ctx.putMap]
      · rename_i i hf
        split at h
        case h_2 => cases h
        rename_i e he
        cases hs : Instr.sameBits 10000 e.1 ku with
        | false => rw [hs] at h; cases h
        | true =>
          rw [hs] at h
          simp only [cond_true, Option.some.injEq] at h
          subst h
          obtain ⟨h1, e', he', h2⟩ := findC_sound hall hf
          obtain ⟨e2, g1, g2, g3, g4⟩ := hall.at i e he
          rw [he'] at g1
          injection g1 with g1
          subst g1
          rw [Array.getElem?_toList] at he'
          obtain ⟨f1, f2, f3⟩ := map_put hL hS hg hC (n' := n) (C' := C.modify i fun e => { e with key := ku, val := vu }) (es := es.set i (ku, v, e.2.2)) (by rw [modify_list he']; exact hall.set (e := { key := ku, val := vu, born := e'.born }) rfl g3 hv i)
          refine ⟨_, ?_, f1, f2, f3⟩
          have hkp := keeps (P := P) (w := c.w) hs
          rw [← g2] at hkp
          simp [Instr.mapUpdate, run_underlying hu, hget, h1 c.w, h2 c.w, MapKept.run_setObj_map _ hC, he', hkp, Ctx.putMap]
      · cases h

theorem mapEntryC_sound {P : Program} {c0 c : Ctx} {L L' : List B} (hL : RL c L) (hS : Since c0 c) {t : TypeId} {x key v : V} {u ku : Value} (hx : R c x u) (hkey : R c key ku) (h : mapEntryC P L t x key = some (v, L')) :
    ∃ vu c', (Instr.mapEntry t u ku).run P c.w = .ok vu c'.w ∧ Next' c0 c v L' vu c' := by
  unfold mapEntryC at h
  split at h
  case h_2 => cases h
  rename_i kt et hu
  split at h
  case h_2 => cases h
  rename_i b k z hk hz
  obtain rfl := valV_sound hkey hk
  obtain ⟨zu, hzu, hzr⟩ := zero_sound hz c c.w
  split at h
  case h_2 => cases h
  rename_i n es hb
  obtain ⟨g, hg, hbb⟩ := hL.live b _ hb (by simp)
  cases hx with
  | map ho hkn hpt =>
    rw [hpt g hg]
    cases hbb with
    | vmap C clock hC hall =>
      have hget := MapKept.run_getObj_map (P := P) hC
      split at h
      · rename_i hf
        injection h with h
        injection h with h1 h2
        subst h1; subst h2
        obtain ⟨h1, h2⟩ := findC_sound hall hf
        obtain ⟨f1, f2, f3⟩ := map_put hL hS hg hC (n' := n + 1) (C' := C.push { key := ku, val := zu, born := n }) (es := es ++ [(ku, z, n)]) (by rw [Array.toList_push]; exact hall.snoc rfl rfl hzr)
        refine ⟨_, _, ?_, f1, f2, f3, tup2 (hzr.mono f1) (.d (.i .i64 n))⟩
        simp [Instr.mapEntry, run_underlying hu, hget, h1 c.w, h2 c.w, hzu, MapKept.run_setObj_map _ hC, Ctx.putMap, goInt]
      · rename_i i hf
        split at h
        case h_2 => cases h
        rename_i e he
        cases hs : Instr.sameBits 10000 e.1 ku with
        | false => rw [hs] at h; cases h
        | true =>
          rw [hs] at h
          simp only [cond_true, Option.some.injEq, Prod.mk.injEq] at h
          obtain ⟨hv1, hv2⟩ := h
          subst hv1; subst hv2
          obtain ⟨h1, e', he', h2⟩ := findC_sound hall hf
          obtain ⟨e2, g1, g2, g3, g4⟩ := hall.at i e he
          rw [he'] at g1
          injection g1 with g1
          subst g1
          rw [Array.getElem?_toList] at he'
          obtain ⟨f1, f2, f3⟩ := map_put hL hS hg hC (n' := n) (C' := C.modify i fun e => { e with key := ku }) (es := es.set i (ku, e.2.1, e.2.2)) (by rw [modify_list he']; exact hall.set (e := { key := ku, val := e'.val, born := e'.born }) rfl g3 g4 i)
          refine ⟨_, _, ?_, f1, f2, f3, tup2 (g4.mono f1) (.d (.i .i64 e.2.2))⟩
          have hkp := keeps (P := P) (w := c.w) hs
          rw [← g2] at hkp
          simp [Instr.mapEntry, run_underlying hu, hget, h1 c.w, h2 c.w, MapKept.run_setObj_map _ hC, he', hkp, Ctx.putMap, goInt, g3]
      · cases h

theorem AllV.findBorn {c : Ctx} {ps : List (Value × V × Nat)} {es : List MapEntry} (h : AllV c ps es) (s : Int) : ps.findIdx? (fun e => (e.2.2 : Int) == s) = es.findIdx? (fun e => (e.born : Int) == s) := by
  induction h with
  | nil => rfl
  | cons hk hb hv t ih => simp only [List.findIdx?_cons, hb, ih]

theorem entryStoreC_sound {P : Program} {c0 c : Ctx} {L L' : List B} (hL : RL c L) (hS : Since c0 c) {t : TypeId} {x st v : V} {u su vu : Value} (hx : R c x u) (hst : R c st su) (hv : R c v vu) (h : entryStoreC L x st v = some L') :
    ∃ c', (Instr.entryStore t u su vu).run P c.w = .ok () c'.w ∧ c.Le c' ∧ RL c' L' ∧ Since c0 c' := by
  unfold entryStoreC at h
  split at h
  case h_2 => cases h
  rename_i b q s
  rw [hst.int]
  split at h
  case h_2 => cases h
  rename_i n es hb
  split at h
  case h_2 => cases h
  rename_i i hi
  split at h
  case h_2 => cases h
  rename_i e he
  injection h with h
  subst h
  obtain ⟨g, hg, hbb⟩ := hL.live b _ hb (by simp)
  cases hx with
  | map ho hkn hpt =>
    rw [hpt g hg]
    cases hbb with
    | vmap C clock hC hall =>
      have hget := MapKept.run_getObj_map (P := P) hC
      obtain ⟨e2, g1, g2, g3, g4⟩ := hall.at i e he
      rw [Array.getElem?_toList] at g1
      have hfi : C.findIdx? (fun e => (e.born : Int) == s) = some i := by
        rw [hall.findBorn] at hi
        cases C
        simpa using hi
      obtain ⟨f1, f2, f3⟩ := map_put hL hS hg hC (n' := n) (C' := C.modify i fun e => { e with val := vu }) (es := es.set i (e.1, v, e.2.2)) (by rw [modify_list g1]; exact hall.set (e := { key := e2.key, val := vu, born := e2.born }) g2 g3 hv i)
      refine ⟨_, ?_, f1, f2, f3⟩
      simp [Instr.entryStore, hget, asInt, asIntOf, hfi, MapKept.run_setObj_map _ hC, Ctx.putMap]

theorem deleteC_sound {P : Program} {c0 c : Ctx} {L L' : List B} (hL : RL c L) (hS : Since c0 c) {t tk ty : TypeId} {x key : V} {u ku : Value} (hx : R c x u) (hkey : R c key ku) (h : deleteC P L t x key = some L') :
    ∃ c', (Builtin.delete_ #[t, tk] ty #[u, ku]).run P c.w = .ok (.tuple #[]) c'.w ∧ c.Le c' ∧ RL c' L' ∧ Since c0 c' := by
  unfold deleteC at h
  split at h
  case h_2 => cases h
  rename_i kt et hu
  split at h
  case h_2 => cases h
  rename_i b k hk
  obtain rfl := valV_sound hkey hk
  split at h
  case h_2 => cases h
  rename_i n es hb
  obtain ⟨g, hg, hbb⟩ := hL.live b _ hb (by simp)
  have hbl : b < L.length := (List.getElem?_eq_some_iff.1 hb).1
  cases hx with
  | map ho hkn hpt =>
    rw [hpt g hg]
    cases hbb with
    | vmap C clock hC hall =>
      have hget := MapKept.run_getObj_map (P := P) hC
      have hem := hall.empty
      split at h
      · rename_i hf
        injection h with h
        subst h
        obtain ⟨h1, h2⟩ := findC_sound hall hf
        obtain ⟨f1, f2, f3⟩ := map_put hL hS hg hC (n' := n) (C' := C) (es := es) hall
        have hself : L.set b (.vmap n es) = L := by
          apply List.ext_getElem?
          intro j
          rw [List.getElem?_set]
          split
          · rename_i e; subst e; exact hb.symm
          · rfl
        rw [hself] at f2
        refine ⟨_, ?_, f1, f2, f3⟩
        simp [Builtin.delete_, run_underlying hu, hget, hem, h1 c.w, h2 c.w, MapKept.run_setObj_map _ hC, Ctx.putMap]
      · rename_i i hf
        injection h with h
        subst h
        obtain ⟨h1, e', he', h2⟩ := findC_sound hall hf
        obtain ⟨f1, f2, f3⟩ := map_put hL hS hg hC (n' := n) (C' := C.eraseIdxIfInBounds i) (es := es.eraseIdx i) (by
          rw [Array.toList_eraseIdxIfInBounds]; exact hall.erase i)
        refine ⟨_, ?_, f1, f2, f3⟩
        simp [Builtin.delete_, run_underlying hu, hget, hem, h1 c.w, h2 c.w, MapKept.run_setObj_map _ hC, Ctx.putMap]
      · cases h
end Go.Tw
