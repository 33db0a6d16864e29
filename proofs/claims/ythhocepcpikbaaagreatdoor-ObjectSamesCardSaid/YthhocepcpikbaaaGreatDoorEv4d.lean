/- The abstract run is sound: maps by strings. -/
import Derived.Test.YthhocepcpikbaaaGreatDoorEv4c
import Derived.MapKept
set_option linter.unusedVariables false
set_option linter.unusedSimpArgs false
namespace Go.Tw

theorem ba_eq {a b : ByteArray} (h : (a == b) = true) : a = b := by
  cases a
  cases b
  congr 1
  exact Array.eq_of_isEqv _ _ h
theorem ba_self (a : ByteArray) : (a == a) = true := by
  cases a
  exact Array.isEqv_self _

theorem mapT_some {P : Program} {t : TypeId} {ag : Bool} {et : TypeId} (h : mapT P t = some (ag, et)) : ∃ kt, P.underlying t = some (.map kt et) ∧ P.underlying kt = some .string ∧ isAggT P et = some ag := by
  unfold mapT at h
  split at h
  · rename_i kt et' hu
    split at h
    · rename_i h1 h2
      injection h with h
      injection h with h3 h4
      subst h3; subst h4
      exact ⟨kt, hu, h1, h2⟩
    · cases h
  · cases h

theorem find_sound {w : World} {ok : Nat → Prop} {ag : Bool} {s : ByteArray} {ps : List (ByteArray × List D)} {es : List MapEntry} (h : AllM w ok ag ps es) : ∀ i,
    (findM ps s = none ∧ Instr.findNow .string (.string s) es i = some none) ∨ (∃ cs e j a, findM ps s = some cs ∧ es[j]? = some e ∧ ps[j]? = some (a, cs) ∧ a = s ∧ RelM w ok ag (a, cs) e ∧ Instr.findNow .string (.string s) es i = some (some (i + j, e.val)) ∧ ∀ ds, setM ps s ds = ps.set j (s, ds)) := by
  induction h with
  | nil => intro i; exact .inl ⟨rfl, rfl⟩
  | cons h t ih =>
    intro i
    rename_i p e ps es
    obtain ⟨a, cs⟩ := p
    have hk : e.key = .string a := h.1
    cases hs : (s == a) with
    | true =>
      have : s = a := ba_eq hs
      refine .inr ⟨cs, e, 0, a, by simp [findM, hs], rfl, rfl, this.symm, h, by simp [Instr.findNow, hk, Instr.sameNow, hs], fun ds => by simp [setM, hs]⟩
    | false =>
      rcases ih (i + 1) with ⟨h1, h2⟩ | ⟨cs', e', j, a', h1, h2, h3, h4, h5, h6, h7⟩
      · exact .inl ⟨by simp [findM, hs, h1], by simp [Instr.findNow, hk, Instr.sameNow, hs, h2]⟩
      · refine .inr ⟨cs', e', j + 1, a', by simp [findM, hs, h1], h2, h3, h4, h5, by simp only [Instr.findNow, hk, Instr.sameNow, hs, h6]; congr 3; omega, fun ds => by simp [setM, hs, h7]⟩

theorem checkKey_string {P : Program} {w : World} {kt : TypeId} (hk : P.underlying kt = some .string) (b : Bool) (s : ByteArray) : (Instr.checkKey b 10000 kt (.string s)).run P w = .ok () w := by
  rw [show (10000 : Nat) = 9999 + 1 from rfl, Instr.checkKey, Sem.run_bind, run_underlying hk]
  rfl

theorem lookup_sound {P : Program} {c : Ctx} {L : List B} (hL : RL c L) {t : TypeId} {x key : V} {u ku : Value} {ok : Bool} {f : V → Res} {r : End × List B} (hx : R c x u) (hkey : R c key ku) (h : lookupK P L t x key ok f = some r) :
    ∃ v u', (Instr.lookup t u ku ok).run P c.w = .ok u' c.w ∧ R c v u' ∧ f v = some r := by
  unfold lookupK at h
  split at h
  case h_2 => cases h
  rename_i ag et hm
  obtain ⟨kt, hu, hk, hag⟩ := mapT_some hm
  split at h
  case h_2 => cases h
  rename_i q z s hq hz
  rw [hkey.str]
  obtain ⟨zu, hzu, hzr⟩ := zero_sound hz c c.w
  have okR : ∀ {v : V} {u : Value} (b : Bool), R c v u → R c (okV ok v b) (if ok then .tuple #[u, .bool b] else u) := by
    intro v u b hr
    cases ok with
    | false => exact hr
    | true =>
      refine .tup rfl (fun i x y hx hy => ?_)
      match i, hx, hy with
      | 0, hx, hy => simp at hx hy; subst hx; subst hy; exact hr
      | 1, hx, hy => simp at hx hy; subst hx; subst hy; exact .d (.b b)
  split at h
  · cases hx
    refine ⟨_, _, ?_, okR false hzr, h⟩
    simp [Instr.lookup, run_underlying hu, checkKey_string hk, Instr.findKey, run_underlying hk, Instr.findNow, hzu]
  · rename_i b
    split at h
    case h_2 => cases h
    rename_i ag' es hb
    split at h
    case isFalse => cases h
    rename_i hagg
    subst hagg
    obtain ⟨g, hg, hbb⟩ := hL.live b _ hb (by simp)
    cases hx with
    | map ho hkn hpt =>
      rw [hpt g hg]
      cases hbb with
      | map C clock hC hall =>
        have hget : (getObj g).run P c.w = .ok (.map C clock) c.w := MapKept.run_getObj_map hC
        unfold findK at h
        rcases find_sound (s := s) hall 0 with ⟨h1, h2⟩ | ⟨cs, e, j, a, h1, h2, h3, h4, h5, h6, _⟩
        · rw [h1] at h
          refine ⟨_, _, ?_, okR false hzr, h⟩
          simp [Instr.lookup, run_underlying hu, hget, checkKey_string hk, Instr.findKey, run_underlying hk, h2, hzu]
        · rw [h1] at h
          simp only at h
          obtain ⟨h, hlen⟩ := tcells_some h
          have hrun : (Instr.lookup t (.map (some g)) (.string s) ok).run P c.w = .ok (if ok then .tuple #[e.val, .bool true] else e.val) c.w := by
            simp [Instr.lookup, run_underlying hu, hget, checkKey_string hk, Instr.findKey, run_underlying hk, h6]
          have hrel := h5.2
          split at h
          · obtain ⟨us, e1, e2, e3⟩ := hrel
            refine ⟨_, _, hrun, okR true ?_, h⟩
            rw [e1]
            refine .agg (by simpa using e2) (fun i x u hx hu => ?_)
            simp only [List.getElem?_map, Option.map_eq_some_iff] at hx
            obtain ⟨d, hd, rfl⟩ := hx
            exact .d (e3 i d u hd hu)
          · obtain ⟨d', e1, e2⟩ := hrel
            simp only [List.cons.injEq, and_true] at e1
            subst e1
            exact ⟨_, _, hrun, okR true (.d e2), h⟩
          · cases h
  · cases h

/-- A map written. -/
def Ctx.putMap (c : Ctx) (g : Nat) (o : Obj) : Ctx := { c with w := { c.w with heap := c.w.heap.setIfInBounds g o } }
theorem putMap_other (c : Ctx) (g : Nat) (o : Obj) {g' : Nat} (h : g' ≠ g) : (c.putMap g o).w.heap[g']? = c.w.heap[g']? := by
  show (c.w.heap.setIfInBounds g o)[g']? = _
  rw [Array.getElem?_setIfInBounds_ne (Ne.symm h)]
theorem putMap_at (c : Ctx) {g : Nat} (o : Obj) (h : g < c.w.heap.size) : (c.putMap g o).w.heap[g]? = some o := by
  show (c.w.heap.setIfInBounds g o)[g]? = _
  simp [h]
theorem putMap_le {c : Ctx} {k g : Nat} (hk : c.m k = some g) {C : Array MapEntry} {n : Nat} (hC : c.w.heap[g]? = some (.map C n)) (o : Obj) : c.Le (c.putMap g o) where
  n := Nat.le_refl _
  X := rfl
  m := fun _ _ => .inl rfl
  data := fun g' hg' => putMap_other c g o (fun e => hg'.2.2 k (by rw [e]; exact hk))
  dis := fun i g' hi hg' => hg'.2.2 i hi
  shape := fun k' g' C' e _ _ _ hC' => ⟨C', (putMap_other c g o (fun he => by subst he; rw [hC] at hC'; cases hC')).trans hC', rfl⟩
theorem putMap_RL {c : Ctx} {L : List B} (hL : RL c L) {k g : Nat} (hk : c.m k = some g) {C : Array MapEntry} {n : Nat} (hC : c.w.heap[g]? = some (.map C n)) (o : Obj) {b : B} (hb : RB (c.putMap g o) b g) (hd : b ≠ .dead) : RL (c.putMap g o) (L.set k b) where
  n := by rw [List.length_set]; exact hL.n
  inj := hL.inj
  lt := fun i g' hi => by
    have := hL.lt i g' hi
    exact ⟨by show g' < (c.w.heap.setIfInBounds g o).size; rw [Array.size_setIfInBounds]; exact this.1, this.2⟩
  live := fun i b' hi hb' => by
    rw [List.getElem?_set] at hi
    split at hi
    · rename_i e
      subst e
      split at hi
      · injection hi with hi
        subst hi
        exact ⟨g, hk, hb⟩
      · cases hi
    · rename_i hne
      obtain ⟨g', hg', hr⟩ := hL.live i b' hi hb'
      exact ⟨g', hg', hr.mono (putMap_le hk hC o) (putMap_other c g o (fun e => hne (hL.inj k i g hk (by rw [← e]; exact hg'))))⟩
  dead := fun i hi => by
    rw [List.getElem?_set] at hi
    split at hi
    · split at hi
      · injection hi with hi; exact absurd hi hd
      · cases hi
    · exact hL.dead i hi
  nx := hL.nx
theorem putMap_since {c0 c : Ctx} (hS : Since c0 c) {k g : Nat} (hk : c.m k = some g) (o : Obj) : Since c0 (c.putMap g o) where
  os := hS.os
  tape := hS.tape
  output := hS.output
  size := by show _ ≤ (c.w.heap.setIfInBounds g o).size; rw [Array.size_setIfInBounds]; exact hS.size
  stay := fun g' hg' hm => by
    refine (putMap_other c g o (fun e => ?_)).trans (hS.stay g' hg' hm)
    rcases hS.own k g hk with ⟨j, hj⟩ | hge
    · exact hm j (by rw [e]; exact hj)
    · omega
  X := hS.X
  own := hS.own
  lt := hS.lt

theorem AllM.snoc {w : World} {ok : Nat → Prop} {ag : Bool} {ps : List (ByteArray × List D)} {es : List MapEntry} (h : AllM w ok ag ps es) {p : ByteArray × List D} {e : MapEntry} (hp : RelM w ok ag p e) : AllM w ok ag (ps ++ [p]) (es ++ [e]) := by
  induction h with
  | nil => exact .cons hp .nil
  | cons h _ ih => exact .cons h ih
theorem AllM.set {w : World} {ok : Nat → Prop} {ag : Bool} {ps : List (ByteArray × List D)} {es : List MapEntry} (h : AllM w ok ag ps es) {p : ByteArray × List D} {e : MapEntry} (hp : RelM w ok ag p e) : ∀ j, AllM w ok ag (ps.set j p) (es.set j e) := by
  induction h with
  | nil => intro j; exact .nil
  | cons h t ih =>
    intro j
    cases j with
    | zero => exact .cons hp t
    | succ j => exact .cons h (ih j)
theorem setM_none {s : ByteArray} {ds : List D} : ∀ {ps : List (ByteArray × List D)}, findM ps s = none → setM ps s ds = ps ++ [(s, ds)]
  | [], _ => rfl
  | (a, cs) :: ps, h => by
    unfold findM at h
    unfold setM
    cases hs : (s == a) with
    | true => rw [hs] at h; cases h
    | false =>
      rw [hs] at h
      simp only [cond_false, List.cons_append] at h ⊢
      rw [setM_none h]

theorem update_sound {P : Program} {c0 c : Ctx} {L L' : List B} (hL : RL c L) (hS : Since c0 c) {t : TypeId} {x key v : V} {u ku vu : Value} (hx : R c x u) (hkey : R c key ku) (hv : R c v vu) (h : updateV P L t x key v = some L') :
    ∃ c', (Instr.mapUpdate t u ku vu).run P c.w = .ok () c'.w ∧ c.Le c' ∧ RL c' L' ∧ Since c0 c' := by
  unfold updateV at h
  split at h
  case h_2 => cases h
  rename_i ag et b s hm
  obtain ⟨kt, hu, hk, hag⟩ := mapT_some hm
  rw [hkey.str]
  split at h
  case h_2 => cases h
  rename_i ag' es ds hb hds
  split at h
  case isFalse => cases h
  rename_i hc
  obtain ⟨rfl, hsh⟩ := hc
  injection h with h
  subst h
  obtain ⟨g, hg, hbb⟩ := hL.live b _ hb (by simp)
  obtain ⟨hdl, hdat⟩ := closeAll_sound hds
  have rel : ∀ born, RelM c.w c.ok ag (s, ds) { key := .string s, val := vu, born := born } := by
    intro born
    refine ⟨rfl, ?_⟩
    cases ag with
    | true =>
      cases v with
      | agg cs =>
        cases hv with
        | agg hl hR =>
          rename_i us
          refine ⟨us, rfl, by simp only [cellsV] at hdl; simp; omega, fun i d y hd hy => ?_⟩
          obtain ⟨v', hv', hcl⟩ := hdat i d hd
          exact close0_sound hcl (hR i v' y hv' hy)
      | _ => simp [shOK] at hsh
    | false =>
      have hcv : cellsV v = [v] := by cases v <;> first | rfl | simp [shOK] at hsh
      rw [hcv] at hds
      unfold closeAll at hds
      split at hds
      · rename_i d hd
        unfold closeAll at hds
        injection hds with hds
        exact ⟨d, hds.symm, close0_sound hd hv⟩
      · cases hds
  cases hx with
  | map ho hkn hpt =>
    rw [hpt g hg]
    cases hbb with
    | map C clock hC hall =>
      have hglt : g < c.w.heap.size := (hL.lt _ _ hg).1
      have hget := MapKept.run_getObj_map (P := P) hC
      have fin : ∀ (o : Obj) (C' : Array MapEntry) (n : Nat), o = .map C' n → AllM c.w c.ok ag (setM es s ds) C'.toList → c.Le (c.putMap g o) ∧ RL (c.putMap g o) (L.set b (.map ag (setM es s ds))) ∧ Since c0 (c.putMap g o) := by
        intro o C' n ho hall'
        subst ho
        have hle := putMap_le hg hC (.map C' n)
        exact ⟨hle, putMap_RL hL hg hC _ (.map C' n (putMap_at c _ hglt) (hall'.mono fun g' hg' => ⟨hle.ok hg', hle.data g' hg'⟩)) (by simp), putMap_since hS hg _⟩
      rcases find_sound (s := s) hall 0 with ⟨h1, h2⟩ | ⟨cs, e, j, a, h1, h2, h3, h4, h5, h6, h7⟩
      · obtain ⟨f1, f2, f3⟩ := fin (.map (C.push { key := .string s, val := vu, born := clock }) (clock + 1)) _ _ rfl (by rw [setM_none h1, Array.toList_push]; exact hall.snoc (rel clock))
        refine ⟨_, ?_, f1, f2, f3⟩
        simp [Instr.mapUpdate, run_underlying hu, hget, checkKey_string hk, MapKept.run_findKey hk h2, MapKept.run_setObj_map _ hC, Ctx.putMap]
      · subst h4
        have hek : e.key = .string a := h5.1
        rw [Nat.zero_add] at h6
        have hmod : (C.modify j fun e => { e with key := .string a, val := vu }).toList = C.toList.set j { key := .string a, val := vu, born := e.born } := by
          apply List.ext_getElem?
          intro i
          rw [Array.getElem?_toList, Array.getElem?_modify, List.getElem?_set]
          split
          · rename_i hij
            subst hij
            rw [Array.getElem?_toList] at h2
            have hlt := lt_of_get h2
            rw [if_pos (by simpa using hlt), h2]
            rfl
          · rw [Array.getElem?_toList]
        obtain ⟨f1, f2, f3⟩ := fin (.map (C.modify j fun e => { e with key := .string a, val := vu }) clock) _ _ rfl (by rw [h7, hmod]; exact hall.set (rel e.born) j)
        refine ⟨_, ?_, f1, f2, f3⟩
        have hCj : C[j]? = some e := by rw [← Array.getElem?_toList]; exact h2
        have hkeep : (Instr.keyThatStays (.string a) (.string a)).run P c.w = .ok (.string a) c.w := by
          have : Instr.sameBits 10000 (.string a) (.string a) = true := by
            unfold Instr.sameBits
            exact ba_self a
          simp [Instr.keyThatStays, this]
        simp [Instr.mapUpdate, run_underlying hu, hget, checkKey_string hk, MapKept.run_findKey hk h6, MapKept.run_setObj_map _ hC, hCj, hek, hkeep, Ctx.putMap]

end Go.Tw
