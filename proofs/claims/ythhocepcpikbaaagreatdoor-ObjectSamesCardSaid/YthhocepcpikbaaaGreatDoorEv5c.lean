/- The abstract run is sound: regions whose order is open, all orders. -/
import Derived.Test.YthhocepcpikbaaaGreatDoorEv5b
set_option linter.unusedVariables false
set_option linter.unusedSimpArgs false
namespace Go.Tw

/-! ### what comes before -/
theorem mem_union {k : Nat} : ∀ {ks l : List Nat}, k ∈ union l ks → k ∈ l ∨ k ∈ ks
  | [], l, h => .inl h
  | a :: ks, l, h => by
    unfold union at h
    rcases mem_union h with h | h
    · split at h
      · exact .inl h
      · rcases List.mem_cons.1 h with rfl | h
        · exact .inr (by simp)
        · exact .inl h
    · exact .inr (List.mem_cons_of_mem _ h)

/-- S holds what its members need. -/
def Dep (ops : Array Oper) (S : Nat → Prop) (i : Nat) : Prop := ∃ o, ops[i]? = some o ∧ ∀ e ∈ o.after, Region.binds .any e = true → S e.on
theorem ancRow_dep {S : Nat → Prop} {acc : List (List Nat)} (hacc : ∀ i, S i → ∀ j ∈ acc.getD i [], S j) : ∀ (es : List Edge) (l : List Nat), (∀ e ∈ es, Region.binds .any e = true → S e.on) → (∀ j ∈ l, S j) → ∀ j ∈ ancRow acc es l, S j
  | [], l, _, hl, j, hj => hl j hj
  | e :: es, l, he, hl, j, hj => by
    unfold ancRow at hj
    refine ancRow_dep hacc es _ (fun e' h => he e' (List.mem_cons_of_mem _ h)) (fun j hj => ?_) j hj
    split at hj
    · rename_i hb
      have hon := he e (by simp) hb
      rcases mem_union hj with hj | hj
      · rcases mem_union hj with hj | hj
        · exact hl j hj
        · obtain rfl := List.mem_singleton.1 hj; exact hon
      · exact hacc _ hon j hj
    · exact hl j hj
theorem ancs_dep {ops : Array Oper} {S : Nat → Prop} (hS : ∀ i, S i → Dep ops S i) : ∀ (os : List Oper) (acc : List (List Nat)) (pre : List Oper), ops.toList = pre ++ os → acc.length = pre.length → (∀ i, Dep ops S i → ∀ j ∈ acc.getD i [], S j) → ∀ i, Dep ops S i → ∀ j ∈ (ancs os acc).getD i [], S j
  | [], acc, pre, _, _, h, i, hi, j, hj => h i hi j hj
  | o :: os, acc, pre, hp, hl, h, i, hi, j, hj => by
    unfold ancs at hj
    refine ancs_dep hS os _ (pre ++ [o]) (by rw [hp]; simp) (by simp [hl]) (fun i hi j hj => ?_) i hi j hj
    by_cases hlt : i < acc.length
    · rw [List.getD_eq_getElem?_getD, List.getElem?_append_left hlt, ← List.getD_eq_getElem?_getD] at hj
      exact h i hi j hj
    · by_cases he : i = acc.length
      · subst he
        rw [List.getD_eq_getElem?_getD, List.getElem?_append_right (Nat.le_refl _)] at hj
        simp only [Nat.sub_self, List.getElem?_cons_zero, Option.getD_some] at hj
        obtain ⟨q, hq, hd⟩ := hi
        have : ops[acc.length]? = some o := by
          rw [← Array.getElem?_toList, hp, List.getElem?_append_right (by omega), hl, Nat.sub_self]
          rfl
        rw [this] at hq
        injection hq with hq
        subst hq
        exact ancRow_dep (fun i hi j hj => h i (hS i hi) j hj) _ _ (fun e he hb => hd e (Array.mem_toList_iff.1 he) hb) (by simp) j hj
      · rw [List.getD_eq_getElem?_getD, List.getElem?_eq_none (by simp; omega)] at hj
        simp at hj

/-! ### guards -/
def guardV (ops : Array Oper) (fr : List V) (o : Oper) : Option Bool :=
  match o.guard with
  | none => some true
  | some (j, want) => match yieldV ops fr j with
    | some (some x) => some (x == want)
    | some none => some false
    | none => none

theorem yieldV_at {ops : Array Oper} {fr : List V} {j : Nat} {x : Bool} (h : yieldV ops fr j = some (some x)) : setAt fr ((ops[j]?).bind (·.dst)) (.d (.b x)) = fr := by
  unfold yieldV at h
  split at h
  · rename_i t ht
    rw [ht]
    simp only [setAt]
    split at h
    · rename_i y hy
      injection h with h
      injection h with h
      subst h
      apply List.ext_getElem?
      intro i
      rw [List.getElem?_set]
      split
      · rename_i e
        subst e
        rw [if_pos (List.getElem?_eq_some_iff.1 hy).1, hy]
      · rfl
    · cases h
    · cases h
  · cases h

theorem evG_some {E : Env} {ops : Array Oper} {o : Oper} {fr : List V} {L : List B} {k : List V → V → List B → Res} {r : End × List B} (h : evG E ops o fr L k = some r) :
    (guardV ops fr o = some true ∧ evOp E o fr L (k fr) noK = some r) ∨ (guardV ops fr o = some false ∧ k fr .gun L = some r) := by
  unfold evG at h
  unfold guardV
  split at h
  · rename_i hg
    rw [hg]
    exact .inl ⟨rfl, h⟩
  · rename_i j want hg
    rw [hg]
    simp only
    split at h
    · rename_i x hy
      rw [hy]
      simp only at h ⊢
      have hf := yieldV_at hy
      cases want <;> cases x
      · simp only [cond_false] at h; rw [hf] at h; exact .inl ⟨rfl, h⟩
      · simp only [cond_true] at h; rw [hf] at h; exact .inr ⟨rfl, h⟩
      · simp only [cond_false] at h; rw [hf] at h; exact .inr ⟨rfl, h⟩
      · simp only [cond_true] at h; rw [hf] at h; exact .inl ⟨rfl, h⟩
    · rename_i hy
      rw [hy]
      exact .inr ⟨rfl, h⟩
    · cases h

theorem guard_sound {c : Ctx} {fr : List V} {a : Act} (hF : RF c fr a.tmps) {ops : Array Oper} {o : Oper} {b : Bool} (h : guardV ops fr o = some b) : Region.wanted o (yielded ops a.tmps) = b := by
  unfold guardV at h
  unfold Region.wanted
  split at h
  · rename_i hg
    rw [hg]
    injection h
  · rename_i j want hg
    rw [hg]
    simp only
    split at h
    · rename_i x hy
      injection h with h
      rw [(yield_sound hF hy).1, ← h]
      cases x <;> cases want <;> rfl
    · rename_i hy
      injection h with h
      rw [(yield_sound hF hy).1, ← h]
      rfl
    · cases h

/-- Frames that agree where an operation looks. -/
def Same (ops : Array Oper) (o : Oper) (fr fr' : List V) : Prop := ∀ t ∈ looks ops o, fr[t]? = fr'[t]?
theorem Same.op {ops : Array Oper} {o : Oper} {fr fr' : List V} (h : Same ops o fr fr') : ∀ x ∈ o.op.operands, evO fr x = evO fr' x := by
  intro x hx
  cases x with
  | tmp t =>
    have := h t (List.mem_append_left _ (List.mem_filterMap.2 ⟨.tmp t, Array.mem_toList_iff.2 hx, rfl⟩))
    simp only [evO, List.getD_eq_getElem?_getD, this]
  | _ => rfl
theorem Same.guard {ops : Array Oper} {o : Oper} {fr fr' : List V} (h : Same ops o fr fr') : guardV ops fr o = guardV ops fr' o := by
  unfold guardV
  cases hg : o.guard with
  | none => rfl
  | some q =>
    obtain ⟨j, want⟩ := q
    have : yieldV ops fr j = yieldV ops fr' j := by
      unfold yieldV
      cases ht : (ops[j]?).bind (·.dst) with
      | none => rfl
      | some t =>
        have := h t (List.mem_append_right _ (by simp [hg, ht]))
        simp only [this]
    simp only [this]
theorem Same.fp {ops : Array Oper} {o : Oper} {fr fr' : List V} (h : Same ops o fr fr') : fpOf o fr = fpOf o fr' := by
  unfold fpOf
  simp only [List.flatMap_def]
  congr 1
  exact List.map_congr_left fun x hx => by rw [h.op x (Array.mem_toList_iff.1 hx)]
theorem Same.wr {E : Env} {ops : Array Oper} {o : Oper} {fr fr' : List V} {L : List B} (h : Same ops o fr fr') : wrOf E o fr L = wrOf E o fr' L := by
  have hop := h.op
  obtain ⟨dst, op, type, pos, after, guard⟩ := o
  cases op <;> simp only [Op.operands] at hop <;> simp only [wrOf]
  case store t a x => rw [hop a (by simp)]
  case mapUpdate t m key v => rw [hop m (by simp)]
  case insert t m key v => rw [hop m (by simp)]
  case mapEntry t m key => rw [hop m (by simp)]
  case entryStore t m st v => rw [hop m (by simp)]
  case next x b => rw [hop x (by simp)]
  case call c =>
    have hargs : c.args.toList.map (evO fr) = c.args.toList.map (evO fr') := List.map_congr_left fun x hx => hop x (by simp [Call.operands, Array.mem_toList_iff.1 hx])
    simp only [hargs]
    cases hc : c.callee with
    | value f => have hf : evO fr f = evO fr' f := hop f (by simp [Call.operands, hc]); simp only [hf]
    | _ => rfl

/-- An operation that may wait: what it will come to. -/
def PF (E : Env) (ops : Array Oper) (o : Oper) (fr : List V) (L : List B) : Prop :=
  ∃ v, ((guardV ops fr o = some true ∧ ∀ q : V → List B → Res, evOp E o fr L q noK = q v L) ∨ (guardV ops fr o = some false ∧ v = .gun)) ∧ ∀ d, o.dst = some d → d < fr.length → fr[d]? = some v

theorem PF.move {E : Env} {ops : Array Oper} {o : Oper} {fr fr' : List V} {L L' : List B} (hr : isRead o = true) (h : PF E ops o fr L) (hs : Same ops o fr fr') (hl : fr'.length = fr.length) (hd : ∀ d, o.dst = some d → fr'[d]? = fr[d]?) (hL : ∀ k ∈ fpOf o fr, L[k]? = L'[k]?) : PF E ops o fr' L' := by
  obtain ⟨v, h1, h2⟩ := h
  refine ⟨v, ?_, fun d he hlt => by rw [hd d he]; exact h2 d he (by rw [← hl]; exact hlt)⟩
  rw [← hs.guard]
  rcases h1 with ⟨h1, h3⟩ | h1
  · refine .inl ⟨h1, fun q => ?_⟩
    have h4 := h3 (fun v' _ => some (.ret v', []))
    obtain ⟨v', h5, h6⟩ := read_core hr h4
    have : v' = v := by injection h5 with h5; injection h5 with h5 _; injection h5
    subst this
    rw [← evOp_congr hs.op]
    exact h6 L' hL q noK
  · exact .inr h1

/-! ### all orders -/
abbrev On (l : Array Bool) (i : Nat) : Prop := l.getD i false = true
def pendAt (ops : Array Oper) (lc lw : Array Bool) (t : Tmp) : Bool := (List.range ops.size).any fun i => lc.getD i false && !lw.getD i false && ((ops[i]?).bind (·.dst) == some t)
def mask (ops : Array Oper) (lc lw : Array Bool) (fr : List V) : List V := fr.mapIdx fun t v => bif pendAt ops lc lw t then .undef else v

theorem pendAt_some {ops : Array Oper} {lc lw : Array Bool} {t : Tmp} (h : pendAt ops lc lw t = true) : ∃ i o, On lc i ∧ ¬ On lw i ∧ ops[i]? = some o ∧ o.dst = some t := by
  unfold pendAt at h
  obtain ⟨i, hi, h⟩ := List.any_eq_true.1 h
  simp only [Bool.and_eq_true, Bool.not_eq_true', beq_iff_eq] at h
  obtain ⟨⟨h1, h2⟩, h3⟩ := h
  obtain ⟨o, ho, hd⟩ := Option.bind_eq_some_iff.1 h3
  exact ⟨i, o, h1, by simp [On, h2], ho, hd⟩
theorem pendAt_of {ops : Array Oper} {lc lw : Array Bool} {t : Tmp} {i : Nat} {o : Oper} (h1 : On lc i) (h2 : ¬ On lw i) (ho : ops[i]? = some o) (hd : o.dst = some t) : pendAt ops lc lw t = true := by
  unfold pendAt
  refine List.any_eq_true.2 ⟨i, List.mem_range.2 (Array.getElem?_eq_some_iff.1 ho).1, ?_⟩
  simp only [On] at h1 h2
  simp [h1, h2, ho, hd]

theorem mask_at {ops : Array Oper} {lc lw : Array Bool} {fr : List V} (t : Nat) : (mask ops lc lw fr)[t]? = (fr[t]?).map fun v => bif pendAt ops lc lw t then .undef else v := by
  simp [mask, List.getElem?_mapIdx]
theorem mask_RF {c c' : Ctx} {ops : Array Oper} {lc lw lc' lw' : Array Bool} {fr fr' : List V} {tm tm' : Array Value} (hF : RF c (mask ops lc lw fr) tm) (hle : c.Le c') (h1 : fr'.length = fr.length) (h2 : tm'.size = tm.size)
    (h : ∀ (t : Nat) x y, pendAt ops lc' lw' t = false → fr'[t]? = some x → tm'[t]? = some y → R c' x y ∨ (pendAt ops lc lw t = false ∧ fr[t]? = some x ∧ tm[t]? = some y)) : RF c' (mask ops lc' lw' fr') tm' := by
  refine ⟨by have := hF.n; simp [mask] at this ⊢; omega, fun t x y hx hy => ?_⟩
  rw [mask_at] at hx
  obtain ⟨x0, hx0, rfl⟩ := Option.map_eq_some_iff.1 hx
  cases hp : pendAt ops lc' lw' t with
  | true => exact .undef _
  | false =>
    rcases h t x0 y hp hx0 hy with h | ⟨h3, h4, h5⟩
    · exact h
    · refine (hF.at_ t x0 y ?_ h5).mono hle
      rw [mask_at, h4, h3]
      rfl

structure OK (ops : Array Oper) (anc : List (List Nat)) : Prop where
  back : ∀ (i : Nat) (o : Oper) (e : Edge), ops[i]? = some o → e ∈ o.after → Region.binds .any e = true → e.on < i
  dst : ∀ (i j : Nat) (o q : Oper) (d : Tmp), i ≠ j → ops[i]? = some o → ops[j]? = some q → q.dst = some d → o.dst ≠ some d
  use : ∀ (i j : Nat) (o q : Oper) (d : Tmp), ops[i]? = some o → ops[j]? = some q → q.dst = some d → d ∈ looks ops o → j ∈ anc.getD i [] ∨ (i ∈ anc.getD j [] ∧ free ops anc j = false)
theorem drawOK_spec {ops : Array Oper} {anc : List (List Nat)} (h : drawOK ops anc = true) : OK ops anc := by
  have hi : ∀ i o, ops[i]? = some o → _ := fun i o ho => List.all_eq_true.1 h i (List.mem_range.2 (Array.getElem?_eq_some_iff.1 ho).1)
  have hj : ∀ i j o q d, ops[i]? = some o → ops[j]? = some q → q.dst = some d → (Nat.beq i j || o.dst != some d) = true ∧ (!(looks ops o).contains d || (anc.getD i []).contains j || ((anc.getD j []).contains i && !free ops anc j)) = true := by
    intro i j o q d ho hq hd
    have h1 := hi i o ho
    simp only [ho, Bool.and_eq_true] at h1
    have h2 := List.all_eq_true.1 h1.2 j (List.mem_range.2 (Array.getElem?_eq_some_iff.1 hq).1)
    simp only [hq, hd, Bool.and_eq_true] at h2
    exact h2
  refine ⟨fun i o e ho he hb => ?_, fun i j o q d hij ho hq hd e => ?_, fun i j o q d ho hq hd hl => ?_⟩
  · have h1 := hi i o ho
    simp only [ho, Bool.and_eq_true] at h1
    have h2 := List.all_eq_true.1 h1.1 e (Array.mem_toList_iff.2 he)
    simp only [hb, Bool.not_true, Bool.false_or] at h2
    exact cast Nat.blt_eq h2
  · have h1 := (hj i j o q d ho hq hd).1
    rw [e] at h1
    have h2 : Nat.beq i j = false := by
      cases hb : Nat.beq i j with
      | true => exact absurd (Nat.eq_of_beq_eq_true hb) hij
      | false => rfl
    simp [h2] at h1
  · have h1 := (hj i j o q d ho hq hd).2
    have hc : (looks ops o).contains d = true := by simpa using hl
    simp only [hc, Bool.not_true, Bool.false_or, Bool.or_eq_true, Bool.and_eq_true, Bool.not_eq_true'] at h1
    rcases h1 with h1 | h1
    · exact .inl (by simpa using h1)
    · exact .inr ⟨by simpa using h1.1, h1.2⟩

structure DI (E : Env) (ops : Array Oper) (anc : List (List Nat)) (c0 c : Ctx) (lc lw : Array Bool) (fr : List V) (L : List B) (a : Act) : Prop where
  szc : lc.size = ops.size
  szw : lw.size = ops.size
  sub : ∀ i, On lw i → On lc i
  clc : ∀ i, On lc i → Dep ops (On lc) i
  clw : ∀ i, On lw i → Dep ops (On lw) i
  eff : ∀ i, On lc i → free ops anc i = false → On lw i
  pf : ∀ i o, On lc i → ¬ On lw i → ops[i]? = some o → PF E ops o fr L
  L : RL c L
  S : Since c0 c
  le : c0.Le c
  d : a.defers = c0.ds
  F : RF c (mask ops lc lw fr) a.tmps

theorem on_set {l : Array Bool} {i j : Nat} (hi : i < l.size) : On (l.setIfInBounds i true) j ↔ j = i ∨ On l j := by
  unfold On
  by_cases h : i = j
  · subst h; simp [Array.getD_eq_getD_getElem?, hi]
  · rw [getD_set_ne false h]
    constructor
    · exact .inr
    · rintro (rfl | h')
      · exact absurd rfl h
      · exact h'

theorem ready_iff {ops : Array Oper} {l : Array Bool} (hs : l.size = ops.size) {i : Nat} : i ∈ Region.ready .any ops l ↔ ¬ On l i ∧ Dep ops (On l) i := by
  rw [mem_ready]
  constructor
  · rintro ⟨h1, o, ho, h2⟩
    refine ⟨fun h => ?_, o, ho, h2⟩
    unfold On at h
    have hlt : i < l.size := by rw [hs]; exact (Array.getElem?_eq_some_iff.1 ho).1
    simp [Array.getD_eq_getD_getElem?, hlt] at h h1
    rw [h] at h1; cases h1
  · rintro ⟨h1, o, ho, h2⟩
    refine ⟨?_, o, ho, h2⟩
    have hlt : i < l.size := by rw [hs]; exact (Array.getElem?_eq_some_iff.1 ho).1
    simp [On, Array.getD_eq_getD_getElem?, hlt] at h1 ⊢
    exact h1

theorem Dep.mono {ops : Array Oper} {S T : Nat → Prop} (h : ∀ i, S i → T i) {i : Nat} (hd : Dep ops S i) : Dep ops T i := by
  obtain ⟨o, ho, h1⟩ := hd
  exact ⟨o, ho, fun e he hb => h _ (h1 e he hb)⟩

theorem free_spec {ops : Array Oper} {anc : List (List Nat)} {i : Nat} {o : Oper} (ho : ops[i]? = some o) (h : free ops anc i = true) : isRead o = true ∧ ∀ d j q, o.dst = some d → ops[j]? = some q → d ∈ looks ops q → i ∈ anc.getD j [] := by
  unfold free at h
  rw [ho] at h
  simp only [Bool.and_eq_true] at h
  refine ⟨h.1, fun d j q hd hq hl => ?_⟩
  have h2 := h.2
  rw [hd] at h2
  have h3 := List.all_eq_true.1 h2 j (List.mem_range.2 (Array.getElem?_eq_some_iff.1 hq).1)
  rw [hq] at h3
  have hc : (looks ops q).contains d = true := by simpa using hl
  simp only [hc, Bool.not_true, Bool.false_or] at h3
  simpa using h3

theorem comb_both {a b : Res} {r : End × List B} (h : comb a b = some r) : a = some r ∧ b = some r := by
  unfold comb at h
  split at h
  · rename_i e; exact ⟨h, e ▸ h⟩
  · cases h
theorem combs_some {cmb : Res → Res → Res} (hc : ∀ a b r, cmb a b = some r → a = some r ∧ b = some r) {f : Nat → Res} {r : End × List B} : ∀ {l : List Nat}, combs cmb f l = some r → ∀ i ∈ l, f i = some r
  | [], h, i, hi => by cases hi
  | [j], h, i, hi => by simp at hi; subst hi; exact h
  | j :: k :: l, h, i, hi => by
    obtain ⟨h1, h2⟩ := hc _ _ _ (show cmb (f j) (combs cmb f (k :: l)) = some r from h)
    rcases List.mem_cons.1 hi with rfl | hi
    · exact h1
    · exact combs_some hc h2 i hi

theorem setAt_ne {fr : List V} {dst : Option Tmp} {v : V} {t : Nat} (h : dst ≠ some t) : (setAt fr dst v)[t]? = fr[t]? := by
  cases dst with
  | none => rfl
  | some d => simp only [setAt]; rw [List.getElem?_set_ne (fun e => h (by rw [e]))]
theorem setAt_length (fr : List V) (dst : Option Tmp) (v : V) : (setAt fr dst v).length = fr.length := by cases dst <;> simp [setAt]
theorem setAt_eq {fr : List V} {d : Tmp} {v : V} (h : d < fr.length) : (setAt fr (some d) v)[d]? = some v := by simp [setAt, h]
theorem put_ne {a : Act} {dst : Option Tmp} {u : Value} {t : Nat} (h : dst ≠ some t) : (a.put dst u).tmps[t]? = a.tmps[t]? := by
  cases dst with
  | none => rfl
  | some d => simp only [Act.put]; rw [Array.getElem?_setIfInBounds_ne (fun e => h (by rw [e]))]
theorem put_size (a : Act) (dst : Option Tmp) (u : Value) : (a.put dst u).tmps.size = a.tmps.size := by cases dst <;> simp [Act.put]
theorem put_eq {a : Act} {d : Tmp} {u y : Value} (h : (a.put (some d) u).tmps[d]? = some y) : y = u := by
  simp only [Act.put] at h
  rw [Array.getElem?_setIfInBounds] at h
  simp at h
  exact h.2.symm

section
variable {E : Env} {ops : Array Oper} {anc : List (List Nat)} {c0 : Ctx} {k : List V → List B → Res} {r : End × List B}

/-- Where an operation is ready, nothing that it looks at is outstanding. -/
theorem DI.same (hok : OK ops anc) (hanc : anc = ancs ops.toList []) {c : Ctx} {lc lw : Array Bool} {fr : List V} {L : List B} {a : Act} (h : DI E ops anc c0 c lc lw fr L a) {i : Nat} {o : Oper} (ho : ops[i]? = some o) (hn : ¬ On lw i) (hd : Dep ops (On lw) i) : Same ops o fr (mask ops lc lw fr) := by
  intro t ht
  have hp : pendAt ops lc lw t = false := by
    cases hp : pendAt ops lc lw t with
    | false => rfl
    | true =>
      obtain ⟨j, q, h1, h2, hq, hqd⟩ := pendAt_some hp
      rcases hok.use i j o q t ho hq hqd ht with h3 | ⟨h3, h4⟩
      · subst hanc
        exact absurd (ancs_dep h.clw ops.toList [] [] rfl rfl (fun i _ j hj => by simp at hj) i hd j h3) h2
      · exact absurd (h.eff j h1 h4) h2
  rw [mask_at, hp]
  cases fr[t]? <;> rfl

theorem DI.read (hok : OK ops anc) (hanc : anc = ancs ops.toList []) {c : Ctx} {lc lw : Array Bool} {fr : List V} {L : List B} {a : Act} (h : DI E ops anc c0 c lc lw fr L a) {i : Nat} {o : Oper} (ho : ops[i]? = some o) (hf : free ops anc i = true)
    (hr : i ∈ Region.ready .any ops lc) {v : V} (hv : (guardV ops fr o = some true ∧ ∀ q : V → List B → Res, evOp E o fr L q noK = q v L) ∨ (guardV ops fr o = some false ∧ v = .gun)) :
    DI E ops anc c0 c (lc.setIfInBounds i true) lw (setAt fr o.dst v) L a := by
  obtain ⟨hn, hdep⟩ := (ready_iff h.szc).1 hr
  have hlt : i < lc.size := by rw [h.szc]; exact (Array.getElem?_eq_some_iff.1 ho).1
  obtain ⟨hread, huse⟩ := free_spec ho hf
  have hnw : ¬ On lw i := fun e => hn (h.sub i e)
  have hself : ∀ d, o.dst = some d → d ∉ looks ops o := fun d hd hl => by
    have := huse d i o hd ho hl
    subst hanc
    exact hn (ancs_dep h.clc ops.toList [] [] rfl rfl (fun i _ j hj => by simp at hj) i hdep i this)
  have hother : ∀ p q, On lc p → ops[p]? = some q → ∀ d, o.dst = some d → d ∉ looks ops q := fun p q hp hq d hd hl => by
    have := huse d p q hd hq hl
    subst hanc
    exact hn (ancs_dep h.clc ops.toList [] [] rfl rfl (fun i _ j hj => by simp at hj) p (h.clc p hp) i this)
  have sm : ∀ q, (∀ d, o.dst = some d → d ∉ looks ops q) → Same ops q fr (setAt fr o.dst v) := fun q hq t ht => (setAt_ne (fun e => hq t e ht)).symm
  refine ⟨by simp [h.szc], h.szw, fun j hj => (on_set hlt).2 (.inr (h.sub j hj)), fun j hj => ?_, h.clw, fun j hj hfj => ?_, fun j q hj hjw hq => ?_, h.L, h.S, h.le, h.d, ?_⟩
  · rcases (on_set hlt).1 hj with rfl | hj
    · exact hdep.mono fun i hi => (on_set hlt).2 (.inr hi)
    · exact (h.clc j hj).mono fun i hi => (on_set hlt).2 (.inr hi)
  · rcases (on_set hlt).1 hj with rfl | hj
    · rw [hf] at hfj; cases hfj
    · exact h.eff j hj hfj
  · by_cases hij : j = i
    · subst hij
      rw [ho] at hq
      injection hq with hq
      subst hq
      have hs := sm o hself
      refine ⟨v, ?_, fun d hd hdl => by rw [hd]; exact setAt_eq (by rw [setAt_length] at hdl; exact hdl)⟩
      rw [← hs.guard]
      rcases hv with ⟨h1, h2⟩ | h1
      · exact .inl ⟨h1, fun q => by rw [← evOp_congr hs.op]; exact h2 q⟩
      · exact .inr h1
    · rcases (on_set hlt).1 hj with e | hj
      · exact absurd e hij
      · have hp := h.pf j q hj hjw hq
        have hfj : free ops anc j = true := by
          cases hfj : free ops anc j with
          | true => rfl
          | false => exact absurd (h.eff j hj hfj) hjw
        exact hp.move (free_spec hq hfj).1 (sm q (hother j q hj hq)) (setAt_length _ _ _) (fun d hd => setAt_ne (fun e => hok.dst j i q o d hij hq ho e hd)) (fun _ _ => rfl)
  · refine mask_RF h.F (.refl c) (setAt_length _ _ _) rfl (fun t x y hp hx hy => ?_)
    have hne : o.dst ≠ some t := fun e => by
      rw [pendAt_of (ops := ops) ((on_set hlt).2 (.inl rfl)) hnw ho e] at hp; cases hp
    rw [setAt_ne hne] at hx
    refine .inr ⟨?_, hx, hy⟩
    cases hq : pendAt ops lc lw t with
    | false => rfl
    | true =>
      obtain ⟨j, q, h1, h2, hj, hjd⟩ := pendAt_some hq
      rw [pendAt_of ((on_set hlt).2 (.inr h1)) h2 hj hjd] at hp; cases hp

def Settled (ops : Array Oper) (anc : List (List Nat)) (lc : Array Bool) : Prop := ∀ i ∈ Region.ready .any ops lc, free ops anc i = false

theorem settle (hok : OK ops anc) (hanc : anc = ancs ops.toList []) : ∀ (n : Nat) {c : Ctx} {lc lw : Array Bool} {pend : List Nat} {fr : List V} {L : List B} {a : Act}, evD E ops anc k n lc pend fr L = some r → DI E ops anc c0 c lc lw fr L a → (∀ i, On lc i → ¬ On lw i → i ∈ pend) →
    ∃ n' lc' pend' fr', Settled ops anc lc' ∧ evD E ops anc k n' lc' pend' fr' L = some r ∧ DI E ops anc c0 c lc' lw fr' L a ∧ (∀ i, On lc' i → ¬ On lw i → i ∈ pend')
  | 0, c, lc, lw, pend, fr, L, a, h, _, _ => by simp [evD] at h
  | n + 1, c, lc, lw, pend, fr, L, a, h, hD, hp => by
    cases hr : (Region.ready .any ops lc).find? (free ops anc) with
    | none => exact ⟨n + 1, lc, pend, fr, fun i hi => by simpa using List.find?_eq_none.1 hr i hi, h, hD, hp⟩
    | some i =>
      have hfi : free ops anc i = true := List.find?_some hr
      have hmem := List.mem_of_find?_eq_some hr
      unfold evD at h
      split at h
      · rename_i he; rw [he] at hmem; simp at hmem
      · rename_i x xs he
        rw [← he, hr] at h
        simp only at h
        split at h
        case h_2 => cases h
        rename_i o ho
        have hlt : i < lc.size := by rw [hD.szc]; exact (Array.getElem?_eq_some_iff.1 ho).1
        have hp' : ∀ j, On (lc.setIfInBounds i true) j → ¬ On lw j → j ∈ i :: pend := fun j hj hw => by
          rcases (on_set hlt).1 hj with rfl | hj
          · simp
          · exact List.mem_cons_of_mem _ (hp j hj hw)
        rcases evG_some h with ⟨h1, h2⟩ | ⟨h1, h2⟩
        · obtain ⟨v, h3, h4⟩ := read_core (free_spec ho hfi).1 h2
          exact settle hok hanc n h3 (hD.read hok hanc ho hfi hmem (.inl ⟨h1, fun q => h4 L (fun _ _ => rfl) q noK⟩)) hp'
        · exact settle hok hanc n h2 (hD.read hok hanc ho hfi hmem (.inr ⟨h1, rfl⟩)) hp'
/-- What waited is done. -/
theorem DI.done (hok : OK ops anc) {c c' : Ctx} {lc lw : Array Bool} {fr : List V} {L : List B} {a : Act} (h : DI E ops anc c0 c lc lw fr L a) {i : Nat} {o : Oper} (ho : ops[i]? = some o) (hc : On lc i) (hw : ¬ On lw i) (hd : Dep ops (On lw) i) {v : V} {u : Value}
    (hv : ∀ d, o.dst = some d → d < fr.length → fr[d]? = some v) (hR : R c' v u) (hle : c.Le c') (hL : RL c' L) (hS : Since c0 c') : DI E ops anc c0 c' lc (lw.setIfInBounds i true) fr L (a.put o.dst u) := by
  have hlt : i < lw.size := by rw [h.szw]; exact (Array.getElem?_eq_some_iff.1 ho).1
  refine ⟨h.szc, by simp [h.szw], fun j hj => ?_, h.clc, fun j hj => ?_, fun j hj hf => (on_set hlt).2 (.inr (h.eff j hj hf)), fun j q hj hjw hq => h.pf j q hj (fun e => hjw ((on_set hlt).2 (.inr e))) hq, hL, hS, h.le.trans hle, by rw [put_defers]; exact h.d, ?_⟩
  · rcases (on_set hlt).1 hj with rfl | hj
    · exact hc
    · exact h.sub j hj
  · rcases (on_set hlt).1 hj with rfl | hj
    · exact hd.mono fun i hi => (on_set hlt).2 (.inr hi)
    · exact (h.clw j hj).mono fun i hi => (on_set hlt).2 (.inr hi)
  · refine mask_RF h.F hle rfl (put_size _ _ _) (fun t x y hp hx hy => ?_)
    by_cases hdt : o.dst = some t
    · have hxl : t < fr.length := (List.getElem?_eq_some_iff.1 hx).1
      rw [hv t hdt hxl] at hx
      injection hx with hx
      subst hx
      rw [hdt] at hy
      rw [put_eq hy]
      exact .inl hR
    · rw [put_ne hdt] at hy
      refine .inr ⟨?_, hx, hy⟩
      cases hq : pendAt ops lc lw t with
      | false => rfl
      | true =>
        obtain ⟨j, q, h1, h2, hj, hjd⟩ := pendAt_some hq
        have hji : j ≠ i := fun e => by subst e; rw [ho] at hj; injection hj with hj; subst hj; exact hdt hjd
        rw [pendAt_of h1 (fun e => by rcases (on_set hlt).1 e with e | e; exact hji e; exact h2 e) hj hjd] at hp; cases hp

/-- An effect, in its turn. -/
theorem DI.effect (hok : OK ops anc) (hanc : anc = ancs ops.toList []) {c c' : Ctx} {lc lw : Array Bool} {fr : List V} {L L' : List B} {a : Act} (h : DI E ops anc c0 c lc lw fr L a) {i : Nat} {o : Oper} (ho : ops[i]? = some o) (hf : free ops anc i = false) (hc : ¬ On lc i) (hd : Dep ops (On lw) i) {v : V} {u : Value} {pend : List Nat}
    (hpd : ∀ i, On lc i → ¬ On lw i → i ∈ pend) (hpend : pend.all (fun p => (anc.getD i []).contains p || (match ops[p]? with | some q => (fpOf q fr).all fun b => Nat.blt b L.length && !(wrOf E o fr L).contains b | none => true)) = true)
    (hfrm : ∀ p q, On lc p → ¬ On lw p → ops[p]? = some q → (∀ b ∈ fpOf q fr, b < L.length ∧ b ∉ wrOf E o fr L) → PF E ops q fr L')
    (hR : R c' v u) (hle : c.Le c') (hL : RL c' L') (hS : Since c0 c') : DI E ops anc c0 c' (lc.setIfInBounds i true) (lw.setIfInBounds i true) (setAt fr o.dst v) L' (a.put o.dst u) := by
  have hlt : i < lw.size := by rw [h.szw]; exact (Array.getElem?_eq_some_iff.1 ho).1
  have hltc : i < lc.size := by rw [h.szc]; exact (Array.getElem?_eq_some_iff.1 ho).1
  refine ⟨by simp [h.szc], by simp [h.szw], fun j hj => ?_, fun j hj => ?_, fun j hj => ?_, fun j hj hfj => ?_, fun j q hj hjw hq => ?_, hL, hS, h.le.trans hle, by rw [put_defers]; exact h.d, ?_⟩
  · rcases (on_set hlt).1 hj with rfl | hj
    · exact (on_set hltc).2 (.inl rfl)
    · exact (on_set hltc).2 (.inr (h.sub j hj))
  · rcases (on_set hltc).1 hj with rfl | hj
    · exact (hd.mono h.sub).mono fun i hi => (on_set hltc).2 (.inr hi)
    · exact (h.clc j hj).mono fun i hi => (on_set hltc).2 (.inr hi)
  · rcases (on_set hlt).1 hj with rfl | hj
    · exact hd.mono fun i hi => (on_set hlt).2 (.inr hi)
    · exact (h.clw j hj).mono fun i hi => (on_set hlt).2 (.inr hi)
  · rcases (on_set hltc).1 hj with rfl | hj
    · exact (on_set hlt).2 (.inl rfl)
    · exact (on_set hlt).2 (.inr (h.eff j hj hfj))
  · have hjw' : ¬ On lw j := fun e => hjw ((on_set hlt).2 (.inr e))
    have hij : j ≠ i := fun e => hjw ((on_set hlt).2 (.inl e))
    have hj' : On lc j := by
      rcases (on_set hltc).1 hj with e | e
      · exact absurd e hij
      · exact e
    have hfj : free ops anc j = true := by
      cases hfj : free ops anc j with
      | true => rfl
      | false => exact absurd (h.eff j hj' hfj) hjw'
    have hin : ∀ p, p ∈ anc.getD i [] → On lw p := fun p hp => by
      subst hanc
      exact ancs_dep h.clw ops.toList [] [] rfl rfl (fun i _ j hj => by simp at hj) i hd p hp
    have hp := List.all_eq_true.1 hpend j (hpd j hj' hjw')
    rw [hq] at hp
    have hb : ∀ b ∈ fpOf q fr, b < L.length ∧ b ∉ wrOf E o fr L := by
      rcases Bool.or_eq_true _ _ ▸ hp with hp | hp
      · exact absurd (hin j (by simpa using hp)) hjw'
      · intro b hb
        have := List.all_eq_true.1 hp b hb
        simp only [Bool.and_eq_true, Bool.not_eq_true'] at this
        exact ⟨cast Nat.blt_eq this.1, fun hb' => by simp [hb'] at this⟩
    have hpf := hfrm j q hj' hjw' hq hb
    refine hpf.move (free_spec hq hfj).1 (fun t ht => (setAt_ne (fun e => ?_)).symm) (setAt_length _ _ _) (fun d hd => setAt_ne (fun e => hok.dst j i q o d hij hq ho e hd)) (fun _ _ => rfl)
    rcases hok.use j i q o t hq ho e ht with h3 | ⟨h3, _⟩
    · subst hanc
      exact hc (ancs_dep h.clc ops.toList [] [] rfl rfl (fun i _ j hj => by simp at hj) j (h.clc j hj') i h3)
    · exact hjw' (hin j h3)
  · refine mask_RF h.F hle (setAt_length _ _ _) (put_size _ _ _) (fun t x y hp hx hy => ?_)
    by_cases hdt : o.dst = some t
    · rw [hdt] at hx hy
      have hxl : t < fr.length := by have := (List.getElem?_eq_some_iff.1 hx).1; rw [setAt_length] at this; exact this
      rw [setAt_eq hxl] at hx
      injection hx with hx
      subst hx
      rw [put_eq hy]
      exact .inl hR
    · rw [put_ne hdt] at hy
      rw [setAt_ne hdt] at hx
      refine .inr ⟨?_, hx, hy⟩
      cases hq : pendAt ops lc lw t with
      | false => rfl
      | true =>
        obtain ⟨j, q, h1, h2, hj, hjd⟩ := pendAt_some hq
        have hji : j ≠ i := fun e => hc (e ▸ h1)
        rw [pendAt_of ((on_set hltc).2 (.inr h1)) (fun e => by rcases (on_set hlt).1 e with e | e; exact hji e; exact h2 e) hj hjd] at hp; cases hp

theorem count_set {l : Array Bool} {i : Nat} (h : i < l.size) (hi : ¬ On l i) : (l.setIfInBounds i true).toList.count false + 1 = l.toList.count false := by
  have hf : l.toList[i]'(by simpa using h) = false := by
    simp [On, Array.getD_eq_getD_getElem?, h] at hi
    simpa using hi
  have hpos : 0 < l.toList.count false := List.count_pos_iff.2 (hf ▸ List.getElem_mem _)
  have := List.count_set (a := true) (b := false) (l := l.toList) (i := i) (h := by simpa using h)
  rw [Array.toList_setIfInBounds, this, hf]
  simp only [BEq.rfl, if_true]
  rw [if_neg (by decide)]
  omega

theorem draw_sound (hE : EnvOK E) (hok : OK ops anc) (hanc : anc = ancs ops.toList []) {Q : Exit → Act → World → Prop} (hk : ∀ fr L c a, k fr L = some r → Good c0 c fr L a → Q .normal a c.w) :
    ∀ (fuel : Nat) {n : Nat} {lc lw : Array Bool} {pend : List Nat} {fr : List V} {L : List B} {c : Ctx} {a : Act}, Settled ops anc lc → evD E ops anc k n lc pend fr L = some r → DI E ops anc c0 c lc lw fr L a → (∀ i, On lc i → ¬ On lw i → i ∈ pend) → lw.toList.count false = fuel → wpAny E.P .any ops Q fuel lw a c.w := by
  have done : ∀ {n : Nat} {lc lw : Array Bool} {pend : List Nat} {fr : List V} {L : List B} {c : Ctx} {a : Act}, evD E ops anc k n lc pend fr L = some r → DI E ops anc c0 c lc lw fr L a → Region.ready .any ops lw = [] → Q .normal a c.w := by
    intro n lc lw pend fr L c a h hD hr
    have hnot : ∀ i, Dep ops (On lw) i → On lw i := fun i hd => Classical.byContradiction fun hn => by
      have := (ready_iff hD.szw).2 ⟨hn, hd⟩
      rw [hr] at this; simp at this
    have hall : ∀ i, On lc i → On lw i := fun i => by
      induction i using Nat.strongRecOn with
      | ind i ih =>
        intro hi
        obtain ⟨o, ho, hd⟩ := hD.clc i hi
        exact hnot i ⟨o, ho, fun e he hb => ih _ (hok.back i o e ho he hb) (hd e he hb)⟩
    have hrc : Region.ready .any ops lc = [] := by
      apply List.eq_nil_iff_forall_not_mem.2
      intro i hi
      obtain ⟨hn, hd⟩ := (ready_iff hD.szc).1 hi
      exact hn (hD.sub i (hnot i (hd.mono hall)))
    cases n with
    | zero => simp [evD] at h
    | succ n =>
      unfold evD at h
      rw [hrc] at h
      refine hk _ _ c _ h ⟨hD.L, ?_, hD.S, hD.le, hD.d⟩
      have hm : mask ops lc lw fr = fr := by
        apply List.ext_getElem?
        intro t
        rw [mask_at]
        have hp : pendAt ops lc lw t = false := by
          cases hp : pendAt ops lc lw t with
          | false => rfl
          | true =>
            obtain ⟨j, q, h1, h2, _⟩ := pendAt_some hp
            exact absurd (hall j h1) h2
        rw [hp]
        cases fr[t]? <;> rfl
      have := hD.F
      rw [hm] at this
      exact this
  intro fuel
  induction fuel with
  | zero =>
    intro n lc lw pend fr L c a hs h hD hp hcount
    have hr : Region.ready .any ops lw = [] := by
      apply List.eq_nil_iff_forall_not_mem.2
      intro i hi
      obtain ⟨hn, o, ho, _⟩ := (ready_iff hD.szw).1 hi
      have := count_set (l := lw) (i := i) (by rw [hD.szw]; exact (Array.getElem?_eq_some_iff.1 ho).1) hn
      omega
    exact ⟨hr, done h hD hr⟩
  | succ fuel ih =>
    intro n lc lw pend fr L c a hs h hD hp hcount
    refine ⟨fun hr => done h hD hr, fun i hi => ?_⟩
    obtain ⟨hw, hdep⟩ := (ready_iff hD.szw).1 hi
    obtain ⟨o, ho, hdo⟩ := hdep
    have hdep : Dep ops (On lw) i := ⟨o, ho, hdo⟩
    have hsame := hD.same hok hanc ho hw hdep
    have hltw : i < lw.size := by rw [hD.szw]; exact (Array.getElem?_eq_some_iff.1 ho).1
    have hcnt : (lw.setIfInBounds i true).toList.count false = fuel := by have := count_set hltw hw; omega
    unfold wpOp
    simp only [ho]
    by_cases hc : On lc i
    · obtain ⟨v, hg, hv⟩ := hD.pf i o hc hw ho
      have hp' : ∀ j, On lc j → ¬ On (lw.setIfInBounds i true) j → j ∈ pend := fun j hj hjw => hp j hj (fun e => hjw ((on_set hltw).2 (.inr e)))
      rcases hg with ⟨hg, hev⟩ | ⟨hg, rfl⟩
      · rw [if_pos (guard_sound hD.F (by rw [← hsame.guard]; exact hg))]
        refine .inl ?_
        have hrun : evOp E o (mask ops lc lw fr) L (fun v' L' => open Classical in if v' = v ∧ L' = L then some r else none) noK = some r := by
          rw [← evOp_congr hsame.op, hev]
          simp
        refine evOp_sound hE hD.L hD.F hD.S hrun (fun v' L' u c' h1 h2 => ?_) (fun v' L' u c' h1 h2 => by cases h1)
        split at h1
        case isFalse => cases h1
        rename_i he
        obtain ⟨rfl, rfl⟩ := he
        exact ih hs h (hD.done hok ho hc hw hdep hv h2.v h2.le h2.L h2.since) hp' hcnt
      · have hg' := guard_sound hD.F (by rw [← hsame.guard]; exact hg)
        rw [if_neg (by rw [hg']; simp)]
        exact ih hs h (hD.done hok ho hc hw hdep hv .gun (.refl c) hD.L hD.S) hp' hcnt
    · have hrc : i ∈ Region.ready .any ops lc := (ready_iff hD.szc).2 ⟨hc, hdep.mono hD.sub⟩
      have hf := hs i hrc
      cases n with
      | zero => simp [evD] at h
      | succ n =>
        unfold evD at h
        split at h
        · rename_i he; rw [he] at hrc; simp at hrc
        · rename_i x xs he
          rw [← he] at h
          have hfind : (Region.ready .any ops lc).find? (free ops anc) = none := List.find?_eq_none.2 fun j hj => by simp [hs j hj]
          rw [hfind] at h
          simp only at h
          have h1 := combs_some hE.cmb h i hrc
          simp only [ho] at h1
          split at h1
          case isFalse => cases h1
          rename_i hpend
          have hltc : i < lc.size := by rw [hD.szc]; exact (Array.getElem?_eq_some_iff.1 ho).1
          have hp' : ∀ j, On (lc.setIfInBounds i true) j → ¬ On (lw.setIfInBounds i true) j → j ∈ pend := fun j hj hjw => by
            rcases (on_set hltc).1 hj with rfl | hj
            · exact absurd ((on_set hltw).2 (.inl rfl)) hjw
            · exact hp j hj (fun e => hjw ((on_set hltw).2 (.inr e)))
          rcases evG_some h1 with ⟨hg, h2⟩ | ⟨hg, h2⟩
          · rw [if_pos (guard_sound hD.F (by rw [← hsame.guard]; exact hg))]
            refine .inl ?_
            have h3 := evOp_frm h2
            rw [evOp_congr hsame.op] at h3
            refine evOp_sound hE hD.L hD.F hD.S h3 (fun v' L' u c' h4 h5 => ?_) (fun v' L' u c' h1 h2 => by cases h1)
            unfold held at h4
            split at h4
            case isFalse => cases h4
            rename_i hfrm
            have hDI := hD.effect hok hanc ho hf hc hdep (v := v') (u := u) hp hpend (fun p q hpc hpw hq hb => by
              have hfp : free ops anc p = true := by
                cases hfp : free ops anc p with
                | true => rfl
                | false => exact absurd (hD.eff p hpc hfp) hpw
              refine (hD.pf p q hpc hpw hq).move (free_spec hq hfp).1 (fun _ _ => rfl) rfl (fun _ _ => rfl) (fun b hb' => ?_)
              exact (hfrm b (hb b hb').1 (hb b hb').2).symm) h5.v h5.le h5.L h5.since
            obtain ⟨n', lc', pend', fr', hs', h', hD', hp''⟩ := settle hok hanc n h4 hDI hp'
            exact ih hs' h' hD' hp'' hcnt
          · have hg' := guard_sound hD.F (by rw [← hsame.guard]; exact hg)
            rw [if_neg (by rw [hg']; simp)]
            have hDI := hD.effect hok hanc ho hf hc hdep (v := .gun) (u := undef) hp hpend (fun p q hpc hpw hq hb => hD.pf p q hpc hpw hq) .gun (.refl c) hD.L hD.S
            obtain ⟨n', lc', pend', fr', hs', h', hD', hp''⟩ := settle hok hanc n h2 hDI hp'
            exact ih hs' h' hD' hp'' hcnt
theorem region_sound (hE : EnvOK E) {ops : Array Oper} (hok : drawOK ops (ancs ops.toList []) = true) {Q : Exit → Act → World → Prop} {c0 : Ctx} {k : List V → List B → Res} {r : End × List B} (hk : ∀ fr L c a, k fr L = some r → Good c0 c fr L a → Q .normal a c.w)
    {id n : Nat} {fr : List V} {L : List B} {c : Ctx} {a : Act} (h : evD E ops (ancs ops.toList []) k n (Array.replicate ops.size false) [] fr L = some r) (hG : Good c0 c fr L a) : (Code.region id ops true).wp E.P Q a c.w := by
  refine wp_region_any hE.mixed ?_
  have ha := drew_alike c.w
  have hoff : ∀ i, ¬ On (Array.replicate ops.size false) i := fun i h => by
    unfold On at h
    rw [Array.getD_eq_getD_getElem?, Array.getElem?_replicate] at h
    split at h <;> simp at h
  have hm : mask ops (Array.replicate ops.size false) (Array.replicate ops.size false) fr = fr := by
    apply List.ext_getElem?
    intro t
    rw [mask_at]
    have hp : pendAt ops (Array.replicate ops.size false) (Array.replicate ops.size false) t = false := by
      cases hp : pendAt ops (Array.replicate ops.size false) (Array.replicate ops.size false) t with
      | false => rfl
      | true =>
        obtain ⟨j, q, h1, h2, _⟩ := pendAt_some hp
        exact absurd h1 (hoff j)
    rw [hp]
    cases fr[t]? <;> rfl
  have hD : DI E ops (ancs ops.toList []) c0 (c.with c.w.drew) (Array.replicate ops.size false) (Array.replicate ops.size false) fr L a := by
    refine ⟨by simp, by simp, fun i h => h, fun i h => absurd h (hoff i), fun i h => absurd h (hoff i), fun i h => absurd h (hoff i), fun i o h => absurd h (hoff i), with_RL ha hG.L, with_since ha hG.S, hG.le.trans (with_le ha), hG.d, ?_⟩
    rw [hm]
    exact hG.F.mono (with_le ha)
  obtain ⟨n', lc', pend', fr', hs', h', hD', hp'⟩ := settle (drawOK_spec hok) rfl n h hD (fun i h => absurd h (hoff i))
  exact draw_sound hE (drawOK_spec hok) rfl hk ops.size hs' h' hD' hp' (by simp)
end

end Go.Tw
