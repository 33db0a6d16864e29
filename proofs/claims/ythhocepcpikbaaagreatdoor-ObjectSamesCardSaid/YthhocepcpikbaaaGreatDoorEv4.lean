/- The abstract run is sound: calls. -/
import Derived.Test.YthhocepcpikbaaaGreatDoorEv3
set_option linter.unusedVariables false
set_option linter.unusedSimpArgs false
namespace Go.Tw

theorem Ctx.Le.trans {a b c : Ctx} (h : a.Le b) (k : b.Le c) : a.Le c where
  n := Nat.le_trans h.n k.n
  X := k.X.trans h.X
  m := fun i hi => by
    rcases k.m i (Nat.lt_of_lt_of_le hi h.n) with e | e
    · rcases h.m i hi with e2 | e2
      · exact .inl (e.trans e2)
      · exact .inr (e.trans e2)
    · exact .inr e
  data := fun g hg => (k.data g (h.ok hg)).trans (h.data g hg)
  dis := fun i g hi hg => k.dis i g hi (h.ok hg)
  shape := fun i g C e hi h1 h3 hC => by
    have h2 : b.m i = some g := by
      rcases k.m i (Nat.lt_of_lt_of_le hi h.n) with e | e
      · rw [← e]; exact h3
      · rw [e] at h3; cases h3
    obtain ⟨C1, hC1, hs1⟩ := h.shape i g C e hi h1 h2 hC
    obtain ⟨C2, hC2, hs2⟩ := k.shape i g C1 e (Nat.lt_of_lt_of_le hi h.n) h2 h3 hC1
    exact ⟨C2, hC2, hs2.trans hs1⟩

theorem Since.trans {a b c : Ctx} (h : Since a b) (k : Since b c) : Since a c where
  os := k.os.trans h.os
  tape := k.tape.trans h.tape
  output := k.output.trans h.output
  size := Nat.le_trans h.size k.size
  stay := fun g hg hm => (k.stay g (Nat.lt_of_lt_of_le hg h.size) (fun i hi => by
    rcases h.own i g hi with ⟨j, hj⟩ | h2
    · exact hm j hj
    · omega)).trans (h.stay g hg hm)
  X := k.X.trans h.X
  own := fun i g hi => by
    rcases k.own i g hi with ⟨j, hj⟩ | h2
    · exact h.own j g hj
    · have := h.size; right; omega
  lt := fun g hg => h.lt g (by rw [← k.X]; exact hg)

/-- An end. -/
inductive RE (c : Ctx) : End → Ending → Prop
  | ret {v : V} {u : Value} (h : R c v u) : RE c (.ret v) (.returned u)
  | panic {v : V} {u : Value} (h : R c v u) : RE c (.panic v) (.panicked [{ v := u, recovered := false }])

/-- A call comes to an end, as told. -/
def Meets (P : Program) (f : FuncId) (args : List V) (bs : List B) (e : End) (bs' : List B) : Prop :=
  (∀ us w, (callFunc f us).run P w = .ok (.enter f us) w) ∧ ∀ (c : Ctx) (us : Array Value), c.ds = [] → RL c bs → args.length = us.size →
    (∀ (i : Nat) v u, args[i]? = some v → us[i]? = some u → R c v u) → (∀ g, c.X g → g < c.w.heap.size) →
    Calls P f us c.w fun en w' => ∃ c' : Ctx, c'.w = w' ∧ RE c' e en ∧ RL c' bs' ∧ Since c c' ∧ c.Le c'
/-- What a spec says is what the function does. -/
def SpecOK (P : Program) (f : FuncId) (s : Spec) : Prop := ∀ args bs k r, s args bs k = some r → ∃ e bs', k e bs' = some r ∧ Meets P f args bs e bs'
theorem SpecOK.none (P : Program) (f : FuncId) : SpecOK P f (fun _ _ _ => none) := fun _ _ _ _ h => by cases h

/-! ### blocks are let go -/
def Ctx.drop (c : Ctx) (l : List Nat) : Ctx := { c with m := fun k => if l.contains k then none else c.m k }

theorem drop_le (c : Ctx) (l : List Nat) : c.Le (c.drop l) where
  n := Nat.le_refl _
  X := rfl
  m := fun k _ => by simp only [Ctx.drop]; split <;> simp
  data := fun _ _ => rfl
  dis := fun i g hi hg => by
    simp only [Ctx.drop] at hi
    split at hi
    · cases hi
    · exact hg.2.2 i hi
  shape := fun _ _ C _ _ _ _ h => ⟨C, h, rfl⟩

theorem kill_length (l : List Nat) : ∀ (L : List B), (kill L l).length = L.length := by
  induction l with
  | nil => intro L; rfl
  | cons k l ih => intro L; rw [kill, ih, List.length_set]
theorem kill_at (l : List Nat) : ∀ (L : List B) (i : Nat) b, (kill L l)[i]? = some b → (l.contains i = true ∧ b = .dead) ∨ (l.contains i = false ∧ L[i]? = some b) := by
  induction l with
  | nil => intro L i b h; exact .inr ⟨rfl, h⟩
  | cons k l ih =>
    intro L i b h
    rw [kill] at h
    rcases ih _ i b h with ⟨h1, h2⟩ | ⟨h1, h2⟩
    · exact .inl ⟨by simp at h1 ⊢; exact .inr h1, h2⟩
    · rw [List.getElem?_set] at h2
      split at h2
      · rename_i e
        subst e
        split at h2
        · injection h2 with h2; exact .inl ⟨by simp, h2.symm⟩
        · cases h2
      · rename_i e
        exact .inr ⟨by simp at h1 ⊢; exact ⟨fun h => e h.symm, h1⟩, h2⟩

theorem drop_RL {c : Ctx} {L : List B} (hL : RL c L) (l : List Nat) : RL (c.drop l) (kill L l) where
  n := by rw [kill_length]; exact hL.n
  inj := fun i j g hi hj => by
    simp only [Ctx.drop] at hi hj
    split at hi
    · cases hi
    · split at hj
      · cases hj
      · exact hL.inj i j g hi hj
  lt := fun i g hi => by
    simp only [Ctx.drop] at hi
    split at hi
    · cases hi
    · exact hL.lt i g hi
  live := fun i b hi hb => by
    rcases kill_at l L i b hi with ⟨_, h2⟩ | ⟨h1, h2⟩
    · exact absurd h2 hb
    · obtain ⟨g, hg, hr⟩ := hL.live i b h2 hb
      refine ⟨g, ?_, hr.mono (drop_le c l) rfl⟩
      simp only [Ctx.drop]
      rw [if_neg (by rw [h1]; simp)]
      exact hg
  dead := fun i hi => by
    simp only [Ctx.drop]
    split
    · rfl
    · rename_i hn
      rcases kill_at l L i _ hi with ⟨h1, _⟩ | ⟨_, h2⟩
      · exact absurd h1 hn
      · exact hL.dead i h2
  nx := fun i g hi => by
    simp only [Ctx.drop] at hi
    split at hi
    · cases hi
    · exact hL.nx i g hi

theorem drop_since {c0 c : Ctx} (hS : Since c0 c) (l : List Nat) : Since c0 (c.drop l) where
  os := hS.os
  tape := hS.tape
  output := hS.output
  size := hS.size
  stay := hS.stay
  X := hS.X
  own := fun i g hi => by
    simp only [Ctx.drop] at hi
    split at hi
    · cases hi
    · exact hS.own i g hi
  lt := hS.lt

/-! ### rows told as data -/
theorem dataOf_sound {c : Ctx} {L : List B} (hL : RL c L) {byRow : Bool} {v v' : V} {u : Value} (hr : R c v u) (h : dataOf L byRow v = some v') {l : List Nat} (hl : byRow = false → ∀ k ∈ lent0 v, l.contains k = true) : R (c.drop l) v' u := by
  unfold dataOf at h
  split at h
  · injection h with h; subst h
    cases hr
    exact .d (.sl [] 0 none 0 (fun _ _ => undef) (Nat.le_refl _) (Nat.zero_le _) (fun h => absurd h (by simp)) (fun j x i d hj => by simp at hj))
  · rename_i sz b a n
    split at h
    · injection h with h; subst h; exact hr.mono (drop_le c l)
    · rename_i hby
      have hby : byRow = false := by simpa using hby
      split at h
      case h_2 => cases h
      rename_i e sz' xs hb
      split at h
      case isFalse => cases h
      rename_i hc
      obtain ⟨rfl, hlen⟩ := hc
      injection h with h
      subst h
      obtain ⟨g, hg, hbb⟩ := hL.live b _ hb (by simp)
      cases hr with
      | row ho hk hrow =>
        obtain ⟨A, cap, e2, C, rfl, hC, hcap, hCs, hml, hA⟩ := hrow g hg
        cases hbb with
        | row C2 hC2 hl2 ho2 hz hR =>
          rw [hC] at hC2
          injection hC2 with hC2
          injection hC2 with hC2 _
          subst hC2
          have hxl : ((xs.drop a).take n).length = n := by simp; omega
          have hlc : l.contains b = true := hl hby b (by simp [lent0])
          have hokg : (c.drop l).ok g ∨ True := .inr trivial
          have := K.sl (w := c.w) (ok := (c.drop l).ok) ((xs.drop a).take n) sz A cap (fun j i => (C[(a + j) * sz + i]?).getD undef) (by omega) (by omega) (fun hp => by
            rw [hxl] at hp
            have hA' := hA (.inr hp)
            subst hA'
            refine ⟨_, rfl, ⟨(hL.lt _ _ hg).1, fun hX => ?_, fun i hi => ?_⟩, rfl, fun j x hj => ?_⟩
            · exact hL.nx b g hg hX
            · simp only [Ctx.drop] at hi
              split at hi
              · cases hi
              · rename_i hni
                have := hL.inj i b g hi hg
                subst this
                exact hni hlc
            · rw [List.getElem?_take] at hj
              split at hj
              case isFalse => cases hj
              rw [List.getElem?_drop] at hj
              refine ⟨hz x (List.mem_of_getElem? hj), fun i d hi => ?_⟩
              obtain ⟨y, hy, hk'⟩ := hR _ x i d hj hi
              simp only [World.cell?, hC]
              rw [show a * sz + (j * sz + i) = (a + j) * sz + i by rw [Nat.add_mul]; omega, hy]
              rfl) (fun j x i d hj hi => by
            rw [List.getElem?_take] at hj
            split at hj
            case isFalse => cases hj
            rw [List.getElem?_drop] at hj
            obtain ⟨y, hy, hk'⟩ := hR _ x i d hj hi
            rw [hy]
            exact (drop_le c l).kd hk')
          rw [hxl] at this
          exact .d this
  · cases h
  · cases h
  · injection h with h; subst h; exact hr.mono (drop_le c l)

theorem dataL_sound {c : Ctx} {L : List B} (hL : RL c L) {byRow : Bool} {l : List Nat} : ∀ {vs vs' : List V}, dataL L byRow vs = some vs' → (byRow = false → ∀ v ∈ vs, ∀ k ∈ lent0 v, l.contains k = true) →
    vs'.length = vs.length ∧ ∀ (i : Nat) x' u x, vs'[i]? = some x' → vs[i]? = some x → R c x u → R (c.drop l) x' u
  | [], vs', h, _ => by injection h with h; subst h; exact ⟨rfl, fun i x' u x hx => by simp at hx⟩
  | v :: vs, vs', h, hl => by
    unfold dataL at h
    split at h
    case h_2 => cases h
    rename_i x hx
    split at h
    case h_2 => cases h
    rename_i xs hxs
    injection h with h
    subst h
    obtain ⟨h1, h2⟩ := dataL_sound hL hxs (fun hb v hv => hl hb v (by simp [hv]))
    refine ⟨by simp [h1], fun i x' u y hx' hy hr => ?_⟩
    cases i with
    | zero => simp at hx' hy; subst hx'; subst hy; exact dataOf_sound hL hr hx (fun hb k hk => hl hb v (by simp) k hk)
    | succ i => exact h2 i x' u y (by simpa using hx') (by simpa using hy) hr

theorem data1_sound {c : Ctx} {L : List B} (hL : RL c L) {byRow : Bool} {l : List Nat} {v v' : V} {u : Value} (h : data1 L byRow v = some v') (hl : byRow = false → ∀ k ∈ lent1 v, l.contains k = true) (hr : R c v u) : R (c.drop l) v' u := by
  unfold data1 at h
  split at h
  · rename_i cs
    split at h
    case h_2 => cases h
    rename_i cs' hcs
    injection h with h
    subst h
    obtain ⟨h1, h2⟩ := dataL_sound hL hcs (fun hb v hv k hk => hl hb k (by simp only [lent1, List.mem_flatMap]; exact ⟨v, hv, hk⟩))
    cases hr with
    | agg hlen hR =>
      refine .agg (by omega) (fun i x u hx hu => ?_)
      have hi : i < cs.length := by have := (List.getElem?_eq_some_iff.1 hx).1; omega
      exact h2 i x u _ hx (List.getElem?_eq_getElem hi) (hR i _ u (List.getElem?_eq_getElem hi) hu)
  · rename_i hv
    refine dataOf_sound hL hr h (fun hb k hk => hl hb k ?_)
    cases v <;> first | exact hk | exact absurd rfl (hv _)

theorem dataArgs_sound {c : Ctx} {L : List B} (hL : RL c L) {byRow : Bool} {l : List Nat} : ∀ {vs vs' : List V}, dataArgs L byRow vs = some vs' → (byRow = false → ∀ k ∈ vs.flatMap lent1, l.contains k = true) →
    vs'.length = vs.length ∧ ∀ (i : Nat) x' u x, vs'[i]? = some x' → vs[i]? = some x → R c x u → R (c.drop l) x' u
  | [], vs', h, _ => by injection h with h; subst h; exact ⟨rfl, fun i x' u x hx => by simp at hx⟩
  | v :: vs, vs', h, hl => by
    unfold dataArgs at h
    split at h
    case h_2 => cases h
    rename_i x hx
    split at h
    case h_2 => cases h
    rename_i xs hxs
    injection h with h
    subst h
    obtain ⟨h1, h2⟩ := dataArgs_sound hL hxs (fun hb k hk => hl hb k (by simp only [List.flatMap_cons, List.mem_append]; exact .inr hk))
    refine ⟨by simp [h1], fun i x' u y hx' hy hr => ?_⟩
    cases i with
    | zero => simp at hx' hy; subst hx'; subst hy; exact data1_sound hL hx (fun hb k hk => hl hb k (by simp only [List.flatMap_cons, List.mem_append]; exact .inl hk)) hr
    | succ i => exact h2 i x' u y (by simpa using hx') (by simpa using hy) hr

/-! ### other numbers for blocks -/
structure TR (f : Nat → Option Nat) (c c' : Ctx) : Prop where
  w : c'.w = c.w
  ok : ∀ g, c.ok g → c'.ok g
  f : ∀ k k', f k = some k' → k' < c'.n ∧ ∀ g, c'.m k' = some g → c.m k = some g

theorem TR.kd {f : Nat → Option Nat} {c c' : Ctx} (h : TR f c c') {x : D} {u : Value} (hk : K c.w c.ok x u) : K c'.w c'.ok x u := hk.mono (fun g hg => ⟨h.ok g hg, by rw [h.w]⟩)

theorem ren0_sound {f : Nat → Option Nat} {c c' : Ctx} (h : TR f c c') {v v' : V} {u : Value} (hr : R c v u) (hv : ren0 f v = some v') : R c' v' u := by
  cases hr with
  | undef => injection hv with hv; subst hv; exact .undef _
  | gun => injection hv with hv; subst hv; exact .gun
  | d hk => injection hv with hv; subst hv; exact .d (h.kd hk)
  | agg => simp [ren0] at hv
  | tup => rename_i cs us hl hR; simp [ren0] at hv
  | nilp => injection hv with hv; subst hv; exact .nilp
  | ptr ho hk hg =>
    obtain ⟨k', hk', rfl⟩ := Option.map_eq_some_iff.1 hv
    obtain ⟨h1, h2⟩ := h.f _ _ hk'
    exact .ptr ho h1 (fun g hm => hg g (h2 g hm))
  | dp vs hok hs hc =>
    injection hv with hv; subst hv
    exact .dp vs (h.ok _ hok) hs (fun i x hi ho => ⟨by rw [h.w]; exact (hc i x hi ho).1, h.kd (hc i x hi ho).2⟩)
  | nilsl => injection hv with hv; subst hv; exact .nilsl
  | esl => injection hv with hv; subst hv; exact .esl
  | row ho hk hg =>
    obtain ⟨k', hk', rfl⟩ := Option.map_eq_some_iff.1 hv
    obtain ⟨h1, h2⟩ := h.f _ _ hk'
    refine .row ho h1 (fun g hm => ?_)
    rw [h.w]
    exact hg g (h2 g hm)
  | rp ho hk hg =>
    obtain ⟨k', hk', rfl⟩ := Option.map_eq_some_iff.1 hv
    obtain ⟨h1, h2⟩ := h.f _ _ hk'
    refine .rp ho h1 (fun g hm => ?_)
    rw [h.w]
    exact hg g (h2 g hm)
  | nilmap => injection hv with hv; subst hv; exact .nilmap
  | map ho hk hg =>
    obtain ⟨k', hk', rfl⟩ := Option.map_eq_some_iff.1 hv
    obtain ⟨h1, h2⟩ := h.f _ _ hk'
    exact .map ho h1 (fun g hm => hg g (h2 g hm))
  | fn => simp [ren0] at hv
  | nilif => injection hv with hv; subst hv; exact .nilif
  | iface => simp [ren0] at hv
  | someif => injection hv with hv; subst hv; exact .someif

theorem renL_sound {f : Nat → Option Nat} {c c' : Ctx} (h : TR f c c') : ∀ {vs vs' : List V}, renL f vs = some vs' → vs'.length = vs.length ∧ ∀ (i : Nat) x' u x, vs'[i]? = some x' → vs[i]? = some x → R c x u → R c' x' u
  | [], vs', hv => by injection hv with hv; subst hv; exact ⟨rfl, fun i x' u x hx => by simp at hx⟩
  | v :: vs, vs', hv => by
    unfold renL at hv
    split at hv
    case h_2 => cases hv
    rename_i x hx
    split at hv
    case h_2 => cases hv
    rename_i xs hxs
    injection hv with hv
    subst hv
    obtain ⟨h1, h2⟩ := renL_sound h hxs
    refine ⟨by simp [h1], fun i x' u y hx' hy hr => ?_⟩
    cases i with
    | zero => simp at hx' hy; subst hx'; subst hy; exact ren0_sound h hr hx
    | succ i => exact h2 i x' u y (by simpa using hx') (by simpa using hy) hr

theorem renAgg {f : Nat → Option Nat} {c c' : Ctx} (h : TR f c c') {cs cs' : List V} (hv : renL f cs = some cs') {us : Array Value} (hl : cs.length = us.size) (hR : ∀ (i : Nat) x u, cs[i]? = some x → us[i]? = some u → R c x u) :
    cs'.length = us.size ∧ ∀ (i : Nat) x u, cs'[i]? = some x → us[i]? = some u → R c' x u := by
  obtain ⟨h1, h2⟩ := renL_sound h hv
  refine ⟨by omega, fun i x u hx hu => ?_⟩
  have hi : i < cs.length := by have := (List.getElem?_eq_some_iff.1 hx).1; omega
  exact h2 i x u _ hx (List.getElem?_eq_getElem hi) (hR i _ u (List.getElem?_eq_getElem hi) hu)

theorem ren1_sound {f : Nat → Option Nat} {c c' : Ctx} (h : TR f c c') {v v' : V} {u : Value} (hr : R c v u) (hv : ren1 f v = some v') : R c' v' u := by
  unfold ren1 at hv
  split at hv
  · obtain ⟨cs', hcs, rfl⟩ := Option.map_eq_some_iff.1 hv
    cases hr with
    | fn hl hR => obtain ⟨h1, h2⟩ := renAgg h hcs hl hR; exact .fn h1 h2
  · obtain ⟨cs', hcs, rfl⟩ := Option.map_eq_some_iff.1 hv
    cases hr with
    | agg hl hR => obtain ⟨h1, h2⟩ := renAgg h hcs hl hR; exact .agg h1 h2
  · obtain ⟨cs', hcs, rfl⟩ := Option.map_eq_some_iff.1 hv
    cases hr with
    | iface hr =>
      cases hr with
      | agg hl hR => obtain ⟨h1, h2⟩ := renAgg h hcs hl hR; exact .iface (.agg h1 h2)
  · obtain ⟨v1, hv1, rfl⟩ := Option.map_eq_some_iff.1 hv
    cases hr with
    | iface hr => exact .iface (ren0_sound h hr hv1)
  · exact ren0_sound h hr hv

theorem renArgs_sound {f : Nat → Option Nat} {c c' : Ctx} (h : TR f c c') : ∀ {vs vs' : List V}, renArgs f vs = some vs' → vs'.length = vs.length ∧ ∀ (i : Nat) x' u x, vs'[i]? = some x' → vs[i]? = some x → R c x u → R c' x' u
  | [], vs', hv => by injection hv with hv; subst hv; exact ⟨rfl, fun i x' u x hx => by simp at hx⟩
  | v :: vs, vs', hv => by
    unfold renArgs at hv
    split at hv
    case h_2 => cases hv
    rename_i x hx
    split at hv
    case h_2 => cases hv
    rename_i xs hxs
    injection hv with hv
    subst hv
    obtain ⟨h1, h2⟩ := renArgs_sound h hxs
    refine ⟨by simp [h1], fun i x' u y hx' hy hr => ?_⟩
    cases i with
    | zero => simp at hx' hy; subst hx'; subst hy; exact ren1_sound h hr hx
    | succ i => exact h2 i x' u y (by simpa using hx') (by simpa using hy) hr

theorem ren2_sound {f : Nat → Option Nat} {c c' : Ctx} (h : TR f c c') {v v' : V} {u : Value} (hr : R c v u) (hv : ren2 f v = some v') : R c' v' u := by
  unfold ren2 at hv
  split at hv
  · rename_i vs
    split at hv
    case h_2 => cases hv
    rename_i vs' hvs
    injection hv with hv
    subst hv
    cases hr with
    | tup hl hR =>
      obtain ⟨h1, h2⟩ := renArgs_sound h hvs
      refine .tup (by omega) (fun i x u hx hu => ?_)
      have hi : i < vs.length := by have := (List.getElem?_eq_some_iff.1 hx).1; omega
      exact h2 i x u _ hx (List.getElem?_eq_getElem hi) (hR i _ u (List.getElem?_eq_getElem hi) hu)
  · exact ren1_sound h hr hv

theorem renM_sound {f : Nat → Option Nat} {c c' : Ctx} (h : TR f c c') {es es' : List (Value × V × Nat)} {C : List MapEntry} (hr : AllV c es C) (hv : renM f es = some es') : AllV c' es' C := by
  induction hr generalizing es' with
  | nil => injection hv with hv; subst hv; exact .nil
  | cons hk hb hR t ih =>
    unfold renM at hv
    split at hv
    case h_2 => cases hv
    rename_i v' hv'
    split at hv
    case h_2 => cases hv
    rename_i es2 hes
    injection hv with hv
    subst hv
    exact .cons hk hb (ren1_sound h hR hv') (ih hes)

theorem renB_sound {f : Nat → Option Nat} {c c' : Ctx} (h : TR f c c') {b b' : B} {g : Nat} (hr : RB c b g) (hv : renB f b = some b') : RB c' b' g := by
  cases hr with
  | cells C hg hl ho hR =>
    rename_i e cs
    unfold renB at hv
    simp only at hv
    split at hv
    case h_2 => cases hv
    rename_i cs' hcs
    injection hv with hv
    subst hv
    obtain ⟨h1, h2⟩ := renArgs_sound h hcs
    refine .cells C (by rw [h.w]; exact hg) (by omega) ho (fun i x u hx hu => ?_)
    have hi : i < cs.length := by have := (List.getElem?_eq_some_iff.1 hx).1; omega
    exact h2 i x u _ hx (List.getElem?_eq_getElem hi) (hR i _ u (List.getElem?_eq_getElem hi) hu)
  | row C hg hl ho hz hR =>
    injection hv with hv
    subst hv
    exact .row C (by rw [h.w]; exact hg) hl ho hz (fun j x i d hx hd => by
      obtain ⟨u, hu, hk⟩ := hR j x i d hx hd
      exact ⟨u, hu, h.kd hk⟩)
  | map C n hg hm =>
    injection hv with hv
    subst hv
    exact .map C n (by rw [h.w]; exact hg) (hm.mono fun g hg => ⟨h.ok g hg, by rw [h.w]⟩)
  | vmap C n hg hm =>
    unfold renB at hv
    simp only at hv
    split at hv
    case h_2 => cases hv
    rename_i es' hes
    injection hv with hv
    subst hv
    exact .vmap C n (by rw [h.w]; exact hg) (renM_sound h hm hes)
  | iter hk hg =>
    unfold renB at hv
    simp only at hv
    split at hv
    case h_2 => cases hv
    rename_i k' hk'
    injection hv with hv
    subst hv
    obtain ⟨h1, h2⟩ := h.f _ _ hk'
    exact .iter h1 (fun g' hm => by rw [h.w]; exact hg g' (h2 g' hm))

theorem renB_dead {f : Nat → Option Nat} {b b' : B} (hv : renB f b = some b') : b' = .dead ↔ b = .dead := by
  unfold renB at hv
  split at hv
  · split at hv
    case h_2 => cases hv
    injection hv with hv
    subst hv
    simp
  · split at hv
    case h_2 => cases hv
    injection hv with hv
    subst hv
    simp
  · split at hv
    case h_2 => cases hv
    injection hv with hv
    subst hv
    simp
  · injection hv with hv; rw [hv]

theorem renBs_at {f : Nat → Option Nat} : ∀ {bs bs' : List B}, renBs f bs = some bs' → bs'.length = bs.length ∧ ∀ (i : Nat) b', bs'[i]? = some b' → ∃ b, bs[i]? = some b ∧ renB f b = some b'
  | [], bs', hv => by injection hv with hv; subst hv; exact ⟨rfl, fun i x hx => by simp at hx⟩
  | v :: vs, bs', hv => by
    unfold renBs at hv
    split at hv
    case h_2 => cases hv
    rename_i x hx
    split at hv
    case h_2 => cases hv
    rename_i xs hxs
    injection hv with hv
    subst hv
    obtain ⟨h1, h2⟩ := renBs_at hxs
    refine ⟨by simp [h1], fun i x' hx' => ?_⟩
    cases i with
    | zero => simp at hx'; subst hx'; exact ⟨v, rfl, hx⟩
    | succ i => simpa using h2 i x' (by simpa using hx')

theorem pick_at {L : List B} : ∀ {l : List Nat} {bs : List B}, pick L l = some bs → bs.length = l.length ∧ ∀ (i : Nat) b, bs[i]? = some b → ∃ k, l[i]? = some k ∧ L[k]? = some b
  | [], bs, h => by injection h with h; subst h; exact ⟨rfl, fun i x hx => by simp at hx⟩
  | k :: ks, bs, h => by
    unfold pick at h
    split at h
    case h_2 => cases h
    rename_i b hb
    split at h
    case h_2 => cases h
    rename_i xs hxs
    injection h with h
    subst h
    obtain ⟨h1, h2⟩ := pick_at hxs
    refine ⟨by simp [h1], fun i x' hx' => ?_⟩
    cases i with
    | zero => simp at hx'; subst hx'; exact ⟨k, rfl, hb⟩
    | succ i => simpa using h2 i x' (by simpa using hx')


theorem idxOf_some {l : List Nat} {k i : Nat} (h : idxOf l k = some i) : l[i]? = some k := by
  unfold idxOf at h
  obtain ⟨h1, h2, _⟩ := List.findIdx?_eq_some_iff_getElem.1 h
  rw [List.getElem?_eq_getElem h1]
  simpa using h2
theorem idxOf_of {l : List Nat} (hd : noDup l = true) {k i : Nat} (h : l[i]? = some k) : idxOf l k = some i := by
  unfold idxOf
  rw [List.findIdx?_eq_some_iff_getElem]
  obtain ⟨h1, h2⟩ := List.getElem?_eq_some_iff.1 h
  refine ⟨h1, by simpa using h2, fun j hj => ?_⟩
  have key : ∀ (l : List Nat), noDup l = true → ∀ i j (hi : i < l.length) (hj : j < i), l[j]'(by omega) ≠ l[i] := by
    intro l
    induction l with
    | nil => intro _ i j hi; simp at hi
    | cons a l ih =>
      intro hd i j hi hj
      simp only [noDup, Bool.and_eq_true, Bool.not_eq_true'] at hd
      cases i with
      | zero => omega
      | succ i =>
        cases j with
        | zero =>
          simp only [List.getElem_cons_zero, List.getElem_cons_succ]
          intro e
          have : l.contains a = true := by rw [e]; simp
          rw [this] at hd; simp at hd
        | succ j => simpa using ih hd.2 i j (by simpa using hi) (by omega)
  have := key l hd i j h1 hj
  rw [h2] at this
  simpa using this
theorem idxOf_none {l : List Nat} {k : Nat} (h : idxOf l k = none) : ∀ (i : Nat), l[i]? ≠ some k := by
  intro i hi
  unfold idxOf at h
  have := List.findIdx?_eq_none_iff.1 h k (List.mem_of_getElem? hi)
  simp at this
theorem noDup_inj {l : List Nat} (hd : noDup l = true) {i j k : Nat} (hi : l[i]? = some k) (hj : l[j]? = some k) : i = j := by
  have h1 := idxOf_of hd hi
  have h2 := idxOf_of hd hj
  rw [h1] at h2
  injection h2

theorem putBack_at : ∀ {io : List Nat} {bs : List B} {L : List B}, noDup io = true → io.length = bs.length → (∀ (i : Nat) k, io[i]? = some k → k < L.length) →
    (putBack L io bs).length = L.length ∧ ∀ (k : Nat), (putBack L io bs)[k]? = match idxOf io k with | some i => bs[i]? | none => L[k]?
  | [], [], L, _, _, _ => ⟨rfl, fun k => rfl⟩
  | a :: io, b :: bs, L, hd, hl, hlt => by
    have hd' := hd
    simp only [noDup, Bool.and_eq_true, Bool.not_eq_true'] at hd
    obtain ⟨h1, h2⟩ := putBack_at (io := io) (bs := bs) (L := L.set a b) hd.2 (by simpa using hl) (fun i k h => by rw [List.length_set]; exact hlt (i + 1) k (by simpa using h))
    refine ⟨by rw [putBack, h1, List.length_set], fun k => ?_⟩
    rw [putBack, h2 k]
    by_cases e : a = k
    · subst e
      have hn : idxOf io a = none := by
        cases hx : idxOf io a with
        | none => rfl
        | some i =>
          have := List.mem_of_getElem? (idxOf_some hx)
          have : io.contains a = true := by simpa using this
          rw [this] at hd; simp at hd
      rw [hn, idxOf_of hd' (i := 0) rfl, List.getElem?_set, if_pos rfl, if_pos (hlt 0 a rfl)]
      rfl
    · cases hx : idxOf io k with
      | none =>
        have : idxOf (a :: io) k = none := by
          unfold idxOf at hx ⊢
          rw [List.findIdx?_cons, if_neg (by simpa using e), hx]
          rfl
        rw [this, List.getElem?_set, if_neg e]
      | some i =>
        rw [idxOf_of hd' (i := i + 1) (by simpa using idxOf_some hx)]
        rfl
  | [], b :: bs, L, _, hl, _ => by simp at hl
  | a :: io, [], L, _, hl, _ => by simp at hl

/-- Into a call. -/
def Ctx.into (c : Ctx) (lent io : List Nat) : Ctx :=
  { X := fun g => c.X g ∨ ∃ k, (c.drop lent).m k = some g ∧ io.contains k = false, m := fun i => (io[i]?).bind (c.drop lent).m, n := io.length, w := c.w }

theorem into_TR {c : Ctx} {L : List B} (hL : RL c L) (lent io : List Nat) : TR (idxOf io) (c.drop lent) (c.into lent io) where
  w := rfl
  ok := fun g hg => ⟨hg.1, fun hX => by
    rcases hX with hX | ⟨k, hk, _⟩
    · exact hg.2.1 hX
    · exact hg.2.2 k hk, fun i hi => by
    obtain ⟨k, _, hk⟩ := Option.bind_eq_some_iff.1 hi
    exact hg.2.2 k hk⟩
  f := fun k k' hk => by
    have h1 := idxOf_some hk
    refine ⟨(List.getElem?_eq_some_iff.1 h1).1, fun g hg => ?_⟩
    simp only [Ctx.into, h1, Option.bind_some] at hg
    exact hg

theorem drop_some {c : Ctx} {l : List Nat} {k g : Nat} (h : (c.drop l).m k = some g) : c.m k = some g ∧ l.contains k = false := by
  simp only [Ctx.drop] at h
  split at h
  · cases h
  · rename_i hn; exact ⟨h, by simpa using hn⟩

theorem into_RL {c : Ctx} {L bs : List B} (hL : RL c L) {lent io : List Nat} (hd : noDup io = true) (hli : lent.all (fun k => !io.contains k) = true) (h : (pick L io).bind (renBs (idxOf io)) = some bs) : RL (c.into lent io) bs := by
  obtain ⟨ps, hps, hbs⟩ := Option.bind_eq_some_iff.1 h
  obtain ⟨p1, p2⟩ := pick_at hps
  obtain ⟨b1, b2⟩ := renBs_at hbs
  have hnl : ∀ (i : Nat) k, io[i]? = some k → lent.contains k = false := by
    intro i k hk
    cases hc : lent.contains k with
    | false => rfl
    | true =>
      have := List.all_eq_true.1 hli k (by simpa using hc)
      have h2 : io.contains k = true := by simpa using List.mem_of_getElem? hk
      rw [h2] at this; simp at this
  refine ⟨?_, fun i j g hi hj => ?_, fun i g hi => ?_, fun i b hi hb => ?_, fun i hi => ?_, fun i g hi hX => ?_⟩
  · show io.length = bs.length; omega
  · obtain ⟨k, hk, hk2⟩ := Option.bind_eq_some_iff.1 hi
    obtain ⟨k', hk', hk2'⟩ := Option.bind_eq_some_iff.1 hj
    have := hL.inj k k' g (drop_some hk2).1 (drop_some hk2').1
    subst this
    exact noDup_inj hd hk hk'
  · obtain ⟨k, hk, hk2⟩ := Option.bind_eq_some_iff.1 hi
    exact ⟨(hL.lt k g (drop_some hk2).1).1, (List.getElem?_eq_some_iff.1 hk).1⟩
  · obtain ⟨b0, hb0, hr⟩ := b2 i b hi
    obtain ⟨k, hk, hLk⟩ := p2 i b0 hb0
    have hne : b0 ≠ .dead := fun e => hb ((renB_dead hr).2 e)
    obtain ⟨g, hg, hrb⟩ := hL.live k b0 hLk hne
    refine ⟨g, ?_, renB_sound (into_TR hL lent io) (hrb.mono (drop_le c lent) rfl) hr⟩
    simp only [Ctx.into, hk, Option.bind_some, Ctx.drop]
    rw [if_neg (by rw [hnl i k hk]; simp)]
    exact hg
  · obtain ⟨b0, hb0, hr⟩ := b2 i _ hi
    obtain ⟨k, hk, hLk⟩ := p2 i b0 hb0
    have := (renB_dead hr).1 rfl
    subst this
    simp only [Ctx.into, hk, Option.bind_some, Ctx.drop]
    split
    · rfl
    · exact hL.dead k hLk
  · obtain ⟨k, hk, hk2⟩ := Option.bind_eq_some_iff.1 hi
    rcases hX with hX | ⟨k', hk', hn⟩
    · exact hL.nx k g (drop_some hk2).1 hX
    · have := hL.inj k k' g (drop_some hk2).1 (drop_some hk').1
      subst this
      have h2 : io.contains k = true := by simpa using List.mem_of_getElem? hk
      rw [h2] at hn; cases hn


/-- Behind a call. -/
def Ctx.back (c : Ctx) (c' : Ctx) (io lx : List Nat) (new : Nat) : Ctx :=
  { X := c.X, n := c.n + new, w := c'.w,
    m := fun k => match idxOf io k with
      | some i => c'.m i
      | none => if k < c.n then (c.drop lx).m k else if k < c.n + new then c'.m (io.length + (k - c.n)) else none }

section
variable {c c' : Ctx} {L : List B} {lent io lx : List Nat}

theorem into_at (hk : ∀ (i : Nat) k, io[i]? = some k → lent.contains k = false) {i k : Nat} (h : io[i]? = some k) : (c.into lent io).m i = c.m k := by
  simp only [Ctx.into, h, Option.bind_some, Ctx.drop]
  rw [if_neg (by rw [hk i k h]; simp)]

theorem not_lent (hli : lent.all (fun k => !io.contains k) = true) : ∀ (i : Nat) k, io[i]? = some k → lent.contains k = false := by
  intro i k hk
  cases hc : lent.contains k with
  | false => rfl
  | true =>
    have := List.all_eq_true.1 hli k (by simpa using hc)
    have h2 : io.contains k = true := by simpa using List.mem_of_getElem? hk
    rw [h2] at this; simp at this

theorem back_stay (hL : RL c L) (hS : Since (c.into lent io) c') {g : Nat} (hg : g < c.w.heap.size) (h : ∀ (i : Nat) k, io[i]? = some k → c.m k ≠ some g) : c'.w.heap[g]? = c.w.heap[g]? :=
  hS.stay g hg (fun i hi => by
    obtain ⟨k, hk, hk2⟩ := Option.bind_eq_some_iff.1 hi
    exact h i k hk (drop_some hk2).1)

theorem back_own (hS : Since (c.into lent io) c') {i g : Nat} (hi : c'.m i = some g) : (∃ k, c.m k = some g ∧ io.contains k = true) ∨ c.w.heap.size ≤ g := by
  rcases hS.own i g hi with ⟨j, hj⟩ | h
  · obtain ⟨k, hk, hk2⟩ := Option.bind_eq_some_iff.1 hj
    exact .inl ⟨k, (drop_some hk2).1, by simpa using List.mem_of_getElem? hk⟩
  · exact .inr h

theorem back_le (hL : RL c L) (hli : lent.all (fun k => !io.contains k) = true) (hS : Since (c.into lent io) c') (hle : (c.into lent io).Le c') (new : Nat) : c.Le (c.back c' io lx new) where
  n := Nat.le_add_right _ _
  X := rfl
  m := fun k hk => by
    simp only [Ctx.back]
    split
    · rename_i i hi
      have hik := idxOf_some hi
      rcases hle.m i (List.getElem?_eq_some_iff.1 hik).1 with e | e
      · left; rw [e]; exact into_at (not_lent hli) hik
      · exact .inr e
    · rw [if_pos hk]
      exact (drop_le c lx).m k hk
  data := fun g hg => back_stay hL hS hg.1 (fun i k _ h => hg.2.2 k h)
  dis := fun k g hk hg => by
    simp only [Ctx.back] at hk
    have own : ∀ i, c'.m i ≠ some g := fun i hi => by
      rcases back_own hS hi with ⟨k', hk', _⟩ | h
      · exact hg.2.2 k' hk'
      · have := hg.1; omega
    split at hk
    · exact own _ hk
    · split at hk
      · exact hg.2.2 k (drop_some hk).1
      · split at hk
        · exact own _ hk
        · cases hk
  shape := fun k g C e hk h1 h2 hC => by
    simp only [Ctx.back] at h2
    split at h2
    · rename_i i hi
      have hik := idxOf_some hi
      exact hle.shape i g C e (List.getElem?_eq_some_iff.1 hik).1 (by rw [into_at (not_lent hli) hik]; exact h1) h2 hC
    · rename_i hn
      refine ⟨C, ?_, rfl⟩
      show c'.w.heap[g]? = _
      rw [back_stay hL hS (hL.lt k g h1).1 (fun i k' hk' h => idxOf_none hn i (by rw [← hL.inj k' k g h h1]; exact hk'))]
      exact hC

theorem back_since (hL : RL c L) (hX : ∀ g, c.X g → g < c.w.heap.size) (hS : Since (c.into lent io) c') (new : Nat) : Since c (c.back c' io lx new) where
  os := hS.os
  tape := hS.tape
  output := hS.output
  size := hS.size
  stay := fun g hg hm => back_stay hL hS hg (fun i k _ h => hm k h)
  X := rfl
  own := fun k g hk => by
    simp only [Ctx.back] at hk
    have own : ∀ i, c'.m i = some g → (∃ j, c.m j = some g) ∨ c.w.heap.size ≤ g := fun i hi => by
      rcases back_own hS hi with ⟨k', hk', _⟩ | h
      · exact .inl ⟨k', hk'⟩
      · exact .inr h
    split at hk
    · exact own _ hk
    · split at hk
      · exact .inl ⟨k, (drop_some hk).1⟩
      · split at hk
        · exact own _ hk
        · cases hk
  lt := hX

theorem back_TR (hL : RL c L) (hd : noDup io = true) (hio : ∀ (i : Nat) k, io[i]? = some k → k < c.n) (hS : Since (c.into lent io) c') (new : Nat) {f : Nat → Option Nat}
    (hf : ∀ i k, f i = some k → io[i]? = some k ∨ (io.length ≤ i ∧ i < io.length + new ∧ k = c.n + (i - io.length))) : TR f c' (c.back c' io lent new) where
  w := rfl
  ok := fun g hg => by
    refine ⟨hg.1, fun hX => hg.2.1 (by rw [hS.X]; exact .inl hX), fun k hk => ?_⟩
    simp only [Ctx.back] at hk
    split at hk
    · exact hg.2.2 _ hk
    · rename_i hn
      split at hk
      · refine hg.2.1 ?_
        rw [hS.X]
        refine .inr ⟨k, hk, ?_⟩
        cases hc : io.contains k with
        | false => rfl
        | true =>
          obtain ⟨i, hi⟩ := List.mem_iff_getElem?.1 (by simpa using hc : k ∈ io)
          exact absurd hi (idxOf_none hn i)
      · split at hk
        · exact hg.2.2 _ hk
        · cases hk
  f := fun i k hk => by
    rcases hf i k hk with h | ⟨h1, h2, h3⟩
    · refine ⟨Nat.lt_of_lt_of_le (hio i k h) (Nat.le_add_right _ _), fun g hg => ?_⟩
      simp only [Ctx.back, idxOf_of hd h] at hg
      exact hg
    · refine ⟨by show k < c.n + new; omega, fun g hg => ?_⟩
      have hn : idxOf io k = none := by
        cases hx : idxOf io k with
        | none => rfl
        | some j => have := hio j k (idxOf_some hx); omega
      simp only [Ctx.back, hn] at hg
      rw [if_neg (by omega), if_pos (by omega), show io.length + (k - c.n) = i by omega] at hg
      exact hg

/-- The blocks behind a call: lx is let go; bs1 are the blocks that were handed over, then the new ones. -/
theorem back_RL (hL : RL c L) (hX : ∀ g, c.X g → g < c.w.heap.size) (hd : noDup io = true) (hio : ∀ (i : Nat) k, io[i]? = some k → k < c.n) (hli : lent.all (fun k => !io.contains k) = true) (hS : Since (c.into lent io) c') (hle : (c.into lent io).Le c') {bs' bs1 : List B} (hL' : RL c' bs') {new : Nat} {f : Nat → Option Nat}
    (hT : 0 < io.length + new → TR f c' (c.back c' io lx new)) (hb : renBs f (bs'.take (io.length + new)) = some bs1) (hlen : io.length + new ≤ bs'.length) :
    RL (c.back c' io lx new) (putBack (kill L lx) io (bs1.take io.length) ++ bs1.drop io.length) := by
  obtain ⟨r1, r2⟩ := renBs_at hb
  have hb1 : bs1.length = io.length + new := by rw [r1, List.length_take]; omega
  obtain ⟨p1, p2⟩ := putBack_at (io := io) (bs := bs1.take io.length) (L := kill L lx) hd (by rw [List.length_take]; omega) (fun i k h => by rw [kill_length, ← hL.n]; exact hio i k h)
  have hpl : (putBack (kill L lx) io (bs1.take io.length)).length = c.n := by rw [p1, kill_length, hL.n]
  have hcl := back_le (lx := lx) hL hli hS hle new
  -- what stands at k
  have at_ : ∀ (k : Nat) b, (putBack (kill L lx) io (bs1.take io.length) ++ bs1.drop io.length)[k]? = some b →
      (∃ i, idxOf io k = some i ∧ ∃ b0, bs'[i]? = some b0 ∧ renB f b0 = some b) ∨ (idxOf io k = none ∧ k < c.n ∧ (kill L lx)[k]? = some b) ∨ (idxOf io k = none ∧ c.n ≤ k ∧ k < c.n + new ∧ ∃ b0, bs'[io.length + (k - c.n)]? = some b0 ∧ renB f b0 = some b) := by
    intro k b hk
    by_cases h : k < c.n
    · rw [List.getElem?_append_left (by omega), p2 k] at hk
      split at hk
      · rename_i i hi
        rw [List.getElem?_take] at hk
        split at hk
        case isFalse => cases hk
        obtain ⟨b0, h0, h1⟩ := r2 i b hk
        rw [List.getElem?_take] at h0
        split at h0
        case isFalse => cases h0
        exact .inl ⟨i, hi, b0, h0, h1⟩
      · rename_i hn
        exact .inr (.inl ⟨hn, h, hk⟩)
    · rw [List.getElem?_append_right (by omega), List.getElem?_drop] at hk
      have hlt := (List.getElem?_eq_some_iff.1 hk).1
      obtain ⟨b0, h0, h1⟩ := r2 _ b hk
      rw [List.getElem?_take] at h0
      split at h0
      case isFalse => cases h0
      refine .inr (.inr ⟨?_, by omega, by omega, b0, by rw [← hpl]; exact h0, h1⟩)
      cases hx : idxOf io k with
      | none => rfl
      | some j => have := hio j k (idxOf_some hx); omega
  have inj' : ∀ i j g, c'.m i = some g → (c.drop lx).m j = some g → idxOf io j ≠ none := by
    intro i j g hi hj hn
    have hj := (drop_some hj).1
    rcases back_own hS hi with ⟨k', hk', hc⟩ | h
    · have := hL.inj k' j g hk' hj
      subst this
      obtain ⟨q, hq⟩ := List.mem_iff_getElem?.1 (by simpa using hc : k' ∈ io)
      exact idxOf_none hn q hq
    · have := (hL.lt j g hj).1; omega
  refine ⟨?_, fun i j g hi hj => ?_, fun i g hi => ?_, fun k b hk hbd => ?_, fun k hk => ?_, fun k g hk hXg => ?_⟩
  · rw [List.length_append, hpl, List.length_drop, hb1]
    show c.n + new = _
    omega
  · simp only [Ctx.back] at hi hj
    have same : ∀ a b, c'.m a = some g → c'.m b = some g → a = b := fun a b h1 h2 => hL'.inj a b g h1 h2
    cases hxi : idxOf io i with
    | some a =>
      rw [hxi] at hi
      cases hxj : idxOf io j with
      | some b =>
        rw [hxj] at hj
        have := same a b hi hj
        subst this
        have h1 := idxOf_some hxi
        have h2 := idxOf_some hxj
        rw [h1] at h2
        injection h2
      | none =>
        rw [hxj] at hj
        simp only at hj
        split at hj
        · exact absurd hxj (inj' a j g hi hj)
        · split at hj
          · have := same a _ hi hj
            have := (List.getElem?_eq_some_iff.1 (idxOf_some hxi)).1
            omega
          · cases hj
    | none =>
      rw [hxi] at hi
      simp only at hi
      cases hxj : idxOf io j with
      | some b =>
        rw [hxj] at hj
        split at hi
        · exact absurd hxi (inj' b i g hj hi)
        · split at hi
          · have := same b _ hj hi
            have := (List.getElem?_eq_some_iff.1 (idxOf_some hxj)).1
            omega
          · cases hi
      | none =>
        rw [hxj] at hj
        simp only at hj
        split at hi
        · split at hj
          · exact hL.inj i j g (drop_some hi).1 (drop_some hj).1
          · split at hj
            · exact absurd hxi (inj' _ i g hj hi)
            · cases hj
        · split at hi
          case isFalse => cases hi
          split at hj
          · exact absurd hxj (inj' _ j g hi hj)
          · split at hj
            case isFalse => cases hj
            have := same _ _ hi hj
            omega
  · simp only [Ctx.back] at hi ⊢
    split at hi
    · rename_i a ha
      exact ⟨(hL'.lt _ _ hi).1, Nat.lt_of_lt_of_le (hio a i (idxOf_some ha)) (Nat.le_add_right _ _)⟩
    · split at hi
      · have hlt := hL.lt i g (drop_some hi).1
        exact ⟨Nat.lt_of_lt_of_le hlt.1 hS.size, by omega⟩
      · split at hi
        · exact ⟨(hL'.lt _ _ hi).1, by omega⟩
        · cases hi
  · rcases at_ k b hk with ⟨i, hi, b0, h0, h1⟩ | ⟨hn, hlt, h0⟩ | ⟨hn, hge, hlt, b0, h0, h1⟩
    · have hne : b0 ≠ .dead := fun e => hbd ((renB_dead h1).2 e)
      obtain ⟨g, hg, hrb⟩ := hL'.live i b0 h0 hne
      exact ⟨g, by simp only [Ctx.back, hi]; exact hg, renB_sound (hT (by have := (List.getElem?_eq_some_iff.1 (idxOf_some hi)).1; omega)) hrb h1⟩
    · rcases kill_at lx L k b h0 with ⟨_, h2⟩ | ⟨h1, h2⟩
      · exact absurd h2 hbd
      · obtain ⟨g, hg, hrb⟩ := hL.live k b h2 hbd
        refine ⟨g, ?_, hrb.mono hcl (back_stay hL hS (hL.lt k g hg).1 (fun i k' hk' h => idxOf_none hn i (by rw [← hL.inj k' k g h hg]; exact hk')))⟩
        simp only [Ctx.back, hn]
        rw [if_pos hlt]
        simp only [Ctx.drop]
        rw [if_neg (by rw [h1]; simp)]
        exact hg
    · have hne : b0 ≠ .dead := fun e => hbd ((renB_dead h1).2 e)
      obtain ⟨g, hg, hrb⟩ := hL'.live _ b0 h0 hne
      refine ⟨g, ?_, renB_sound (hT (by omega)) hrb h1⟩
      simp only [Ctx.back, hn]
      rw [if_neg (by omega), if_pos hlt]
      exact hg
  · rcases at_ k _ hk with ⟨i, hi, b0, h0, h1⟩ | ⟨hn, hlt, h0⟩ | ⟨hn, hge, hlt, b0, h0, h1⟩
    · have := (renB_dead h1).1 rfl
      subst this
      simp only [Ctx.back, hi]
      exact hL'.dead i h0
    · simp only [Ctx.back, hn]
      rw [if_pos hlt]
      exact (drop_RL hL lx).dead k h0
    · have := (renB_dead h1).1 rfl
      subst this
      simp only [Ctx.back, hn]
      rw [if_neg (by omega), if_pos hlt]
      exact hL'.dead _ h0
  · simp only [Ctx.back] at hk hXg
    have key : ∀ i, c'.m i = some g → False := fun i hi => hL'.nx i g hi (by rw [hS.X]; exact .inl hXg)
    split at hk
    · exact key _ hk
    · split at hk
      · exact hL.nx k g (drop_some hk).1 hXg
      · split at hk
        · exact key _ hk
        · cases hk
end


theorem isScalar_R {c c' : Ctx} {v : V} {u : Value} (h : isScalar v = true) (hr : R c v u) : R c' v u := by
  unfold isScalar at h
  split at h
  · rw [hr.bool]; exact .d (.b _)
  · rw [hr.int]; exact .d (.i _ _)
  · rw [hr.str]; exact .d (.s _)
  · cases hr; exact .gun
  · cases hr; exact .nilif
  · cases hr; exact .someif
  · cases h
theorem isScalarL_R {c c' : Ctx} {cs : List V} {us : Array Value} (h : cs.all isScalar = true) (hR : ∀ (i : Nat) x u, cs[i]? = some x → us[i]? = some u → R c x u) : ∀ (i : Nat) x u, cs[i]? = some x → us[i]? = some u → R c' x u :=
  fun i x u hx hu => isScalar_R (List.all_eq_true.1 h x (List.mem_of_getElem? hx)) (hR i x u hx hu)
theorem isScalar1_R {c c' : Ctx} {v : V} {u : Value} (h : isScalar1 v = true) (hr : R c v u) : R c' v u := by
  unfold isScalar1 at h
  split at h
  · cases hr with | agg hl hR => exact .agg hl (isScalarL_R h hR)
  · cases hr with
    | tup hl hR =>
      refine .tup hl (fun i x u hx hu => ?_)
      have h1 := List.all_eq_true.1 h x (List.mem_of_getElem? hx)
      have h2 := hR i x u hx hu
      split at h1
      · cases h2 with | agg hl hR => exact .agg hl (isScalarL_R h1 hR)
      · exact isScalar_R h1 h2
  · cases hr with | iface hr => cases hr with | agg hl hR => exact .iface (.agg hl (isScalarL_R h hR))
  · cases hr with | iface hr => exact .iface (isScalar_R h hr)
  · exact isScalar_R h hr

def callPost (nextv : Value → World → Prop) (nextp : List PanicEntry → World → Prop) (O : World → Prop) : Ending → World → Prop
  | .returned v, w' => nextv v w'
  | .panicked ch, w' => nextp ch w'
  | .outgrown, w' => O w'

theorem callK_sound {E : Env} {c0 c : Ctx} {L : List B} (hL : RL c L) (hS : Since c0 c) {f : FuncId} {args : List V} {us : Array Value} (hlen : args.length = us.size) (hargs : ∀ (i : Nat) v u, args[i]? = some v → us[i]? = some u → R c v u)
    {k p : V → List B → Res} {r : End × List B} (hspec : SpecOK E.P f (E.call f)) (h : callK E L f args k p = some r) {nextv : Value → World → Prop} {nextp : List PanicEntry → World → Prop} {O : World → Prop}
    (hk : ∀ v L' u c', k v L' = some r → Next' c0 c v L' u c' → nextv u c'.w)
    (hp : ∀ v L' u c', p v L' = some r → Next' c0 c v L' u c' → nextp [{ v := u, recovered := false }] c'.w) :
    (∀ us w, (callFunc f us).run E.P w = .ok (.enter f us) w) ∧ Calls E.P f us c.w (callPost nextv nextp O) := by
  unfold callK at h
  cases hrow : rowOKA L (E.byRow f) args with
  | false => rw [hrow] at h; cases h
  | true =>
  rw [hrow, dataArgs_eq hrow] at h
  simp only [cond_true] at h
  split at h
  case h_1 => cases h
  rename_i args1 hargs1
  generalize hlent : (if E.byRow f then [] else args.flatMap lent1) = lent at h
  generalize hio0 : reach L 4 (addNew (args1.flatMap refs1) []) = io at h
  split at h
  case isTrue => cases h
  rename_i hchk
  simp only [Bool.not_eq_true, Bool.not_eq_false', Bool.and_eq_true] at hchk
  obtain ⟨hd, hli⟩ := hchk
  split at h
  case h_2 => cases h
  rename_i args2 bs hargs2 hbs
  obtain ⟨e, bs', h2, henter, hcalls⟩ := hspec args2 bs _ r h
  clear h
  have h := h2
  clear h2
  refine ⟨henter, ?_⟩
  have hX : ∀ g, c.X g → g < c.w.heap.size := fun g hg => Nat.lt_of_lt_of_le (hS.lt g (by exact hg)) hS.size
  obtain ⟨a1, a2⟩ := dataArgs_sound hL hargs1 (l := lent) (fun hb k hk => by rw [← hlent, hb]; simpa using hk)
  have hTi := into_TR hL lent io
  obtain ⟨b1, b2⟩ := renArgs_sound hTi hargs2
  have hio : ∀ (i : Nat) k, io[i]? = some k → k < c.n := by
    intro i k hi
    obtain ⟨ps, hps, _⟩ := Option.bind_eq_some_iff.1 hbs
    obtain ⟨p1, p2⟩ := pick_at hps
    have hlt : i < ps.length := by rw [p1]; exact (List.getElem?_eq_some_iff.1 hi).1
    obtain ⟨k', hk', hL'⟩ := p2 i _ (List.getElem?_eq_getElem hlt)
    rw [hi] at hk'
    injection hk' with hk'
    subst hk'
    rw [hL.n]
    exact (List.getElem?_eq_some_iff.1 hL').1
  have hce := into_RL hL hd hli hbs
  refine (hcalls (c.into lent io) us rfl hce (by omega) (fun i v u hv hu => ?_) (fun g hg => ?_)).mono ?_
  · have hi : i < args1.length := by have := (List.getElem?_eq_some_iff.1 hv).1; omega
    have hi0 : i < args.length := by omega
    exact b2 i v u _ hv (List.getElem?_eq_getElem hi) (a2 i _ u _ (List.getElem?_eq_getElem hi) (List.getElem?_eq_getElem hi0) (hargs i _ u (List.getElem?_eq_getElem hi0) hu))
  · rcases hg with hg | ⟨k, hk, _⟩
    · exact hX g hg
    · exact (hL.lt k g (drop_some hk).1).1
  rintro en w' ⟨c', rfl, hRE, hL', hS', hle'⟩
  have hn' : io.length ≤ bs'.length := by rw [← hL'.n]; exact hle'.n
  obtain ⟨u, hru, hen⟩ : ∃ u, R c' (endV e) u ∧ ((goE e k p = k ∧ en = .returned u) ∨ (goE e k p = p ∧ en = .panicked [{ v := u, recovered := false }])) := by
    cases hRE with
    | ret hrr => exact ⟨_, hrr, .inl ⟨rfl, rfl⟩⟩
    | panic hrr => exact ⟨_, hrr, .inr ⟨rfl, rfl⟩⟩
  have fin : ∀ v' L1 c1, goE e k p v' L1 = some r → Next' c0 c v' L1 u c1 → c1.w = c'.w →
      callPost nextv nextp O en c'.w := by
    intro v' L1 c1 h1 h2 h3
    rcases hen with ⟨e1, rfl⟩ | ⟨e1, rfl⟩
    · rw [e1] at h1; have := hk v' L1 u c1 h1 h2; rw [h3] at this; exact this
    · rw [e1] at h1; have := hp v' L1 u c1 h1 h2; rw [h3] at this; exact this
  split at h
  · rename_i v' bs1 hv' hbs1
    have hT := back_TR hL hd hio hS' 0 (f := fun i => io[i]?) (fun i k h => .inl h)
    have hrv := ren2_sound hT hru hv'
    split at h
    · rename_i hsc
      simp only [Bool.and_eq_true] at hsc
      have hio0 : io = [] := by cases io with | nil => rfl | cons => simp at hsc
      subst hio0
      have hlx := back_le (lx := []) hL hli hS' hle' 0
      have hRL := back_RL (lx := []) hL hX hd hio hli hS' hle' hL' (new := 0) (f := fun i => none) (fun h => absurd h (by simp)) (bs1 := []) rfl (by simp)
      refine fin v' L _ h ⟨hlx, ?_, hS.trans (back_since hL hX hS' 0), isScalar1_R hsc.1 hrv⟩ rfl
      simpa [putBack, kill] using hRL
    · have hlx := back_le (lx := lent) hL hli hS' hle' 0
      have hRL := back_RL (lx := lent) hL hX hd hio hli hS' hle' hL' (new := 0) (fun _ => hT) (bs1 := bs1) (by simpa using hbs1) (by omega)
      obtain ⟨r1, _⟩ := renBs_at hbs1
      have hb1 : bs1.length = io.length := by rw [r1, List.length_take]; omega
      refine fin v' _ _ h ⟨hlx, ?_, hS.trans (back_since hL hX hS' 0), hrv⟩ rfl
      rw [List.take_of_length_le (by omega), List.drop_eq_nil_of_le (by omega), List.append_nil] at hRL
      exact hRL
  · split at h
    case h_2 => cases h
    rename_i v' bs1 hv' hbs1
    have hT := back_TR hL hd hio hS' (bs'.length - io.length) (f := fun i => if i < io.length then io[i]? else if i < bs'.length then some (L.length + (i - io.length)) else none) (fun i k h => by
      split at h
      · exact .inl h
      · split at h
        · injection h with h; right; rw [hL.n]; omega
        · cases h)
    have hrv := ren2_sound hT hru hv'
    have hlx := back_le (lx := lent) hL hli hS' hle' (bs'.length - io.length)
    have hRL := back_RL (lx := lent) hL hX hd hio hli hS' hle' hL' (new := bs'.length - io.length) (fun _ => hT) (bs1 := bs1) (by rw [List.take_of_length_le (by omega)]; exact hbs1) (by omega)
    exact fin v' _ _ h ⟨hlx, hRL, hS.trans (back_since hL hX hS' _), hrv⟩ rfl

end Go.Tw
