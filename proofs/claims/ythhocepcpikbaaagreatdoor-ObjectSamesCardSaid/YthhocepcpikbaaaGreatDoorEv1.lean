/- The values of an abstract run, and what they say of the machine's values and memory. -/
import Derived.Below
import Derived.Tactics
import Derived.LoopN
import Derived.Laws.World
set_option linter.unusedVariables false
namespace Go.Tw

/-- Closed data: what leads to nothing that may be written. -/
inductive D where
  | b (x : Bool)
  | i (k : IntKind) (n : Int)
  | s (x : ByteArray)
  | sl (xs : List (List D))
  deriving Inhabited

/-- Values of an abstract run. -/
inductive V where
  | undef
  | gun
  | d (x : D)
  | agg (cs : List V)
  | tup (vs : List V)
  | nilp
  | ptr (k off : Nat)
  | dp (cs : List D) (off : Nat)
  | nilsl
  | esl
  | row (sz k a n : Nat)
  | rp (sz k j off : Nat)
  | nilmap
  | map (k : Nat)
  | fn (f : FuncId) (cap : List V)
  | nilif
  | iface (t : TypeId) (v : V)
  | someif
  deriving Inhabited

/-- Blocks of an abstract run. -/
inductive B where
  | dead
  | cells (e : TypeId) (cs : List V)
  | row (e : TypeId) (sz : Nat) (xs : List (List D))
  | map (ag : Bool) (es : List (ByteArray × List D))
  | vmap (clock : Nat) (es : List (Value × V × Nat))
  | iter (map : Nat) (since : Nat) (seen : List Nat) (last : Nat)
  deriving Inhabited

structure St where
  fr : List V
  L : List B

/-- A value reads as closed data; the memory that it leads to lies in blocks of which ok holds. -/
inductive K (w : World) (ok : Nat → Prop) : D → Value → Prop
  | b (x : Bool) : K w ok (.b x) (.bool x)
  | i (k : IntKind) (n : Int) : K w ok (.i k n) (.int k n)
  | s (x : ByteArray) : K w ok (.s x) (.string x)
  | sl (xs : List (List D)) (sz : Nat) (A : Option Addr) (c : Nat) (u : Nat → Nat → Value) (hc : xs.length ≤ c) (hm : c ≤ maxLen)
      (h : 0 < xs.length → ∃ ad, A = some ad ∧ ok ad.block ∧ ad.spot = none ∧ ∀ j x, xs[j]? = some x → x.length = sz ∧ ∀ i d, x[i]? = some d → w.cell? ⟨ad.block, ad.off + (j * sz + i), none⟩ = some (u j i))
      (hK : ∀ j x i d, xs[j]? = some x → x[i]? = some d → K w ok d (u j i)) : K w ok (.sl xs) (.slice A xs.length c)

theorem K.mono {w w' : World} {ok ok' : Nat → Prop} {d : D} {v : Value} (h : K w ok d v) (hw : ∀ g, ok g → ok' g ∧ w'.heap[g]? = w.heap[g]?) : K w' ok' d v := by
  induction h with
  | b x => exact .b x
  | i k n => exact .i k n
  | s x => exact .s x
  | sl xs sz A c u hc hm h hK ih =>
    refine .sl xs sz A c u hc hm (fun hp => ?_) ih
    obtain ⟨ad, hA, hok, hs, hx⟩ := h hp
    refine ⟨ad, hA, (hw _ hok).1, hs, fun j x hj => ⟨(hx j x hj).1, fun i d hi => ?_⟩⟩
    have h1 := (hx j x hj).2 i d hi
    simp only [World.cell?, (hw _ hok).2] at h1 ⊢
    exact h1

/-- What is known at a point: where the live blocks lie, how many blocks there are, the memory. -/
structure Ctx where
  X : Nat → Prop
  m : Nat → Option Nat
  n : Nat
  w : World
  ds : List Deferred := []

def Ctx.ok (c : Ctx) (g : Nat) : Prop := g < c.w.heap.size ∧ ¬ c.X g ∧ ∀ i, c.m i ≠ some g

/-- What an abstract value says of a value. -/
inductive R (c : Ctx) : V → Value → Prop
  | undef (u : Value) : R c .undef u
  | gun : R c .gun undef
  | d {x : D} {u : Value} (h : K c.w c.ok x u) : R c (.d x) u
  | agg {cs : List V} {us : Array Value} (hl : cs.length = us.size) (h : ∀ (i : Nat) x u, cs[i]? = some x → us[i]? = some u → R c x u) : R c (.agg cs) (.agg us)
  | tup {cs : List V} {us : Array Value} (hl : cs.length = us.size) (h : ∀ (i : Nat) x u, cs[i]? = some x → us[i]? = some u → R c x u) : R c (.tup cs) (.tuple us)
  | nilp : R c .nilp (.pointer none)
  | ptr {k off : Nat} {u : Value} (ho : u.oneCell' = true) (hk : k < c.n) (h : ∀ g, c.m k = some g → u = .pointer (some ⟨g, off, none⟩)) : R c (.ptr k off) u
  | dp {cs : List D} {off : Nat} {ad : Addr} (vs : Nat → Value) (hok : c.ok ad.block) (hs : ad.spot = none) (hc : ∀ (i : Nat) (x : D), cs[i]? = some x → off ≤ i → c.w.cell? ⟨ad.block, ad.off + (i - off), none⟩ = some (vs i) ∧ K c.w c.ok x (vs i)) : R c (.dp cs off) (.pointer (some ad))
  | nilsl : R c .nilsl (.slice none 0 0)
  | esl {A : Option Addr} : R c .esl (.slice A 0 0)
  | row {sz k a n : Nat} {u : Value} (ho : u.oneCell' = true) (hk : k < c.n) (h : ∀ g, c.m k = some g → ∃ A cap e C, u = .slice A n cap ∧ c.w.heap[g]? = some (.cells C e (0, 0)) ∧ n ≤ cap ∧ (a + cap) * sz = C.size ∧ a + cap ≤ maxLen ∧ (a = 0 ∨ 0 < n → A = some ⟨g, a * sz, none⟩)) : R c (.row sz k a n) u
  | rp {sz k j off : Nat} {u : Value} (ho : u.oneCell' = true) (hk : k < c.n) (h : ∀ g, c.m k = some g → ∃ e C, c.w.heap[g]? = some (.cells C e (0, 0)) ∧ j * sz + sz ≤ C.size ∧ u = .pointer (some ⟨g, j * sz + off, none⟩)) : R c (.rp sz k j off) u
  | nilmap : R c .nilmap (.map none)
  | map {k : Nat} {u : Value} (ho : u.oneCell' = true) (hk : k < c.n) (h : ∀ g, c.m k = some g → u = .map (some g)) : R c (.map k) u
  | fn {f : FuncId} {cs : List V} {us : Array Value} (hl : cs.length = us.size) (h : ∀ (i : Nat) x u, cs[i]? = some x → us[i]? = some u → R c x u) : R c (.fn f cs) (.func (.func f) #[] us)
  | nilif : R c .nilif .nilIface
  | iface {t : TypeId} {v : V} {u : Value} (h : R c v u) : R c (.iface t v) (.iface t u)
  | someif {t : TypeId} {u : Value} : R c .someif (.iface t u)

/-- From one point to a later one: closed data stay, live blocks keep their shape. -/
structure Ctx.Le (c c' : Ctx) : Prop where
  n : c.n ≤ c'.n
  X : c'.X = c.X
  m : ∀ k, k < c.n → c'.m k = c.m k ∨ c'.m k = none
  data : ∀ g, c.ok g → c'.w.heap[g]? = c.w.heap[g]?
  dis : ∀ i g, c'.m i = some g → ¬ c.ok g
  shape : ∀ k g C e, k < c.n → c.m k = some g → c'.m k = some g → c.w.heap[g]? = some (.cells C e (0, 0)) → ∃ C', c'.w.heap[g]? = some (.cells C' e (0, 0)) ∧ C'.size = C.size

theorem lt_of_get {α : Type} {a : Array α} {i : Nat} {x : α} (h : a[i]? = some x) : i < a.size := (Array.getElem?_eq_some_iff.1 h).1

theorem Ctx.Le.ok {c c' : Ctx} (h : c.Le c') {g : Nat} (hg : c.ok g) : c'.ok g :=
  ⟨by
    obtain ⟨x, hx⟩ : ∃ x, c.w.heap[g]? = some x := ⟨_, Array.getElem?_eq_getElem hg.1⟩
    exact lt_of_get ((h.data g hg).trans hx), by rw [h.X]; exact hg.2.1, fun i hi => h.dis i g hi hg⟩

theorem Ctx.Le.kd {c c' : Ctx} (h : c.Le c') {x : D} {u : Value} (hk : K c.w c.ok x u) : K c'.w c'.ok x u := hk.mono (fun g hg => ⟨h.ok hg, h.data g hg⟩)

theorem Ctx.Le.cell {c c' : Ctx} (h : c.Le c') {a : Addr} {u : Value} (ho : c.ok a.block) (hk : c.w.cell? a = some u) : c'.w.cell? a = some u := by
  simp only [World.cell?, h.data _ ho] at hk ⊢
  exact hk

theorem R.mono {c c' : Ctx} (h : c.Le c') {v : V} {u : Value} (hr : R c v u) : R c' v u := by
  induction hr with
  | undef u => exact .undef u
  | gun => exact .gun
  | d hk => exact .d (h.kd hk)
  | agg hl _ ih => exact .agg hl ih
  | tup hl _ ih => exact .tup hl ih
  | nilp => exact .nilp
  | ptr ho hk hg =>
    refine .ptr ho (Nat.lt_of_lt_of_le hk h.n) (fun g hm => hg g ?_)
    rcases h.m _ hk with e | e
    · rw [← e]; exact hm
    · rw [e] at hm; cases hm
  | dp vs hok hs hc => exact .dp vs (h.ok hok) hs (fun i x hi ho => ⟨h.cell hok (hc i x hi ho).1, h.kd (hc i x hi ho).2⟩)
  | nilsl => exact .nilsl
  | esl => exact .esl
  | row ho hk hg =>
    refine .row ho (Nat.lt_of_lt_of_le hk h.n) (fun g hm => ?_)
    rcases h.m _ hk with e | e
    · have hm0 := e.symm.trans hm
      obtain ⟨A, cap, e, C, h1, h2, h3, h4, h5, h6⟩ := hg g hm0
      obtain ⟨C', h7, h8⟩ := h.shape _ g C e hk hm0 hm h2
      exact ⟨A, cap, e, C', h1, h7, h3, by rw [h8]; exact h4, h5, h6⟩
    · rw [e] at hm; cases hm
  | rp ho hk hg =>
    refine .rp ho (Nat.lt_of_lt_of_le hk h.n) (fun g hm => ?_)
    rcases h.m _ hk with e | e
    · have hm0 := e.symm.trans hm
      obtain ⟨e, C, h2, h3, h4⟩ := hg g hm0
      obtain ⟨C', h7, h8⟩ := h.shape _ g C e hk hm0 hm h2
      exact ⟨e, C', h7, by rw [h8]; exact h3, h4⟩
    · rw [e] at hm; cases hm
  | nilmap => exact .nilmap
  | map ho hk hg =>
    refine .map ho (Nat.lt_of_lt_of_le hk h.n) (fun g hm => hg g ?_)
    rcases h.m _ hk with e | e
    · rw [← e]; exact hm
    · rw [e] at hm; cases hm
  | fn hl _ ih => exact .fn hl ih
  | nilif => exact .nilif
  | iface _ ih => exact .iface ih
  | someif => exact .someif

/-- What an entry says of the machine's entry. -/
def RelM (w : World) (ok : Nat → Prop) (ag : Bool) (p : ByteArray × List D) (e : MapEntry) : Prop :=
  e.key = .string p.1 ∧ match ag with
    | true => ∃ us : Array Value, e.val = .agg us ∧ p.2.length = us.size ∧ ∀ (i : Nat) d u, p.2[i]? = some d → us[i]? = some u → K w ok d u
    | false => ∃ d, p.2 = [d] ∧ K w ok d e.val
theorem RelM.mono {w w' : World} {ok ok' : Nat → Prop} {ag : Bool} {p : ByteArray × List D} {e : MapEntry} (h : RelM w ok ag p e) (hw : ∀ g, ok g → ok' g ∧ w'.heap[g]? = w.heap[g]?) : RelM w' ok' ag p e := by
  refine ⟨h.1, ?_⟩
  cases ag with
  | true =>
    obtain ⟨us, h1, h2, h3⟩ := h.2
    exact ⟨us, h1, h2, fun i d u hd hu => (h3 i d u hd hu).mono hw⟩
  | false =>
    obtain ⟨d, h1, h2⟩ := h.2
    exact ⟨d, h1, h2.mono hw⟩
inductive AllM (w : World) (ok : Nat → Prop) (ag : Bool) : List (ByteArray × List D) → List MapEntry → Prop
  | nil : AllM w ok ag [] []
  | cons {p : ByteArray × List D} {e : MapEntry} {ps : List (ByteArray × List D)} {es : List MapEntry} (h : RelM w ok ag p e) (t : AllM w ok ag ps es) : AllM w ok ag (p :: ps) (e :: es)
theorem AllM.mono {w w' : World} {ok ok' : Nat → Prop} {ag : Bool} (hw : ∀ g, ok g → ok' g ∧ w'.heap[g]? = w.heap[g]?) {ps : List (ByteArray × List D)} {es : List MapEntry} (h : AllM w ok ag ps es) : AllM w' ok' ag ps es := by
  induction h with
  | nil => exact .nil
  | cons h _ ih => exact .cons (h.mono hw) ih

/-- What an entry of a map with keys of any kind says. -/
inductive AllV (c : Ctx) : List (Value × V × Nat) → List MapEntry → Prop
  | nil : AllV c [] []
  | cons {k : Value} {v : V} {b : Nat} {e : MapEntry} {ps : List (Value × V × Nat)} {es : List MapEntry} (hk : e.key = k) (hb : e.born = b) (hv : R c v e.val) (t : AllV c ps es) : AllV c ((k, v, b) :: ps) (e :: es)
theorem AllV.mono {c c' : Ctx} (h : c.Le c') {ps : List (Value × V × Nat)} {es : List MapEntry} (ha : AllV c ps es) : AllV c' ps es := by
  induction ha with
  | nil => exact .nil
  | cons hk hb hv _ ih => exact .cons hk hb (hv.mono h) ih
theorem AllV.length {c : Ctx} {ps : List (Value × V × Nat)} {es : List MapEntry} (h : AllV c ps es) : ps.length = es.length := by
  induction h with
  | nil => rfl
  | cons _ _ _ _ ih => simp [ih]

/-- What a block says of the machine's block. -/
inductive RB (c : Ctx) : B → Nat → Prop
  | cells {e : TypeId} {cs : List V} {g : Nat} (C : Array Value) (hg : c.w.heap[g]? = some (.cells C e (0, 0))) (hl : cs.length ≤ C.size) (ho : ∀ u ∈ C.toList, u.oneCell' = true)
      (h : ∀ (i : Nat) x u, cs[i]? = some x → C[i]? = some u → R c x u) : RB c (.cells e cs) g
  | row {e : TypeId} {sz : Nat} {xs : List (List D)} {g : Nat} (C : Array Value) (hg : c.w.heap[g]? = some (.cells C e (0, 0))) (hl : xs.length * sz ≤ C.size) (ho : ∀ u ∈ C.toList, u.oneCell' = true)
      (hz : ∀ x ∈ xs, x.length = sz) (h : ∀ j x i d, xs[j]? = some x → x[i]? = some d → ∃ u, C[j * sz + i]? = some u ∧ K c.w c.ok d u) : RB c (.row e sz xs) g
  | map {ag : Bool} {es : List (ByteArray × List D)} {g : Nat} (C : Array MapEntry) (clock : Nat) (hg : c.w.heap[g]? = some (.map C clock)) (h : AllM c.w c.ok ag es C.toList) : RB c (.map ag es) g
  | vmap {es : List (Value × V × Nat)} {g : Nat} (C : Array MapEntry) (clock : Nat) (hg : c.w.heap[g]? = some (.map C clock)) (h : AllV c es C.toList) : RB c (.vmap clock es) g
  | iter {k since last : Nat} {seen : List Nat} {g : Nat} (hk : k < c.n) (hg : ∀ g', c.m k = some g' → c.w.heap[g]? = some (.mapIter (some g') since seen.toArray last)) : RB c (.iter k since seen last) g

theorem RB.mono {c c' : Ctx} (h : c.Le c') {b : B} {g : Nat} (hr : RB c b g) (hg : c'.w.heap[g]? = c.w.heap[g]?) : RB c' b g := by
  cases hr with
  | cells C h1 h2 h3 h4 => exact .cells C (hg.trans h1) h2 h3 (fun i x u hx hu => (h4 i x u hx hu).mono h)
  | row C h1 h2 h3 h4 h5 => exact .row C (hg.trans h1) h2 h3 h4 (fun j x i d hx hd => by
      obtain ⟨u, hu, hk⟩ := h5 j x i d hx hd
      exact ⟨u, hu, h.kd hk⟩)
  | map C n h1 h2 => exact .map C n (hg.trans h1) (h2.mono fun g hg => ⟨h.ok hg, h.data g hg⟩)
  | vmap C n h1 h2 => exact .vmap C n (hg.trans h1) (h2.mono h)
  | iter h1 h2 =>
    refine .iter (Nat.lt_of_lt_of_le h1 h.n) (fun g' hm => ?_)
    rcases h.m _ h1 with e | e
    · exact hg.trans (h2 g' (e.symm.trans hm))
    · rw [e] at hm; cases hm

/-- The blocks. -/
structure RL (c : Ctx) (L : List B) : Prop where
  n : c.n = L.length
  inj : ∀ i j g, c.m i = some g → c.m j = some g → i = j
  lt : ∀ i g, c.m i = some g → g < c.w.heap.size ∧ i < c.n
  live : ∀ (i : Nat) b, L[i]? = some b → b ≠ .dead → ∃ g, c.m i = some g ∧ RB c b g
  dead : ∀ (i : Nat), L[i]? = some .dead → c.m i = none
  nx : ∀ i g, c.m i = some g → ¬ c.X g

/-- The frame. -/
structure RF (c : Ctx) (fr : List V) (tm : Array Value) : Prop where
  n : fr.length = tm.size
  at_ : ∀ (i : Nat) v u, fr[i]? = some v → tm[i]? = some u → R c v u
end Go.Tw
