/- The abstract run is sound: slices, what is appended, what is converted. -/
import Derived.Test.YthhocepcpikbaaaGreatDoorEv4
import Derived.Deep.AppendSrc
import Derived.Deep.Upon
import Derived.Laws.AppendOwn
import Derived.Laws.MakeOwn
import Derived.Laws.BytesString
import Derived.Laws.StructEq
set_option linter.unusedVariables false
set_option linter.unusedSimpArgs false
namespace Go.Tw

/-! ### whether two values are the same -/
def PartR (c : Ctx) (P : Program) (t : TypeId) (xs : List V) (X : Value) : Prop := (isAggT P t = some true ∧ R c (.agg xs) X) ∨ (isAggT P t = some false ∧ ∃ x, xs = [x] ∧ R c x X)

theorem part_of {c : Ctx} {P : Program} {w : World} {t : TypeId} {xs : List V} {us : Array Value} {off s : Nat} (hs : sizeT P t = some s) (hl : xs.length = us.size) (hR : ∀ (i : Nat) x u, xs[i]? = some x → us[i]? = some u → R c x u)
    (ht : isAggT P t = some true ∨ (isAggT P t = some false ∧ ∃ x, (xs.drop off).take s = [x])) : ∃ X, (part t us off).run P w = .ok X w ∧ PartR c P t ((xs.drop off).take s) X := by
  rcases ht with ht | ⟨ht, x, hx⟩
  · refine ⟨.agg (us.extract off (off + s)), by simp [part, isAgg_sound ht, size_sound hs], .inl ⟨ht, .agg (by simp; omega) (fun i x u h1 h2 => ?_)⟩⟩
    rw [List.getElem?_take] at h1
    split at h1
    · rename_i hi
      rw [List.getElem?_drop] at h1
      rw [Array.getElem?_extract] at h2
      split at h2
      · exact hR _ x u h1 h2
      · cases h2
    · cases h1
  · have h0 : xs[off]? = some x := by
      have := congrArg (fun l => l[0]?) hx
      simp only [List.getElem?_cons_zero] at this
      rw [List.getElem?_take] at this
      split at this
      · rw [List.getElem?_drop] at this; simpa using this
      · cases this
    have hlt : off < us.size := by rw [← hl]; exact (List.getElem?_eq_some_iff.1 h0).1
    exact ⟨us[off], by simp [part, isAgg_sound ht, Array.getElem?_eq_getElem hlt], .inr ⟨ht, x, hx, hR off x _ h0 (Array.getElem?_eq_getElem hlt)⟩⟩

theorem eqT_shape {P : Program} {n : Nat} {t : TypeId} {xs ys : List V} {r : Bool} (h : eqT P n t xs ys = some r) : isAggT P t = some true ∨ (isAggT P t = some false ∧ (∃ x, xs = [x]) ∧ ∃ y, ys = [y]) := by
  cases n with
  | zero => cases h
  | succ n =>
    unfold eqT at h
    unfold isAggT
    split at h
    · rename_i hu; rw [hu]; split at h
      · exact .inr ⟨rfl, ⟨_, rfl⟩, _, rfl⟩
      · cases h
    · rename_i hu; rw [hu]; split at h
      · exact .inr ⟨rfl, ⟨_, rfl⟩, _, rfl⟩
      · cases h
    · rename_i hu; rw [hu]; split at h
      · exact .inr ⟨rfl, ⟨_, rfl⟩, _, rfl⟩
      · cases h
    · rename_i hu; rw [hu]; exact .inl rfl
    · cases h

theorem eqT_sound {c : Ctx} {P : Program} {w : World} : ∀ (n : Nat) (t : TypeId) (xs ys : List V) (X Y : Value) (r : Bool) (d : Nat), eqT P n t xs ys = some r → n ≤ d → PartR c P t xs X → PartR c P t ys Y → (Op.equalIn d t X Y).run P w = .ok r w
  | 0, t, xs, ys, X, Y, r, d, h, _, _, _ => by cases h
  | n + 1, t, xs, ys, X, Y, r, 0, h, hd, _, _ => by omega
  | n + 1, t, xs, ys, X, Y, r, d + 1, h, hd, hX, hY => by
    unfold eqT at h
    have one : ∀ {x : V} {zs : List V} {Z : Value}, isAggT P t = some false → zs = [x] → PartR c P t zs Z → R c x Z := by
      intro x zs Z hf hz hZ
      rcases hZ with ⟨h1, _⟩ | ⟨_, y, h2, h3⟩
      · rw [hf] at h1; cases h1
      · rw [hz] at h2; injection h2 with h2; subst h2; exact h3
    split at h
    · rename_i hu
      have hf : isAggT P t = some false := by simp [isAggT, hu]
      split at h
      · injection h with h
        subst h
        rw [(one hf rfl hX).bool, (one hf rfl hY).bool]
        rw [Op.equalIn, Sem.run_bind, run_underlying hu]
        rfl
      · cases h
    · rename_i k0 hu
      have hf : isAggT P t = some false := by simp [isAggT, hu]
      split at h
      · split at h
        case isFalse => cases h
        rename_i hk
        injection h with h
        subst h
        subst hk
        rw [(one hf rfl hX).int, (one hf rfl hY).int]
        rw [Op.equalIn, Sem.run_bind, run_underlying hu]
        simp
      · cases h
    · rename_i hu
      have hf : isAggT P t = some false := by simp [isAggT, hu]
      split at h
      · injection h with h
        subst h
        rw [(one hf rfl hX).str, (one hf rfl hY).str]
        rw [Op.equalIn, Sem.run_bind, run_underlying hu]
        rfl
      · cases h
    · rename_i fs hu
      have hf : isAggT P t = some true := by simp [isAggT, hu]
      split at h
      · cases h
      rename_i hst
      have hst : P.stoodInHeld t = false := by simpa using hst
      have agg : ∀ {zs : List V} {Z : Value}, PartR c P t zs Z → ∃ us, Z = .agg us ∧ zs.length = us.size ∧ ∀ (i : Nat) x u, zs[i]? = some x → us[i]? = some u → R c x u := by
        intro zs Z hZ
        rcases hZ with ⟨_, h2⟩ | ⟨h1, _⟩
        · cases h2 with
          | agg h3 h4 => exact ⟨_, rfl, h3, h4⟩
        · rw [hf] at h1; cases h1
      obtain ⟨us, rfl, hul, huR⟩ := agg hX
      obtain ⟨vs, rfl, hvl, hvR⟩ := agg hY
      have hfo : P.fieldsOf t = fs := by simp [Program.fieldsOf, hu]
      rw [run_equalIn_struct (P := P) w d t us vs (by rw [hfo]; exact hu) hst, hfo]
      have fields : ∀ (l : List Field) (q : Bool), eqFs P (eqT P n) l xs ys = some q → (Op.eqFields d us vs l).run P w = .ok q w := by
        intro l
        induction l with
        | nil => intro q hq; injection hq with hq; subst hq; simp [Op.eqFields]
        | cons f l ih =>
          intro q hq
          unfold eqFs at hq
          split at hq
          · cases hq
          rename_i hname
          have hname : f.name ≠ "_" := by simpa using hname
          split at hq
          · cases hq
          rename_i s hs
          split at hq
          case h_2 => cases hq
          rename_i a b ha hb
          have hsh := eqT_shape ha
          obtain ⟨X1, hX1, hX2⟩ := part_of (w := w) (off := f.offset) hs hul huR (by rcases hsh with h | ⟨h, h2, _⟩; exact .inl h; exact .inr ⟨h, h2⟩)
          obtain ⟨Y1, hY1, hY2⟩ := part_of (w := w) (off := f.offset) hs hvl hvR (by rcases hsh with h | ⟨h, _, h2⟩; exact .inl h; exact .inr ⟨h, h2⟩)
          have he := eqT_sound (c := c) (w := w) n f.type _ _ X1 Y1 a d ha (by omega) hX2 hY2
          have hrest := ih b hb
          have hall : (Op.eqFields d us vs (f :: l)).run P w = .ok (a && b) w := by
            rw [Op.eqFields]
            simp only [if_pos hname, Sem.run_bind, hX1, hY1, he, Result.andThen_ok]
            cases a
            · simp
            · simpa using hrest
          rw [hall]
          split at hq
          · injection hq with hq
            injection hb with hb
            subst hq
            subst hb
            simp
          · injection hq with hq
            subst hq
            rfl
      exact fields _ _ h
    · cases h

theorem binMore_sound {c : Ctx} {P : Program} {w : World} {op : BinOp} {t : TypeId} {x y : V} {x' y' : Value} {f : V → Res} {r : End × List B} (h : binMoreK P op t x y f = some r) (hx : R c x x') (hy : R c y y') (X Y : Operand) :
    ∃ v u, (do eqGuard op t X Y x' y'; binOp op t x' y' : Sem Value).run P w = .ok u w ∧ R c v u ∧ f v = some r := by
  unfold binMoreK at h
  split at h
  · rename_i k a k' b
    rw [hx.int, hy.int]
    have hg : (eqGuard op t X Y (.int k a) (.int k' b)).run P w = .ok () w := by unfold eqGuard; split <;> rfl
    rw [Sem.run_bind, hg]
    simp only [Result.andThen_ok]
    split at h
    · cases hb : decide (b < 0) with
      | true => rw [hb] at h; cases h
      | false =>
        rw [hb] at h
        refine ⟨_, .int k (k.wrap (a * 2 ^ (min b.toNat k.bits))), ?_, .d (.i _ _), h⟩
        have hb' : ¬ b < 0 := by simpa using hb
        simp [binOp, Op.shift, hb']
    · cases hb : decide (b < 0) with
      | true => rw [hb] at h; cases h
      | false =>
        rw [hb] at h
        refine ⟨_, .int k (a.fdiv (2 ^ (min b.toNat k.bits))), ?_, .d (.i _ _), h⟩
        have hb' : ¬ b < 0 := by simpa using hb
        simp [binOp, Op.shift, hb']
    · split at h
      case isFalse => cases h
      rename_i hk
      subst hk
      unfold intMoreK at h
      split at h
      · cases hb : (b == 0) with
        | true => rw [hb] at h; cases h
        | false =>
          rw [hb] at h
          have hb' : b ≠ 0 := by simpa using hb
          exact ⟨_, _, by simp [binOp, Op.intDiv, hb'], .d (.i _ _), h⟩
      · cases hb : (b == 0) with
        | true => rw [hb] at h; cases h
        | false =>
          rw [hb] at h
          have hb' : b ≠ 0 := by simpa using hb
          exact ⟨_, _, by simp [binOp, Op.intDiv, hb'], .d (.i _ _), h⟩
      · exact ⟨_, _, by simp [binOp, Op.intBits], .d (.i _ _), h⟩
      · exact ⟨_, _, by simp [binOp, Op.intBits], .d (.i _ _), h⟩
      · exact ⟨_, _, by simp [binOp, Op.intBits], .d (.i _ _), h⟩
      · cases h
  · rename_i a b
    rw [hx.str, hy.str]
    split at h
    · split at h
      case isFalse => cases h
      rename_i hs
      refine ⟨_, .string (a ++ b), ?_, .d (.s _), h⟩
      have hs' : ¬ ((9223372036854775807 : Int) < (a.size : Int) + (b.size : Int)) := by omega
      simp [eqGuard, binOp, Op.stringOp, hs']
    · cases h
  · rename_i xs ys
    split at h
    · cases h
    rename_i hg
    have hg : P.eqGuardType P.depth t = false := by simpa using hg
    split at h
    case h_2 => cases h
    rename_i b hagg heq
    cases hx with
    | agg hlx hRx =>
      cases hy with
      | agg hly hRy =>
        rename_i us vs
        have hrun := fun w => eqT_sound (c := c) (w := w) 6 t xs ys (.agg us) (.agg vs) b 10000 heq (by omega) (.inl ⟨hagg, .agg hlx hRx⟩) (.inl ⟨hagg, .agg hly hRy⟩)
        have hgr := run_eqGuard_agg (P := P) w op t X Y us vs hg
        rw [Sem.run_bind, hgr]
        simp only [Result.andThen_ok]
        have he : (Op.equal t (.agg us) (.agg vs)).run P w = .ok b w := hrun w
        split at h
        · exact ⟨_, .bool b, by simp only [binOp, Sem.run_bind, he]; rfl, .d (.b _), h⟩
        · exact ⟨_, .bool (!b), by simp only [binOp, Sem.run_bind, he]; rfl, .d (.b _), h⟩
        · cases h
  · cases h

def OptR (c : Ctx) (ρ : Operand → Value) : Option V → Option Operand → Prop
  | none, none => True
  | some v, some x => R c v (ρ x)
  | _, _ => False

theorem bound_sound {c : Ctx} {P : Program} {v : Option V} {x : Option Operand} {ρ : Operand → Value} {dflt : Int} {f : Int → Res} {r : End × List B} (h : boundK v dflt f = some r) (hx : OptR c ρ v x) :
    ∃ n, f n = some r ∧ ((x = none ∧ n = dflt) ∨ ∃ y k, x = some y ∧ ρ y = .int k n) := by
  unfold boundK at h
  split at h
  · cases x with
    | none => exact ⟨_, h, .inl ⟨rfl, rfl⟩⟩
    | some _ => exact hx.elim
  · cases x with
    | none => exact hx.elim
    | some y => exact ⟨_, h, .inr ⟨y, _, rfl, hx.int⟩⟩
  · cases h

theorem bounds_run {P : Program} {w : World} {ρ : Operand → Value} {lo hi : Option Operand} {isS : Bool} {len cap : Nat} {l h : Int} (hl : (lo = none ∧ l = 0) ∨ ∃ y k, lo = some y ∧ ρ y = .int k l) (hh : (hi = none ∧ h = len) ∨ ∃ y k, hi = some y ∧ ρ y = .int k h)
    (h0 : 0 ≤ l) (h1 : l ≤ h) (h2 : h ≤ len) (h3 : len ≤ cap) : (Instr.sliceBounds isS len cap (lo.map ρ) (hi.map ρ) none).run P w = .ok (l.toNat, h.toNat, cap) w := by
  have e1 : 0 ≤ h ∧ h ≤ (cap : Int) := by omega
  rcases hl with ⟨rfl, rfl⟩ | ⟨y, k, rfl, hy⟩ <;> rcases hh with ⟨rfl, rfl⟩ | ⟨z, k', rfl, hz⟩
  · simp [Instr.sliceBounds]
  · simp [Instr.sliceBounds, Instr.sliceBound, asIntOf, hz, e1.1, e1.2]
  · have e2 : l ≤ (len : Int) := by omega
    simp [Instr.sliceBounds, Instr.sliceBound, asIntOf, hy, h0, e2]
  · have e2 : ¬ (max h 0 < l) := by omega
    have e3 : l ≤ max h 0 := by omega
    simp [Instr.sliceBounds, Instr.sliceBound, asIntOf, hy, hz, h0, e1.1, e1.2, e3, e2]

theorem slice_sound {P : Program} {c : Ctx} {L : List B} (hL : RL c L) {t : TypeId} {x : V} {u : Value} {lo hi : Option V} {lo' hi' : Option Operand} {ρ : Operand → Value} {f : V → Res} {r : End × List B} (hx : R c x u)
    (hlo : OptR c ρ lo lo') (hhi : OptR c ρ hi hi') (h : sliceK P L t x lo hi f = some r) :
    ∃ v u', (Instr.sliceAt t u (lo'.map ρ) (hi'.map ρ) none).run P c.w = .ok u' c.w ∧ R c v u' ∧ f v = some r := by
  unfold sliceK at h
  split at h
  · rename_i b hu
    obtain ⟨n, h, hn⟩ := bound_sound (P := P) h hhi
    obtain ⟨m, h, hm⟩ := bound_sound (P := P) h hlo
    split at h
    case isFalse => cases h
    rename_i hc
    rw [hx.str]
    have hb := bounds_run (P := P) (w := c.w) (isS := false) (cap := b.size) hm hn hc.1 hc.2.1 hc.2.2 (Nat.le_refl _)
    exact ⟨_, .string (b.extract m.toNat n.toNat), by simp [Instr.sliceAt, Instr.slice, run_underlying hu, hb], .d (.s _), h⟩
  · rename_i e xs hu
    split at h
    case h_2 => cases h
    rename_i s hs
    obtain ⟨n, h, hn⟩ := bound_sound (P := P) h hhi
    obtain ⟨m, h, hm⟩ := bound_sound (P := P) h hlo
    split at h
    case isFalse => cases h
    rename_i hc
    cases hz : okSz s xs with
    | false => rw [hz] at h; cases h
    | true =>
    rw [hz] at h
    cases hx with
    | d hx =>
      cases hx with
      | sl _ sz A cap uu hcap hml hA hK =>
        have hb := bounds_run (P := P) (w := c.w) (isS := true) (cap := cap) hm hn hc.1 hc.2.1 hc.2.2 hcap
        have hlen : ((xs.take n.toNat).drop m.toNat).length = n.toNat - m.toNat := by simp; omega
        refine ⟨_, .slice (if cap = m.toNat then A else A.map (·.add (m.toNat * s))) (n.toNat - m.toNat) (cap - m.toNat), by simp [Instr.sliceAt, Instr.slice, run_underlying hu, hb, size_sound hs], ?_, h⟩
        have := K.sl (w := c.w) (ok := c.ok) ((xs.take n.toNat).drop m.toNat) sz (if cap = m.toNat then A else A.map (·.add (m.toNat * s))) (cap - m.toNat) (fun j i => uu (m.toNat + j) i) (by omega) (by omega) (fun hp => by
          rw [hlen] at hp
          obtain ⟨ad, rfl, hok, hsp, hcell⟩ := hA (by omega)
          have hxs : ∃ x0 xs', xs = x0 :: xs' := by
            cases xs with
            | nil => simp at hc; omega
            | cons x0 xs' => exact ⟨_, _, rfl⟩
          obtain ⟨x0, xs', rfl⟩ := hxs
          have hsz : sz = s := by
            have := (hcell 0 x0 rfl).1
            have h2 : x0.length = s := by simpa [okSz] using hz
            omega
          subst hsz
          obtain ⟨g, o, sp⟩ := ad
          simp only at hsp hok hcell
          subst hsp
          refine ⟨⟨g, o + m.toNat * sz, none⟩, ?_, hok, rfl, fun j x hj => ?_⟩
          · rw [if_neg (by omega)]; simp [add_plain']
          · rw [List.getElem?_drop, List.getElem?_take] at hj
            split at hj
            case isFalse => cases hj
            obtain ⟨h3, h4⟩ := hcell _ x hj
            refine ⟨h3, fun i d hi => ?_⟩
            rw [show o + m.toNat * sz + (j * sz + i) = o + ((m.toNat + j) * sz + i) by rw [Nat.add_mul]; omega]
            exact h4 i d hi) (fun j x i d hj hi => by
          rw [List.getElem?_drop, List.getElem?_take] at hj
          split at hj
          case isFalse => cases hj
          exact hK _ x i d hj hi)
        rw [hlen] at this
        exact .d this
  · rename_i e sz b a n0 hu
    split at h
    case h_2 => cases h
    rename_i s hs
    split at h
    case isFalse => cases h
    rename_i hsz
    obtain ⟨rfl, hlv⟩ := hsz
    obtain ⟨n, h, hn⟩ := bound_sound (P := P) h hhi
    obtain ⟨m, h, hm⟩ := bound_sound (P := P) h hlo
    split at h
    case isFalse => cases h
    rename_i hc
    obtain ⟨g, hg⟩ := live_at hL hlv
    cases hx with
    | row ho hk hr =>
      obtain ⟨A, cap, e2, C, rfl, hC, hcap, hCs, hml, hA⟩ := hr g hg
      have hb := bounds_run (P := P) (w := c.w) (isS := true) (cap := cap) hm hn hc.1 hc.2.1 hc.2.2 hcap
      refine ⟨_, .slice (if cap = m.toNat then A else A.map (·.add (m.toNat * sz))) (n.toNat - m.toNat) (cap - m.toNat), by simp [Instr.sliceAt, Instr.slice, run_underlying hu, hb, size_sound hs], .row rfl hk (fun g' hg' => ?_), h⟩
      rw [hg] at hg'
      injection hg' with hg'
      subst hg'
      refine ⟨_, _, e2, C, rfl, hC, by omega, ?_, by omega, fun hp => ?_⟩
      · rw [show a + m.toNat + (cap - m.toNat) = a + cap by omega]; exact hCs
      · by_cases hcm : cap = m.toNat
        · rw [if_pos hcm]
          have h0 : a = 0 ∧ m.toNat = 0 := by omega
          rw [hA (.inl h0.1), h0.1, h0.2]
        · rw [if_neg hcm]
          rcases hp with hp | hp
          · have h0 : a = 0 ∧ m.toNat = 0 := by omega
            rw [hA (.inl h0.1), h0.1, h0.2]
            simp [add_plain']
          · rw [hA (.inr (by omega))]
            simp [add_plain', Nat.add_mul]
  · cases h

/-! ### what is appended -/
theorem K_one {w : World} {ok : Nat → Prop} {d : D} {u : Value} (h : K w ok d u) : u.oneCell' = true := by cases h <;> rfl

/-- The cells of rows. -/
structure Laid (c : Ctx) (s : Nat) (ys : List (List D)) (news : List Value) : Prop where
  sz : ∀ x ∈ ys, x.length = s
  n : news.length = ys.length * s
  at_ : ∀ j x i d, ys[j]? = some x → x[i]? = some d → ∃ u, news[j * s + i]? = some u ∧ K c.w c.ok d u

theorem Laid.one {c : Ctx} {s : Nat} {ys : List (List D)} {news : List Value} (h : Laid c s ys news) (h0 : 0 < s) : ∀ u ∈ news, u.oneCell' = true := by
  intro u hu
  obtain ⟨q, hq⟩ := List.mem_iff_getElem?.1 hu
  have hql : q < ys.length * s := by have := (List.getElem?_eq_some_iff.1 hq).1; rw [← h.n]; exact this
  have hj : q / s < ys.length := Nat.div_lt_of_lt_mul (by rw [Nat.mul_comm]; exact hql)
  have hi : q % s < (ys[q / s]).length := by rw [h.sz _ (List.getElem_mem hj)]; exact Nat.mod_lt _ h0
  obtain ⟨u', hu', hk⟩ := h.at_ (q / s) _ (q % s) _ (List.getElem?_eq_getElem hj) (List.getElem?_eq_getElem hi)
  rw [show q / s * s + q % s = q by rw [Nat.mul_comm]; exact Nat.div_add_mod q s, hq] at hu'
  injection hu' with hu'
  subst hu'
  exact K_one hk

theorem bytesD_laid (c : Ctx) (s : ByteArray) : Laid c 1 (bytesD s) (byteCells s) where
  sz := fun x hx => by simp only [bytesD, List.mem_map] at hx; obtain ⟨b, _, rfl⟩ := hx; rfl
  n := by rw [byteCells_length]; simp [bytesD]
  at_ := fun j x i d hj hi => by
    simp only [bytesD, List.getElem?_map, Option.map_eq_some_iff] at hj
    obtain ⟨b, hb, rfl⟩ := hj
    match i, hi with
    | 0, hi =>
      simp at hi
      subst hi
      refine ⟨.int .u8 b.toNat, ?_, .i _ _⟩
      simp [byteCells, hb]

theorem src_sound {P : Program} {c : Ctx} {L : List B} (hL : RL c L) {t : TypeId} {s : Nat} (h0 : 0 < s) {x : V} {u : Value} {f : List (List D) → Res} {r : End × List B} (hx : R c x u) (h : srcK P L t s x f = some r) :
    ∃ ys news, f ys = some r ∧ Src P s t u ys.length news c.w ∧ Laid c s ys news := by
  unfold srcK at h
  split at h
  · rename_i e xs hu
    cases hz : okSz s xs with
    | false => rw [hz] at h; cases h
    | true =>
    rw [hz] at h
    cases hx with
    | d hx =>
      cases hx with
      | sl _ sz A cap uu hcap hml hA hK =>
        rcases Nat.eq_zero_or_pos xs.length with hl | hp
        · obtain rfl := List.eq_nil_of_length_eq_zero hl
          refine ⟨[], [], h, ?_, ⟨fun x hx => by simp at hx, by simp, fun j x i d hj => by simp at hj⟩⟩
          cases A with
          | none => exact Src.ofNil c.w hu cap
          | some ad => exact Src.ofSlice c.w hu ad 0 cap [] (by simp) (by simp) (by simp)
        · obtain ⟨ad, rfl, hok, hsp, hcell⟩ := hA hp
          obtain ⟨g, o, sp⟩ := ad
          simp only at hsp hok hcell
          subst hsp
          have hxs : ∃ x0 xs', xs = x0 :: xs' := by
            cases xs with
            | nil => simp at hp
            | cons x0 xs' => exact ⟨_, _, rfl⟩
          have hsz : sz = s := by
            obtain ⟨x0, xs', rfl⟩ := hxs
            have := (hcell 0 x0 rfl).1
            have h2 : x0.length = s := by simpa [okSz] using hz
            omega
          subst hsz
          have hsz' : ∀ x ∈ xs, x.length = sz := fun x hx => by
            obtain ⟨j, hj⟩ := List.mem_iff_getElem?.1 hx
            exact (hcell j x hj).1
          have hlaid : Laid c sz xs ((List.range (xs.length * sz)).map fun q => uu (q / sz) (q % sz)) := by
            refine ⟨hsz', by simp, fun j x i d hj hi => ?_⟩
            have hjl := (List.getElem?_eq_some_iff.1 hj).1
            have hil : i < sz := by have := (List.getElem?_eq_some_iff.1 hi).1; rw [hsz' x (List.mem_of_getElem? hj)] at this; exact this
            have hlt : j * sz + i < xs.length * sz := by have := Nat.mul_le_mul_right sz hjl; rw [Nat.succ_mul] at this; omega
            refine ⟨uu j i, ?_, hK _ _ _ _ hj hi⟩
            rw [List.getElem?_map, List.getElem?_range hlt]
            simp only [Option.map_some]
            rw [show (j * sz + i) / sz = j by rw [Nat.mul_comm, Nat.mul_add_div h0, Nat.div_eq_of_lt hil]; rfl, show (j * sz + i) % sz = i by rw [Nat.mul_comm, Nat.mul_add_mod, Nat.mod_eq_of_lt hil]]
          refine ⟨xs, _, h, Src.ofSlice c.w hu _ xs.length cap _ hlaid.n (fun q u hq => ?_) (hlaid.one h0), hlaid⟩
          have hql : q < xs.length * sz := by have := (List.getElem?_eq_some_iff.1 hq).1; simpa using this
          have hj : q / sz < xs.length := Nat.div_lt_of_lt_mul (by rw [Nat.mul_comm]; exact hql)
          have hi : q % sz < (xs[q / sz]).length := by rw [hsz' _ (List.getElem_mem hj)]; exact Nat.mod_lt _ h0
          have h3 := (hcell (q / sz) _ (List.getElem?_eq_getElem hj)).2 (q % sz) _ (List.getElem?_eq_getElem hi)
          rw [show q / sz * sz + q % sz = q by rw [Nat.mul_comm]; exact Nat.div_add_mod q sz] at h3
          rw [List.getElem?_map, List.getElem?_range hql] at hq
          simp only [Option.map_some, Option.some.injEq] at hq
          rw [add_plain', ← hq]
          exact h3
  · rename_i e hu
    cases hx
    exact ⟨[], [], h, Src.ofNil c.w hu 0, ⟨fun x hx => by simp at hx, by simp, fun j x i d hj => by simp at hj⟩⟩
  · rename_i e sz b a n hu
    split at h
    case h_2 => cases h
    rename_i e' sz' xs hb
    split at h
    case isFalse => cases h
    rename_i hsz
    obtain ⟨rfl, rfl⟩ := hsz
    split at h
    case isFalse => cases h
    rename_i hlen
    obtain ⟨g, hg, hbb⟩ := hL.live b _ hb (by simp)
    cases hx with
    | row ho hk hrow =>
      obtain ⟨A, cap, e2, C, rfl, hC, hcap, hCs, hml, hA⟩ := hrow g hg
      cases hbb with
      | row C2 hC2 hl2 ho2 hz hR =>
        rw [hC] at hC2
        injection hC2 with hC2
        injection hC2 with hC2 _
        subst hC2
        have hxl : ((xs.drop a).take n).length = n := by simp; omega
        have hfit : (a + n) * sz ≤ C.size := Nat.le_trans (Nat.mul_le_mul_right sz hlen) hl2
        have hnl : ((C.toList.drop (a * sz)).take (n * sz)).length = n * sz := by
          rw [Nat.add_mul] at hfit
          simp
          omega
        have hlaid : Laid c sz ((xs.drop a).take n) ((C.toList.drop (a * sz)).take (n * sz)) := by
          refine ⟨fun x hx => hz x (List.mem_of_mem_drop (List.mem_of_mem_take hx)), by rw [hxl]; exact hnl, fun j x i d hj hi => ?_⟩
          rw [List.getElem?_take] at hj
          split at hj
          case isFalse => cases hj
          rename_i hjn
          rw [List.getElem?_drop] at hj
          obtain ⟨y, hy, hk'⟩ := hR _ x i d hj hi
          have hil : i < sz := by have := (List.getElem?_eq_some_iff.1 hi).1; rw [hz x (List.mem_of_getElem? hj)] at this; exact this
          refine ⟨y, ?_, hk'⟩
          have hlt : j * sz + i < n * sz := by have := Nat.mul_le_mul_right sz hjn; rw [Nat.succ_mul] at this; omega
          rw [List.getElem?_take, if_pos hlt, List.getElem?_drop, show a * sz + (j * sz + i) = (a + j) * sz + i by rw [Nat.add_mul]; omega, Array.getElem?_toList]
          exact hy
        refine ⟨_, _, h, ?_, hlaid⟩
        rw [hxl]
        rcases Nat.eq_zero_or_pos n with rfl | hn
        · cases A with
          | none => simpa using Src.ofNil c.w hu cap
          | some ad => simpa using Src.ofSlice c.w hu ad 0 cap [] (by simp) (by simp) (by simp)
        · rw [hA (.inr hn)]
          refine Src.ofSlice c.w hu _ n cap _ hnl (fun j v hj => ?_) (hlaid.one h0)
          rw [List.getElem?_take] at hj
          split at hj
          case isFalse => cases hj
          rw [List.getElem?_drop, Array.getElem?_toList] at hj
          rw [add_plain']
          simp only [World.cell?, hC]
          rw [hj]
          rfl
  · rename_i b hu
    split at h
    case isFalse => cases h
    rename_i hs1
    subst hs1
    rw [hx.str]
    refine ⟨_, _, h, ?_, bytesD_laid c b⟩
    have : (bytesD b).length = b.size := by simp [bytesD]
    rw [this]
    exact Src.ofString c.w hu b
  · cases h

/-! ### a world of the same memory -/
def Ctx.with (c : Ctx) (w : World) : Ctx := { c with w := w }
structure Alike (w w' : World) : Prop where
  heap : w'.heap = w.heap
  os : w'.os = w.os
  tape : w'.tape = w.tape
  output : w'.output = w.output
theorem with_le {c : Ctx} {w : World} (h : Alike c.w w) : c.Le (c.with w) where
  n := Nat.le_refl _
  X := rfl
  m := fun _ _ => .inl rfl
  data := fun g _ => by show w.heap[g]? = _; rw [h.heap]
  dis := fun i g hi hg => hg.2.2 i hi
  shape := fun k g C e _ _ _ hC => ⟨C, by show w.heap[g]? = _; rw [h.heap]; exact hC, rfl⟩
theorem with_RL {c : Ctx} {w : World} (h : Alike c.w w) {L : List B} (hL : RL c L) : RL (c.with w) L where
  n := hL.n
  inj := hL.inj
  lt := fun i g hi => by show g < w.heap.size ∧ _; rw [h.heap]; exact hL.lt i g hi
  live := fun i b hi hb => by
    obtain ⟨g, hg, hr⟩ := hL.live i b hi hb
    exact ⟨g, hg, hr.mono (with_le h) (by show w.heap[g]? = _; rw [h.heap])⟩
  dead := hL.dead
  nx := hL.nx
theorem with_since {c0 c : Ctx} {w : World} (h : Alike c.w w) (hS : Since c0 c) : Since c0 (c.with w) where
  os := h.os.trans hS.os
  tape := h.tape.trans hS.tape
  output := h.output.trans hS.output
  size := by show _ ≤ w.heap.size; rw [h.heap]; exact hS.size
  stay := fun g hg hm => by show w.heap[g]? = _; rw [h.heap]; exact hS.stay g hg hm
  X := hS.X
  own := hS.own
  lt := hS.lt
theorem drew_alike (w : World) : Alike w w.drew := ⟨rfl, rfl, rfl, rfl⟩

/-- A new row. -/
theorem row_new {c0 c : Ctx} {L : List B} (hL : RL c L) (hS : Since c0 c) {e : TypeId} {sz cap : Nat} {xs : List (List D)} {C : Array Value} (hl : xs.length ≤ cap) (hcap : cap * sz = C.size) (hm : cap ≤ maxLen) (ho : ∀ u ∈ C.toList, u.oneCell' = true)
    (hz : ∀ x ∈ xs, x.length = sz) (hR : ∀ j x i d, xs[j]? = some x → x[i]? = some d → ∃ u, C[j * sz + i]? = some u ∧ K c.w c.ok d u) :
    Next' c0 c (.row sz L.length 0 xs.length) (L ++ [.row e sz xs]) (.slice (some ⟨c.w.heap.size, 0, none⟩) xs.length cap) (c.push (.cells C e)) := by
  have hle := push_le hL (.cells C e)
  refine ⟨hle, push_RL hL (fun g hg => Nat.lt_of_lt_of_le (hS.lt g hg) hS.size) _ (.row C (heap_alloc_at _ _) (by rw [← hcap]; exact Nat.mul_le_mul_right sz hl) ho hz (fun j x i d hj hi => ?_)) (by simp), push_since hS _, ?_⟩
  · obtain ⟨u, hu, hk⟩ := hR j x i d hj hi
    exact ⟨u, hu, hle.kd hk⟩
  · refine .row rfl (by simp only [Ctx.push]; rw [hL.n]; omega) (fun g hg => ?_)
    simp only [Ctx.push] at hg
    rw [if_pos hL.n.symm] at hg
    injection hg with hg
    subst hg
    exact ⟨_, cap, e, C, rfl, heap_alloc_at _ _, hl, by rw [Nat.zero_add]; exact hcap, by omega, fun _ => by simp⟩

theorem growOK_some {P : Program} {e : TypeId} {s b : Nat} (h : growOK P e = some (s, b)) : ∃ i z, P.info? e = some i ∧ i.zero = some z ∧ i.size = s ∧ i.bytes = b ∧ 0 < b ∧ 0 < s ∧ z.cells.size = s ∧ (∀ u ∈ z.cells.toList, u.oneCell' = true) ∧ (cellsV (ofConst z)).all atom = true := by
  unfold growOK at h
  split at h
  · rename_i i hi
    split at h
    · rename_i z hz
      split at h
      · rename_i hc
        injection h with h
        injection h with h1 h2
        subst h1; subst h2
        have hr := ofConst_sound { X := fun _ => False, m := fun _ => none, n := 0, w := default } z
        exact ⟨i, z, hi, hz, rfl, rfl, hc.2.2.1, hc.2.2.2, by rw [← (cells_sound hr hc.2.1).1]; exact hc.1, cells_all hr hc.2.1, hc.2.1⟩
      · cases h
    · cases h
  · cases h

theorem zeroCells_one {z : Array Value} (hz : ∀ u ∈ z.toList, u.oneCell' = true) (n : Nat) : ∀ u ∈ (Builtin.zeroCells z n).toList, u.oneCell' = true := by
  intro u hu
  simp only [Builtin.zeroCells, Array.toList_map, List.mem_map, Array.mem_toList_iff, Array.mem_range] at hu
  obtain ⟨q, hq, rfl⟩ := hu
  have h0 : 0 < z.size := by
    rcases Nat.eq_zero_or_pos z.size with h | h
    · rw [h] at hq; simp at hq
    · exact h
  have hlt := Nat.mod_lt q h0
  rw [getElem!_pos z _ hlt]
  exact hz _ (by simp)
theorem zeroCells_size (z : Array Value) (n : Nat) : (Builtin.zeroCells z n).size = n * z.size := by simp [Builtin.zeroCells]

/-- A live block under another number. -/
def Ctx.move (c : Ctx) (b g : Nat) : Ctx := { c with m := fun i => if i = c.n then some g else if i = b then none else c.m i, n := c.n + 1 }
theorem move_le {c : Ctx} {L : List B} (hL : RL c L) {b g : Nat} (hg : c.m b = some g) : c.Le (c.move b g) where
  n := Nat.le_succ _
  X := rfl
  m := fun k hk => by
    simp only [Ctx.move]
    rw [if_neg (by omega)]
    split
    · exact .inr rfl
    · exact .inl rfl
  data := fun _ _ => rfl
  dis := fun i g' hi hok => by
    simp only [Ctx.move] at hi
    split at hi
    · injection hi with hi; subst hi; exact hok.2.2 b hg
    · split at hi
      · cases hi
      · exact hok.2.2 i hi
  shape := fun k g' C e _ _ _ hC => ⟨C, hC, rfl⟩
theorem move_RL {c : Ctx} {L : List B} (hL : RL c L) {b g : Nat} (hg : c.m b = some g) {x : B} (hx : L[b]? = some x) (hd : x ≠ .dead) : RL (c.move b g) (L.set b .dead ++ [x]) where
  n := by simp [Ctx.move, hL.n]
  inj := fun i j g' hi hj => by
    have hb := (hL.lt _ _ hg).2
    simp only [Ctx.move] at hi hj
    split at hi
    · injection hi with hi
      subst hi
      split at hj
      · omega
      · split at hj
        · cases hj
        · rename_i h1 h2; exact absurd (hL.inj _ _ _ hj hg) h2
    · split at hi
      · cases hi
      · split at hj
        · injection hj with hj
          subst hj
          rename_i h1 h2 _; exact absurd (hL.inj _ _ _ hi hg) h2
        · split at hj
          · cases hj
          · exact hL.inj i j g' hi hj
  lt := fun i g' hi => by
    simp only [Ctx.move] at hi ⊢
    split at hi
    · injection hi with hi; subst hi; exact ⟨(hL.lt _ _ hg).1, by omega⟩
    · split at hi
      · cases hi
      · have := hL.lt _ _ hi; exact ⟨this.1, by omega⟩
  live := fun i y hi hy => by
    have hn := hL.n
    by_cases h : i < L.length
    · rw [List.getElem?_append_left (by simpa using h), List.getElem?_set] at hi
      split at hi
      · split at hi
        · injection hi with hi; exact absurd hi.symm hy
        · cases hi
      · rename_i hne
        obtain ⟨g', hg', hr⟩ := hL.live i y hi hy
        exact ⟨g', by simp only [Ctx.move]; rw [if_neg (by omega), if_neg (fun e => hne e.symm)]; exact hg', hr.mono (move_le hL hg) rfl⟩
    · rw [List.getElem?_append_right (by simp; omega)] at hi
      have hi0 : i = L.length := by have := (List.getElem?_eq_some_iff.1 hi).1; simp at this; omega
      subst hi0
      simp at hi
      subst hi
      obtain ⟨g', hg', hr⟩ := hL.live b x hx hd
      rw [hg] at hg'
      injection hg' with hg'
      subst hg'
      exact ⟨g, by simp only [Ctx.move]; rw [if_pos hn.symm], hr.mono (move_le hL hg) rfl⟩
  dead := fun i hi => by
    have hn := hL.n
    by_cases h : i < L.length
    · rw [List.getElem?_append_left (by simpa using h), List.getElem?_set] at hi
      simp only [Ctx.move]
      rw [if_neg (by omega)]
      split
      · rfl
      · rename_i hne
        rw [if_neg (fun e => hne e.symm)] at hi
        exact hL.dead i hi
    · rw [List.getElem?_append_right (by simp; omega)] at hi
      have hi0 : i = L.length := by have := (List.getElem?_eq_some_iff.1 hi).1; simp at this; omega
      subst hi0
      simp at hi
      exact absurd hi hd
  nx := fun i g' hi hx => by
    simp only [Ctx.move] at hi hx
    split at hi
    · injection hi with hi; subst hi; exact hL.nx b g hg hx
    · split at hi
      · cases hi
      · exact hL.nx i g' hi hx
theorem move_since {c0 c : Ctx} (hS : Since c0 c) {b g : Nat} (hg : c.m b = some g) : Since c0 (c.move b g) where
  os := hS.os
  tape := hS.tape
  output := hS.output
  size := hS.size
  stay := hS.stay
  X := hS.X
  own := fun i g' hi => by
    simp only [Ctx.move] at hi
    split at hi
    · injection hi with hi; subst hi; exact hS.own b g hg
    · split at hi
      · cases hi
      · exact hS.own i g' hi
  lt := hS.lt

theorem Laid.append {c : Ctx} {s : Nat} {xs ys : List (List D)} {olds news : List Value} (h : Laid c s xs olds) (k : Laid c s ys news) : Laid c s (xs ++ ys) (olds ++ news) where
  sz := fun x hx => by
    rcases List.mem_append.1 hx with hx | hx
    · exact h.sz x hx
    · exact k.sz x hx
  n := by simp [h.n, k.n, Nat.add_mul]
  at_ := fun j x i d hj hi => by
    by_cases hlt : j < xs.length
    · rw [List.getElem?_append_left hlt] at hj
      obtain ⟨u, hu, hk⟩ := h.at_ j x i d hj hi
      exact ⟨u, by rw [List.getElem?_append_left (List.getElem?_eq_some_iff.1 hu).1]; exact hu, hk⟩
    · rw [List.getElem?_append_right (by omega)] at hj
      obtain ⟨u, hu, hk⟩ := k.at_ _ x i d hj hi
      refine ⟨u, ?_, hk⟩
      have h1 : xs.length * s ≤ j * s := Nat.mul_le_mul_right s (by omega)
      rw [List.getElem?_append_right (by rw [h.n]; omega), h.n, show j * s + i - xs.length * s = (j - xs.length) * s + i by rw [Nat.sub_mul]; omega]
      exact hu

theorem Laid.mono {c c' : Ctx} (h : c.Le c') {s : Nat} {xs : List (List D)} {olds : List Value} (k : Laid c s xs olds) : Laid c' s xs olds :=
  ⟨k.sz, k.n, fun j x i d hj hi => by
    obtain ⟨u, hu, hk⟩ := k.at_ j x i d hj hi
    exact ⟨u, hu, h.kd hk⟩⟩

/-- A row grows into a new block. -/
theorem grown_new {c0 c : Ctx} {L : List B} (hL : RL c L) (hS : Since c0 c) {e : TypeId} {sz cap : Nat} {zs : List (List D)} {cells : List Value} (hla : Laid c sz zs cells) (h0 : 0 < sz) {z : Array Value} (hzs : z.size = sz) (hz1 : ∀ u ∈ z.toList, u.oneCell' = true)
    (hn : zs.length ≤ cap) (hm : cap ≤ maxLen) : Next' c0 c (.row sz L.length 0 zs.length) (L ++ [.row e sz zs]) (.slice (some ⟨c.w.heap.size, 0, none⟩) zs.length cap) ((c.with c.w.drew).push (.cells (cells.toArray ++ Builtin.zeroCells z (cap - zs.length)) e)) := by
  have ha := drew_alike c.w
  have := row_new (c0 := c0) (with_RL ha hL) (with_since ha hS) (e := e) (sz := sz) (cap := cap) (xs := zs) (C := cells.toArray ++ Builtin.zeroCells z (cap - zs.length)) hn (by
      rw [Array.size_append, zeroCells_size, hzs, List.size_toArray, hla.n, ← Nat.add_mul]; congr 1; omega) hm (by
      intro u hu
      rw [Array.toList_append] at hu
      rcases List.mem_append.1 hu with hu | hu
      · exact hla.one h0 u (by simpa using hu)
      · exact zeroCells_one hz1 _ u hu) hla.sz (by
      intro j x i d hj hi
      obtain ⟨u, hu, hk⟩ := hla.at_ j x i d hj hi
      refine ⟨u, ?_, (with_le ha).kd hk⟩
      have hlt := (List.getElem?_eq_some_iff.1 hu).1
      rw [Array.getElem?_append_left (by simpa using hlt)]
      simpa using hu)
  exact ⟨(with_le ha).trans this.le, this.L, this.since, this.v⟩

end Go.Tw
