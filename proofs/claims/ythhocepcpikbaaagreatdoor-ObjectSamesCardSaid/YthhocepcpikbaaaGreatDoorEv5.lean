/- The abstract run is sound: code, functions. -/
import Derived.Test.YthhocepcpikbaaaGreatDoorEv5c
set_option linter.unusedVariables false
set_option linter.unusedSimpArgs false
namespace Go.Tw
/-! ### a region's head -/
def Ctx.again (c : Ctx) (order : List Nat) : Ctx := { c with m := fun i => (order[i]?).bind c.m, n := order.length }

theorem again_TR (c : Ctx) (order : List Nat) : TR (idxOf order) c (c.again order) where
  w := rfl
  ok := fun g hg => ⟨hg.1, hg.2.1, fun i hi => by
    obtain ⟨k, _, hk⟩ := Option.bind_eq_some_iff.1 hi
    exact hg.2.2 k hk⟩
  f := fun k k' hk => by
    have h1 := idxOf_some hk
    refine ⟨(List.getElem?_eq_some_iff.1 h1).1, fun g hg => ?_⟩
    simp only [Ctx.again, h1, Option.bind_some] at hg
    exact hg

theorem again_RL {c : Ctx} {L bs : List B} (hL : RL c L) {order : List Nat} (hd : noDup order = true) (h : (pick L order).bind (renBs (idxOf order)) = some bs) : RL (c.again order) bs := by
  obtain ⟨ps, hps, hbs⟩ := Option.bind_eq_some_iff.1 h
  obtain ⟨p1, p2⟩ := pick_at hps
  obtain ⟨b1, b2⟩ := renBs_at hbs
  refine ⟨?_, fun i j g hi hj => ?_, fun i g hi => ?_, fun i b hi hb => ?_, fun i hi => ?_, fun i g hi hX => ?_⟩
  · show order.length = bs.length; omega
  · obtain ⟨k, hk, hk2⟩ := Option.bind_eq_some_iff.1 hi
    obtain ⟨k', hk', hk2'⟩ := Option.bind_eq_some_iff.1 hj
    have := hL.inj k k' g hk2 hk2'
    subst this
    exact noDup_inj hd hk hk'
  · obtain ⟨k, hk, hk2⟩ := Option.bind_eq_some_iff.1 hi
    exact ⟨(hL.lt k g hk2).1, (List.getElem?_eq_some_iff.1 hk).1⟩
  · obtain ⟨b0, hb0, hr⟩ := b2 i b hi
    obtain ⟨k, hk, hLk⟩ := p2 i b0 hb0
    have hne : b0 ≠ .dead := fun e => hb ((renB_dead hr).2 e)
    obtain ⟨g, hg, hrb⟩ := hL.live k b0 hLk hne
    refine ⟨g, ?_, renB_sound (again_TR c order) hrb hr⟩
    simp only [Ctx.again, hk, Option.bind_some]
    exact hg
  · obtain ⟨b0, hb0, hr⟩ := b2 i _ hi
    obtain ⟨k, hk, hLk⟩ := p2 i b0 hb0
    have := (renB_dead hr).1 rfl
    subst this
    simp only [Ctx.again, hk, Option.bind_some]
    exact hL.dead k hLk
  · obtain ⟨k, hk, hk2⟩ := Option.bind_eq_some_iff.1 hi
    exact hL.nx k g hk2 hX

theorem atHead_sound {E : Env} {id : Option Nat} {fr : List V} {L : List B} {k : List V → List B → Res} {r : End × List B} (h : atHead E id fr L k = some r) {c0 c : Ctx} {a : Act} (hn : E.n0 = c0.n) (hG : Good c0 c fr L a) : ∃ fr' L' c', k fr' L' = some r ∧ c'.w = c.w ∧ Good c0 c' fr' L' a := by
  unfold atHead at h
  split at h
  · exact ⟨fr, L, c, h, rfl, hG⟩
  · rename_i keep hkeep
    simp only at h
    generalize reach L 4 (addNew ((fr.mapIdx fun i v => if keep.contains i then v else .undef).flatMap refs1) (List.range E.n0)) = order at h
    split at h
    case isTrue => cases h
    rename_i hc
    simp only [Bool.not_eq_true, Bool.not_eq_false', Bool.and_eq_true, beq_iff_eq] at hc
    obtain ⟨hd, hpre⟩ := hc
    split at h
    case h_2 => cases h
    rename_i fr1 L1 hfr hL1
    obtain ⟨r1, r2⟩ := renArgs_sound (again_TR c order) hfr
    have hlen : E.n0 ≤ order.length := by
      have := congrArg List.length hpre
      rw [List.length_take, List.length_range] at this
      omega
    have hat : ∀ k, k < c0.n → order[k]? = some k := by
      intro k hk
      rw [← hn] at hk
      have : (order.take E.n0)[k]? = (List.range E.n0)[k]? := by rw [hpre]
      rw [List.getElem?_take, if_pos hk, List.getElem?_range hk] at this
      exact this
    refine ⟨fr1, L1, c.again order, h, rfl, again_RL hG.L hd hL1, ⟨?_, fun i v u hv hu => ?_⟩, ?_, ?_, hG.d⟩
    · rw [r1, List.length_mapIdx]; exact hG.F.n
    · have hi : i < (fr.mapIdx fun i v => if keep.contains i then v else .undef).length := by rw [← r1]; exact (List.getElem?_eq_some_iff.1 hv).1
      have hif : i < fr.length := by simpa using hi
      refine r2 i v u _ hv (List.getElem?_eq_getElem hi) ?_
      rw [List.getElem_mapIdx]
      split
      · exact hG.F.at_ i _ u (List.getElem?_eq_getElem hif) hu
      · exact .undef u
    · refine ⟨hG.S.os, hG.S.tape, hG.S.output, hG.S.size, hG.S.stay, hG.S.X, fun i g hi => ?_, hG.S.lt⟩
      obtain ⟨k, _, hk⟩ := Option.bind_eq_some_iff.1 hi
      exact hG.S.own k g hk
    · have hm : ∀ k, k < c0.n → (c.again order).m k = c.m k := fun k hk => by simp only [Ctx.again, hat k hk, Option.bind_some]
      refine ⟨by show c0.n ≤ order.length; omega, hG.le.X, fun k hk => ?_, hG.le.data, fun i g hi => ?_, fun k g C e hk h1 h2 hC => ?_⟩
      · rw [hm k hk]; exact hG.le.m k hk
      · obtain ⟨k, _, hk⟩ := Option.bind_eq_some_iff.1 hi
        exact hG.le.dis k g hk
      · rw [hm k hk] at h2
        exact hG.le.shape k g C e hk h1 h2 hC

/-- What is asked of code that is reckoned. -/
def Sound (P : Program) (c0 : Ctx) (cd : Code) (f : List V → List B → Kont → Res) : Prop := ∀ (fr : List V) (L : List B) (k : Kont) (r : End × List B) (Q : Exit → Act → World → Prop) (c : Ctx) (a : Act),
    f fr L k = some r → Good c0 c fr L a → (∀ x fr L c a, k x fr L = some r → Good c0 c fr L a → QX Q c a x) → cd.wp P Q a c.w

theorem rounds_sound {E : Env} {id : Option Nat} {c0 : Ctx} (hn : E.n0 = c0.n) {cd : Code} {f : List V → List B → Kont → Res} (hf : Sound E.P c0 cd f) : ∀ (n : Nat) (fr : List V) (L : List B) (k : Kont) (r : End × List B) (Q : Exit → Act → World → Prop) (c : Ctx) (a : Act),
    loopN E id f n fr L k = some r → Good c0 c fr L a → (∀ x fr L c a, k x fr L = some r → Good c0 c fr L a → QX Q c a x) → Code.rounds E.P cd Q n a c.w
  | 0, _, _, _, _, _, _, _, h, _, _ => by simp [loopN] at h
  | n + 1, fr, L, k, r, Q, c, a, h, hG, hk => by
    rw [rounds_succ]
    unfold loopN at h
    refine hf fr L _ r _ c a h hG (fun z fr1 L1 c1 a1 h1 hG1 => ?_)
    cases z with
    | normal =>
      simp only [seqK] at h1
      obtain ⟨fr2, L2, c2, h2, hw, hG2⟩ := atHead_sound h1 hn hG1
      have := rounds_sound hn hf n fr2 L2 k r Q c2 a1 h2 hG2 hk
      rw [hw] at this
      exact this
    | exit id => exact hk _ _ _ _ _ h1 hG1
    | ret => exact hk _ _ _ _ _ h1 hG1
    | panic v => exact fun u hu => hk _ _ _ _ _ h1 hG1 u hu

theorem ev_sound {E : Env} (hE : EnvOK E) {c0 : Ctx} (hn : E.n0 = c0.n) (n : Nat) : ∀ (cd : Code), Sound E.P c0 cd (ev E n cd)
  | .skip, fr, L, k, r, Q, c, a, h, hG, hk => wp_skip (hk _ _ _ _ _ h hG)
  | .ret, fr, L, k, r, Q, c, a, h, hG, hk => wp_ret (hk _ _ _ _ _ h hG)
  | .exit id, fr, L, k, r, Q, c, a, h, hG, hk => wp_exit (hk _ _ _ _ _ h hG)
  | .region id ops false, fr, L, k, r, Q, c, a, h, hG, hk => by
      unfold ev at h
      exact wp_region_list (evOps_sound hE hk _ _ _ _ _ h hG)
  | .region id ops true, fr, L, k, r, Q, c, a, h, hG, hk => by
      unfold ev at h
      cases hok : drawOK ops (ancs ops.toList []) with
      | false => rw [hok] at h; cases h
      | true =>
        rw [hok] at h
        exact region_sound hE hok (fun fr L c a h1 hG1 => hk .normal fr L c a h1 hG1) h hG
  | .seq x y, fr, L, k, r, Q, c, a, h, hG, hk => by
      unfold ev at h
      refine wp_seq (ev_sound hE hn n x fr L _ r _ c a h hG (fun z fr1 L1 c1 a1 h1 hG1 => ?_))
      cases z with
      | normal =>
        simp only [seqK] at h1
        obtain ⟨fr2, L2, c2, h2, hw, hG2⟩ := atHead_sound h1 hn hG1
        have := ev_sound hE hn n y _ _ k r Q c2 a1 h2 hG2 hk
        rw [hw] at this
        exact this
      | exit id => exact hk _ _ _ _ _ h1 hG1
      | ret => exact hk _ _ _ _ _ h1 hG1
      | panic v => exact fun u hu => hk _ _ _ _ _ h1 hG1 u hu
  | .cond q x y, fr, L, k, r, Q, c, a, h, hG, hk => by
      unfold ev at h
      split at h
      case h_2 => cases h
      rename_i b hb
      have hq := evO_sound hG.F q
      rw [hb] at hq
      have hq := hq.bool
      have hF : RF c (setAt fr (dstOf q) (.d (.b b))) a.tmps := by
        cases q with
        | tmp t =>
          by_cases ht : t < a.tmps.size
          · refine hG.F.known ?_
            simp only [Act.eval, Array.getD_eq_getD_getElem?, Array.getElem?_eq_getElem ht, Option.getD_some] at hq
            rw [Array.getElem?_eq_getElem ht, hq]
          · simp only [Act.eval, Array.getD_eq_getD_getElem?, Array.getElem?_eq_none (Nat.le_of_not_lt ht), Option.getD_none, undef] at hq
            cases hq
        | _ => exact hG.F
      cases b with
      | true => exact wp_cond_true hq (ev_sound hE hn n x _ L k r Q c a h ⟨hG.L, hF, hG.S, hG.le, hG.d⟩ hk)
      | false => exact wp_cond_false hq (ev_sound hE hn n y _ L k r Q c a h ⟨hG.L, hF, hG.S, hG.le, hG.d⟩ hk)
  | .block id x, fr, L, k, r, Q, c, a, h, hG, hk => by
      unfold ev at h
      refine wp_block (ev_sound hE hn n x fr L _ r _ c a h hG (fun z fr1 L1 c1 a1 h1 hG1 => ?_))
      cases z with
      | normal => exact hk _ _ _ _ _ h1 hG1
      | exit id' =>
        simp only [blockK] at h1
        show (if id' = id then Q .normal a1 c1.w else Q (.exit id') a1 c1.w)
        split at h1
        · rename_i e; rw [if_pos e]; exact hk _ _ _ _ _ h1 hG1
        · rename_i e; rw [if_neg e]; exact hk _ _ _ _ _ h1 hG1
      | ret => exact hk _ _ _ _ _ h1 hG1
      | panic v => exact fun u hu => hk _ _ _ _ _ h1 hG1 u hu
  | .loop x, fr, L, k, r, Q, c, a, h, hG, hk => by
      unfold ev at h
      obtain ⟨fr2, L2, c2, h2, hw, hG2⟩ := atHead_sound h hn hG
      have := wp_loop_rounds n (rounds_sound (id := first x) hn (ev_sound hE hn n x) n fr2 L2 k r Q c2 a h2 hG2 hk)
      rw [hw] at this
      exact this
  | .rangeFunc .., _, _, _, _, _, _, _, h, _, _ => by simp [ev] at h
  | .scope _, _, _, _, _, _, _, _, h, _, _ => by simp [ev] at h
  | .label _, _, _, _, _, _, _, _, h, _, _ => by simp [ev] at h
  | .goto _, _, _, _, _, _, _, _, h, _, _ => by simp [ev] at h
  | .refuse _, _, _, _, _, _, _, _, h, _, _ => by simp [ev] at h

/-! ### a function -/
theorem told_sound {c : Ctx} {L : List B} (hL : RL c L) {v v' : V} {u : Value} (h : told L v = some v') (hr : R c v u) : R (c.drop (lent2 v)) v' u := by
  unfold told at h
  split at h
  · rename_i vs
    split at h
    case h_2 => cases h
    rename_i vs' hvs
    injection h with h
    subst h
    obtain ⟨h1, h2⟩ := dataArgs_sound hL hvs (l := vs.flatMap lent1) (fun _ k hk => by simpa using hk)
    cases hr with
    | tup hl hR =>
      refine .tup (by omega) (fun i x u hx hu => ?_)
      have hi : i < vs.length := by have := (List.getElem?_eq_some_iff.1 hx).1; omega
      exact h2 i x u _ hx (List.getElem?_eq_getElem hi) (hR i _ u (List.getElem?_eq_getElem hi) hu)
  · rename_i hv
    refine data1_sound hL h (fun _ k hk => ?_) hr
    have : lent2 v = lent1 v := by cases v <;> first | rfl | exact absurd rfl (hv _)
    rw [this]
    simpa using hk

theorem range_noDup (n : Nat) : noDup (List.range n) = true := by
  have key : ∀ (l : List Nat), l.Nodup → noDup l = true := by
    intro l h
    induction l with
    | nil => rfl
    | cons a l ih =>
      have h := List.nodup_cons.1 h
      simp only [noDup, Bool.and_eq_true, Bool.not_eq_true']
      exact ⟨by simpa using h.1, ih h.2⟩
  exact key _ List.nodup_range

theorem tell_sound {c0 c : Ctx} {L L' : List B} (hL : RL c L) (hS : Since c0 c) (hle : c0.Le c) {v v' : V} {u : Value} (h : tell L c0.n v = some (v', L')) (hr : R c v u) :
    ∃ c', c'.w = c.w ∧ R c' v' u ∧ RL c' L' ∧ Since c0 c' ∧ c0.Le c' := by
  unfold tell at h
  split at h
  case h_2 => cases h
  rename_i v1 hv1
  split at h
  case h_2 => cases h
  rename_i v2 bs hv2 hbs
  injection h with h
  injection h with h1 h2
  subst h1; subst h2
  have hdl := drop_le c (lent2 v)
  have hS1 := drop_since hS (lent2 v)
  refine ⟨(c.drop (lent2 v)).again (List.range c0.n), rfl, ren2_sound (again_TR _ _) (told_sound hL hv1 hr) hv2, again_RL (drop_RL hL _) (range_noDup _) hbs, ?_, ?_⟩
  · refine ⟨hS1.os, hS1.tape, hS1.output, hS1.size, hS1.stay, hS1.X, fun i g hi => ?_, hS1.lt⟩
    obtain ⟨k, _, hk⟩ := Option.bind_eq_some_iff.1 hi
    exact hS1.own k g hk
  · have hle1 := hle.trans hdl
    have hm : ∀ k, k < c0.n → ((c.drop (lent2 v)).again (List.range c0.n)).m k = (c.drop (lent2 v)).m k := fun k hk => by simp only [Ctx.again, List.getElem?_range hk, Option.bind_some]
    refine ⟨by simp [Ctx.again], hle1.X, fun k hk => ?_, hle1.data, fun i g hi => ?_, fun k g C e hk h1 h2 hC => ?_⟩
    · rw [hm k hk]; exact hle1.m k hk
    · obtain ⟨k, _, hk⟩ := Option.bind_eq_some_iff.1 hi
      exact hle1.dis k g hk
    · rw [hm k hk] at h2
      exact hle1.shape k g C e hk h1 h2 hC

theorem resV_sound {P : Program} {c : Ctx} {fr : List V} {L : List B} {tm : Array Value} (hL : RL c L) (hF : RF c fr tm) {x : ResultVar} {v : V} (h : resV P fr L x = some v) :
    ∃ u, ((match x with | .tmp t => pure (tm.getD t undef) | .cell a t => do loadVar t (← asAddr (tm.getD a undef))) : Sem Value).run P c.w = .ok u c.w ∧ R c v u := by
  unfold resV at h
  split at h
  · rename_i t
    have hlt : t < tm.size := by rw [← hF.n]; exact (List.getElem?_eq_some_iff.1 h).1
    refine ⟨tm[t], ?_, hF.at_ t v _ h (Array.getElem?_eq_getElem hlt)⟩
    simp [Array.getD_eq_getD_getElem?, Array.getElem?_eq_getElem hlt]
  · rename_i a t
    split at h
    case h_2 => cases h
    rename_i p hp
    have hlt : a < tm.size := by rw [← hF.n]; exact (List.getElem?_eq_some_iff.1 hp).1
    obtain ⟨u, hrun, hr⟩ := loadV_sound hL (hF.at_ a p _ hp (Array.getElem?_eq_getElem hlt)) h
    refine ⟨u, ?_, hr⟩
    simp only [Array.getD_eq_getD_getElem?, Array.getElem?_eq_getElem hlt, Option.getD_some]
    generalize tm[a] = y at hrun
    rw [← hrun]
    cases y <;> try (simp [Instr.loadAt, Instr.sureAddr, stuck, Sem.run] at hrun; done)
    rename_i ad
    cases ad with
    | none => simp [Instr.loadAt, Instr.sureAddr, stuck, Sem.run] at hrun
    | some ad => simp [Instr.loadAt, Instr.sureAddr, asAddr]

theorem resVs_sound {P : Program} {c : Ctx} {fr : List V} {L : List B} {tm : Array Value} (hL : RL c L) (hF : RF c fr tm) : ∀ {xs : List ResultVar} {vs : List V}, resVs P fr L xs = some vs →
    ∃ us : List Value, (xs.mapM (fun x => (match x with | .tmp t => pure (tm.getD t undef) | .cell a t => do loadVar t (← asAddr (tm.getD a undef)) : Sem Value))).run P c.w = .ok us c.w ∧ vs.length = us.length ∧ ∀ (i : Nat) v u, vs[i]? = some v → us[i]? = some u → R c v u
  | [], vs, h => by injection h with h; subst h; exact ⟨[], rfl, rfl, fun i v u hv => by simp at hv⟩
  | x :: xs, vs, h => by
    unfold resVs at h
    split at h
    case h_2 => cases h
    rename_i v hv
    split at h
    case h_2 => cases h
    rename_i vs' hvs
    injection h with h
    subst h
    obtain ⟨u, hrun, hr⟩ := resV_sound hL hF hv
    obtain ⟨us, hruns, hl, hrs⟩ := resVs_sound hL hF hvs
    refine ⟨u :: us, ?_, by simp [hl], fun i y z hy hz => ?_⟩
    · rw [List.mapM_cons, Sem.run_bind, hrun]
      simp only [Result.andThen_ok, Sem.run_bind]
      rw [hruns]
      rfl
    · cases i with
      | zero => simp at hy hz; subst hy; subst hz; exact hr
      | succ i => exact hrs i y z (by simpa using hy) (by simpa using hz)

theorem resOf_sound {P : Program} {c : Ctx} {fr : List V} {L : List B} {a : Act} (hL : RL c L) (hF : RF c fr a.tmps) {fn : Func} {v : V} (h : resOf P fr L fn.results = some v) :
    ∃ u, (results fn a.tmps).run P c.w = .ok u c.w ∧ R c v u := by
  unfold resOf at h
  have key : ∀ vs, resVs P fr L fn.results.toList = some vs → ∃ us : List Value, (results fn a.tmps).run P c.w = .ok (if h : us.toArray.size = 1 then us.toArray[0] else .tuple us.toArray) c.w ∧ vs.length = us.length ∧ ∀ (i : Nat) v u, vs[i]? = some v → us[i]? = some u → R c v u := by
    intro vs hvs
    obtain ⟨us, hrun, hl, hr⟩ := resVs_sound hL hF hvs
    refine ⟨us, ?_, hl, hr⟩
    unfold results
    rw [Sem.run_bind, Array.mapM_eq_mapM_toList, Sem.run_map]
    erw [hrun]
    rfl
  split at h
  · rename_i v0 hvs
    injection h with h
    subst h
    obtain ⟨us, hrun, hl, hr⟩ := key _ hvs
    obtain ⟨u, rfl⟩ : ∃ u, us = [u] := by
      match us, hl with
      | [u], _ => exact ⟨u, rfl⟩
    exact ⟨u, hrun, hr 0 _ _ rfl rfl⟩
  · rename_i vs hne hvs
    injection h with h
    subst h
    obtain ⟨us, hrun, hl, hr⟩ := key _ hvs
    have h1 : ¬ us.toArray.size = 1 := by
      intro e
      match vs, hl, hne, hvs with
      | [x], _, hne, hvs => exact hne x rfl
      | [], hl, _, _ => simp at hl e; omega
      | _ :: _ :: _, hl, _, _ => simp at hl e; omega
    rw [dif_neg h1] at hrun
    exact ⟨_, hrun, .tup (by simpa using hl) (fun i x u hx hu => hr i x u hx (by simpa using hu))⟩
  · cases h

theorem evFn_sound {E : Env} (hE : EnvOK E) {f : FuncId} {fn : Func} (hf : E.P.funcs[f]? = some fn) (henter : ∀ us w, (callFunc f us).run E.P w = .ok (.enter f us) w) (n : Nat) (tells : Bool) {args : List V} {bs : List B} {e : End} {bs' : List B} (h : evFn E n tells fn args bs = some (e, bs')) : Meets E.P f args bs e bs' :=
  ⟨henter, fun c us hds hL hlen hargs hX => by
    unfold evFn at h
    split at h
    case h_1 => cases h
    rename_i cd hcd
    refine calls_of_wp hf hcd ?_
    have hG : Good c c (args ++ List.replicate (fn.ntmps - args.length) .gun) bs { tmps := us ++ Array.replicate (fn.ntmps - us.size) undef, defers := [] } := by
      refine ⟨hL, ⟨by simp; omega, fun i v u hv hu => ?_⟩, Since.refl hX, Ctx.Le.refl c, hds.symm⟩
      by_cases hi : i < args.length
      · rw [List.getElem?_append_left hi] at hv
        rw [Array.getElem?_append_left (by omega)] at hu
        exact hargs i v u hv hu
      · rw [List.getElem?_append_right (by omega), List.getElem?_replicate] at hv
        rw [Array.getElem?_append_right (by omega), Array.getElem?_replicate] at hu
        split at hv
        case isFalse => cases hv
        split at hu
        case isFalse => cases hu
        injection hv with hv
        injection hu with hu
        subst hv; subst hu
        exact .gun
    have hE' : EnvOK { E with n0 := bs.length } := ⟨hE.call, hE.ext, hE.mixed, hE.cmb⟩
    refine ev_sound hE' (c0 := c) (by rw [hL.n]) n cd _ _ _ _ _ c _ h hG (fun x fr L c1 a h1 hG1 => ?_)
    have fin : (match resOf E.P fr L fn.results with
        | some v => if tells then (bif rowOK2 L v then (match tell' L bs.length v with | some (v, L) => some (.ret v, L) | none => none) else none) else some (.ret v, L)
        | none => none) = some (e, bs') → ∃ v, (results fn a.tmps).run E.P c1.w = .ok v c1.w ∧ ∃ c' : Ctx, c'.w = c1.w ∧ RE c' e (.returned v) ∧ RL c' bs' ∧ Since c c' ∧ c.Le c' := by
      intro h1
      split at h1
      case h_2 => cases h1
      rename_i v hv
      obtain ⟨u, hrun, hr⟩ := resOf_sound hG1.L hG1.F hv
      refine ⟨u, hrun, ?_⟩
      split at h1
      · cases hrow : rowOK2 L v with
        | false => rw [hrow] at h1; cases h1
        | true =>
        rw [hrow, tell_eq hrow] at h1
        simp only [cond_true] at h1
        split at h1
        case h_2 => cases h1
        rename_i v2 L2 ht
        injection h1 with h1
        injection h1 with h1 h2
        subst h1; subst h2
        rw [← hL.n] at ht
        obtain ⟨c', h3, h4, h5, h6, h7⟩ := tell_sound hG1.L hG1.S hG1.le ht hr
        exact ⟨c', h3, .ret h4, h5, h6, h7⟩
      · injection h1 with h1
        injection h1 with h1 h2
        subst h1; subst h2
        exact ⟨c1, rfl, .ret hr, hG1.L, hG1.S, hG1.le⟩
    cases x with
    | normal => exact ⟨hG1.d.trans hds, fin h1⟩
    | ret => exact ⟨hG1.d.trans hds, fin h1⟩
    | exit id => cases h1
    | panic v =>
      intro u hu
      injection h1 with h1
      injection h1 with h1 h2
      subst h1; subst h2
      exact ⟨hG1.d.trans hds, c1, rfl, .panic hu, hG1.L, hG1.S, hG1.le⟩⟩

end Go.Tw
