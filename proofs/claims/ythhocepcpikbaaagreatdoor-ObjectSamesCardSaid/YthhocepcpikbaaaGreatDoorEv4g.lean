/- The abstract run is sound: walks over maps, slices of rows of cells, comparisons with nil, and what is left. -/
import Derived.Test.YthhocepcpikbaaaGreatDoorEv4f
set_option linter.unusedVariables false
set_option linter.unusedSimpArgs false
namespace Go.Tw

theorem rangeC_sound {P : Program} {c0 c : Ctx} {L L' : List B} (hL : RL c L) (hS : Since c0 c) {t : TypeId} {x v : V} {u : Value} (hx : R c x u) (h : rangeC P L t x = some (v, L')) :
    ∃ u' c', (Instr.range t u).run P c.w = .ok u' c'.w ∧ Next' c0 c v L' u' c' := by
  unfold rangeC at h
  split at h
  case h_2 => cases h
  rename_i kt et b hu
  split at h
  case h_2 => cases h
  rename_i n es hb
  injection h with h
  injection h with h1 h2
  subst h1; subst h2
  obtain ⟨g, hg, hbb⟩ := hL.live b _ hb (by simp)
  cases hx with
  | map ho hkn hpt =>
    rw [hpt g hg]
    cases hbb with
    | vmap C clock hC hall =>
      have hget := MapKept.run_getObj_map (P := P) hC
      have hle := push_le hL (.mapIter (some g) n #[] n)
      refine ⟨.pointer (some ⟨c.w.heap.size, 0, none⟩), c.push (.mapIter (some g) n #[] n), ?_, hle, push_RL hL (fun g hg => Nat.lt_of_lt_of_le (hS.lt g hg) hS.size) _ (.iter (Nat.lt_succ_of_lt hkn) (fun g' hg' => ?_)) (by simp), push_since hS _, .ptr rfl (by simp only [Ctx.push]; rw [hL.n]; omega) (fun g' hg' => ?_)⟩
      · simp only [Instr.range, Sem.run_bind, run_underlying hu, Result.andThen_ok, hget]
        simp [newObj, hget]
        rfl
      · simp only [Ctx.push] at hg'
        rw [if_neg (by omega), hg] at hg'
        injection hg' with hg'
        subst hg'
        exact heap_alloc_at _ _
      · simp only [Ctx.push] at hg'
        rw [if_pos hL.n.symm] at hg'
        injection hg' with hg'
        rw [hg']

theorem AllV.filter {c : Ctx} {ps : List (Value × V × Nat)} {es : List MapEntry} (h : AllV c ps es) (p : Nat → Bool) : AllV c (ps.filter fun e => p e.2.2) (es.filter fun e => p e.born) := by
  induction h with
  | nil => exact .nil
  | cons hk hb hv _ ih =>
    simp only [List.filter_cons, hb]
    split
    · exact .cons hk hb hv ih
    · exact ih
theorem AllV.all {c : Ctx} {ps : List (Value × V × Nat)} {es : List MapEntry} (h : AllV c ps es) (p : Nat → Bool) : ps.all (fun e => p e.2.2) = es.all fun e => p e.born := by
  induction h with
  | nil => rfl
  | cons hk hb hv _ ih => simp only [List.all_cons, hb, ih]
theorem AllV.find {c : Ctx} {ps : List (Value × V × Nat)} {es : List MapEntry} (h : AllV c ps es) (s : Nat) {q : Value × V × Nat} (hq : ps.find? (fun e => e.2.2 == s) = some q) : ∃ e, es.find? (fun e => e.born == s) = some e ∧ e.key = q.1 ∧ R c q.2.1 e.val := by
  induction h with
  | nil => simp at hq
  | cons hk hb hv _ ih =>
    simp only [List.find?_cons] at hq ⊢
    rw [hb]
    split at hq
    · rename_i hc
      injection hq with hq
      subst hq
      exact ⟨_, rfl, hk, hv⟩
    · exact ih hq

theorem nextC_sound {P : Program} {c0 c : Ctx} {L L' : List B} (hL : RL c L) (hS : Since c0 c) {ty : TypeId} {x v : V} {u : Value} (hx : R c x u) (h : nextC L x = some (v, L')) :
    ∃ u' c', (Instr.next u false ty).run P c.w = .ok u' c'.w ∧ Next' c0 c v L' u' c' := by
  unfold nextC at h
  split at h
  case h_2 => cases h
  rename_i r
  split at h
  case h_2 => cases h
  rename_i m since seen last hr
  split at h
  case h_2 => cases h
  rename_i n es hm
  obtain ⟨g, hg, hbb⟩ := hL.live r _ hr (by simp)
  obtain ⟨gm, hgm, hbm⟩ := hL.live m _ hm (by simp)
  cases hx with
  | ptr ho hkn hpt =>
    rw [hpt g hg]
    cases hbb with
    | iter hmk hit =>
      cases hbm with
      | vmap C clock hC hall =>
        have hit := hit gm hgm
        have hget : (getObj g).run P c.w = .ok (.mapIter (some gm) since seen.toArray last) c.w := by simp [getObj, Sem.run, hit]
        have hgetm := MapKept.run_getObj_map (P := P) hC
        have hem := hall.empty
        have hal : (C.all fun e => decide (e.born ≥ last)) = es.all fun e => decide (e.2.2 ≥ last) := by
          rw [hall.all (fun b => decide (b ≥ last)), ← Array.all_toList]
        generalize hbad : (!seen.isEmpty && !es.isEmpty && es.all fun e => decide (e.2.2 ≥ last)) = bad at h
        cases bad with
        | true => cases h
        | false =>
        simp only [cond_false] at h
        have hleft := hall.filter (fun b => !seen.contains b)
        have hold := hleft.filter (fun b => decide (b < since))
        have hnew := hleft.filter (fun b => decide (b ≥ since))
        have e1 : ∀ e : MapEntry, (!seen.toArray.contains e.born) = !seen.contains e.born := fun e => by simp
        have hf1 : (((C.filter fun e => !seen.toArray.contains e.born).filter fun e => decide (e.born < since)).toList) = (C.toList.filter fun e => !seen.contains e.born).filter fun e => decide (e.born < since) := by simp
        have hf2 : (((C.filter fun e => !seen.toArray.contains e.born).filter fun e => decide (e.born ≥ since)).toList) = (C.toList.filter fun e => !seen.contains e.born).filter fun e => decide (e.born ≥ since) := by simp
        have hbad' : (!seen.toArray.isEmpty && !C.isEmpty && C.all fun e => decide (e.born ≥ last)) = false := by
          rw [hem, hal]; simpa using hbad
        split at h
        · rename_i h1 h2
          injection h with h
          injection h with h3 h4
          subst h3; subst h4
          rw [h1] at hold
          rw [h2] at hnew
          have o1 : ((C.filter fun e => !seen.toArray.contains e.born).filter fun e => decide (e.born < since)) = #[] := by
            apply Array.ext'
            rw [hf1]
            generalize (C.toList.filter fun e => !seen.contains e.born).filter (fun e => decide (e.born < since)) = zz at hold
            cases hold; rfl
          have o2 : ((C.filter fun e => !seen.toArray.contains e.born).filter fun e => decide (e.born ≥ since)) = #[] := by
            apply Array.ext'
            rw [hf2]
            generalize (C.toList.filter fun e => !seen.contains e.born).filter (fun e => decide (e.born ≥ since)) = zz at hnew
            cases hnew; rfl
          refine ⟨.tuple #[.bool false], c, ?_, Next'.same hL hS (.tup rfl (fun i a b ha hb => ?_))⟩
          · simp only [Instr.next, Sem.run_bind, hget, hgetm, Result.andThen_ok]
            simp only [hbad', Bool.false_eq_true, if_false, o1, o2]
            simp [choose, Question.forced, Sem.run]
          · match i, ha, hb with
            | 0, ha, hb => simp at ha hb; subst ha; subst hb; exact .d (.b _)
        · rename_i e h1 h2
          injection h with h
          injection h with h3 h4
          subst h3; subst h4
          rw [h1] at hold
          rw [h2] at hnew
          obtain ⟨E, o1, ek, eb, ev⟩ : ∃ E, ((C.filter fun e => !seen.toArray.contains e.born).filter fun e => decide (e.born < since)) = #[E] ∧ E.key = e.1 ∧ E.born = e.2.2 ∧ R c e.2.1 E.val := by
            generalize hz : (C.toList.filter fun e => !seen.contains e.born).filter (fun e => decide (e.born < since)) = zz at hold hf1
            cases hold with
            | cons hk hb hv t =>
              cases t
              exact ⟨_, Array.ext' (by rw [hf1]), hk, hb, hv⟩
          have o2 : ((C.filter fun e => !seen.toArray.contains e.born).filter fun e => decide (e.born ≥ since)) = #[] := by
            apply Array.ext'
            rw [hf2]
            generalize (C.toList.filter fun e => !seen.contains e.born).filter (fun e => decide (e.born ≥ since)) = zz at hnew
            cases hnew; rfl
          have hne : ∀ X e f, (Obj.mapIter (some gm) since seen.toArray last) ≠ .cells X e f := fun _ _ _ => by simp
          have hle := putObj_le hg hit hne (.mapIter (some gm) since (seen ++ [e.2.2]).toArray n)
          have hgg : gm ≠ g := fun e => by subst e; rw [hC] at hit; cases hit
          refine ⟨.tuple #[.bool true, E.key, E.val], c.putMap g (.mapIter (some gm) since (seen ++ [e.2.2]).toArray n), ?_, hle, putObj_RL hL hg hit hne _ (.iter hmk (fun g' hg' => ?_)) (by simp), putMap_since hS hg _, tup3 (.d (.b true)) ?_ (ev.mono hle)⟩
          · simp only [Instr.next, Sem.run_bind, hget, hgetm, Result.andThen_ok]
            simp only [hbad', Bool.false_eq_true, if_false, o1, o2]
            have hset : (setObj g (.mapIter (some gm) since (seen.toArray.push E.born) n)).run P c.w = .ok () (c.putMap g (.mapIter (some gm) since (seen ++ [e.2.2]).toArray n)).w := by
              rw [show seen.toArray.push E.born = (seen ++ [e.2.2]).toArray by rw [eb]; simp]
              simp [setObj, Sem.run, hit, Ctx.putMap]
            rw [show seen.toArray.push E.born = (seen ++ [E.born]).toArray by simp] at hset
            simp [choose, Question.forced, Sem.run, hset]
          · have hg'' : c.m m = some g' := hg'
            rw [hgm] at hg''
            injection hg'' with hg''
            subst hg''
            exact putMap_at c _ (hL.lt _ _ hg).1
          · rw [ek]; exact ofConst_sound _ _
        · cases h

theorem entryC_sound {P : Program} {c : Ctx} {L : List B} (hL : RL c L) {x v : V} {u : Value} (hx : R c x u) (h : entryC L x = some v) :
    ∃ u', (Instr.entry u).run P c.w = .ok u' c.w ∧ R c v u' := by
  unfold entryC at h
  split at h
  case h_2 => cases h
  rename_i r
  split at h
  case h_2 => cases h
  rename_i m since seen last hr
  split at h
  case h_2 => cases h
  rename_i n es stamp hm hst
  cases hn : Nat.beq n last with
  | false => rw [hn] at h; cases h
  | true =>
  rw [hn] at h
  simp only [cond_true] at h
  obtain rfl := Nat.eq_of_beq_eq_true hn
  split at h
  case h_2 => cases h
  rename_i e he
  injection h with h
  subst h
  obtain ⟨g, hg, hbb⟩ := hL.live r _ hr (by simp)
  obtain ⟨gm, hgm, hbm⟩ := hL.live m _ hm (by simp)
  cases hx with
  | ptr ho hkn hpt =>
    rw [hpt g hg]
    cases hbb with
    | iter hmk hit =>
      cases hbm with
      | vmap C clock hC hall =>
        have hit := hit gm hgm
        have hget : (getObj g).run P c.w = .ok (.mapIter (some gm) since seen.toArray n) c.w := by simp [getObj, Sem.run, hit]
        have hgetm := MapKept.run_getObj_map (P := P) hC
        obtain ⟨E, h1, h2, h3⟩ := hall.find stamp he
        have h1' : C.find? (fun e => e.born == stamp) = some E := by rw [← Array.find?_toList]; exact h1
        refine ⟨.tuple #[E.key, E.val], ?_, tup2 ?_ h3⟩
        · have hbk : seen.toArray.back? = some stamp := by simp [hst]
          simp [Instr.entry, hget, hgetm, hbk, h1']
        · rw [h2]; exact ofConst_sound _ _

theorem sliceC_sound {P : Program} {c0 c : Ctx} {L : List B} (hL : RL c L) (hS : Since c0 c) {t : TypeId} {x : V} {u : Value} {lo hi : Option V} {lo' hi' : Option Operand} {ρ : Operand → Value} {k : V → List B → Res} {r : End × List B} (hx : R c x u)
    (hlo : OptR c ρ lo lo') (hhi : OptR c ρ hi hi') (h : sliceC P L t x lo hi k = some r) :
    ∃ v u', (Instr.sliceAt t u (lo'.map ρ) (hi'.map ρ) none).run P c.w = .ok u' c.w ∧ R c v u' ∧ k v L = some r := by
  unfold sliceC at h
  split at h
  · rename_i e hu
    split at h
    case h_2 => cases h
    rename_i s hs
    cases hx
    cases lo' with
    | some _ => exact hlo.elim
    | none =>
      cases hi' with
      | some _ => exact hhi.elim
      | none => exact ⟨.nilsl, .slice none 0 0, by simp [Instr.sliceAt, Instr.slice, Instr.sliceBounds, run_underlying hu, size_sound hs], .nilsl, h⟩
  · rename_i e q hu
    split at h
    case h_2 => cases h
    rename_i s hs
    cases hx
    cases lo' with
    | none => exact hlo.elim
    | some y =>
      have hy : ρ y = .int q 0 := R.int hlo
      cases hi' with
      | some _ => exact hhi.elim
      | none => exact ⟨.nilsl, .slice none 0 0, by simp [Instr.sliceAt, Instr.slice, Instr.sliceBounds, Instr.sliceBound, asIntOf, hy, run_underlying hu, size_sound hs], .nilsl, h⟩
  · rename_i e q hu
    split at h
    case h_2 => cases h
    rename_i s hs
    cases hx
    cases hi' with
    | none => exact hhi.elim
    | some y =>
      have hy : ρ y = .int q 0 := R.int hhi
      cases lo' with
      | some _ => exact hlo.elim
      | none => exact ⟨.nilsl, .slice none 0 0, by simp [Instr.sliceAt, Instr.slice, Instr.sliceBounds, Instr.sliceBound, asIntOf, hy, run_underlying hu, size_sound hs], .nilsl, h⟩
  · obtain ⟨v, u', h1, h2, h3⟩ := slice_sound (P := P) hL hx hlo hhi h
    exact ⟨v, u', h1, h2, h3⟩

theorem partV_sound {P : Program} {c : Ctx} {w : World} {t : TypeId} {cs : List V} {us : Array Value} {off : Nat} {v : V} (hl : cs.length = us.size) (hR : ∀ (i : Nat) x u, cs[i]? = some x → us[i]? = some u → R c x u) (h : partV P t cs off = some v) :
    ∃ X, (part t us off).run P w = .ok X w ∧ R c v X := by
  unfold partV at h
  split at h
  · rename_i s ha hs
    split at h
    case isFalse => cases h
    rename_i hfit
    injection h with h
    subst h
    refine ⟨.agg (us.extract off (off + s)), by simp [part, isAgg_sound ha, size_sound hs], .agg (by simp; omega) (fun i x u h1 h2 => ?_)⟩
    rw [List.getElem?_take] at h1
    split at h1
    · rename_i hi
      rw [List.getElem?_drop] at h1
      rw [Array.getElem?_extract] at h2
      split at h2
      · exact hR _ x u h1 h2
      · cases h2
    · cases h1
  · rename_i ha hs
    have hlt : off < us.size := by rw [← hl]; exact (List.getElem?_eq_some_iff.1 h).1
    exact ⟨us[off], by simp [part, isAgg_sound ha, Array.getElem?_eq_getElem hlt], hR off v _ h (Array.getElem?_eq_getElem hlt)⟩
  · cases h

theorem fieldOfV_sound {P : Program} {c : Ctx} {t : TypeId} {x v : V} {u : Value} {f : Nat} (hx : R c x u) (h : fieldOfV P t x f = some v) : ∃ u', (Instr.field t u f).run P c.w = .ok u' c.w ∧ R c v u' := by
  unfold fieldOfV at h
  split at h
  case h_2 => cases h
  rename_i fs cs hu
  split at h
  case h_2 => cases h
  rename_i fd hf
  cases hx with
  | agg hl hR =>
    rename_i us
    obtain ⟨X, h1, h2⟩ := partV_sound (w := c.w) hl hR h
    exact ⟨X, by simp [Instr.field, run_underlying hu, hf, asAgg, h1], h2⟩

theorem typeAssertV_sound {P : Program} {c : Ctx} {xt at_ : TypeId} {x v : V} {u : Value} {ok : Bool} (hx : R c x u) (h : typeAssertV P x at_ ok = some v) : ∃ u', (Instr.typeAssert u xt at_ ok).run P c.w = .ok u' c.w ∧ R c v u' := by
  unfold typeAssertV at h
  split at h
  · cases h
  · rename_i d hni hu
    have hd : ∀ ms, d ≠ .interface ms := fun ms e => hni ms e
    have zer : ∀ z, zeroT P at_ = some z → ∃ zu, (zeroValue at_).run P c.w = .ok zu c.w ∧ R c z zu := fun z hz => zero_sound hz c c.w
    split at h
    · rename_i t v'
      cases hx with
      | iface hv =>
        rename_i uv
        split at h
        · rename_i ht
          injection h with h
          subst h
          refine ⟨_, ?_, okV_sound true hv⟩
          cases d <;> simp [Instr.typeAssert, run_underlying hu, ht] <;> exact absurd rfl (hd _)
        · rename_i ht
          cases ok with
          | false => cases h
          | true =>
            simp only [cond_true] at h
            obtain ⟨z, hz, rfl⟩ := Option.map_eq_some_iff.1 h
            obtain ⟨zu, hzu, hzr⟩ := zer z hz
            refine ⟨.tuple #[zu, .bool false], ?_, tup2 hzr (.d (.b false))⟩
            cases d <;> simp [Instr.typeAssert, run_underlying hu, ht, hzu] <;> exact absurd rfl (hd _)
    · cases hx
      cases ok with
      | false => cases h
      | true =>
        simp only [cond_true] at h
        obtain ⟨z, hz, rfl⟩ := Option.map_eq_some_iff.1 h
        obtain ⟨zu, hzu, hzr⟩ := zer z hz
        refine ⟨.tuple #[zu, .bool false], ?_, tup2 hzr (.d (.b false))⟩
        cases d <;> simp [Instr.typeAssert, run_underlying hu, hzu]
    · cases h
  · cases h

theorem convertC_sound {P : Program} {c0 c : Ctx} {L : List B} (hL : RL c L) (hS : Since c0 c) {src dst : TypeId} {x : V} {u : Value} {k : V → List B → Res} {r : End × List B} (hx : R c x u) (h : convertC P L src dst x k = some r) :
    ∃ v u', (convert src dst u).run P c.w = .ok u' c.w ∧ R c v u' ∧ k v L = some r := by
  unfold convertC at h
  split at h
  · rename_i d q q' n hs hd
    rw [hx.int]
    exact ⟨_, .int q (q.wrap n), by simp [convert, run_underlying hs, run_underlying hd, Conv.intToInt], .d (.i _ _), h⟩
  · rename_i d s hs hd
    rw [hx.str]
    exact ⟨_, .string s, by simp [convert, run_underlying hs, run_underlying hd], .d (.s _), h⟩
  · rename_i e x' hs hd hneg
    split at h
    case h_2 => cases h
    rename_i m ys he hrow
    obtain ⟨news, hsrc, hlaid, A, cap, rfl⟩ := rowC_sound (P := P) hL hs hx hrow
    cases hb : ys.all isByteV with
    | false => rw [hb] at h; cases h
    | true =>
    rw [hb] at h
    refine ⟨_, .string ⟨(ys.map byteV).toArray⟩, ?_, .d (.s _), h⟩
    have hn : news = (ys.map fun x => match x with | .d (.i .u8 n) => n | _ => 0).map (Value.int .u8) := by
      apply List.ext_getElem?
      intro q
      simp only [List.getElem?_map]
      rcases Nat.lt_or_ge q ys.length with hq | hq
      · have hy := List.all_eq_true.1 hb _ (List.getElem_mem hq)
        have hqu : q < news.length := by rw [hlaid.u, ← hlaid.v]; exact hq
        have hR := hlaid.at_ q _ _ (List.getElem?_eq_getElem hq) (List.getElem?_eq_getElem hqu)
        rw [List.getElem?_eq_getElem hq, List.getElem?_eq_getElem hqu]
        simp only [Option.map_some]
        generalize ys[q] = yq at hy hR
        unfold isByteV at hy
        split at hy
        · rw [hR.int]
        · cases hy
      · rw [List.getElem?_eq_none hq, List.getElem?_eq_none (by rw [hlaid.u, ← hlaid.v]; exact hq)]
        rfl
    have hfold : ∀ (l : List Int) (s : ByteArray), l.foldl (fun r n => r.push (UInt8.ofNat n.toNat)) s = ⟨s.data ++ (l.map fun n => UInt8.ofNat n.toNat).toArray⟩ := by
      intro l
      induction l with
      | nil => intro s; simp
      | cons n l ih =>
        intro s
        rw [List.foldl_cons, ih]
        simp [ByteArray.push]
    have hof : (⟨(ys.map byteV).toArray⟩ : ByteArray) = (ys.map fun x => match x with | .d (.i .u8 n) => n | _ => 0).foldl (fun r n => r.push (UInt8.ofNat n.toNat)) ByteArray.empty := by
      rw [hfold]
      simp only [ByteArray.empty, ByteArray.emptyWithCapacity, List.map_map]
      congr 1
      refine Eq.trans ?_ (Array.empty_append).symm
      congr 1
      apply List.map_congr_left
      intro x hx
      have hy := List.all_eq_true.1 hb x hx
      unfold isByteV at hy
      split at hy
      · rfl
      · cases hy
    have hcells := hsrc.cells
    rw [hn] at hcells
    cases A with
    | none =>
      simp only [Builtin.firstCells, Sem.run_pure, Result.ok.injEq, and_true] at hcells
      have h0 : ys = [] := by
        have := congrArg Array.size hcells
        simp at this
        exact List.eq_nil_of_length_eq_zero this.symm
      subst h0
      simp [convert, run_underlying hs, run_underlying hd, run_underlying he, Conv.bytesToString]
      rfl
    | some a =>
      simp only [Builtin.firstCells, Nat.mul_one] at hcells
      have hr := run_bytesToString (P := P) c.w a m cap _ hcells
      rw [← hof] at hr
      simp [convert, run_underlying hs, run_underlying hd, run_underlying he, hr]
  · cases h

theorem minV_sound {P : Program} {c : Ctx} {ts : Array TypeId} {ty : TypeId} {xs : List V} {us : Array Value} {v : V} (hl : xs.length = us.size) (hR : ∀ (i : Nat) x u, xs[i]? = some x → us[i]? = some u → R c x u) (h : minV xs = some v) :
    ∃ u, (Builtin.min_ ts ty us).run P c.w = .ok u c.w ∧ R c v u := by
  unfold minV at h
  split at h
  case h_2 => cases h
  rename_i q x q' y
  injection h with h
  subst h
  simp only [List.length_cons, List.length_nil] at hl
  have h0 := hR 0 _ _ rfl (Array.getElem?_eq_getElem (show 0 < us.size by omega))
  have h1 := hR 1 _ _ rfl (Array.getElem?_eq_getElem (show 1 < us.size by omega))
  have hus : us = #[us[0], us[1]] := by
    apply Array.ext
    · simp; omega
    · intro i h1 h2
      simp at h2
      match i, h2 with
      | 0, _ => rfl
      | 1, _ => rfl
  rw [hus, h0.int, h1.int]
  exact ⟨_, by simp [Builtin.min_, Builtin.min2], .d (.i _ _)⟩

theorem nilV_sound {P : Program} {c : Ctx} {L : List B} (hL : RL c L) {t : TypeId} {x : V} {u : Value} {b : Bool} (hx : R c x u) (h : nilV P L t x = some b) :
    (∃ e A, P.underlying t = some (.pointer e) ∧ u = .pointer A ∧ A.isNone = b) ∨ (∃ e A n k, P.underlying t = some (.slice e) ∧ u = .slice A n k ∧ A.isNone = b) ∨ (∃ k e r, P.underlying t = some (.map k e) ∧ u = .map r ∧ r.isNone = b) ∨
      (∃ ms, P.underlying t = some (.interface ms) ∧ ((u = .nilIface ∧ b = true) ∨ (∃ d y, u = .iface d y ∧ b = false))) := by
  unfold nilV at h
  split at h
  · rename_i e hu; injection h with h; subst h; cases hx; exact .inl ⟨_, _, hu, rfl, rfl⟩
  · rename_i e k off hu
    split at h
    case isFalse => cases h
    rename_i hlv
    injection h with h
    subst h
    obtain ⟨g, hg⟩ := live_at hL hlv
    cases hx with
    | ptr ho hk hpt => exact .inl ⟨_, _, hu, hpt g hg, rfl⟩
  · rename_i e cs off hu
    injection h with h
    subst h
    cases hx
    exact .inl ⟨_, _, hu, rfl, rfl⟩
  · rename_i e hu; injection h with h; subst h; cases hx; exact .inr (.inl ⟨_, _, _, _, hu, rfl, rfl⟩)
  · rename_i e sz k a n hu
    split at h
    case isFalse => cases h
    rename_i hc
    injection h with h
    subst h
    obtain ⟨g, hg⟩ := live_at hL hc.1
    cases hx with
    | row ho hk hr =>
      obtain ⟨A, cap, e2, C, rfl, hC, hcap, hCs, hml, hA⟩ := hr g hg
      obtain rfl := hA hc.2
      exact .inr (.inl ⟨_, _, _, _, hu, rfl, rfl⟩)
  · rename_i k e hu; injection h with h; subst h; cases hx; exact .inr (.inr (.inl ⟨_, _, _, hu, rfl, rfl⟩))
  · rename_i kt e k hu
    split at h
    case isFalse => cases h
    rename_i hlv
    injection h with h
    subst h
    obtain ⟨g, hg⟩ := live_at hL hlv
    cases hx with
    | map ho hk hpt => exact .inr (.inr (.inl ⟨_, _, _, hu, hpt g hg, rfl⟩))
  · rename_i ms hu; injection h with h; subst h; cases hx; exact .inr (.inr (.inr ⟨_, hu, .inl ⟨rfl, rfl⟩⟩))
  · rename_i ms d y hu; injection h with h; subst h; cases hx; exact .inr (.inr (.inr ⟨_, hu, .inr ⟨_, _, rfl, rfl⟩⟩))
  · cases h

theorem eq_run {P : Program} {w : World} {t : TypeId} {x y : Value} {b : Bool} (h : (Op.equal t x y).run P w = .ok b w) (h1 : binOp .eql t x y = (do pure (.bool (← Op.equal t x y)) : Sem Value)) (h2 : binOp .neq t x y = (do pure (.bool (!(← Op.equal t x y))) : Sem Value)) :
    (binOp .eql t x y).run P w = .ok (.bool b) w ∧ (binOp .neq t x y).run P w = .ok (.bool (!b)) w := by
  rw [h1, h2]
  exact ⟨by rw [Sem.run_bind, h]; rfl, by rw [Sem.run_bind, h]; rfl⟩
theorem equal_ptr {P : Program} {w : World} {t e : TypeId} (hu : P.underlying t = some (.pointer e)) (A : Option Addr) : (Op.equal t (.pointer A) (.pointer none)).run P w = .ok A.isNone w := by
  rw [Op.equal, show Op.maxDepth = 9999 + 1 from rfl, Op.equalIn, Sem.run_bind, run_underlying hu]
  cases A <;> rfl
theorem equal_slice {P : Program} {w : World} {t e : TypeId} (hu : P.underlying t = some (.slice e)) (A : Option Addr) (n k n' k' : Nat) : (Op.equal t (.slice A n k) (.slice none n' k')).run P w = .ok A.isNone w := by
  rw [Op.equal, show Op.maxDepth = 9999 + 1 from rfl, Op.equalIn, Sem.run_bind, run_underlying hu]
  cases A <;> rfl
theorem equal_map {P : Program} {w : World} {t k e : TypeId} (hu : P.underlying t = some (.map k e)) (A : Option Nat) : (Op.equal t (.map A) (.map none)).run P w = .ok A.isNone w := by
  rw [Op.equal, show Op.maxDepth = 9999 + 1 from rfl, Op.equalIn, Sem.run_bind, run_underlying hu]
  cases A <;> rfl
theorem equal_nilif {P : Program} {w : World} {t : TypeId} {ms : Array (String × TypeId)} (hu : P.underlying t = some (.interface ms)) : (Op.equal t .nilIface .nilIface).run P w = .ok true w := by
  rw [Op.equal, show Op.maxDepth = 9999 + 1 from rfl, Op.equalIn, Sem.run_bind, run_underlying hu]
  rfl
theorem equal_iface {P : Program} {w : World} {t : TypeId} {ms : Array (String × TypeId)} (hu : P.underlying t = some (.interface ms)) (d : TypeId) (y : Value) : (Op.equal t (.iface d y) .nilIface).run P w = .ok false w := by
  rw [Op.equal, show Op.maxDepth = 9999 + 1 from rfl, Op.equalIn, Sem.run_bind, run_underlying hu]
  rfl

theorem nilCmp_sound {P : Program} {c : Ctx} {L : List B} (hL : RL c L) {op : BinOp} {t : TypeId} {x y v : V} {u z : Value} {X Y : Operand} (hx : R c x u) (hy : R c y z) (h : nilCmp P L op t Y x y = some v) :
    ∃ u', (do eqGuard op t X Y u z; binOp op t u z : Sem Value).run P c.w = .ok u' c.w ∧ R c v u' := by
  unfold nilCmp at h
  split at h
  case isFalse => cases h
  rename_i hc
  obtain ⟨hY, hyn⟩ := hc
  have key : ∀ (b : Bool), nilV P L t x = some b → nilV P L t y = some true → (∀ o, (eqGuard o t X Y u z).run P c.w = .ok () c.w) ∧ (binOp .eql t u z).run P c.w = .ok (.bool b) c.w ∧ (binOp .neq t u z).run P c.w = .ok (.bool (!b)) c.w := by
    intro b h1 h2
    have s1 := nilV_sound hL hx h1
    have s2 := nilV_sound hL hy h2
    rcases s1 with ⟨e, A, hu, rfl, rfl⟩ | ⟨e, A, n, k, hu, rfl, rfl⟩ | ⟨k, e, r, hu, rfl, rfl⟩ | ⟨ms, hu, s1⟩
    · rcases s2 with ⟨e', A', hu', rfl, hA'⟩ | ⟨e', A', n', k', hu', rfl, hA'⟩ | ⟨k', e', r', hu', rfl, hA'⟩ | ⟨ms', hu', s2⟩ <;> (try (rw [hu] at hu'; cases hu'))
      obtain rfl : A' = none := by cases A' <;> simp at hA' ⊢
      exact ⟨fun o => by unfold eqGuard; cases o <;> rfl, eq_run (equal_ptr hu A) rfl rfl⟩
    · rcases s2 with ⟨e', A', hu', rfl, hA'⟩ | ⟨e', A', n', k', hu', rfl, hA'⟩ | ⟨k', e', r', hu', rfl, hA'⟩ | ⟨ms', hu', s2⟩ <;> (try (rw [hu] at hu'; cases hu'))
      obtain rfl : A' = none := by cases A' <;> simp at hA' ⊢
      exact ⟨fun o => by unfold eqGuard; cases o <;> rfl, eq_run (equal_slice hu A n k n' k') rfl rfl⟩
    · rcases s2 with ⟨e', A', hu', rfl, hA'⟩ | ⟨e', A', n', k', hu', rfl, hA'⟩ | ⟨k', e', r', hu', rfl, hA'⟩ | ⟨ms', hu', s2⟩ <;> (try (rw [hu] at hu'; cases hu'))
      obtain rfl : r' = none := by cases r' <;> simp at hA' ⊢
      exact ⟨fun o => by unfold eqGuard; cases o <;> rfl, eq_run (equal_map hu r) rfl rfl⟩
    · rcases s2 with ⟨e', A', hu', rfl, hA'⟩ | ⟨e', A', n', k', hu', rfl, hA'⟩ | ⟨k', e', r', hu', rfl, hA'⟩ | ⟨ms', hu', s2⟩ <;> (try (rw [hu] at hu'; cases hu'))
      rcases s2 with ⟨rfl, _⟩ | ⟨d, y', rfl, hf⟩
      · rcases s1 with ⟨rfl, rfl⟩ | ⟨d, y', rfl, rfl⟩
        · refine ⟨fun o => ?_, eq_run (equal_nilif hu) rfl rfl⟩
          unfold eqGuard
          cases Y <;> simp [isConstO] at hY
          cases o <;> simp
        · exact ⟨fun o => by unfold eqGuard; cases o <;> rfl, eq_run (equal_iface hu d y') rfl rfl⟩
      · cases hf
  split at h
  · rename_i b h1 h2
    injection h with h
    subst h
    obtain ⟨k1, k2, _⟩ := key b h1 h2
    exact ⟨_, by rw [Sem.run_bind, k1]; simp only [Result.andThen_ok, k2], .d (.b _)⟩
  · rename_i b h1 h2
    injection h with h
    subst h
    obtain ⟨k1, _, k3⟩ := key b h1 h2
    exact ⟨_, by rw [Sem.run_bind, k1]; simp only [Result.andThen_ok, k3], .d (.b _)⟩
  · cases h

theorem buildArr_sound {P : Program} {c : Ctx} {t e : TypeId} {n s : Nat} {z : V} {parts : Array (Nat × Operand)} {fr : List V} {a : Act} (hF : RF c fr a.tmps) (hz : zeroT P t = some z) (hu : P.underlying t = some (.array n e)) (hs : sizeT P e = some s) (hza : (cellsV z).all atom = true)
    {cs : List V} (h : fillS (fun i => some (i * s, s)) (cellsV z) (parts.toList.map fun q => (q.1, evO fr q.2)) = some cs) :
    ∃ u, (Instr.build t (parts.map fun (i, x) => (i, a.eval x))).run P c.w = .ok u c.w ∧ R c (.agg cs) u := by
  obtain ⟨zu, hzu, hzr⟩ := zero_sound hz c c.w
  have hzc := cells_sound hzr hza
  obtain ⟨C', hC', hl, hr⟩ := fill_sound (c := c) (place := fun i => some (i * s, s)) (place' := fun i => some (i * s, s)) (fun _ => rfl) (parts := parts.toList.map fun q => (q.1, evO fr q.2)) (vals := parts.toList.map fun q => (q.1, a.eval q.2)) (by simp) (fun i p q hp hq => by
      simp only [List.getElem?_map, Option.map_eq_some_iff] at hp hq
      obtain ⟨x, hx, rfl⟩ := hp
      obtain ⟨y, hy, rfl⟩ := hq
      rw [hx] at hy
      injection hy with hy
      subst hy
      exact ⟨rfl, evO_sound hF _⟩) (cs := cellsV z) (C := zu.cells) hzc.1 (fun q x y hx hy => (hzc.2 q x y hx hy).1) h
  refine ⟨.agg C', ?_, .agg hl hr⟩
  have hparts : (parts.map fun (x : Nat × Operand) => (x.1, a.eval x.2)).toList = parts.toList.map fun q => (q.1, a.eval q.2) := by simp
  simp only [Instr.build, Sem.run_bind, hzu, run_underlying hu, Result.andThen_ok, size_sound hs, hparts]
  simp [hC']
end Go.Tw
