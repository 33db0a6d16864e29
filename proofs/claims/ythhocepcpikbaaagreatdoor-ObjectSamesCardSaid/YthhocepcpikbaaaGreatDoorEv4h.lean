/- The abstract run is sound: bytes that are marked, calls with all as it lies. -/
import Derived.Test.YthhocepcpikbaaaGreatDoorEv4g
set_option linter.unusedVariables false
set_option linter.unusedSimpArgs false
namespace Go.Tw

theorem lost_le {c : Ctx} {L : List B} (hL : RL c L) {b g : Nat} (hg : c.m b = some g) (o : Obj) : c.Le ((c.drop [b]).putMap g o) where
  n := Nat.le_refl _
  X := rfl
  m := fun k _ => by
    show (if [b].contains k = true then none else c.m k) = c.m k ∨ (if [b].contains k = true then none else c.m k) = none
    split <;> simp
  data := fun g' hg' => putMap_other (c.drop [b]) g o (fun e => hg'.2.2 b (by rw [e]; exact hg))
  dis := fun i g' hi hg' => by
    have hi : (c.drop [b]).m i = some g' := hi
    exact hg'.2.2 i (drop_some hi).1
  shape := fun k g' C e _ h1 h2 hC => by
    have h2 : (c.drop [b]).m k = some g' := h2
    have h3 := (drop_some h2).2
    refine ⟨C, (putMap_other (c.drop [b]) g o (fun e => ?_)).trans hC, rfl⟩
    subst e
    have := hL.inj k b g' h1 hg
    subst this
    simp at h3
theorem lost_RL {c : Ctx} {L : List B} (hL : RL c L) {b g : Nat} (hg : c.m b = some g) (o : Obj) : RL ((c.drop [b]).putMap g o) (L.set b .dead) where
  n := by rw [List.length_set]; exact hL.n
  inj := fun i j g' hi hj => hL.inj i j g' (drop_some (c := c) (l := [b]) hi).1 (drop_some (c := c) (l := [b]) hj).1
  lt := fun i g' hi => by
    have := hL.lt i g' (drop_some (c := c) (l := [b]) hi).1
    exact ⟨by show g' < (c.w.heap.setIfInBounds g o).size; rw [Array.size_setIfInBounds]; exact this.1, this.2⟩
  live := fun i x hi hx => by
    rw [List.getElem?_set] at hi
    split at hi
    · split at hi
      · injection hi with hi; exact absurd hi.symm hx
      · cases hi
    · rename_i hne
      obtain ⟨g', hg', hr⟩ := hL.live i x hi hx
      have hgg : g' ≠ g := fun e => hne (hL.inj b i g hg (by rw [← e]; exact hg'))
      refine ⟨g', ?_, hr.mono (lost_le hL hg o) (putMap_other (c.drop [b]) g o hgg)⟩
      show (if [b].contains i = true then none else c.m i) = some g'
      rw [if_neg (by simp; exact fun e => hne e.symm)]
      exact hg'
  dead := fun i hi => by
    show (if [b].contains i = true then none else c.m i) = none
    split
    · rfl
    · rename_i hn
      rw [List.getElem?_set, if_neg (fun e => hn (by simp [e]))] at hi
      exact hL.dead i hi
  nx := fun i g' hi => hL.nx i g' (drop_some (c := c) (l := [b]) hi).1
theorem lost_since {c0 c : Ctx} (hS : Since c0 c) {b g : Nat} (hg : c.m b = some g) (o : Obj) : Since c0 ((c.drop [b]).putMap g o) where
  os := hS.os
  tape := hS.tape
  output := hS.output
  size := by show _ ≤ (c.w.heap.setIfInBounds g o).size; rw [Array.size_setIfInBounds]; exact hS.size
  stay := fun g' hg' hm => by
    refine (putMap_other (c.drop [b]) g o (fun e => ?_)).trans (hS.stay g' hg' hm)
    rcases hS.own b g hg with ⟨j, hj⟩ | hge
    · exact hm j (by rw [e]; exact hj)
    · omega
  X := hS.X
  own := fun i g' hi => hS.own i g' (drop_some (c := c) (l := [b]) hi).1
  lt := hS.lt

theorem markC_sound {P : Program} {c0 c : Ctx} {L L' : List B} (hL : RL c L) (hS : Since c0 c) {src dst : TypeId} {x v : V} {u : Value} (hx : R c x u) (h : markC P L src dst x = some (v, L')) :
    ∃ u' c', (convert src dst u).run P c.w = .ok u' c'.w ∧ Next' c0 c v L' u' c' := by
  unfold markC at h
  split at h
  case h_2 => cases h
  rename_i e sz b n hs
  split at h
  case h_2 => cases h
  rename_i e' cs he hb
  split at h
  case isFalse => cases h
  rename_i hc
  obtain ⟨rfl, rfl, hn⟩ := hc
  split at h
  case h_2 => cases h
  rename_i ds hds
  injection h with h
  injection h with h1 h2
  subst h1; subst h2
  obtain ⟨g, hg, hbb⟩ := hL.live b _ hb (by simp)
  cases hx with
  | row ho hk hr =>
    obtain ⟨A, cap, e2, C, rfl, hC, hcap, hCs, hml, hA⟩ := hr g hg
    obtain rfl := hA (.inl rfl)
    cases hbb with
    | cells C2 hC2 hl2 ho2 hR =>
      rw [hC] at hC2
      injection hC2 with hC2
      injection hC2 with hC2 he2 _
      subst hC2
      have hle := lost_le hL hg (.cells C e2 (C.size, C.size + 1))
      have hlt := (hL.lt _ _ hg).1
      obtain ⟨hdl, hdat⟩ := closeAll_sound hds
      have hdn : ds.length = n := by rw [hdl, List.length_take]; omega
      refine ⟨.slice (some ⟨g, 0 * 1, none⟩) n cap, (c.drop [b]).putMap g (.cells C e2 (C.size, C.size + 1)), ?_, hle, lost_RL hL hg _, lost_since hS hg _, .d ?_⟩
      · have hfr : c.w.freeze ⟨g, C.size, none⟩ 1 = ((c.drop [b]).putMap g (.cells C e2 (C.size, C.size + 1))).w := by
          simp only [World.freeze, Ctx.putMap, Ctx.drop]
          rw [if_neg (by omega)]
          congr 1
          apply Array.ext_getElem?
          intro i
          rw [Array.getElem?_modify, Array.getElem?_setIfInBounds]
          split
          · rename_i e
            subst e
            have hCg := (Array.getElem?_eq_some_iff.1 hC).2
            simp [hlt, hCg]
          · rfl
        simp only [convert, Sem.run_bind, run_underlying hs, Result.andThen_ok]
        simp [run_underlying hs, run_underlying he, markStringish, shape, freeze, Sem.run, World.shape?, hC, hfr]
      · have hsl := K.sl (w := ((c.drop [b]).putMap g (.cells C e2 (C.size, C.size + 1))).w) (ok := ((c.drop [b]).putMap g (.cells C e2 (C.size, C.size + 1))).ok) (ds.map fun d => [d]) 1 (some ⟨g, 0 * 1, none⟩) cap (fun j i => (C[j]?).getD undef) (by rw [List.length_map]; omega) (by omega) (fun hp => ⟨_, rfl, ⟨by show g < (c.w.heap.setIfInBounds g _).size; rw [Array.size_setIfInBounds]; exact hlt, hL.nx b g hg, fun i hi => ?_⟩, rfl, fun j x hj => ?_⟩) (fun j x i d hj hi => ?_)
        · rw [List.length_map, hdn] at hsl
          exact hsl
        · have hi : (c.drop [b]).m i = some g := hi
          have h1 := drop_some hi
          have := hL.inj i b g h1.1 hg
          subst this
          simp at h1
        · rw [List.getElem?_map, Option.map_eq_some_iff] at hj
          obtain ⟨d, hd, rfl⟩ := hj
          refine ⟨rfl, fun i d' hi => ?_⟩
          have hjl : j < n := by have := (List.getElem?_eq_some_iff.1 hd).1; omega
          have hjC : j < C.size := by omega
          have hi0 : i = 0 := by
            have := (List.getElem?_eq_some_iff.1 hi).1
            simp at this
            exact this
          subst hi0
          simp only [World.cell?, putMap_at (c.drop [b]) _ hlt]
          simp [Array.getElem?_eq_getElem hjC]
        · rw [List.getElem?_map, Option.map_eq_some_iff] at hj
          obtain ⟨d0, hd, rfl⟩ := hj
          have hi0 : i = 0 := by
            have := (List.getElem?_eq_some_iff.1 hi).1
            simp at this
            exact this
          subst hi0
          simp at hi
          subst hi
          have hjl : j < n := by have := (List.getElem?_eq_some_iff.1 hd).1; omega
          have hjC : j < C.size := by omega
          obtain ⟨v, hv, hcl⟩ := hdat j d0 hd
          rw [List.getElem?_take, if_pos hjl] at hv
          rw [Array.getElem?_eq_getElem hjC]
          exact hle.kd (close0_sound hcl (hR j v _ hv (Array.getElem?_eq_getElem hjC)))

theorem callC_sound {E : Env} {c0 c : Ctx} {L : List B} (hL : RL c L) (hS : Since c0 c) {f : FuncId} {args : List V} {us : Array Value} (hlen : args.length = us.size) (hargs : ∀ (i : Nat) v u, args[i]? = some v → us[i]? = some u → R c v u)
    {k p : V → List B → Res} {r : End × List B} (hspec : SpecOK E.P f (E.call f)) (h : callC E L f args k p = some r) {nextv : Value → World → Prop} {nextp : List PanicEntry → World → Prop} {O : World → Prop}
    (hk : ∀ v L' u c', k v L' = some r → Next' c0 c v L' u c' → nextv u c'.w)
    (hp : ∀ v L' u c', p v L' = some r → Next' c0 c v L' u c' → nextp [{ v := u, recovered := false }] c'.w) :
    (∀ us w, (callFunc f us).run E.P w = .ok (.enter f us) w) ∧ Calls E.P f us c.w (callPost nextv nextp O) := by
  unfold callC at h
  simp only at h
  generalize hio0 : reach L 9 (addNew (args.flatMap refs1) []) = io at h
  cases hd : noDup io with
  | false => rw [hd] at h; cases h
  | true =>
  rw [hd] at h
  simp only [Bool.not_true, cond_false] at h
  split at h
  case h_2 => cases h
  rename_i args2 bs hargs2 hbs
  obtain ⟨e, bs', h2, henter, hcalls⟩ := hspec args2 bs _ r h
  clear h
  have h := h2
  clear h2
  refine ⟨henter, ?_⟩
  have hX : ∀ g, c.X g → g < c.w.heap.size := fun g hg => Nat.lt_of_lt_of_le (hS.lt g (by exact hg)) hS.size
  have hli : ([] : List Nat).all (fun k => !io.contains k) = true := rfl
  have hTi := into_TR hL [] io
  obtain ⟨b1, b2⟩ := renArgs_sound hTi hargs2
  have hio : ∀ (i : Nat) k, io[i]? = some k → k < c.n := by
    intro i k hi
    obtain ⟨ps, hps, _⟩ := Option.bind_eq_some_iff.1 hbs
    obtain ⟨p1, p2⟩ := pick_at hps
    have hlt : i < ps.length := by rw [p1]; exact (List.getElem?_eq_some_iff.1 hi).1
    obtain ⟨k', hk', hL'⟩ := p2 i _ (List.getElem?_eq_getElem hlt)
    rw [hi] at hk'
    injection hk' with hk'
    subst hk'
    rw [hL.n]
    exact (List.getElem?_eq_some_iff.1 hL').1
  have hce := into_RL hL hd hli hbs
  refine (hcalls (c.into [] io) us rfl hce (by omega) (fun i v u hv hu => ?_) (fun g hg => ?_)).mono ?_
  · have hi : i < args.length := by have := (List.getElem?_eq_some_iff.1 hv).1; omega
    exact b2 i v u _ hv (List.getElem?_eq_getElem hi) ((hargs i _ u (List.getElem?_eq_getElem hi) hu).mono (drop_le c []))
  · rcases hg with hg | ⟨k, hk, _⟩
    · exact hX g hg
    · exact (hL.lt k g (drop_some hk).1).1
  rintro en w' ⟨c', rfl, hRE, hL', hS', hle'⟩
  have hn' : io.length ≤ bs'.length := by rw [← hL'.n]; exact hle'.n
  obtain ⟨u, hru, hen⟩ : ∃ u, R c' (endV e) u ∧ ((goE e k p = k ∧ en = .returned u) ∨ (goE e k p = p ∧ en = .panicked [{ v := u, recovered := false }])) := by
    cases hRE with
    | ret hrr => exact ⟨_, hrr, .inl ⟨rfl, rfl⟩⟩
    | panic hrr => exact ⟨_, hrr, .inr ⟨rfl, rfl⟩⟩
  have fin : ∀ v' L1 c1, goE e k p v' L1 = some r → Next' c0 c v' L1 u c1 → c1.w = c'.w →
      callPost nextv nextp O en c'.w := by
    intro v' L1 c1 h1 h2 h3
    rcases hen with ⟨e1, rfl⟩ | ⟨e1, rfl⟩
    · rw [e1] at h1; have := hk v' L1 u c1 h1 h2; rw [h3] at this; exact this
    · rw [e1] at h1; have := hp v' L1 u c1 h1 h2; rw [h3] at this; exact this
  split at h
  case h_2 => cases h
  rename_i v' bs1 hv' hbs1
  have hT := back_TR hL hd hio hS' (bs'.length - io.length) (f := fun i => if i < io.length then io[i]? else if i < bs'.length then some (L.length + (i - io.length)) else none) (fun i k h => by
    split at h
    · exact .inl h
    · split at h
      · injection h with h; right; rw [hL.n]; omega
      · cases h)
  have hrv := ren2_sound hT hru hv'
  have hlx := back_le (lx := []) hL hli hS' hle' (bs'.length - io.length)
  have hRL := back_RL (lx := []) hL hX hd hio hli hS' hle' hL' (new := bs'.length - io.length) (fun _ => hT) (bs1 := bs1) (by rw [List.take_of_length_le (by omega)]; exact hbs1) (by omega)
  exact fin v' _ _ h ⟨hlx, by simpa [kill] using hRL, hS.trans (back_since hL hX hS' _), hrv⟩ rfl
end Go.Tw
