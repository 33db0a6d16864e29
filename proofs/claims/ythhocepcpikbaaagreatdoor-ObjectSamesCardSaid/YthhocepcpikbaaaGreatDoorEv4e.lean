/- The abstract run is sound: rows of cells (any values in them). -/
import Derived.Test.YthhocepcpikbaaaGreatDoorEv4d
set_option linter.unusedVariables false
set_option linter.unusedSimpArgs false
namespace Go.Tw

theorem pureRun_sound {P : Program} {α : Type} : ∀ {s : Sem α} {a : α}, pureRun P s = some a → ∀ w, s.run P w = .ok a w
  | .pure a, b, h, w => by injection h with h; subst h; rfl
  | .program k, b, h, w => pureRun_sound (s := k P) h w
  | .mark m k, b, h, w => pureRun_sound (s := k) h w
  | .load .., _, h, _ | .store .., _, h, _ | .new .., _, h, _ | .shape .., _, h, _ | .freeze .., _, h, _ | .frozen .., _, h, _ | .getObj .., _, h, _ | .setObj .., _, h, _ | .choose .., _, h, _ | .sys .., _, h, _ | .halt .., _, h, _ => by cases h

theorem val0_sound {c : Ctx} {v : V} {u x : Value} (hr : R c v u) (h : val0 v = some x) : u = x := by
  unfold val0 at h
  split at h
  · injection h with h; rw [← h]; exact hr.bool
  · injection h with h; rw [← h]; exact hr.int
  · injection h with h; rw [← h]; exact hr.str
  · cases h
theorem val0s_sound : ∀ {cs : List V} {l : List Value}, val0s cs = some l → l.length = cs.length ∧ ∀ (i : Nat) v, cs[i]? = some v → ∃ x, l[i]? = some x ∧ val0 v = some x
  | [], l, h => by injection h with h; subst h; exact ⟨rfl, fun i v hv => by simp at hv⟩
  | v :: vs, l, h => by
    unfold val0s at h
    split at h
    case h_2 => cases h
    rename_i x hx
    split at h
    case h_2 => cases h
    rename_i xs hxs
    injection h with h
    subst h
    obtain ⟨h1, h2⟩ := val0s_sound hxs
    refine ⟨by simp [h1], fun i w hw => ?_⟩
    cases i with
    | zero => simp at hw; subst hw; exact ⟨x, rfl, hx⟩
    | succ i => exact h2 i w (by simpa using hw)
theorem valV_sound {c : Ctx} {v : V} {u x : Value} (hr : R c v u) (h : valV v = some x) : u = x := by
  unfold valV at h
  split at h
  · rename_i cs
    split at h
    case h_2 => cases h
    rename_i l hl
    injection h with h
    subst h
    obtain ⟨h1, h2⟩ := val0s_sound hl
    cases hr with
    | agg hl hR =>
      rename_i us
      congr 1
      apply Array.ext_getElem?
      intro i
      rcases Nat.lt_or_ge i us.size with hi | hi
      · obtain ⟨x, hx, hv⟩ := h2 i _ (List.getElem?_eq_getElem (show i < cs.length by omega))
        rw [Array.getElem?_eq_getElem hi, List.getElem?_toArray, hx]
        exact congrArg some (val0_sound (hR i _ _ (List.getElem?_eq_getElem (show i < cs.length by omega)) (Array.getElem?_eq_getElem hi)) hv)
      · rw [Array.getElem?_eq_none hi, List.getElem?_toArray, List.getElem?_eq_none (by omega)]
  · exact val0_sound hr h

/-- Cells, side by side. -/
structure LaidV (c : Ctx) (n : Nat) (vs : List V) (us : List Value) : Prop where
  v : vs.length = n
  u : us.length = n
  at_ : ∀ (i : Nat) v u, vs[i]? = some v → us[i]? = some u → R c v u
  one : ∀ u ∈ us, u.oneCell' = true

theorem LaidV.append {c : Ctx} {n m : Nat} {vs ws : List V} {us xs : List Value} (h : LaidV c n vs us) (k : LaidV c m ws xs) : LaidV c (n + m) (vs ++ ws) (us ++ xs) where
  v := by simp [h.v, k.v]
  u := by simp [h.u, k.u]
  at_ := fun i v u hv hu => by
    by_cases hi : i < n
    · rw [List.getElem?_append_left (by rw [h.v]; exact hi)] at hv
      rw [List.getElem?_append_left (by rw [h.u]; exact hi)] at hu
      exact h.at_ i v u hv hu
    · rw [List.getElem?_append_right (by rw [h.v]; omega), h.v] at hv
      rw [List.getElem?_append_right (by rw [h.u]; omega), h.u] at hu
      exact k.at_ _ v u hv hu
  one := fun u hu => by
    rcases List.mem_append.1 hu with hu | hu
    · exact h.one u hu
    · exact k.one u hu

/-- The cells of a block, from a place on. -/
theorem LaidV.ofBlock {c : Ctx} {cs : List V} {C : Array Value} (hl : cs.length ≤ C.size) (ho : ∀ u ∈ C.toList, u.oneCell' = true) (hR : ∀ (i : Nat) x u, cs[i]? = some x → C[i]? = some u → R c x u) {o n : Nat} (h : o + n ≤ cs.length) :
    LaidV c n ((cs.drop o).take n) ((C.toList.drop o).take n) where
  v := by simp; omega
  u := by simp; omega
  at_ := fun i v u hv hu => by
    rw [List.getElem?_take] at hv hu
    split at hv
    · rename_i hi
      rw [if_pos hi] at hu
      rw [List.getElem?_drop] at hv hu
      rw [Array.getElem?_toList] at hu
      exact hR _ v u hv hu
    · cases hv
  one := fun u hu => ho u (List.mem_of_mem_drop (List.mem_of_mem_take hu))

/-- A new block of cells, and a slice over its front. -/
theorem cells_new {c0 c : Ctx} {L : List B} (hL : RL c L) (hS : Since c0 c) {e : TypeId} {sz cap n : Nat} {vs : List V} {C : Array Value} (hl : vs.length ≤ C.size) (hn : n ≤ cap) (hcap : cap * sz = C.size) (hm : cap ≤ maxLen) (ho : ∀ u ∈ C.toList, u.oneCell' = true)
    (hR : ∀ (i : Nat) x u, vs[i]? = some x → C[i]? = some u → R c x u) :
    Next' c0 c (.row sz L.length 0 n) (L ++ [.cells e vs]) (.slice (some ⟨c.w.heap.size, 0, none⟩) n cap) (c.push (.cells C e)) := by
  have hle := push_le hL (.cells C e)
  refine ⟨hle, push_RL hL (fun g hg => Nat.lt_of_lt_of_le (hS.lt g hg) hS.size) _ (.cells C (heap_alloc_at _ _) hl ho (fun i x u hx hu => (hR i x u hx hu).mono hle)) (by simp), push_since hS _, ?_⟩
  refine .row rfl (by simp only [Ctx.push]; rw [hL.n]; omega) (fun g hg => ?_)
  simp only [Ctx.push] at hg
  rw [if_pos hL.n.symm] at hg
  injection hg with hg
  subst hg
  exact ⟨_, cap, e, C, rfl, heap_alloc_at _ _, hn, by rw [Nat.zero_add]; exact hcap, by omega, fun _ => by simp⟩

theorem flatten_two {α : Type} {s : Nat} : ∀ (xs : List (List α)), (∀ x ∈ xs, x.length = s) → ∀ (q : Nat) d, xs.flatten[q]? = some d → 0 < s → ∃ x, xs[q / s]? = some x ∧ x[q % s]? = some d
  | [], _, q, d, h, _ => by simp at h
  | x :: xs, hx, q, d, h, h0 => by
    have hxl := hx x List.mem_cons_self
    rw [List.flatten_cons] at h
    by_cases hq : q < s
    · rw [List.getElem?_append_left (by omega)] at h
      exact ⟨x, by rw [Nat.div_eq_of_lt hq]; rfl, by rw [Nat.mod_eq_of_lt hq]; exact h⟩
    · rw [List.getElem?_append_right (by omega), hxl] at h
      obtain ⟨y, h1, h2⟩ := flatten_two xs (fun x hx' => hx x (List.mem_cons_of_mem _ hx')) (q - s) d h h0
      refine ⟨y, ?_, ?_⟩
      · rw [Nat.div_eq_sub_div h0 (by omega)]; exact h1
      · rw [Nat.mod_eq_sub_mod (by omega)]; exact h2
theorem flatten_len {α : Type} {s : Nat} : ∀ (xs : List (List α)), (∀ x ∈ xs, x.length = s) → xs.flatten.length = xs.length * s
  | [], _ => by simp
  | x :: xs, hx => by
    rw [List.flatten_cons, List.length_append, flatten_len xs (fun x h => hx x (List.mem_cons_of_mem _ h)), hx x List.mem_cons_self, List.length_cons, Nat.succ_mul]
    omega

theorem rowC_sound {P : Program} {c : Ctx} {L : List B} (hL : RL c L) {t e : TypeId} (hu : P.underlying t = some (.slice e)) {s : Nat} {x : V} {u : Value} (hx : R c x u) {m : Nat} {ys : List V} (h : rowC L s x = some (m, ys)) :
    ∃ news, Src P s t u m news c.w ∧ LaidV c (m * s) ys news ∧ ∃ A cap, u = .slice A m cap := by
  unfold rowC at h
  split at h
  · injection h with h
    injection h with h1 h2
    subst h1; subst h2
    cases hx
    exact ⟨[], Src.ofNil c.w hu 0, ⟨by simp, by simp, fun i v u hv => by simp at hv, by simp⟩, _, _, rfl⟩
  · rename_i sz b a n
    split at h
    case h_2 => cases h
    rename_i e' cs hb
    split at h
    case isFalse => cases h
    rename_i hc
    obtain ⟨rfl, hfit, hpos⟩ := hc
    injection h with h
    injection h with h1 h2
    subst h1; subst h2
    obtain ⟨g, hg, hbb⟩ := hL.live b _ hb (by simp)
    cases hx with
    | row ho hk hrow =>
      obtain ⟨A, cap, e2, C, rfl, hC, hcap, hCs, hml, hA⟩ := hrow g hg
      cases hbb with
      | cells C2 hC2 hl2 ho2 hR =>
        rw [hC] at hC2
        injection hC2 with hC2
        injection hC2 with hC2 _
        subst hC2
        have hla := LaidV.ofBlock hl2 ho2 hR (o := a * sz) (n := n * sz) (by rw [← Nat.add_mul]; exact hfit)
        refine ⟨_, ?_, hla, _, _, rfl⟩
        rw [hA hpos]
        refine Src.ofSlice c.w hu _ n cap _ hla.u (fun j v hj => ?_) hla.one
        rw [List.getElem?_take] at hj
        split at hj
        case isFalse => cases hj
        rw [List.getElem?_drop, Array.getElem?_toList] at hj
        rw [add_plain']
        simp only [World.cell?, hC]
        rw [hj]
        rfl
  · rename_i xs
    cases hb : (xs.all (fun x => x.length == s) && Nat.blt 0 s) with
    | false => rw [hb] at h; cases h
    | true =>
    rw [hb] at h
    simp only [cond_true, Option.some.injEq, Prod.mk.injEq] at h
    obtain ⟨rfl, rfl⟩ := h
    rw [Bool.and_eq_true] at hb
    have h0 : 0 < s := by have := hb.2; rw [Nat.blt_eq] at this; exact this
    have hall : ∀ x ∈ xs, x.length = s := fun x hx => by simpa using List.all_eq_true.1 hb.1 x hx
    have hok : okSz s xs = true := by
      cases xs with
      | nil => rfl
      | cons x xs => simp [okSz, hall x List.mem_cons_self]
    have hsh : ∃ A n cap, u = .slice A n cap ∧ n = xs.length := by
      cases hx with
      | d hx => cases hx; exact ⟨_, _, _, rfl, rfl⟩
    obtain ⟨A, n, cap, rfl, rfl⟩ := hsh
    obtain ⟨zs, news, h1, hsrc, hlaid⟩ := src_sound (P := P) (f := fun ys => some (.ret (.d (.sl ys)), [])) (r := (.ret (.d (.sl xs)), [])) hL h0 hx (t := t) (by unfold srcK; rw [hu]; simp only [hok, cond_true])
    obtain rfl : zs = xs := by
      injection h1 with h1
      injection h1 with h1 _
      injection h1 with h1
      injection h1 with h1
      injection h1 with h1
    refine ⟨news, hsrc, ⟨by rw [List.length_map, flatten_len _ hall], hlaid.n, fun q v y hv hy => ?_, hlaid.one h0⟩, A, cap, rfl⟩
    rw [List.getElem?_map, Option.map_eq_some_iff] at hv
    obtain ⟨d, hd, rfl⟩ := hv
    obtain ⟨x, hx1, hx2⟩ := flatten_two _ hall q d hd h0
    obtain ⟨y', hy', hk⟩ := hlaid.at_ _ x _ d hx1 hx2
    rw [show q / s * s + q % s = q by rw [Nat.mul_comm]; exact Nat.div_add_mod q s, hy] at hy'
    injection hy' with hy'
    subst hy'
    exact .d hk
  · cases h

theorem srcC_sound {P : Program} {c : Ctx} {L : List B} (hL : RL c L) {t : TypeId} {s : Nat} {x : V} {u : Value} (hx : R c x u) {m : Nat} {ys : List V} (h : srcC P L t s x = some (m, ys)) :
    ∃ news, Src P s t u m news c.w ∧ LaidV c (m * s) ys news := by
  unfold srcC at h
  split at h
  · rename_i b hu
    split at h
    case isFalse => cases h
    rename_i hs
    subst hs
    injection h with h
    injection h with h1 h2
    subst h1; subst h2
    rw [hx.str]
    refine ⟨_, Src.ofString c.w hu b, by simp, by rw [byteCells_length]; simp, fun i v u hv hu => ?_, fun u hu => ?_⟩
    · simp only [byteCells, List.getElem?_map, Option.map_eq_some_iff] at hv hu
      obtain ⟨y, hy, rfl⟩ := hv
      obtain ⟨z, hz, rfl⟩ := hu
      rw [hy] at hz
      injection hz with hz
      subst hz
      exact .d (.i _ _)
    · simp only [byteCells, List.mem_map] at hu
      obtain ⟨y, _, rfl⟩ := hu
      rfl
  · rename_i e x' hu
    obtain ⟨news, h1, h2, _⟩ := rowC_sound (P := P) hL hu hx h
    exact ⟨news, h1, h2⟩
  · cases h

theorem appendC_sound {P : Program} {c0 c : Ctx} {L : List B} (hL : RL c L) (hS : Since c0 c) {t tx ty : TypeId} {s x : V} {s' x' : Value} {v : V} {L' : List B} (hs : R c s s') (hx : R c x x') (h : appendC P L t tx s x = some (v, L')) :
    ∃ u c', (Builtin.append_ #[t, tx] ty #[s', x']).run P c.w = .ok u c'.w ∧ Next' c0 c v L' u c' := by
  unfold appendC at h
  split at h
  case h_2 => cases h
  rename_i e hu
  split at h
  case h_2 => cases h
  rename_i size bytes hg
  obtain ⟨i, z, hi, hz, hsz, hby, hb0, h0, hzs, hz1, hza⟩ := growOK_some hg
  subst hsz
  subst hby
  split at h
  case h_2 => cases h
  rename_i m ys hsrcv
  obtain ⟨news, hsrc, hlaid⟩ := srcC_sound (P := P) hL hx hsrcv
  -- a grown block
  have grown : ∀ (old : List Value) (olds : List V) (n cap : Nat), LaidV c (n * i.size) olds old → n + m ≤ cap → cap ≤ maxLen →
      Next' c0 c (.row i.size L.length 0 (n + m)) (L ++ [.cells e (olds ++ ys)]) (.slice (some ⟨c.w.heap.size, 0, none⟩) (n + m) cap) ((c.with c.w.drew).push (.cells ((old ++ news).toArray ++ Builtin.zeroCells z.cells (cap - (n + m))) e)) := by
    intro old olds n cap hold hcap hcm
    have ha := drew_alike c.w
    have hall := hold.append hlaid
    have := cells_new (c0 := c0) (with_RL ha hL) (with_since ha hS) (e := e) (sz := i.size) (cap := cap) (n := n + m) (vs := olds ++ ys) (C := (old ++ news).toArray ++ Builtin.zeroCells z.cells (cap - (n + m))) (by
        rw [Array.size_append, List.size_toArray, hall.v, hall.u]; omega) hcap (by
        rw [Array.size_append, zeroCells_size, hzs, List.size_toArray, hall.u, ← Nat.add_mul, ← Nat.add_mul]; congr 1; omega) hcm (by
        intro u hu
        rw [Array.toList_append] at hu
        rcases List.mem_append.1 hu with hu | hu
        · exact hall.one u (by simpa using hu)
        · exact zeroCells_one hz1 _ u hu) (by
        intro j x u hx hu
        have hlt := (List.getElem?_eq_some_iff.1 hx).1
        rw [hall.v] at hlt
        rw [Array.getElem?_append_left (by rw [List.size_toArray, hall.u]; exact hlt), List.getElem?_toArray] at hu
        exact (hall.at_ j x u hx hu).mono (with_le ha))
    exact ⟨(with_le ha).trans this.le, this.L, this.since, this.v⟩
  split at h
  · cases hs
    cases hm0 : Nat.beq m 0 with
    | true =>
      rw [hm0] at h
      simp only [cond_true, Option.some.injEq, Prod.mk.injEq] at h
      obtain ⟨rfl, rfl⟩ := h
      obtain rfl := Nat.eq_of_beq_eq_true hm0
      obtain rfl : news = [] := List.eq_nil_of_length_eq_zero (by rw [hlaid.u]; simp)
      exact ⟨_, c, run_append_nothing c.w t tx ty e i hu hi none 0 0 (Nat.le_refl _) x' hsrc, Next'.same hL hS .nilsl⟩
    | false =>
      rw [hm0] at h
      simp only [cond_false] at h
      split at h
      case isFalse => cases h
      rename_i hfit
      injection h with h
      injection h with h1 h2
      subst h1; subst h2
      have hmp : 0 < m := by
        rcases Nat.eq_zero_or_pos m with h | h
        · subst h; cases hm0
        · exact h
      have hneed : (0 : Nat) < 0 + m := by omega
      have hle : 0 + m ≤ 140737488355328 := by
        have := Nat.le_mul_of_pos_right m hb0
        omega
      have hrun := run_append_grow_src (P := P) c.w t tx ty e i z hu hi hz none 0 0 [] (by simp [Builtin.firstCells]) x' _ news hsrc hneed (by omega) (growslice_fits hneed (by simpa using hfit))
      have hcap := grownCap_ge c.w (0 + m) 0 e
      have hgn := grown [] [] 0 (grownCap c.w (0 + m) 0 e) ⟨by simp, by simp, fun i v u hv => by simp at hv, by simp⟩ hcap (grownCap_le_maxLen _ _ _ _ (by simp only [maxLen]; omega))
      rw [Nat.zero_add] at hrun hgn
      exact ⟨_, _, hrun, hgn⟩
  · rename_i sz b n
    split at h
    case h_2 => cases h
    rename_i e' cs hb
    split at h
    case isFalse => cases h
    rename_i hc
    obtain ⟨rfl, rfl, hfit, hbig⟩ := hc
    injection h with h
    injection h with h1 h2
    subst h1; subst h2
    obtain ⟨g, hgm, hbb⟩ := hL.live b _ hb (by simp)
    have hbl : b < L.length := (List.getElem?_eq_some_iff.1 hb).1
    cases hs with
    | row ho hk hrow =>
      obtain ⟨A, cap, e2, C, rfl, hC, hcap, hCs, hml, hA⟩ := hrow g hgm
      obtain rfl := hA (.inl rfl)
      simp only [Nat.zero_add, Nat.zero_mul] at hCs ⊢
      cases hbb with
      | cells C2 hC2 hl2 ho2 hR =>
        rw [hC] at hC2
        injection hC2 with hC2
        injection hC2 with hC2 he _
        subst hC2
        subst he
        have hncap : n * i.size ≤ C.size := by rw [← hCs]; exact Nat.mul_le_mul_right _ hcap
        have hold := LaidV.ofBlock hl2 ho2 hR (o := 0) (n := n * i.size) (by omega)
        simp only [List.drop_zero] at hold
        have hall := hold.append hlaid
        have hle : n + m ≤ 140737488355328 := by
          have := Nat.le_mul_of_pos_right (n + m) hb0
          omega
        by_cases hroom : n + m ≤ cap
        · have hfit2 : n * i.size + news.length ≤ C.size := by
            rw [hlaid.u, ← Nat.add_mul, ← hCs]
            exact Nat.mul_le_mul_right _ hroom
          have hst := run_storeCells_at (P := P) g (n * i.size) e2 news 0 C c.w hC (by simpa using hfit2) hlaid.one
          simp only [Nat.add_zero] at hst
          have hrun : (Builtin.append_ #[t, tx] ty #[.slice (some ⟨g, 0, none⟩) n cap, x']).run P c.w = .ok (.slice (some ⟨g, 0, none⟩) (n + m) cap) (c.w.setRow g (C.toList.take (n * i.size) ++ news ++ C.toList.drop (n * i.size + news.length)).toArray) := by
            rcases hsrc.kind with ⟨e', hk⟩ | hk <;> simp [Builtin.append_, run_underlying hu, run_underlying hk, sizeOf, typeInfo, hi, hsrc.len, hroom, hsrc.cells, Addr.add_lit, hst]
          have hsize : (C.toList.take (n * i.size) ++ news ++ C.toList.drop (n * i.size + news.length)).toArray.size = C.size := by
            simp; omega
          have hple := put_le hL hgm hC hsize
          have hput : RL (c.put g _) (L.set b (.cells e2 (cs.take (n * i.size) ++ ys))) := put_RL hL hgm hC hsize (.cells _ (setRow_heap c.w g C _ _ _ hC) (by
              rw [hsize, hall.v, ← Nat.add_mul, ← hCs]; exact Nat.mul_le_mul_right _ hroom) (by
              intro u hu
              simp only [List.mem_append] at hu
              rcases hu with (hu | hu) | hu
              · exact ho2 u (List.mem_of_mem_take hu)
              · exact hlaid.one u hu
              · exact ho2 u (List.mem_of_mem_drop hu)) (by
              intro j x u hx hu
              have hlt := (List.getElem?_eq_some_iff.1 hx).1
              rw [hall.v] at hlt
              rw [List.getElem?_toArray, List.getElem?_append_left (by rw [hall.u]; exact hlt)] at hu
              exact (hall.at_ j x u hx hu).mono hple)) (by simp)
          have hgm' : (c.put g (C.toList.take (n * i.size) ++ news ++ C.toList.drop (n * i.size + news.length)).toArray).m b = some g := hgm
          have hmv := move_RL hput hgm' (x := .cells e2 (cs.take (n * i.size) ++ ys)) (by rw [List.getElem?_set]; simp [hbl]) (by simp)
          rw [List.set_set] at hmv
          refine ⟨_, (c.put g _).move b g, hrun, hple.trans (move_le hput hgm'), hmv, move_since (put_since hS hgm _) hgm', ?_⟩
          refine .row rfl (by simp only [Ctx.move, Ctx.put]; rw [hL.n]; omega) (fun g' hg' => ?_)
          have hg' : some g = some g' := by simpa [Ctx.move, Ctx.put, hL.n] using hg'
          injection hg' with hg'
          subst hg'
          exact ⟨_, cap, e2, _, rfl, setRow_heap c.w g C _ _ _ hC, hroom, by rw [hsize, Nat.zero_add]; exact hCs, by omega, fun _ => by simp⟩
        · have hgrow : cap < n + m := by omega
          have holdrun : (Builtin.firstCells i.size n (.slice (some ⟨g, 0, none⟩) n cap)).run P c.w.drew = .ok (C.toList.take (n * i.size)).toArray c.w.drew := run_firstCells_some c.w.drew i.size n ⟨g, 0, none⟩ n cap _ (by simp; omega) (fun j v hj => by
            rw [List.getElem?_take] at hj
            split at hj
            case isFalse => cases hj
            rw [Array.getElem?_toList] at hj
            rw [add_plain']
            simp only [World.cell?, World.drew, hC, Nat.zero_add]
            rw [hj]; rfl)
          have hrun := run_append_grow_src (P := P) c.w t tx ty e2 i z hu hi hz (some ⟨g, 0, none⟩) n cap _ holdrun x' _ news hsrc hgrow (by omega) (growslice_fits hgrow hbig)
          have hcap2 := grownCap_ge c.w (n + m) cap e2
          have hgn := grown (C.toList.take (n * i.size)) (cs.take (n * i.size)) n (grownCap c.w (n + m) cap e2) hold hcap2 (grownCap_le_maxLen _ _ _ _ (by simp only [maxLen]; omega))
          have hLk : kill (L ++ [.cells e2 (cs.take (n * i.size) ++ ys)]) [b] = L.set b .dead ++ [.cells e2 (cs.take (n * i.size) ++ ys)] := by
            rw [drop_one_kill, List.set_append_left _ _ hbl]
          refine ⟨_, Ctx.drop ((c.with c.w.drew).push (.cells ((C.toList.take (n * i.size) ++ news).toArray ++ Builtin.zeroCells z.cells (grownCap c.w (n + m) cap e2 - (n + m))) e2)) [b], hrun, hgn.le.trans (drop_le _ _), ?_, drop_since hgn.since _, hgn.v.mono (drop_le _ _)⟩
          rw [← hLk]
          exact drop_RL hgn.L [b]
  · cases h

theorem copyC_sound {P : Program} {c0 c : Ctx} {L : List B} (hL : RL c L) (hS : Since c0 c) {t tx ty : TypeId} {s x : V} {s' x' : Value} {n0 : Nat} {L' : List B} (hs : R c s s') (hx : R c x x') (h : copyC P L t tx s x = some (n0, L')) :
    ∃ c', (Builtin.copy_ #[t, tx] ty #[s', x']).run P c.w = .ok (.int .i64 n0) c'.w ∧ Next' c0 c (.d (.i .i64 n0)) L' (.int .i64 n0) c' := by
  unfold copyC at h
  split at h
  case h_2 => cases h
  rename_i e hu
  split at h
  case h_2 => cases h
  rename_i size hsize
  split at h
  case h_2 => cases h
  rename_i m ys hsrcv
  obtain ⟨news, hsrc, hlaid⟩ := srcC_sound (P := P) hL hx hsrcv
  split at h
  · cases hs
    cases hm0 : Nat.beq m 0 with
    | false => rw [hm0] at h; cases h
    | true =>
      rw [hm0] at h
      simp only [cond_true, Option.some.injEq, Prod.mk.injEq] at h
      obtain ⟨rfl, rfl⟩ := h
      obtain rfl := Nat.eq_of_beq_eq_true hm0
      have hcl := hsrc.cells
      have hln := hsrc.len c.w
      exact ⟨c, by simp [Builtin.copy_, run_underlying hu, size_sound hsize, hln, hcl, goInt], Next'.same hL hS (.d (.i _ _))⟩
  · rename_i sz b a n
    split at h
    case h_2 => cases h
    rename_i e' cs hb
    split at h
    case isFalse => cases h
    rename_i hc
    obtain ⟨rfl, h0, hfit, hpos, hyn⟩ := hc
    injection h with h
    injection h with h1 h2
    subst h1; subst h2
    obtain ⟨g, hgm, hbb⟩ := hL.live b _ hb (by simp)
    cases hs with
    | row ho hk hrow =>
      obtain ⟨A, cap, e2, C, rfl, hC, hcap, hCs, hml, hA⟩ := hrow g hgm
      cases hbb with
      | cells C2 hC2 hl2 ho2 hR =>
        rw [hC] at hC2
        injection hC2 with hC2
        injection hC2 with hC2 he _
        subst hC2
        subst he
        obtain rfl := hA hpos
        have hmin : Nat.min m n = m := Nat.min_eq_left hyn
        have hfit2 : a * sz + news.length ≤ C.size := by
          rw [hlaid.u, ← Nat.add_mul, ← hCs]
          exact Nat.mul_le_mul_right _ (by omega)
        have hfit3 : a * sz + ys.length ≤ cs.length := by
          rw [hlaid.v, ← Nat.add_mul]
          exact Nat.le_trans (Nat.mul_le_mul_right _ (by omega)) hfit
        have hsz : (C.toList.take (a * sz) ++ news ++ C.toList.drop (a * sz + news.length)).toArray.size = C.size := by simp; omega
        have hst := run_storeCells_at (P := P) g (a * sz) e2 news 0 C c.w hC (by simpa using hfit2) hlaid.one
        simp only [Nat.add_zero] at hst
        have hrun : (Builtin.copy_ #[t, tx] ty #[.slice (some ⟨g, a * sz, none⟩) n cap, x']).run P c.w = .ok (.int .i64 m) (c.w.setRow g (C.toList.take (a * sz) ++ news ++ C.toList.drop (a * sz + news.length)).toArray) := by
          simp [Builtin.copy_, run_underlying hu, size_sound hsize, hsrc.len, hmin, hsrc.cells, hst, goInt]
        have hple := put_le hL hgm hC hsz
        have hal : a * sz ≤ C.size := by omega
        refine ⟨c.put g _, hrun, hple, put_RL hL hgm hC hsz (.cells _ (setRow_heap c.w g C _ _ _ hC) (by rw [over_length, hsz]; exact hl2) (by
            intro u hu
            simp only [List.mem_append] at hu
            rcases hu with (hu | hu) | hu
            · exact ho2 u (List.mem_of_mem_take hu)
            · exact hlaid.one u hu
            · exact ho2 u (List.mem_of_mem_drop hu)) (by
            intro i x u hx hu
            rw [over_at _ _ _ hfit3, hlaid.v] at hx
            rw [List.getElem?_toArray] at hu
            by_cases c1 : i < a * sz
            · rw [if_neg (by omega)] at hx
              rw [List.append_assoc, List.getElem?_append_left (by simp; omega), List.getElem?_take, if_pos c1, Array.getElem?_toList] at hu
              exact (hR i x u hx hu).mono hple
            · by_cases c2 : i < a * sz + news.length
              · rw [if_pos (by rw [hlaid.u] at c2; omega)] at hx
                rw [List.append_assoc, List.getElem?_append_right (by simp; omega), List.getElem?_append_left (by simp; omega)] at hu
                simp only [List.length_take, Array.length_toList, Nat.min_eq_left hal] at hu
                exact (hlaid.at_ _ x u hx hu).mono hple
              · rw [if_neg (by rw [hlaid.u] at c2; omega)] at hx
                rw [List.getElem?_append_right (by simp; omega), List.getElem?_drop] at hu
                simp only [List.length_append, List.length_take, Array.length_toList, Nat.min_eq_left hal, Array.getElem?_toList] at hu
                rw [show a * sz + news.length + (i - (a * sz + news.length)) = i by omega] at hu
                exact (hR i x u hx hu).mono hple)) (by simp), put_since hS hgm _, .d (.i _ _)⟩
  · cases h

theorem makeSliceC_sound {P : Program} {c0 c : Ctx} {L : List B} (hL : RL c L) (hS : Since c0 c) {t : TypeId} {l m : V} {l' m' : Value} {v : V} {L' : List B} (hl : R c l l') (hm : R c m m') (h : makeSliceC P L t l m = some (v, L')) :
    ∃ u c', (Instr.makeSlice t l' m').run P c.w = .ok u c'.w ∧ Next' c0 c v L' u c' := by
  unfold makeSliceC at h
  split at h
  case h_2 => cases h
  rename_i e kl l kc m hu
  rw [hl.int, hm.int]
  split at h
  case h_2 => cases h
  rename_i size bytes zv hg hzv
  obtain ⟨i, z, hi, hz, hsz, hby, hb0, h0, hzl, hz1, hza⟩ := growOK_some hg
  subst hsz
  subst hby
  rw [zeroT_of hi hz] at hzv
  injection hzv with hzv
  subst hzv
  split at h
  case isFalse => cases h
  rename_i hc
  obtain ⟨c1, c2, c3⟩ := hc
  injection h with h
  injection h with h1 h2
  subst h1; subst h2
  have hm0 : (m.toNat : Int) = m := Int.toNat_of_nonneg (by omega)
  have hmb : m.toNat ≤ 281474976710656 := by
    have h2 : ((i.bytes * m.toNat : Nat) : Int) ≤ 281474976710656 := by rw [Int.natCast_mul, hm0]; exact c3
    have h3 := Nat.le_mul_of_pos_left m.toNat hb0
    omega
  have hrun := run_make (P := P) c.w t e i z hu hi hz kl kc l m c1 c2 c3 (by omega)
  have hr := ofConst_sound c z
  have hzc := cells_sound hr hza
  have hzsz : z.cells.size = i.size := hzl
  have hzvl : (cellsV (ofConst z)).length = i.size := by omega
  have hat : ∀ q, q < m.toNat * i.size → (madeCells z.cells (m.toNat * i.size))[q]? = z.cells[q % i.size]? := by
    intro q hq
    have hlt : q % i.size < z.cells.size := by rw [hzsz]; exact Nat.mod_lt _ h0
    simp only [madeCells, Array.getElem?_map, Array.getElem?_range, hq, if_pos, Option.map_some, hzsz]
    rw [Array.getElem?_eq_getElem hlt, getElem!_pos z.cells _ hlt]
  have hfl : ((List.replicate l.toNat (cellsV (ofConst z))).flatten).length = l.toNat * i.size := by simp [hzvl]
  have hn := cells_new (c0 := c0) hL hS (e := e) (sz := i.size) (cap := m.toNat) (n := l.toNat) (vs := (List.replicate l.toNat (cellsV (ofConst z))).flatten) (C := madeCells z.cells (m.toNat * i.size)) (by
      rw [hfl, size_madeCells]; exact Nat.mul_le_mul_right _ (by omega)) (by omega) (by rw [size_madeCells]) (by simp only [maxLen]; omega) (by
      intro u hu
      simp only [madeCells, Array.toList_map, List.mem_map, Array.mem_toList_iff, Array.mem_range] at hu
      obtain ⟨q, hq, rfl⟩ := hu
      have hlt : q % z.cells.size < z.cells.size := by rw [hzsz]; exact Nat.mod_lt _ h0
      rw [getElem!_pos z.cells _ hlt]
      exact hz1 _ (by simp)) (by
      intro q x u hx hu
      have hq : q < l.toNat * i.size := by have := (List.getElem?_eq_some_iff.1 hx).1; rw [hfl] at this; exact this
      have hqm : q < m.toNat * i.size := Nat.lt_of_lt_of_le hq (Nat.mul_le_mul_right _ (by omega))
      rw [hat q hqm] at hu
      rw [flatten_at _ (by omega) l.toNat q (by rw [hzvl]; exact hq), hzvl] at hx
      exact (hzc.2 _ x u hx hu).1)
  exact ⟨_, _, hrun, hn⟩

theorem fillS_length {place : Nat → Option (Nat × Nat)} : ∀ (ps : List (Nat × V)) (xs ys : List V), fillS place xs ps = some ys → ys.length = xs.length := by
  intro ps
  induction ps with
  | nil => intro xs ys he; injection he with he; rw [he]
  | cons p ps ih =>
    intro xs ys he
    obtain ⟨i, v⟩ := p
    unfold fillS at he
    split at he
    · cases he
    · split at he
      · rw [ih _ _ he, over_length]
      · cases he

theorem fill_one {place : Nat → Option (Nat × Nat)} : ∀ (ps : List (Nat × Value)) (C C' : Array Value), Instr.fill place C ps = some C' → (∀ u ∈ C.toList, u.oneCell' = true) → (∀ p ∈ ps, ∀ u ∈ p.2.cells.toList, u.oneCell' = true) → ∀ u ∈ C'.toList, u.oneCell' = true := by
  intro ps
  induction ps with
  | nil => intro C C' h h1 _; injection h with h; subst h; exact h1
  | cons p ps ih =>
    intro C C' h h1 h2
    obtain ⟨i, v⟩ := p
    unfold Instr.fill at h
    split at h
    · cases h
    · rename_i off size _
      split at h
      · cases h
      · refine ih _ _ h (fun u hu => ?_) (fun p hp => h2 p (List.mem_cons_of_mem _ hp))
        have hv := h2 _ List.mem_cons_self
        simp only at hv
        have gen : ∀ (l : List (Value × Nat)) (C : Array Value), (∀ u ∈ C.toList, u.oneCell' = true) → (∀ q ∈ l, q.1.oneCell' = true) → ∀ u ∈ (l.foldl (fun cs (q : Value × Nat) => cs.setIfInBounds (off + q.2) q.1) C).toList, u.oneCell' = true := by
          intro l
          induction l with
          | nil => intro C hC _; exact hC
          | cons q l ih =>
            intro C hC hl
            refine ih _ (fun u hu => ?_) (fun q hq => hl q (List.mem_cons_of_mem _ hq))
            rw [Array.toList_setIfInBounds] at hu
            rcases List.mem_or_eq_of_mem_set hu with hu | hu
            · exact hC u hu
            · rw [hu]; exact hl q List.mem_cons_self
        refine gen v.cells.zipIdx.toList C h1 (fun q hq => ?_) u (by rw [Array.foldl_toList]; exact hu)
        obtain ⟨x, j⟩ := q
        rw [Array.toList_zipIdx] at hq
        have := List.mem_zipIdx hq
        exact hv x (by rw [this.2.2]; exact List.getElem_mem _)

theorem fillS_atoms {place : Nat → Option (Nat × Nat)} : ∀ (ps : List (Nat × V)) (xs ys : List V), fillS place xs ps = some ys → ∀ p ∈ ps, (cellsV p.2).all atom = true := by
  intro ps
  induction ps with
  | nil => intro xs ys _ p hp; cases hp
  | cons p ps ih =>
    intro xs ys he q hq
    obtain ⟨i, v⟩ := p
    unfold fillS at he
    split at he
    · cases he
    · split at he
      · rename_i hc
        rcases List.mem_cons.1 hq with rfl | hq
        · exact hc.2.2
        · exact ih _ _ he q hq
      · cases he

theorem buildSliceC_sound {P : Program} {c0 c : Ctx} {L : List B} (hL : RL c L) (hS : Since c0 c) {t : TypeId} {n : Nat} {parts : Array (Nat × Operand)} {fr : List V} {a : Act} (hF : RF c fr a.tmps) {v : V} {L' : List B}
    (h : buildSliceC P L t n (parts.toList.map fun q => (q.1, evO fr q.2)) = some (v, L')) :
    ∃ u c', (Instr.buildSlice t n (parts.map fun (i, x) => (i, a.eval x))).run P c.w = .ok u c'.w ∧ Next' c0 c v L' u c' := by
  unfold buildSliceC at h
  split at h
  case h_2 => cases h
  rename_i e hu
  split at h
  case h_2 => cases h
  rename_i size z hsz hz
  split at h
  case isFalse => cases h
  rename_i hc
  obtain ⟨h0, hbig, hzl, hza⟩ := hc
  split at h
  case h_2 => cases h
  rename_i cs hcs
  injection h with h
  injection h with h1 h2
  subst h1; subst h2
  obtain ⟨zu, hzu, hzr⟩ := zero_sound hz c c.w
  have hzc := cells_sound hzr hza
  have hzsz : zu.cells.size = size := by omega
  have hone := cells_all hzr hza
  have hinit : ∀ q, q < n * size → ((Array.range (n * size)).map (zu.cells[· % zu.cells.size]!))[q]? = zu.cells[q % size]? := by
    intro q hq
    have hlt : q % size < zu.cells.size := by rw [hzsz]; exact Nat.mod_lt _ h0
    simp only [Array.getElem?_map, Array.getElem?_range, hq, if_pos, Option.map_some, hzsz]
    rw [Array.getElem?_eq_getElem hlt, getElem!_pos zu.cells _ hlt]
  obtain ⟨C', hC', hl, hr⟩ := fill_sound (c := c) (place := fun i => some (i * size, size)) (place' := fun i => some (i * size, size)) (fun _ => rfl) (parts := parts.toList.map fun q => (q.1, evO fr q.2)) (vals := parts.toList.map fun q => (q.1, a.eval q.2)) (by simp) (fun i p q hp hq => by
      simp only [List.getElem?_map, Option.map_eq_some_iff] at hp hq
      obtain ⟨x, hx, rfl⟩ := hp
      obtain ⟨y, hy, rfl⟩ := hq
      rw [hx] at hy
      injection hy with hy
      subst hy
      exact ⟨rfl, evO_sound hF _⟩) (cs := (List.replicate n (cellsV z)).flatten) (C := (Array.range (n * size)).map (zu.cells[· % zu.cells.size]!)) (by simp [hzl]) (fun q x y hx hy => by
      have hq : q < n * size := by have := lt_of_get hy; simpa using this
      rw [hinit q hq] at hy
      rw [flatten_at (cellsV z) (by omega) n q (by rw [hzl]; exact hq), hzl] at hx
      exact (hzc.2 _ x y hx hy).1) hcs
  have hCsz : C'.size = n * size := by
    rw [← hl, fillS_length _ _ _ hcs]
    simp [hzl]
  have hoc : ∀ u ∈ C'.toList, u.oneCell' = true := by
    refine fill_one _ _ _ hC' (fun u hu => ?_) (fun p hp u hu => ?_)
    · simp only [Array.toList_map, List.mem_map, Array.mem_toList_iff, Array.mem_range] at hu
      obtain ⟨q, hq, rfl⟩ := hu
      have hlt : q % zu.cells.size < zu.cells.size := by rw [hzsz]; exact Nat.mod_lt _ h0
      rw [getElem!_pos zu.cells _ hlt]
      exact hone _ (by simp)
    · simp only [List.mem_map] at hp
      obtain ⟨q, hq, rfl⟩ := hp
      have hat := fillS_atoms _ _ _ hcs (q.1, evO fr q.2) (List.mem_map.2 ⟨q, hq, rfl⟩)
      exact cells_all (evO_sound hF q.2) hat u hu
  have hrun : (Instr.buildSlice t n (parts.map fun (i, x) => (i, a.eval x))).run P c.w = .ok (.slice (some ⟨c.w.heap.size, 0, none⟩) n n) (c.w.alloc (.cells C' e)) := by
    have hb' : ¬ (16777216 < n * size) := by omega
    have hparts : (parts.map fun (x : Nat × Operand) => (x.1, a.eval x.2)).toList = parts.toList.map fun q => (q.1, a.eval q.2) := by simp
    by_cases hn0 : n * size = 0
    · have hn : n = 0 := by
        rcases Nat.mul_eq_zero.1 hn0 with h | h
        · exact h
        · omega
      subst hn
      simp only [Instr.buildSlice, Sem.run_bind, run_underlying hu, Result.andThen_ok, size_sound hsz, hparts]
      have e0 : Array.range 0 = #[] := rfl
      simp only [Nat.zero_mul, e0, List.map_toArray, List.map_nil] at hC' ⊢
      simp [e0, hC', newRow]
    · simp only [Instr.buildSlice, Sem.run_bind, run_underlying hu, Result.andThen_ok, size_sound hsz, hparts]
      simp [hb', hn0, hzu, hC', newRow]
  have hn := cells_new (c0 := c0) hL hS (e := e) (sz := size) (cap := n) (n := n) (vs := cs) (C := C') (by omega) (Nat.le_refl _) hCsz.symm (by simp only [maxLen]; have := Nat.le_mul_of_pos_right n h0; omega) hoc hr
  exact ⟨_, _, hrun, hn⟩
end Go.Tw
