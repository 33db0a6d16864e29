/- The abstract run is sound: append, copy, make, slices built of their parts. -/
import Derived.Test.YthhocepcpikbaaaGreatDoorEv4b
set_option linter.unusedVariables false
set_option linter.unusedSimpArgs false
namespace Go.Tw

theorem drop_one_kill (L : List B) (b : Nat) : kill L [b] = L.set b .dead := rfl

theorem append_sound {P : Program} {c0 c : Ctx} {L : List B} (hL : RL c L) (hS : Since c0 c) {t tx ty : TypeId} {s x : V} {s' x' : Value} {k : V → List B → Res} {r : End × List B} (hs : R c s s') (hx : R c x x') (h : appendK P L t tx s x k = some r) :
    ∃ v L' u c', (Builtin.append_ #[t, tx] ty #[s', x']).run P c.w = .ok u c'.w ∧ k v L' = some r ∧ Next' c0 c v L' u c' := by
  unfold appendK at h
  split at h
  case h_2 => cases h
  rename_i e hu
  split at h
  case h_2 => cases h
  rename_i size bytes hg
  obtain ⟨i, z, hi, hz, hsz, hby, hb0, h0, hzs, hz1, hza⟩ := growOK_some hg
  subst hsz
  subst hby
  obtain ⟨ys, news, h1, hsrc, hlaid⟩ := src_sound hL h0 hx h
  clear h
  have h := h1
  clear h1
  split at h
  · cases hs
    split at h
    · obtain rfl : news = [] := List.eq_nil_of_length_eq_zero (by rw [hlaid.n]; simp)
      exact ⟨_, _, _, c, run_append_nothing c.w t tx ty e i hu hi none 0 0 (Nat.le_refl _) x' hsrc, h, Next'.same hL hS .nilsl⟩
    · rename_i y ys
      split at h
      case isFalse => cases h
      rename_i hfit
      have hneed : (0 : Nat) < 0 + (y :: ys).length := by simp
      have hle : 0 + (y :: ys).length ≤ 140737488355328 := by
        have := Nat.le_mul_of_pos_right (ys.length + 1) hb0
        simp only [List.length_cons]; omega
      have hrun := run_append_grow_src (P := P) c.w t tx ty e i z hu hi hz none 0 0 [] (by simp [Builtin.firstCells]) x' _ news hsrc hneed (by omega) (growslice_fits hneed (by simpa using hfit))
      have hcap := grownCap_ge c.w (0 + (y :: ys).length) 0 e
      rw [Nat.zero_add] at hrun hcap hle
      have hgn := grown_new hL hS (e := e) (cap := grownCap c.w (y :: ys).length 0 e) hlaid h0 hzs hz1 (by omega) (grownCap_le_maxLen _ _ _ _ (by simp only [maxLen]; omega))
      exact ⟨_, _, _, _, hrun, h, hgn⟩
  · rename_i sz b n
    split at h
    case h_2 => cases h
    rename_i e' sz' xs hb
    split at h
    case isFalse => cases h
    rename_i hsz
    obtain ⟨rfl, rfl, rfl⟩ := hsz
    split at h
    case isFalse => cases h
    rename_i hc
    obtain ⟨hn, hfit⟩ := hc
    obtain ⟨g, hgm, hbb⟩ := hL.live b _ hb (by simp)
    have hbl : b < L.length := (List.getElem?_eq_some_iff.1 hb).1
    cases hs with
    | row ho hk hrow =>
      obtain ⟨A, cap, e2, C, rfl, hC, hcap, hCs, hml, hA⟩ := hrow g hgm
      obtain rfl := hA (.inl rfl)
      simp only [Nat.zero_add, Nat.zero_mul] at hCs ⊢
      cases hbb with
      | row C2 hC2 hl2 ho2 hxz hR =>
        rw [hC] at hC2
        injection hC2 with hC2
        injection hC2 with hC2 he _
        subst hC2
        subst he
        have hncap : n * i.size ≤ C.size := by rw [← hCs]; exact Nat.mul_le_mul_right _ hcap
        have hold : Laid c i.size (xs.take n) (C.toList.take (n * i.size)) := by
          refine ⟨fun x hx => hxz x (List.mem_of_mem_take hx), ?_, fun j x q d hj hq => ?_⟩
          · simp only [List.length_take, Array.length_toList, Nat.min_eq_left hn, Nat.min_eq_left hncap]
          · rw [List.getElem?_take] at hj
            split at hj
            case isFalse => cases hj
            rename_i hjn
            obtain ⟨y, hy, hk'⟩ := hR j x q d hj hq
            have hql : q < i.size := by have := (List.getElem?_eq_some_iff.1 hq).1; rw [hxz x (List.mem_of_getElem? hj)] at this; exact this
            refine ⟨y, ?_, hk'⟩
            have hlt : j * i.size + q < n * i.size := by have := Nat.mul_le_mul_right i.size hjn; rw [Nat.succ_mul] at this; omega
            rw [List.getElem?_take, if_pos hlt, Array.getElem?_toList]
            exact hy
        have hall := hold.append hlaid
        have hlen : (xs.take n ++ ys).length = n + ys.length := by simp; omega
        have hle : n + ys.length ≤ 140737488355328 := by
          have := Nat.le_mul_of_pos_right (n + ys.length) hb0
          omega
        by_cases hroom : n + ys.length ≤ cap
        · -- there is room
          have hfit2 : n * i.size + news.length ≤ C.size := by
            rw [hlaid.n, ← Nat.add_mul, ← hCs]
            exact Nat.mul_le_mul_right _ hroom
          have hst := run_storeCells_at (P := P) g (n * i.size) e2 news 0 C c.w hC (by simpa using hfit2) (hlaid.one h0)
          simp only [Nat.add_zero] at hst
          have hrun : (Builtin.append_ #[t, tx] ty #[.slice (some ⟨g, 0, none⟩) n cap, x']).run P c.w = .ok (.slice (some ⟨g, 0, none⟩) (n + ys.length) cap) (c.w.setRow g (C.toList.take (n * i.size) ++ news ++ C.toList.drop (n * i.size + news.length)).toArray) := by
            rcases hsrc.kind with ⟨e', hk⟩ | hk <;> simp [Builtin.append_, run_underlying hu, run_underlying hk, sizeOf, typeInfo, hi, hsrc.len, hroom, hsrc.cells, Addr.add_lit, hst]
          have hsize : (C.toList.take (n * i.size) ++ news ++ C.toList.drop (n * i.size + news.length)).toArray.size = C.size := by
            simp; omega
          have hple := put_le hL hgm hC hsize
          have hput : RL (c.put g _) (L.set b (.row e2 i.size (xs.take n ++ ys))) := put_RL hL hgm hC hsize (.row _ (setRow_heap c.w g C _ _ _ hC) (by rw [hsize, hlen, ← hCs]; exact Nat.mul_le_mul_right _ hroom) (by
              intro u hu
              simp only [List.mem_append] at hu
              rcases hu with (hu | hu) | hu
              · exact ho2 u (List.mem_of_mem_take hu)
              · exact hlaid.one h0 u hu
              · exact ho2 u (List.mem_of_mem_drop hu)) hall.sz (by
              intro j x q d hj hq
              obtain ⟨u, hu, hk'⟩ := hall.at_ j x q d hj hq
              refine ⟨u, ?_, hple.kd hk'⟩
              rw [List.getElem?_toArray, List.getElem?_append_left (List.getElem?_eq_some_iff.1 hu).1]
              exact hu)) (by simp)
          have hgm' : (c.put g (C.toList.take (n * i.size) ++ news ++ C.toList.drop (n * i.size + news.length)).toArray).m b = some g := hgm
          have hmv := move_RL hput hgm' (x := .row e2 i.size (xs.take n ++ ys)) (by rw [List.getElem?_set]; simp [hbl]) (by simp)
          rw [List.set_set] at hmv
          refine ⟨_, _, _, (c.put g _).move b g, hrun, h, hple.trans (move_le hput hgm'), hmv, move_since (put_since hS hgm _) hgm', ?_⟩
          refine .row rfl (by simp only [Ctx.move, Ctx.put]; rw [hL.n]; omega) (fun g' hg' => ?_)
          have hg' : some g = some g' := by simpa [Ctx.move, Ctx.put, hL.n] using hg'
          injection hg' with hg'
          subst hg'
          exact ⟨_, cap, e2, _, rfl, setRow_heap c.w g C _ _ _ hC, hroom, by rw [hsize, Nat.zero_add]; exact hCs, by omega, fun _ => by simp⟩
        · have hgrow : cap < n + ys.length := by omega
          have holdrun : (Builtin.firstCells i.size n (.slice (some ⟨g, 0, none⟩) n cap)).run P c.w.drew = .ok (C.toList.take (n * i.size)).toArray c.w.drew := run_firstCells_some c.w.drew i.size n ⟨g, 0, none⟩ n cap _ (by simp; omega) (fun j v hj => by
            rw [List.getElem?_take] at hj
            split at hj
            case isFalse => cases hj
            rw [Array.getElem?_toList] at hj
            rw [add_plain']
            simp only [World.cell?, World.drew, hC, Nat.zero_add]
            rw [hj]; rfl)
          have hrun := run_append_grow_src (P := P) c.w t tx ty e2 i z hu hi hz (some ⟨g, 0, none⟩) n cap _ holdrun x' _ news hsrc hgrow (by omega) (growslice_fits hgrow hfit)
          have hcap2 := grownCap_ge c.w (n + ys.length) cap e2
          have hgn := grown_new hL hS (e := e2) (cap := grownCap c.w (n + ys.length) cap e2) hall h0 hzs hz1 (by omega) (grownCap_le_maxLen _ _ _ _ (by simp only [maxLen]; omega))
          rw [hlen] at hgn
          have hLk : kill (L ++ [.row e2 i.size (xs.take n ++ ys)]) [b] = L.set b .dead ++ [.row e2 i.size (xs.take n ++ ys)] := by
            rw [drop_one_kill, List.set_append_left _ _ hbl]
          refine ⟨_, _, _, Ctx.drop ((c.with c.w.drew).push (.cells ((C.toList.take (n * i.size) ++ news).toArray ++ Builtin.zeroCells z.cells (grownCap c.w (n + ys.length) cap e2 - (n + ys.length))) e2)) [b], hrun, h, hgn.le.trans (drop_le _ _), ?_, drop_since hgn.since _, hgn.v.mono (drop_le _ _)⟩
          rw [← hLk]
          exact drop_RL hgn.L [b]
  · cases h

theorem convert_sound {P : Program} {c : Ctx} {L : List B} (hL : RL c L) {src dst : TypeId} {x : V} {u : Value} {f : V → Res} {r : End × List B} (hx : R c x u) (h : convertK P L src dst x f = some r) :
    ∃ v u', (convert src dst u).run P c.w = .ok u' c.w ∧ R c v u' ∧ f v = some r := by
  unfold convertK at h
  split at h
  · rename_i d k k' n hs hd
    rw [hx.int]
    exact ⟨_, .int k (k.wrap n), by simp [convert, run_underlying hs, run_underlying hd, Conv.intToInt], .d (.i _ _), h⟩
  · rename_i d s hs hd
    rw [hx.str]
    exact ⟨_, .string s, by simp [convert, run_underlying hs, run_underlying hd], .d (.s _), h⟩
  · rename_i e hs hd hneg
    split at h
    case h_2 => cases h
    rename_i he
    have hsl : ∃ A n cap, u = .slice A n cap := by
      have h2 := h
      unfold srcK at h2
      rw [hs] at h2
      split at h2
      · cases hx with
        | d hx => cases hx; exact ⟨_, _, _, rfl⟩
      · cases hx; exact ⟨_, _, _, rfl⟩
      · split at h2
        case h_2 => cases h2
        rename_i hb
        obtain ⟨g, hg, _⟩ := hL.live _ _ hb (by simp)
        cases hx with
        | row ho hk hrow =>
          obtain ⟨A, cap, e2, C, rfl, _⟩ := hrow g hg
          exact ⟨_, _, _, rfl⟩
      · exact absurd rfl (hneg _)
      · cases h2
    obtain ⟨ys, news, h1, hsrc, hlaid⟩ := src_sound hL (by omega) hx h
    clear h
    have h := h1
    clear h1
    cases hb : isBytes ys with
    | false => rw [hb] at h; cases h
    | true =>
    rw [hb] at h
    refine ⟨_, .string (ofBytes ys), ?_, .d (.s _), h⟩
    have hn : news = (ys.map fun x => match x with | [.i .u8 n] => n | _ => 0).map (Value.int .u8) := by
      apply List.ext_getElem? 
      intro q
      simp only [List.getElem?_map]
      rcases Nat.lt_or_ge q ys.length with hq | hq
      · have hy := List.all_eq_true.1 hb _ (List.getElem_mem hq)
        rw [List.getElem?_eq_getElem hq]
        simp only [Option.map_some]
        split at hy
        · rename_i n hyq
          obtain ⟨u, hu, hk⟩ := hlaid.at_ q _ 0 _ (List.getElem?_eq_getElem hq) (by rw [hyq]; rfl)
          rw [Nat.mul_one, Nat.add_zero] at hu
          rw [hu, hyq]
          cases hk
          rfl
        · cases hy
      · rw [List.getElem?_eq_none hq, List.getElem?_eq_none (by rw [hlaid.n]; omega)]
        rfl
    have hun : ∀ A n cap, u = .slice A n cap → ys.length = n := fun A n cap e => by
      subst e
      have := hsrc.len c.w
      simp [Builtin.lenOf] at this
      exact this.symm
    have hfold : ∀ (l : List Int) (s : ByteArray), l.foldl (fun r n => r.push (UInt8.ofNat n.toNat)) s = ⟨s.data ++ (l.map fun n => UInt8.ofNat n.toNat).toArray⟩ := by
      intro l
      induction l with
      | nil => intro s; simp
      | cons n l ih =>
        intro s
        rw [List.foldl_cons, ih]
        simp [ByteArray.push]
    have hof : ofBytes ys = (ys.map fun x => match x with | [.i .u8 n] => n | _ => 0).foldl (fun r n => r.push (UInt8.ofNat n.toNat)) ByteArray.empty := by
      rw [hfold]
      simp only [ofBytes, ByteArray.empty, ByteArray.emptyWithCapacity, List.map_map]
      congr 1
      refine Eq.trans ?_ (Array.empty_append).symm
      congr 1
      apply List.map_congr_left
      intro x hx
      have hy := List.all_eq_true.1 hb x hx
      simp only [Function.comp]
      split at hy
      · rfl
      · cases hy
    have hcells := hsrc.cells
    rw [hn] at hcells
    obtain ⟨A, n, cap, rfl⟩ := hsl
    have hlen : ys.length = n := hun A n cap rfl
    cases A with
    | none =>
      simp only [Builtin.firstCells, Sem.run_pure, Result.ok.injEq, and_true] at hcells
      have h0 : ys = [] := by
        have := congrArg Array.size hcells
        simp at this
        exact List.eq_nil_of_length_eq_zero this.symm
      subst h0
      simp [convert, run_underlying hs, run_underlying hd, run_underlying he, Conv.bytesToString, ofBytes]
      rfl
    | some a =>
      simp only [Builtin.firstCells, Nat.mul_one, hlen] at hcells
      have hr := run_bytesToString (P := P) c.w a n cap _ hcells
      rw [← hof] at hr
      simp [convert, run_underlying hs, run_underlying hd, run_underlying he, hr]
  · cases h

theorem zeroT_of {P : Program} {e : TypeId} {i : TypeInfo} {z : Value} (hi : P.info? e = some i) (hz : i.zero = some z) : zeroT P e = some (ofConst z) := by
  simp [zeroT, hi, hz]

theorem makeSlice_sound {P : Program} {c0 c : Ctx} {L : List B} (hL : RL c L) (hS : Since c0 c) {t : TypeId} {l m : V} {l' m' : Value} {k : V → List B → Res} {r : End × List B} (hl : R c l l') (hm : R c m m') (h : makeSliceK P L t l m k = some r) :
    ∃ v L' u c', (Instr.makeSlice t l' m').run P c.w = .ok u c'.w ∧ k v L' = some r ∧ Next' c0 c v L' u c' := by
  unfold makeSliceK at h
  split at h
  case h_2 => cases h
  rename_i e kl l kc m hu
  rw [hl.int, hm.int]
  split at h
  case h_2 => cases h
  rename_i size bytes zs hg hzs
  obtain ⟨i, z, hi, hz, hsz, hby, hb0, h0, hzl, hz1, hza⟩ := growOK_some hg
  subst hsz
  subst hby
  rw [zeroT_of hi hz] at hzs
  simp only [Option.bind_some] at hzs
  split at h
  case isFalse => cases h
  rename_i hzn
  split at h
  case isFalse => cases h
  rename_i hc
  obtain ⟨c1, c2, c3⟩ := hc
  have hm0 : (m.toNat : Int) = m := Int.toNat_of_nonneg (by omega)
  have hmb : m.toNat ≤ 281474976710656 := by
    have h2 : ((i.bytes * m.toNat : Nat) : Int) ≤ 281474976710656 := by rw [Int.natCast_mul, hm0]; exact c3
    have h3 := Nat.le_mul_of_pos_left m.toNat hb0
    omega
  have hrun := run_make (P := P) c.w t e i z hu hi hz kl kc l m c1 c2 c3 (by omega)
  have hr := ofConst_sound c z
  have hzc := cells_sound hr hza
  obtain ⟨hdl, hdat⟩ := closeAll_sound hzs
  have hzsz : z.cells.size = i.size := hzl
  have hat : ∀ q, q < m.toNat * i.size → (madeCells z.cells (m.toNat * i.size))[q]? = z.cells[q % i.size]? := by
    intro q hq
    have hlt : q % i.size < z.cells.size := by rw [hzsz]; exact Nat.mod_lt _ h0
    simp only [madeCells, Array.getElem?_map, Array.getElem?_range, hq, if_pos, Option.map_some, hzsz]
    rw [Array.getElem?_eq_getElem hlt, getElem!_pos z.cells _ hlt]
  have hn := row_new (c0 := c0) hL hS (e := e) (sz := i.size) (cap := m.toNat) (xs := List.replicate l.toNat zs) (C := madeCells z.cells (m.toNat * i.size)) (by rw [List.length_replicate]; omega) (by rw [size_madeCells]) (by simp only [maxLen]; omega) (by
      intro u hu
      simp only [madeCells, Array.toList_map, List.mem_map, Array.mem_toList_iff, Array.mem_range] at hu
      obtain ⟨q, hq, rfl⟩ := hu
      have hlt : q % z.cells.size < z.cells.size := by rw [hzsz]; exact Nat.mod_lt _ h0
      rw [getElem!_pos z.cells _ hlt]
      exact hz1 _ (by simp)) (by
      intro x hx
      rw [(List.mem_replicate.1 hx).2]; exact hzn) (by
      intro j x q d hj hq
      have hx := (List.mem_replicate.1 (List.mem_of_getElem? hj)).2
      have hjl : j < l.toNat := by have := (List.getElem?_eq_some_iff.1 hj).1; simpa using this
      subst hx
      have hql : q < i.size := by have := (List.getElem?_eq_some_iff.1 hq).1; omega
      obtain ⟨v', hv', hcl⟩ := hdat q d hq
      have hlt : j * i.size + q < m.toNat * i.size := by
        have := Nat.mul_le_mul_right i.size (show j + 1 ≤ m.toNat by omega)
        rw [Nat.succ_mul] at this
        omega
      have hqz : q < z.cells.size := by omega
      refine ⟨z.cells[q], ?_, close0_sound hcl (hzc.2 q v' _ hv' (Array.getElem?_eq_getElem hqz)).1⟩
      rw [hat _ hlt, Nat.mul_comm, Nat.mul_add_mod, Nat.mod_eq_of_lt hql, Array.getElem?_eq_getElem hqz])
  rw [List.length_replicate] at hn
  exact ⟨_, _, _, _, hrun, h, hn⟩

theorem chunk_at {s n : Nat} {ds : List D} {j : Nat} (hj : j < n) : (chunk s n ds)[j]? = some ((ds.drop (j * s)).take s) := by
  simp [chunk, hj]

theorem flatten_at {α : Type} (l : List α) (h0 : 0 < l.length) : ∀ (n q : Nat), q < n * l.length → (List.replicate n l).flatten[q]? = l[q % l.length]?
  | 0, q, h => by simp at h
  | n + 1, q, h => by
    rw [List.replicate_succ, List.flatten_cons]
    by_cases hq : q < l.length
    · rw [List.getElem?_append_left hq, Nat.mod_eq_of_lt hq]
    · rw [List.getElem?_append_right (by omega), flatten_at l h0 n (q - l.length) (by rw [Nat.succ_mul] at h; omega), ← Nat.mod_eq_sub_mod (by omega)]

theorem buildSlice_sound {P : Program} {c0 c : Ctx} {L : List B} (hL : RL c L) (hS : Since c0 c) {t : TypeId} {n : Nat} {parts : Array (Nat × Operand)} {fr : List V} {a : Act} (hF : RF c fr a.tmps) {k : V → List B → Res} {r : End × List B}
    (h : buildSliceK P L t n (parts.toList.map fun q => (q.1, evO fr q.2)) k = some r) :
    ∃ v L' u c', (Instr.buildSlice t n (parts.map fun (i, x) => (i, a.eval x))).run P c.w = .ok u c'.w ∧ k v L' = some r ∧ Next' c0 c v L' u c' := by
  unfold buildSliceK at h
  split at h
  case h_2 => cases h
  rename_i e hu
  split at h
  case h_2 => cases h
  rename_i size z hsz hz
  split at h
  case isFalse => cases h
  rename_i hc
  obtain ⟨h0, hbig, hzl, hza⟩ := hc
  split at h
  case h_2 => cases h
  rename_i cs hcs
  split at h
  case h_2 => cases h
  rename_i ds hds
  obtain ⟨zu, hzu, hzr⟩ := zero_sound hz c c.w
  have hzc := cells_sound hzr hza
  have hzsz : zu.cells.size = size := by omega
  have hone := cells_all hzr hza
  have hinit : ∀ q, q < n * size → ((Array.range (n * size)).map (zu.cells[· % zu.cells.size]!))[q]? = zu.cells[q % size]? := by
    intro q hq
    have hlt : q % size < zu.cells.size := by rw [hzsz]; exact Nat.mod_lt _ h0
    simp only [Array.getElem?_map, Array.getElem?_range, hq, if_pos, Option.map_some, hzsz]
    rw [Array.getElem?_eq_getElem hlt, getElem!_pos zu.cells _ hlt]
  obtain ⟨C', hC', hl, hr⟩ := fill_sound (c := c) (place := fun i => some (i * size, size)) (place' := fun i => some (i * size, size)) (fun _ => rfl) (parts := parts.toList.map fun q => (q.1, evO fr q.2)) (vals := parts.toList.map fun q => (q.1, a.eval q.2)) (by simp) (fun i p q hp hq => by
      simp only [List.getElem?_map, Option.map_eq_some_iff] at hp hq
      obtain ⟨x, hx, rfl⟩ := hp
      obtain ⟨y, hy, rfl⟩ := hq
      rw [hx] at hy
      injection hy with hy
      subst hy
      exact ⟨rfl, evO_sound hF _⟩) (cs := (List.replicate n (cellsV z)).flatten) (C := (Array.range (n * size)).map (zu.cells[· % zu.cells.size]!)) (by simp [hzl]) (fun q x y hx hy => by
      have hq : q < n * size := by have := lt_of_get hy; simpa using this
      rw [hinit q hq] at hy
      rw [flatten_at (cellsV z) (by omega) n q (by rw [hzl]; exact hq), hzl] at hx
      exact (hzc.2 _ x y hx hy).1) hcs
  obtain ⟨hdl, hdat⟩ := closeAll_sound hds
  have hCsz : C'.size = n * size := by
    have h1 : ∀ (ps : List (Nat × V)) (xs ys : List V), fillS (fun i => some (i * size, size)) xs ps = some ys → ys.length = xs.length := by
      intro ps
      induction ps with
      | nil => intro xs ys he; injection he with he; rw [he]
      | cons p ps ih =>
        intro xs ys he
        obtain ⟨i, v⟩ := p
        unfold fillS at he
        simp only at he
        split at he
        · rw [ih _ _ he, over_length]
        · cases he
    rw [← hl, h1 _ _ _ hcs]
    simp [hzl]
  have hCat : ∀ (q : Nat) d, ds[q]? = some d → ∃ u, C'[q]? = some u ∧ K c.w c.ok d u := by
    intro q d hd
    obtain ⟨v, hv, hcl⟩ := hdat q d hd
    have hq : q < C'.size := by have := (List.getElem?_eq_some_iff.1 hv).1; omega
    exact ⟨_, Array.getElem?_eq_getElem hq, close0_sound hcl (hr q v _ hv (Array.getElem?_eq_getElem hq))⟩
  have hdsl : ds.length = n * size := by omega
  have hrun : (Instr.buildSlice t n (parts.map fun (i, x) => (i, a.eval x))).run P c.w = .ok (.slice (some ⟨c.w.heap.size, 0, none⟩) n n) (c.w.alloc (.cells C' e)) := by
    have hb' : ¬ (16777216 < n * size) := by omega
    have hparts : (parts.map fun (x : Nat × Operand) => (x.1, a.eval x.2)).toList = parts.toList.map fun q => (q.1, a.eval q.2) := by simp
    by_cases hn0 : n * size = 0
    · have hn : n = 0 := by
        rcases Nat.mul_eq_zero.1 hn0 with h | h
        · exact h
        · omega
      subst hn
      simp only [Instr.buildSlice, Sem.run_bind, run_underlying hu, Result.andThen_ok, size_sound hsz, hparts]
      have e0 : Array.range 0 = #[] := rfl
      simp only [Nat.zero_mul, e0, List.map_toArray, List.map_nil] at hC' ⊢
      simp [e0, hC', newRow]
    · simp only [Instr.buildSlice, Sem.run_bind, run_underlying hu, Result.andThen_ok, size_sound hsz, hparts]
      simp [hb', hn0, hzu, hC', newRow]
  have hn := row_new (c0 := c0) hL hS (e := e) (sz := size) (cap := n) (xs := chunk size n ds) (C := C') (by simp [chunk]) hCsz.symm (by simp only [maxLen]; have := Nat.le_mul_of_pos_right n h0; omega) (by
      intro u hu
      obtain ⟨q, hq⟩ := List.mem_iff_getElem?.1 hu
      rw [Array.getElem?_toList] at hq
      have hlt := lt_of_get hq
      obtain ⟨u', hu', hk⟩ := hCat q _ (List.getElem?_eq_getElem (show q < ds.length by omega))
      rw [hq] at hu'
      injection hu' with hu'
      subst hu'
      exact K_one hk) (by
      intro x hx
      simp only [chunk, List.mem_map, List.mem_range] at hx
      obtain ⟨j, hj, rfl⟩ := hx
      have := Nat.mul_le_mul_right size (show j + 1 ≤ n by omega)
      rw [Nat.succ_mul] at this
      simp
      omega) (by
      intro j x q d hj hq
      have hjn : j < n := by have := (List.getElem?_eq_some_iff.1 hj).1; simpa [chunk] using this
      rw [chunk_at hjn] at hj
      injection hj with hj
      subst hj
      rw [List.getElem?_take] at hq
      split at hq
      case isFalse => cases hq
      rw [List.getElem?_drop] at hq
      exact hCat _ d hq)
  have hcl : (chunk size n ds).length = n := by simp [chunk]
  rw [hcl] at hn
  exact ⟨_, _, _, _, hrun, h, hn⟩

theorem copy_sound {P : Program} {c0 c : Ctx} {L : List B} (hL : RL c L) (hS : Since c0 c) {t tx ty : TypeId} {s x : V} {s' x' : Value} {k : V → List B → Res} {r : End × List B} (hs : R c s s') (hx : R c x x') (h : copyK P L t tx s x k = some r) :
    ∃ v L' u c', (Builtin.copy_ #[t, tx] ty #[s', x']).run P c.w = .ok u c'.w ∧ k v L' = some r ∧ Next' c0 c v L' u c' := by
  unfold copyK at h
  split at h
  case h_2 => cases h
  rename_i e sz b a n hu
  split at h
  case h_2 => cases h
  rename_i size hsize
  by_cases h0 : 0 < size
  case neg =>
    exfalso
    unfold srcK at h
    split at h
    · rename_i xs hux
      cases hz : okSz size xs with
      | false => rw [hz] at h; cases h
      | true =>
        rw [hz] at h
        simp only [cond_true] at h
        split at h
        · split at h
          · rename_i hc; omega
          · cases h
        · cases h
    · simp only at h
      split at h
      · split at h
        · rename_i hc; omega
        · cases h
      · cases h
    · split at h
      · split at h
        · split at h
          · simp only at h
            split at h
            · split at h
              · rename_i hc; omega
              · cases h
            · cases h
          · cases h
        · cases h
      · cases h
    · split at h
      · rename_i hc; omega
      · cases h
    · cases h
  obtain ⟨ys, news, h1, hsrc, hlaid⟩ := src_sound hL h0 hx h
  clear h
  have h := h1
  clear h1
  split at h
  case h_2 => cases h
  rename_i e' sz' xs hb
  split at h
  case isFalse => cases h
  rename_i hc
  obtain ⟨rfl, rfl, _⟩ := hc
  split at h
  case isFalse => cases h
  rename_i hc
  obtain ⟨hfit, hyn⟩ := hc
  obtain ⟨g, hgm, hbb⟩ := hL.live b _ hb (by simp)
  cases hs with
  | row ho hk hrow =>
    obtain ⟨A, cap, e2, C, rfl, hC, hcap, hCs, hml, hA⟩ := hrow g hgm
    cases hbb with
    | row C2 hC2 hl2 ho2 hxz hR =>
      rw [hC] at hC2
      injection hC2 with hC2
      injection hC2 with hC2 he _
      subst hC2
      subst he
      have hmin : Nat.min ys.length n = ys.length := Nat.min_eq_left hyn
      have hfit2 : a * sz + news.length ≤ C.size := by
        rw [hlaid.n, ← Nat.add_mul, ← hCs]
        exact Nat.mul_le_mul_right _ (by omega)
      have hsz : (C.toList.take (a * sz) ++ news ++ C.toList.drop (a * sz + news.length)).toArray.size = C.size := by simp; omega
      have hrun : (Builtin.copy_ #[t, tx] ty #[.slice A n cap, x']).run P c.w = .ok (.int .i64 ys.length) (c.w.setRow g (C.toList.take (a * sz) ++ news ++ C.toList.drop (a * sz + news.length)).toArray) := by
        rcases Nat.eq_zero_or_pos n with hn | hn
        · have hy0 : ys.length = 0 := by omega
          have hn0 : news = [] := List.eq_nil_of_length_eq_zero (by rw [hlaid.n, hy0]; simp)
          subst hn0
          have hself : c.w.setRow g (C.toList.take (a * sz) ++ [] ++ C.toList.drop (a * sz + ([] : List Value).length)).toArray = c.w := by
            have hC0 : (C.toList.take (a * sz) ++ [] ++ C.toList.drop (a * sz + ([] : List Value).length)).toArray = C := by simp
            exact (congrArg (c.w.setRow g) hC0).trans (setRow_self c.w g C _ _ hC)
          rw [hself]
          have hcl := hsrc.cells
          have hln := hsrc.len c.w
          rw [hy0] at hcl hln
          cases A <;> simp [Builtin.copy_, run_underlying hu, size_sound hsize, hln, hn, hcl, hy0, storeCells, goInt]
        · have hst := run_storeCells_at (P := P) g (a * sz) e2 news 0 C c.w hC (by simpa using hfit2) (hlaid.one h0)
          simp only [Nat.add_zero] at hst
          rw [hA (.inr hn)]
          simp [Builtin.copy_, run_underlying hu, size_sound hsize, hsrc.len, hmin, hsrc.cells, hst, goInt]
      have hple := put_le hL hgm hC hsz
      have hlt : a + ys.length ≤ xs.length := by omega
      have hfitx : (a + ys.length) * sz ≤ C.size := Nat.le_trans (Nat.mul_le_mul_right sz hlt) hl2
      refine ⟨_, _, _, c.put g _, hrun, h, hple, put_RL hL hgm hC hsz (.row _ (setRow_heap c.w g C _ _ _ hC) (by
          rw [hsz]
          refine Nat.le_trans ?_ hl2
          apply Nat.mul_le_mul_right
          simp; omega) (by
          intro u hu
          simp only [List.mem_append] at hu
          rcases hu with (hu | hu) | hu
          · exact ho2 u (List.mem_of_mem_take hu)
          · exact hlaid.one h0 u hu
          · exact ho2 u (List.mem_of_mem_drop hu)) (by
          intro x hx
          simp only [List.mem_append] at hx
          rcases hx with (hx | hx) | hx
          · exact hxz x (List.mem_of_mem_take hx)
          · exact hlaid.sz x hx
          · exact hxz x (List.mem_of_mem_drop hx)) (by
          intro j x q d hj hq
          have hal : a * sz ≤ C.size := by rw [Nat.add_mul] at hfitx; omega
          have hat : ∀ i, (C.toList.take (a * sz) ++ news ++ C.toList.drop (a * sz + news.length)).toArray[i]? = if i < a * sz then C[i]? else if i < a * sz + news.length then news[i - a * sz]? else C[i]? := by
            intro i
            rw [List.getElem?_toArray]
            by_cases c1 : i < a * sz
            · rw [if_pos c1, List.append_assoc, List.getElem?_append_left (by simp; omega), List.getElem?_take, if_pos c1, Array.getElem?_toList]
            · rw [if_neg c1]
              by_cases c2 : i < a * sz + news.length
              · rw [if_pos c2, List.append_assoc, List.getElem?_append_right (by simp; omega), List.getElem?_append_left (by simp; omega)]
                simp only [List.length_take, Array.length_toList, Nat.min_eq_left hal]
              · rw [if_neg c2, List.getElem?_append_right (by simp; omega), List.getElem?_drop]
                simp only [List.length_append, List.length_take, Array.length_toList, Nat.min_eq_left hal, Array.getElem?_toList]
                rw [show a * sz + news.length + (i - (a * sz + news.length)) = i by omega]
          rw [hat]
          have hql : ∀ x : List D, x.length = sz → x[q]? = some d → q < sz := fun x h1 h2 => by have := (List.getElem?_eq_some_iff.1 h2).1; omega
          by_cases j1 : j < a
          · rw [List.append_assoc, List.getElem?_append_left (by simp; omega), List.getElem?_take, if_pos j1] at hj
            obtain ⟨u, hu, hk'⟩ := hR j x q d hj hq
            have := hql x (hxz x (List.mem_of_getElem? hj)) hq
            refine ⟨u, ?_, hple.kd hk'⟩
            rw [if_pos ?_]
            · exact hu
            · have := Nat.mul_le_mul_right sz (show j + 1 ≤ a by omega); rw [Nat.succ_mul] at this; omega
          · by_cases j2 : j < a + ys.length
            · rw [List.append_assoc, List.getElem?_append_right (by simp; omega), List.getElem?_append_left (by simp; omega)] at hj
              simp only [List.length_take, Nat.min_eq_left (show a ≤ xs.length by omega)] at hj
              obtain ⟨u, hu, hk'⟩ := hlaid.at_ (j - a) x q d hj hq
              have h3 := hql x (hlaid.sz x (List.mem_of_getElem? hj)) hq
              have h4 : a * sz ≤ j * sz := Nat.mul_le_mul_right sz (by omega)
              refine ⟨u, ?_, hple.kd hk'⟩
              rw [if_neg (by omega), if_pos ?_]
              · rw [show j * sz + q - a * sz = (j - a) * sz + q by rw [Nat.sub_mul]; omega]; exact hu
              · rw [hlaid.n, ← Nat.add_mul]
                have := Nat.mul_le_mul_right sz (show j + 1 ≤ a + ys.length by omega); rw [Nat.succ_mul] at this; omega
            · rw [List.getElem?_append_right (by simp; omega), List.getElem?_drop] at hj
              simp only [List.length_append, List.length_take, Nat.min_eq_left (show a ≤ xs.length by omega)] at hj
              rw [show a + ys.length + (j - (a + ys.length)) = j by omega] at hj
              obtain ⟨u, hu, hk'⟩ := hR j x q d hj hq
              have h4 : (a + ys.length) * sz ≤ j * sz := Nat.mul_le_mul_right sz (by omega)
              rw [Nat.add_mul, ← hlaid.n] at h4
              refine ⟨u, ?_, hple.kd hk'⟩
              rw [if_neg (by omega), if_neg (by omega)]
              exact hu)) (by simp), put_since hS hgm _, .d (.i _ _)⟩

end Go.Tw
