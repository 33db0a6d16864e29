/- The abstract run is sound: any operation, regions. -/
import Derived.Test.YthhocepcpikbaaaGreatDoorEv4h
set_option linter.unusedVariables false
set_option linter.unusedSimpArgs false
namespace Go.Tw

structure EnvOK (E : Env) : Prop where
  call : ∀ f, SpecOK E.P f (E.call f)
  ext : ∀ f args v, E.ext f args = some v → ∀ (c : Ctx) (us : Array Value), args.length = us.size → (∀ (i : Nat) v u, args[i]? = some v → us[i]? = some u → R c v u) → ∃ u, (callFunc f us).run E.P c.w = .ok (.value u) c.w ∧ R c v u
  mixed : E.P.follows .mixedOrders = true
  cmb : ∀ a b r, E.cmb a b = some r → a = some r ∧ b = some r

theorem args_R {c : Ctx} {fr : List V} {a : Act} (hF : RF c fr a.tmps) (xs : Array Operand) : (xs.toList.map (evO fr)).length = (xs.map a.eval).size ∧ ∀ (i : Nat) v u, (xs.toList.map (evO fr))[i]? = some v → (xs.map a.eval)[i]? = some u → R c v u := by
  refine ⟨by simp, fun i v u hv hu => ?_⟩
  simp only [List.getElem?_map, Array.getElem?_map, Option.map_eq_some_iff, Array.getElem?_toList] at hv hu
  obtain ⟨x, hx, rfl⟩ := hv
  obtain ⟨y, hy, rfl⟩ := hu
  rw [hx] at hy
  injection hy with hy
  subst hy
  exact evO_sound hF _

theorem two_args {xs : Array Operand} {fr : List V} {a b : V} (h : xs.toList.map (evO fr) = [a, b]) : ∃ x y, xs = #[x, y] ∧ evO fr x = a ∧ evO fr y = b := by
  match he : xs.toList, h with
  | [x, y], hh =>
    simp only [List.map_cons, List.map_nil, List.cons.injEq, and_true] at hh
    exact ⟨x, y, Array.toList_inj.1 (by simpa using he), hh.1, hh.2⟩

section
variable {E : Env} {c0 c : Ctx} {L : List B} {fr : List V} {a : Act} {o : Oper} {k p : V → List B → Res} {r : End × List B} {next : Act → World → Prop} {Q : Exit → Act → World → Prop}

theorem bothK_sound (hL : RL c L) (hF : RF c fr a.tmps) (hS : Since c0 c) (h : bothK E.P o fr L k = some r)
    (hk : ∀ v L' u c', k v L' = some r → Next' c0 c v L' u c' → next (a.put o.dst u) c'.w) : o.wp E.P a c.w next Q := by
  have same : ∀ {v : V} {u : Value}, k v L = some r → R c v u → (execOp a.eval o).run E.P c.w = .ok (.value u) c.w → o.wp E.P a c.w next Q := fun h1 h2 h3 => wp_value h3 (hk _ _ _ _ h1 (Next'.same hL hS h2))
  unfold bothK at h
  split at h
  · rename_i x xt at_ ok ho
    unfold oneK at h
    split at h
    case h_2 => cases h
    rename_i v hv
    obtain ⟨u, hrun, hr⟩ := typeAssertV_sound (P := E.P) (xt := xt) (evO_sound hF x) hv
    exact same h hr (by simp [execOp, ho, hrun])
  · rename_i t x f ho
    unfold oneK at h
    split at h
    case h_2 => cases h
    rename_i v hv
    obtain ⟨u, hrun, hr⟩ := fieldOfV_sound (P := E.P) (evO_sound hF x) hv
    exact same h hr (by simp [execOp, ho, hrun])
  · cases h

theorem moreC_sound (hL : RL c L) (hF : RF c fr a.tmps) (hS : Since c0 c) (h : moreC E.P o fr L k = some r)
    (hk : ∀ v L' u c', k v L' = some r → Next' c0 c v L' u c' → next (a.put o.dst u) c'.w) : o.wp E.P a c.w next Q := by
  have same : ∀ {v : V} {u : Value}, k v L = some r → R c v u → (execOp a.eval o).run E.P c.w = .ok (.value u) c.w → o.wp E.P a c.w next Q := fun h1 h2 h3 => wp_value h3 (hk _ _ _ _ h1 (Next'.same hL hS h2))
  unfold moreC at h
  split at h
  · rename_i t x lo hi ho
    have opt : ∀ z : Option Operand, OptR c a.eval (z.map (evO fr)) z := fun z => by
      cases z with
      | none => trivial
      | some z => exact evO_sound hF z
    obtain ⟨v, u, hrun, hr, h⟩ := sliceC_sound (P := E.P) hL hS (evO_sound hF x) (opt lo) (opt hi) h
    exact same h hr (by simp [execOp, ho, hrun])
  · rename_i t n parts ho
    unfold pairK at h
    split at h
    case h_2 => cases h
    rename_i v L' hv
    obtain ⟨u, c', hrun, hn⟩ := buildSliceC_sound (P := E.P) hL hS hF hv
    exact wp_value (by simp [execOp, ho, hrun]) (hk _ _ _ _ h hn)
  · rename_i t x y ho
    unfold pairK at h
    split at h
    case h_2 => cases h
    rename_i v L' hv
    obtain ⟨u, c', hrun, hn⟩ := makeSliceC_sound (P := E.P) hL hS (evO_sound hF x) (evO_sound hF y) hv
    exact wp_value (by simp [execOp, ho, hrun]) (hk _ _ _ _ h hn)
  · rename_i s d x ho
    obtain ⟨v, u, hrun, hr, h⟩ := convertC_sound (P := E.P) hL hS (evO_sound hF x) h
    exact same h hr (by simp [execOp, ho, hrun])
  · rename_i t ho
    have hle := push_le hL (.map #[] 0)
    refine wp_value (u := .map (some c.w.heap.size)) (w' := (c.push (.map #[] 0)).w) (by simp [execOp, ho, Instr.makeMap, newObj]; rfl) (hk _ _ _ _ h ⟨hle, push_RL hL (fun g hg => Nat.lt_of_lt_of_le (hS.lt g hg) hS.size) _ (.vmap #[] 0 (heap_alloc_at _ _) .nil) (by simp), push_since hS _, ?_⟩)
    refine .map rfl (by simp only [Ctx.push]; rw [hL.n]; omega) (fun g hg => ?_)
    simp only [Ctx.push] at hg
    rw [if_pos hL.n.symm] at hg
    injection hg with hg
    rw [hg]
  · rename_i t x key ok ho
    unfold oneK at h
    split at h
    case h_2 => cases h
    rename_i v hv
    obtain ⟨u, hrun, hr⟩ := lookupC_sound (P := E.P) hL (evO_sound hF x) (evO_sound hF key) hv
    exact same h hr (by simp [execOp, ho, hrun])
  · rename_i t m key x ho
    unfold unitK at h
    split at h
    case h_2 => cases h
    rename_i L' hu
    obtain ⟨c', hrun, h1, h2, h3⟩ := updateC_sound (P := E.P) hL hS (evO_sound hF m) (evO_sound hF key) (evO_sound hF x) hu
    exact wp_skipped (by simp [execOp, ho, hrun]) (hk _ _ _ _ h ⟨h1, h2, h3, .gun⟩)
  · rename_i t m key x ho
    unfold unitK at h
    split at h
    case h_2 => cases h
    rename_i L' hu
    obtain ⟨c', hrun, h1, h2, h3⟩ := updateC_sound (P := E.P) hL hS (evO_sound hF m) (evO_sound hF key) (evO_sound hF x) hu
    exact wp_skipped (by simp [execOp, ho, hrun]) (hk _ _ _ _ h ⟨h1, h2, h3, .gun⟩)
  · rename_i t m key ho
    unfold pairK at h
    split at h
    case h_2 => cases h
    rename_i v L' hv
    obtain ⟨u, c', hrun, hn⟩ := mapEntryC_sound (P := E.P) hL hS (evO_sound hF m) (evO_sound hF key) hv
    exact wp_value (by simp [execOp, ho, hrun]) (hk _ _ _ _ h hn)
  · rename_i t m st x ho
    unfold unitK at h
    split at h
    case h_2 => cases h
    rename_i L' hu
    obtain ⟨c', hrun, h1, h2, h3⟩ := entryStoreC_sound (P := E.P) (t := t) hL hS (evO_sound hF m) (evO_sound hF st) (evO_sound hF x) hu
    exact wp_skipped (by simp [execOp, ho, hrun]) (hk _ _ _ _ h ⟨h1, h2, h3, .gun⟩)
  · rename_i t x ho
    unfold pairK at h
    split at h
    case h_2 => cases h
    rename_i v L' hv
    obtain ⟨u, c', hrun, hn⟩ := rangeC_sound (P := E.P) hL hS (evO_sound hF x) hv
    exact wp_value (by simp [execOp, ho, hrun]) (hk _ _ _ _ h hn)
  · rename_i x ho
    unfold pairK at h
    split at h
    case h_2 => cases h
    rename_i v L' hv
    obtain ⟨u, c', hrun, hn⟩ := nextC_sound (P := E.P) (ty := o.type) hL hS (evO_sound hF x) hv
    exact wp_value (by simp [execOp, ho, hrun]) (hk _ _ _ _ h hn)
  · rename_i x ho
    unfold oneK at h
    split at h
    case h_2 => cases h
    rename_i v hv
    obtain ⟨u, hrun, hr⟩ := entryC_sound (P := E.P) hL (evO_sound hF x) hv
    exact same h hr (by simp [execOp, ho, hrun])
  · exact bothK_sound hL hF hS h hk

theorem builtinC_sound (hL : RL c L) (hF : RF c fr a.tmps) (hS : Since c0 c) {cl : Call} {b : Builtin} (ho : o.op = .call cl) (hcl : cl.callee = .builtin b) (h : builtinC E.P b cl.argTypes.toList (cl.args.toList.map (evO fr)) L k = some r)
    (hk : ∀ v L' u c', k v L' = some r → Next' c0 c v L' u c' → next (a.put o.dst u) c'.w) : o.wp E.P a c.w next Q := by
  have same : ∀ {v : V} {u : Value}, k v L = some r → R c v u → (execOp a.eval o).run E.P c.w = .ok (.value u) c.w → o.wp E.P a c.w next Q := fun h1 h2 h3 => wp_value h3 (hk _ _ _ _ h1 (Next'.same hL hS h2))
  unfold builtinC at h
  split at h
  · rename_i t tx s x htys hargs
    obtain ⟨y1, y2, hy, e1, e2⟩ := two_args hargs
    have ht : cl.argTypes = #[t, tx] := Array.toList_inj.1 (by simpa using htys)
    have h1 := evO_sound hF y1
    have h2 := evO_sound hF y2
    rw [e1] at h1
    rw [e2] at h2
    unfold pairK at h
    split at h
    case h_2 => cases h
    rename_i v L' hv
    obtain ⟨u, c', hrun, hn⟩ := appendC_sound (P := E.P) (ty := o.type) hL hS h1 h2 hv
    refine wp_value ?_ (hk _ _ _ _ h hn)
    simp only [execOp, ho, resolve, hcl, hy, ht]
    simp [invoke, builtin, hrun]
  · rename_i t tx s x htys hargs
    obtain ⟨y1, y2, hy, e1, e2⟩ := two_args hargs
    have ht : cl.argTypes = #[t, tx] := Array.toList_inj.1 (by simpa using htys)
    have h1 := evO_sound hF y1
    have h2 := evO_sound hF y2
    rw [e1] at h1
    rw [e2] at h2
    split at h
    case h_2 => cases h
    rename_i n L' hv
    obtain ⟨c', hrun, hn⟩ := copyC_sound (P := E.P) (ty := o.type) hL hS h1 h2 hv
    refine wp_value ?_ (hk _ _ _ _ h hn)
    simp only [execOp, ho, resolve, hcl, hy, ht]
    simp [invoke, builtin, hrun]
  · rename_i t tk x key htys hargs
    obtain ⟨y1, y2, hy, e1, e2⟩ := two_args hargs
    have ht : cl.argTypes = #[t, tk] := Array.toList_inj.1 (by simpa using htys)
    have h1 := evO_sound hF y1
    have h2 := evO_sound hF y2
    rw [e1] at h1
    rw [e2] at h2
    split at h
    case h_2 => cases h
    rename_i L' hv
    obtain ⟨c', hrun, g1, g2, g3⟩ := deleteC_sound (P := E.P) (ty := o.type) (tk := tk) hL hS h1 h2 hv
    refine wp_value (u := .tuple #[]) ?_ (hk _ _ _ _ h ⟨g1, g2, g3, .tup rfl (fun i a b ha => by simp at ha)⟩)
    simp only [execOp, ho, resolve, hcl, hy, ht]
    simp [invoke, builtin, hrun]
  · rename_i ts xs
    unfold oneK at h
    split at h
    case h_2 => cases h
    rename_i v hv
    obtain ⟨h1, h2⟩ := args_R hF cl.args
    obtain ⟨u, hrun, hr⟩ := minV_sound (P := E.P) (ts := cl.argTypes) (ty := o.type) h1 h2 hv
    refine same h hr ?_
    simp only [execOp, ho, resolve, hcl]
    simp [invoke, builtin, hrun]
  · cases h

theorem evOp_sound (hE : EnvOK E) (hL : RL c L) (hF : RF c fr a.tmps) (hS : Since c0 c) (h : evOp E o fr L k p = some r)
    (hk : ∀ v L' u c', k v L' = some r → Next' c0 c v L' u c' → next (a.put o.dst u) c'.w)
    (hp : ∀ v L' u c', p v L' = some r → Next' c0 c v L' u c' → Q (.panic [{ v := u, recovered := false }]) a c'.w) : o.wp E.P a c.w next Q := by
  have same : ∀ {v : V} {u : Value}, k v L = some r → R c v u → (execOp a.eval o).run E.P c.w = .ok (.value u) c.w → o.wp E.P a c.w next Q := fun h1 h2 h3 => wp_value h3 (hk _ _ _ _ h1 (Next'.same hL hS h2))
  unfold evOp at h
  split at h
  · rename_i x ho
    exact same h (evO_sound hF x) (by simp [execOp, ho])
  · rename_i x ho
    exact same h (evO_sound hF x) (by simp [execOp, ho])
  · rename_i q x y ho
    split at h
    case h_2 => cases h
    rename_i b hb
    have hq := evO_sound hF q
    rw [hb] at hq
    have hq := hq.bool
    cases b with
    | true => exact same h (evO_sound hF x) (by simp [execOp, ho, hq, asBool])
    | false => exact same h (evO_sound hF y) (by simp [execOp, ho, hq, asBool])
  · rename_i t ho
    split at h
    case h_2 => cases h
    rename_i z hz
    split at h
    case isFalse => cases h
    rename_i ha
    obtain ⟨u, c', hrun, hn⟩ := alloc_sound (P := E.P) hL hS hz ha
    exact wp_value (by simp [execOp, ho, hrun]) (hk _ _ _ _ h hn)
  · rename_i t x ho
    split at h
    case isFalse => cases h
    rename_i ha
    obtain ⟨u, c', hrun, hn⟩ := box_sound (P := E.P) hL hS (t := t) (evO_sound hF x) ha
    exact wp_value (by simp [execOp, ho, hrun]) (hk _ _ _ _ h hn)
  · rename_i t parts ho
    split at h
    case h_3 => cases h
    case h_1 =>
      rename_i z n e hz hu
      split at h
      case h_2 => cases h
      rename_i s hs
      split at h
      case isTrue => cases h
      rename_i hc
      simp only [Bool.not_eq_true, Bool.not_eq_false'] at hc
      split at h
      case h_2 => cases h
      rename_i cs hcs
      obtain ⟨u, hrun, hr⟩ := buildArr_sound (P := E.P) hF hz hu hs hc hcs
      exact same h hr (by simp [execOp, ho, hrun])
    rename_i z fs hz hu
    split at h
    case isTrue => cases h
    rename_i hc
    simp only [Bool.not_eq_true, Bool.not_eq_false', Bool.and_eq_true] at hc
    split at h
    case h_2 => cases h
    rename_i cs hcs
    obtain ⟨u, hrun, hr⟩ := build_sound (P := E.P) hF hz hu hc.1 hc.2 hcs
    exact same h hr (by simp [execOp, ho, hrun])
  · rename_i t x ho
    split at h
    case h_2 => cases h
    rename_i v hv
    obtain ⟨u, hrun, hr⟩ := loadV_sound hL (evO_sound hF x) hv
    exact same h hr (by simp [execOp, ho, hrun])
  · rename_i t x y ho
    split at h
    case h_2 => cases h
    rename_i L' hv
    obtain ⟨c', hrun, h1, h2, h3⟩ := storeV_sound hL hS (evO_sound hF x) (evO_sound hF y) hv
    exact wp_skipped (by simp [execOp, ho, hrun]) (hk _ _ _ _ h ⟨h1, h2, h3, .gun⟩)
  · rename_i x ho
    have hx := evO_sound hF x
    split at h
    · rename_i n off hn
      split at h
      case isFalse => cases h
      rename_i hlv
      rw [hn] at hx
      obtain ⟨g, hg⟩ := live_at hL hlv
      have hu : a.eval x = .pointer (some ⟨g, off, none⟩) := by cases hx with | ptr _ _ h => exact h g hg
      exact same h hx (by simp [execOp, ho, hu])
    · rename_i cs off hn
      rw [hn] at hx
      obtain ⟨ad, hu⟩ : ∃ ad, a.eval x = .pointer (some ad) := by
        generalize a.eval x = y at hx
        cases hx; exact ⟨_, rfl⟩
      exact same h hx (by simp [execOp, ho, hu])
    · cases h
  · rename_i op t x y ty ho
    split at h
    case h_2 =>
      split at h
      · rename_i v hv
        obtain ⟨u, hrun, hr⟩ := nilCmp_sound (P := E.P) (X := x) hL (evO_sound hF x) (evO_sound hF y) hv
        exact same h hr (by simp only [execOp, ho]; rw [Sem.run_bind, hrun]; rfl)
      obtain ⟨v, u, hrun, hr, h⟩ := binMore_sound (P := E.P) (w := c.w) (t := t) h (evO_sound hF x) (evO_sound hF y) x y
      exact same h hr (by simp only [execOp, ho]; rw [Sem.run_bind, hrun]; rfl)
    rename_i v hv
    obtain ⟨u, hrun, hr⟩ := binS_sound (c := c) (w := c.w) hv (evO_sound hF x) (evO_sound hF y) x y
    exact same h hr (by simp only [execOp, ho]; rw [Sem.run_bind, hrun]; rfl)
  · rename_i op t x ho
    split at h
    case h_2 => cases h
    rename_i v hv
    obtain ⟨u, hrun, hr⟩ := unS_sound (P := E.P) (evO_sound hF x) hv
    exact same h hr (by simp [execOp, ho, hrun])
  · rename_i t x f ho
    split at h
    case h_2 => cases h
    rename_i v hv
    obtain ⟨u, hrun, hr⟩ := fieldV_sound hL (evO_sound hF x) hv
    exact same h hr (by simp [execOp, ho, hrun])
  · rename_i t x i ho
    split at h
    case h_2 => cases h
    rename_i n hn
    have hi := evO_sound hF i
    rw [hn] at hi
    obtain ⟨v, u, hrun, hr, hkv⟩ := indexAddr_sound hL hS (evO_sound hF x) h
    exact same hkv hr (by simp [execOp, ho, hi.int, hrun])
  · rename_i t x i ho
    split at h
    case h_2 => cases h
    rename_i n hn
    have hi := evO_sound hF i
    rw [hn] at hi
    obtain ⟨v, u, hrun, hr, hkv⟩ := index_sound hS (evO_sound hF x) h
    exact same hkv hr (by simp [execOp, ho, hi.int, hrun])
  · rename_i x i ho
    split at h
    case h_2 => cases h
    rename_i vs hvs
    split at h
    case h_2 => cases h
    rename_i v hv
    have hx := evO_sound hF x
    rw [hvs] at hx
    generalize hy : a.eval x = y at hx
    cases hx with
    | tup hl hR =>
      rename_i us
      have hlt : i < us.size := by have := (List.getElem?_eq_some_iff.1 hv).1; omega
      exact same h (hR i v _ hv (Array.getElem?_eq_getElem hlt)) (by simp [execOp, ho, hy, Instr.extract, Array.getElem?_eq_getElem hlt])
  · rename_i f first cap ho
    split at h
    case isFalse => cases h
    rename_i hf
    obtain ⟨h1, h2⟩ := args_R hF cap
    refine same h (.fn h1 h2) ?_
    have hf : first = #[] := by simpa using hf
    simp [execOp, ho, Instr.makeFunc, hf]
  · rename_i cl ho
    split at h
    · rename_i hcl
      split at h
      case h_2 => cases h
      rename_i x t hargs htys
      split at h
      case h_2 => cases h
      rename_i n hn
      obtain ⟨y, hy, hxy⟩ : ∃ y, cl.args = #[y] ∧ evO fr y = x := by
        have := hargs
        match he : cl.args.toList, this with
        | [y], hh => exact ⟨y, Array.toList_inj.1 (by simpa using he), by simpa [he] using hh⟩
      have ht : cl.argTypes = #[t] := Array.toList_inj.1 (by simpa using htys)
      have hx := evO_sound hF y
      rw [hxy] at hx
      have hrun := len_sound (P := E.P) hL (ty := o.type) hx hn
      refine same h (.d (.i _ _)) ?_
      simp only [execOp, ho, resolve, hcl, hy, ht]
      simp [invoke, builtin, hrun]
    · rename_i f hcl
      split at h
      case h_2 => cases h
      rename_i g cap hg
      have hf := evO_sound hF f
      rw [hg] at hf
      generalize hy : a.eval f = y at hf
      cases hf with
      | fn hl hR =>
        rename_i us
        obtain ⟨h1, h2⟩ := args_R hF cl.args
        have hall : ∀ (i : Nat) v u, (cl.args.toList.map (evO fr) ++ cap)[i]? = some v → (cl.args.map a.eval ++ us)[i]? = some u → R c v u := fun i v u hv hu => by
          by_cases hi : i < (cl.args.toList.map (evO fr)).length
          · rw [List.getElem?_append_left hi] at hv
            rw [Array.getElem?_append_left (by omega)] at hu
            exact h2 i v u hv hu
          · rw [List.getElem?_append_right (by omega)] at hv
            rw [Array.getElem?_append_right (by omega), ← h1] at hu
            exact hR _ v u hv hu
        have hlen : (cl.args.toList.map (evO fr) ++ cap).length = (cl.args.map a.eval ++ us).size := by simp only [List.length_append, Array.size_append]; omega
        cases hcc : E.conc with
        | true =>
          rw [hcc] at h
          simp only [cond_true] at h
          split at h
          · rename_i v hv
            obtain ⟨u, hrun, hr⟩ := hE.ext g _ v hv c _ hlen hall
            refine same h hr ?_
            simp only [execOp, ho, resolve, hcl, hy, Deferred.ofValue, invoke]
            simp [hrun]
          obtain ⟨henter, hcalls⟩ := callC_sound (O := fun _ => LetsOut Q) hL hS hlen hall (hE.call g) h (nextv := fun u w => next (a.put o.dst u) w) (nextp := fun ch w => Q (.panic ch) a w) hk hp
          have hrun : (execOp a.eval o).run E.P c.w = .ok (.enter g (cl.args.map a.eval ++ us)) c.w := by
            simp only [execOp, ho, resolve, hcl, hy, Deferred.ofValue, invoke]
            simp [henter]
          simp only [Oper.wp, hrun, Oper.upon]
          exact hcalls
        | false =>
        rw [hcc] at h
        simp only [cond_false] at h
        obtain ⟨henter, hcalls⟩ := callK_sound (O := fun _ => LetsOut Q) hL hS (us := cl.args.map a.eval ++ us) (by simp only [List.length_append, Array.size_append]; omega) (fun i v u hv hu => by
          by_cases hi : i < (cl.args.toList.map (evO fr)).length
          · rw [List.getElem?_append_left hi] at hv
            rw [Array.getElem?_append_left (by omega)] at hu
            exact h2 i v u hv hu
          · rw [List.getElem?_append_right (by omega)] at hv
            rw [Array.getElem?_append_right (by omega), ← h1] at hu
            exact hR _ v u hv hu) (hE.call g) h (nextv := fun u w => next (a.put o.dst u) w) (nextp := fun ch w => Q (.panic ch) a w) hk hp
        have hrun : (execOp a.eval o).run E.P c.w = .ok (.enter g (cl.args.map a.eval ++ us)) c.w := by
          simp only [execOp, ho, resolve, hcl, hy, Deferred.ofValue, invoke]
          simp [henter]
        simp only [Oper.wp, hrun, Oper.upon]
        exact hcalls
    · rename_i b hnl hcl
      cases hcc : E.conc with
      | true =>
        rw [hcc] at h
        exact builtinC_sound hL hF hS ho hcl h hk
      | false =>
      rw [hcc] at h
      simp only [cond_false] at h
      unfold builtinK at h
      split at h
      · rename_i t tx s x htys hargs
        obtain ⟨y1, y2, hy, e1, e2⟩ := two_args hargs
        have ht : cl.argTypes = #[t, tx] := Array.toList_inj.1 (by simpa using htys)
        have h1 := evO_sound hF y1
        have h2 := evO_sound hF y2
        rw [e1] at h1
        rw [e2] at h2
        obtain ⟨v, L', u, c', hrun, h, hn⟩ := append_sound (P := E.P) (ty := o.type) hL hS h1 h2 h
        refine wp_value ?_ (hk _ _ _ _ h hn)
        simp only [execOp, ho, resolve, hcl, hy, ht]
        simp [invoke, builtin, hrun]
      · rename_i t tx s x htys hargs
        obtain ⟨y1, y2, hy, e1, e2⟩ := two_args hargs
        have ht : cl.argTypes = #[t, tx] := Array.toList_inj.1 (by simpa using htys)
        have h1 := evO_sound hF y1
        have h2 := evO_sound hF y2
        rw [e1] at h1
        rw [e2] at h2
        obtain ⟨v, L', u, c', hrun, h, hn⟩ := copy_sound (P := E.P) (ty := o.type) hL hS h1 h2 h
        refine wp_value ?_ (hk _ _ _ _ h hn)
        simp only [execOp, ho, resolve, hcl, hy, ht]
        simp [invoke, builtin, hrun]
      · cases h
    · cases h
  · rename_i x ho
    split at h
    case h_2 => cases h
    rename_i t v hx
    have hr := evO_sound hF x
    rw [hx] at hr
    generalize hy : a.eval x = y at hr
    cases hr with
    | iface hv =>
      rename_i u
      have := hp _ _ _ _ h (Next'.same hL hS (.iface hv))
      have hrun : (Instr.panic (.iface t u)).run E.P c.w = .halt (.panic (.iface t u)) c.w := rfl
      simpa [Oper.wp, execOp, ho, hy, hrun, Oper.upon] using this
  · rename_i t x ho
    split at h
    case isFalse => cases h
    rename_i hc
    exact same h (.iface (evO_sound hF x)) (by simp [execOp, ho, run_makeInterface c.w t _ hc])
  · cases hcc : E.conc with
    | true =>
      rw [hcc] at h
      exact moreC_sound hL hF hS h hk
    | false =>
    rw [hcc] at h
    simp only [cond_false] at h
    unfold moreK at h
    split at h
    · rename_i t x lo hi ho
      have opt : ∀ z : Option Operand, OptR c a.eval (z.map (evO fr)) z := fun z => by
        cases z with
        | none => trivial
        | some z => exact evO_sound hF z
      obtain ⟨v, u, hrun, hr, h⟩ := slice_sound (P := E.P) hL (evO_sound hF x) (opt lo) (opt hi) h
      exact same h hr (by simp [execOp, ho, hrun])
    · rename_i t n parts ho
      obtain ⟨v, L', u, c', hrun, h, hn⟩ := buildSlice_sound (P := E.P) hL hS hF h
      exact wp_value (by simp [execOp, ho, hrun]) (hk _ _ _ _ h hn)
    · rename_i t x y ho
      obtain ⟨v, L', u, c', hrun, h, hn⟩ := makeSlice_sound (P := E.P) hL hS (evO_sound hF x) (evO_sound hF y) h
      exact wp_value (by simp [execOp, ho, hrun]) (hk _ _ _ _ h hn)
    · rename_i s d x ho
      obtain ⟨v, u, hrun, hr, h⟩ := convert_sound (P := E.P) hL (evO_sound hF x) h
      exact same h hr (by simp [execOp, ho, hrun])
    · rename_i t ho
      split at h
      case h_2 => cases h
      rename_i ag et hm
      have hle := push_le hL (.map #[] 0)
      refine wp_value (u := .map (some c.w.heap.size)) (w' := (c.push (.map #[] 0)).w) (by simp [execOp, ho, Instr.makeMap, newObj]; rfl) (hk _ _ _ _ h ⟨hle, push_RL hL (fun g hg => Nat.lt_of_lt_of_le (hS.lt g hg) hS.size) _ (.map #[] 0 (heap_alloc_at _ _) .nil) (by simp), push_since hS _, ?_⟩)
      refine .map rfl (by simp only [Ctx.push]; rw [hL.n]; omega) (fun g hg => ?_)
      simp only [Ctx.push] at hg
      rw [if_pos hL.n.symm] at hg
      injection hg with hg
      rw [hg]
    · rename_i t x key ok ho
      obtain ⟨v, u, hrun, hr, h⟩ := lookup_sound (P := E.P) hL (evO_sound hF x) (evO_sound hF key) h
      exact same h hr (by simp [execOp, ho, hrun])
    · rename_i t m key x ho
      split at h
      case h_2 => cases h
      rename_i L' hu
      obtain ⟨c', hrun, h1, h2, h3⟩ := update_sound (P := E.P) hL hS (evO_sound hF m) (evO_sound hF key) (evO_sound hF x) hu
      exact wp_skipped (by simp [execOp, ho, hrun]) (hk _ _ _ _ h ⟨h1, h2, h3, .gun⟩)
    · exact bothK_sound hL hF hS h hk

theorem evOpT_sound (hE : EnvOK E) (hL : RL c L) (hF : RF c fr a.tmps) (hS : Since c0 c) (h : evOpT E o fr L k p = some r)
    (hk : ∀ v L' u c', k v L' = some r → Next' c0 c v L' u c' → next (a.put o.dst u) c'.w)
    (hp : ∀ v L' u c', p v L' = some r → Next' c0 c v L' u c' → Q (.panic [{ v := u, recovered := false }]) a c'.w) : o.wp E.P a c.w next Q := by
  unfold evOpT at h
  split at h
  case h_2 => exact evOp_sound hE hL hF hS h hk hp
  rename_i v L' hm
  unfold markK at hm
  cases hcc : E.conc with
  | false => rw [hcc] at hm; cases hm
  | true =>
  rw [hcc] at hm
  simp only [cond_true] at hm
  split at hm
  case h_2 => cases hm
  rename_i s d x ho
  obtain ⟨u, c', hrun, hn⟩ := markC_sound (P := E.P) hL hS (evO_sound hF x) hm
  exact wp_value (by simp [execOp, ho, hrun]) (hk _ _ _ _ h hn)
end

theorem RF.setAt {c : Ctx} {fr : List V} {a : Act} (hF : RF c fr a.tmps) {v : V} {u : Value} (h : R c v u) (dst : Option Tmp) : RF c (Tw.setAt fr dst v) (a.put dst u).tmps := by
  cases dst with
  | none => exact hF
  | some d =>
    refine ⟨by simp [Tw.setAt, Act.put, hF.n], fun i x y hx hy => ?_⟩
    simp only [Tw.setAt, Act.put] at hx hy
    rw [List.getElem?_set] at hx
    rw [Array.getElem?_setIfInBounds] at hy
    split at hx
    · rename_i e
      rw [if_pos e] at hy
      split at hx
      · split at hy
        · injection hx with hx; injection hy with hy; subst hx; subst hy; exact h
        · cases hy
      · cases hx
    · rename_i e
      rw [if_neg e] at hy
      exact hF.at_ i x y hx hy

theorem RF.mono {c c' : Ctx} (h : c.Le c') {fr : List V} {tm : Array Value} (hF : RF c fr tm) : RF c' fr tm := ⟨hF.n, fun i v u hv hu => (hF.at_ i v u hv hu).mono h⟩

/-- What is so at a point of a function's body. -/
structure Good (c0 c : Ctx) (fr : List V) (L : List B) (a : Act) : Prop where
  L : RL c L
  F : RF c fr a.tmps
  S : Since c0 c
  le : c0.Le c
  d : a.defers = c0.ds

def QX (Q : Exit → Act → World → Prop) (c : Ctx) (a : Act) : Ex → Prop
  | .normal => Q .normal a c.w
  | .exit id => Q (.exit id) a c.w
  | .ret => Q .ret a c.w
  | .panic v => ∀ u, R c v u → Q (.panic [{ v := u, recovered := false }]) a c.w

theorem put_defers (a : Act) (dst : Option Tmp) (u : Value) : (a.put dst u).defers = a.defers := by cases dst <;> rfl

theorem yield_sound {c : Ctx} {fr : List V} {a : Act} (hF : RF c fr a.tmps) {ops : Array Oper} {j : Nat} {y : Option Bool} (h : yieldV ops fr j = some y) : yielded ops a.tmps j = y ∧ ∃ t, (ops[j]?).bind (·.dst) = some t ∧ ∀ x, y = some x → fr[t]? = some (.d (.b x)) ∧ a.tmps[t]? = some (.bool x) := by
  unfold yieldV at h
  split at h
  case h_2 => cases h
  rename_i t ht
  split at h
  · rename_i x hx
    injection h with h
    subst h
    have hlt : t < a.tmps.size := by have := (List.getElem?_eq_some_iff.1 hx).1; rw [← hF.n]; exact this
    have hu := Array.getElem?_eq_getElem hlt
    have hb := (hF.at_ t _ _ hx hu).bool
    rw [hb] at hu
    refine ⟨?_, t, ht, fun x' e => by injection e with e; subst e; exact ⟨hx, hu⟩⟩
    simp [yielded, ht, hu]
  · rename_i hx
    injection h with h
    subst h
    have hlt : t < a.tmps.size := by have := (List.getElem?_eq_some_iff.1 hx).1; rw [← hF.n]; exact this
    have hu := Array.getElem?_eq_getElem hlt
    have hg := hF.at_ t _ _ hx hu
    generalize a.tmps[t] = y at hu hg
    cases hg
    exact ⟨by simp [yielded, ht, hu, undef], t, ht, fun x e => by cases e⟩
  · cases h

theorem RF.known {c : Ctx} {fr : List V} {a : Act} (hF : RF c fr a.tmps) {t : Tmp} {x : Bool} (h : a.tmps[t]? = some (.bool x)) : RF c (Tw.setAt fr (some t) (.d (.b x))) a.tmps := by
  refine ⟨by simp [Tw.setAt, hF.n], fun i v y hv hy => ?_⟩
  simp only [Tw.setAt] at hv
  rw [List.getElem?_set] at hv
  split at hv
  · rename_i e
    subst e
    split at hv
    · injection hv with hv; subst hv
      rw [h] at hy
      injection hy with hy
      subst hy
      exact .d (.b x)
    · cases hv
  · exact hF.at_ i v y hv hy

theorem evOps_sound {E : Env} (hE : EnvOK E) {c0 : Ctx} {ops : Array Oper} {Q : Exit → Act → World → Prop} {k : Ex → List V → List B → Res} {r : End × List B}
    (hk : ∀ x fr L c a, k x fr L = some r → Good c0 c fr L a → QX Q c a x) : ∀ (rest : List Oper) (fr : List V) (L : List B) (c : Ctx) (a : Act), evOps E ops rest fr L k = some r → Good c0 c fr L a → wpList E.P ops Q rest a c.w
  | [], fr, L, c, a, h, hG => hk _ _ _ _ _ h hG
  | o :: rest, fr, L, c, a, h, hG => by
    have ih := evOps_sound (ops := ops) hE hk rest
    unfold evOps at h
    simp only at h
    have run : ∀ fr, RF c fr a.tmps → evOpT E o fr L (fun v L => evOps E ops rest (Tw.setAt fr o.dst v) L k) (fun v L => k (.panic v) fr L) = some r → o.wp E.P a c.w (wpList E.P ops Q rest) Q := fun fr hF h =>
      evOpT_sound hE hG.L hF hG.S h (fun v L' u c' h1 h2 => ih _ _ _ _ h1 ⟨h2.L, (hF.mono h2.le).setAt h2.v o.dst, h2.since, hG.le.trans h2.le, by rw [put_defers]; exact hG.d⟩)
        (fun v L' u c' h1 h2 => hk _ _ _ _ _ h1 ⟨h2.L, hF.mono h2.le, h2.since, hG.le.trans h2.le, hG.d⟩ u h2.v)
    have skip : ∀ fr, RF c fr a.tmps → evOps E ops rest (Tw.setAt fr o.dst .gun) L k = some r → wpList E.P ops Q rest (a.put o.dst undef) c.w := fun fr hF h =>
      ih _ _ _ _ h ⟨hG.L, hF.setAt .gun o.dst, hG.S, hG.le, by rw [put_defers]; exact hG.d⟩
    unfold wpList
    split at h
    · rename_i hg
      rw [if_pos (by simp [Region.wanted, hg])]
      exact .inl (run fr hG.F h)
    · rename_i j want hg
      split at h
      · rename_i x hy
        obtain ⟨h1, t, h2, h3⟩ := yield_sound hG.F hy
        obtain ⟨h4, h5⟩ := h3 x rfl
        rw [h2] at h
        have hw : Region.wanted o (yielded ops a.tmps) = (x == want) := by
          simp only [Region.wanted, hg, h1]
          cases x <;> cases want <;> rfl
        rw [hw]
        have hF := hG.F.known h5
        cases want <;> cases x
        · rw [if_pos (by simp)]; exact .inl (run _ hF h)
        · rw [if_neg (by simp)]; exact skip _ hF h
        · rw [if_neg (by simp)]; exact skip _ hF h
        · rw [if_pos (by simp)]; exact .inl (run _ hF h)
      · rename_i hy
        obtain ⟨h1, _⟩ := yield_sound hG.F hy
        rw [if_neg (by simp [Region.wanted, hg, h1])]
        exact skip _ hG.F h
      · cases h


end Go.Tw
