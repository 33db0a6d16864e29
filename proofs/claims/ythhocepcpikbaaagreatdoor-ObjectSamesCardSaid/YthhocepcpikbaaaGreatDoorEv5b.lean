/- The abstract run is sound: regions whose order is open. -/
import Derived.Test.YthhocepcpikbaaaGreatDoorEv5a
set_option linter.unusedVariables false
set_option linter.unusedSimpArgs false
namespace Go.Tw

/-! ### operations look at their operands alone -/
theorem evOp_congr {E : Env} {o : Oper} {fr fr' : List V} {L : List B} {k p : V → List B → Res} (h : ∀ x ∈ o.op.operands, evO fr x = evO fr' x) : evOp E o fr L k p = evOp E o fr' L k p := by
  obtain ⟨dst, op, type, pos, after, guard⟩ := o
  have pairs : ∀ ps : Array (Nat × Operand), (∀ x ∈ (ps.toList.map (·.2)).toArray, evO fr x = evO fr' x) → (ps.toList.map fun q => (q.1, evO fr q.2)) = (ps.toList.map fun q => (q.1, evO fr' q.2)) := fun ps hp =>
    List.map_congr_left fun q hq => by rw [hp q.2 (by simp only [List.mem_toArray, List.mem_map]; exact ⟨q, hq, rfl⟩)]
  cases op <;> simp only [Op.operands] at h <;> simp only [evOp, moreK, moreC, bothK]
  case build t ps => rw [pairs ps h]
  case buildSlice t n ps => rw [pairs ps h]
  case makeFunc fn first captured =>
    cases fn with
    | func f =>
      have : captured.toList.map (evO fr) = captured.toList.map (evO fr') := List.map_congr_left fun x hx => h x (by simp [Array.mem_toList_iff.1 hx])
      simp only [this]
    | _ => rfl
  case call c =>
    have hargs : c.args.toList.map (evO fr) = c.args.toList.map (evO fr') := List.map_congr_left fun x hx => h x (by simp [Call.operands, Array.mem_toList_iff.1 hx])
    simp only [hargs]
    cases hc : c.callee with
    | value f => have hf : evO fr f = evO fr' f := h f (by simp [Call.operands, hc]); simp only [hf]
    | invoke r m => rfl
    | builtin b => cases b <;> simp only [hargs]
  case slice t x lo hi mx =>
    cases mx with
    | none =>
      cases lo <;> cases hi <;> simp at h <;> simp [h]
    | some _ => rfl
  case makeMap t r =>
    cases r <;> rfl
  case next x b =>
    cases b with
    | true => rfl
    | false => simp at h; simp only [h]
  all_goals (first | rfl | (simp at h; simp only [h]))

theorem liveB_congr {L L' : List B} {k : Nat} (h : L[k]? = L'[k]?) : liveB L k = liveB L' k := by unfold liveB; rw [h]
theorem cellsAt_congr {L L' : List B} {p : V} (h : ∀ k ∈ refs1 p, L[k]? = L'[k]?) (n : Nat) : cellsAt L p n = cellsAt L' p n := by
  unfold cellsAt
  cases p with
  | ptr k off => simp only; rw [h k (by simp [refs1, refs0])]
  | rp sz k j off => simp only; rw [h k (by simp [refs1, refs0])]
  | _ => rfl
theorem loadV_congr {P : Program} {L L' : List B} {t : TypeId} {p : V} (h : ∀ k ∈ refs1 p, L[k]? = L'[k]?) : loadV P L t p = loadV P L' t p := by
  unfold loadV
  simp only [cellsAt_congr h]
theorem fieldV_congr {P : Program} {L L' : List B} {t : TypeId} {p : V} {f : Nat} (h : ∀ k ∈ refs1 p, L[k]? = L'[k]?) : fieldV P L t p f = fieldV P L' t p f := by
  unfold fieldV
  cases p with
  | ptr k off => simp only [liveB_congr (h k (by simp [refs1, refs0]))]
  | rp sz k j off => simp only [liveB_congr (h k (by simp [refs1, refs0]))]
  | _ => rfl
theorem lenV_congr {P : Program} {L L' : List B} {t : TypeId} {p : V} (h : ∀ k ∈ refs1 p, L[k]? = L'[k]?) : lenV P L t p = lenV P L' t p := by
  unfold lenV
  cases hu : P.underlying t with
  | none => rfl
  | some d => cases p with
    | row sz k a n => cases d <;> first | rfl | simp only [liveB_congr (h k (by simp [refs1, refs0]))]
    | map k => cases d <;> first | rfl | simp only [h k (by simp [refs1, refs0])]
    | d x => cases d <;> cases x <;> rfl
    | _ => cases d <;> rfl
theorem srcK_congr {P : Program} {L L' : List B} {t : TypeId} {s : Nat} {p : V} (h : ∀ k ∈ refs1 p, L[k]? = L'[k]?) (f : List (List D) → Res) : srcK P L t s p f = srcK P L' t s p f := by
  unfold srcK
  cases hu : P.underlying t with
  | none => rfl
  | some d => cases p with
    | row sz k a n => cases d <;> first | rfl | simp only [h k (by simp [refs1, refs0])]
    | d x => cases d <;> cases x <;> rfl
    | _ => cases d <;> rfl

theorem tcells_run {α : Type} : ∀ (q : List Kd) (cs : List D), (∃ (f : List D → Option α) (r : α), tcells q cs f = some r) → ∀ {β : Type} (f' : List D → Option β), tcells q cs f' = f' cs
  | [], cs, ⟨f, r, h⟩, β, f' => by
    cases cs with
    | nil => rfl
    | cons c cs => simp [tcells, tcE] at h
  | .i k :: q, cs, ⟨f, r, h⟩, β, f' => by
    match cs, h with
    | .i k' n :: cs, h =>
      simp only [tcells, tcI] at h ⊢
      split at h
      · rename_i hk
        rw [if_pos hk]
        subst hk
        exact tcells_run q cs ⟨_, r, h⟩ _
      · cases h
    | .b _ :: _, h => simp [tcells, tcI] at h
    | .s _ :: _, h => simp [tcells, tcI] at h
    | .sl _ :: _, h => simp [tcells, tcI] at h
    | [], h => simp [tcells, tcI] at h
  | .b :: q, cs, ⟨f, r, h⟩, β, f' => by
    match cs, h with
    | .b x :: cs, h =>
      simp only [tcells, tcB] at h ⊢
      exact tcells_run q cs ⟨_, r, h⟩ _
    | .i _ _ :: _, h => simp [tcells, tcB] at h
    | .s _ :: _, h => simp [tcells, tcB] at h
    | .sl _ :: _, h => simp [tcells, tcB] at h
    | [], h => simp [tcells, tcB] at h
  | .s :: q, cs, ⟨f, r, h⟩, β, f' => by
    match cs, h with
    | .s x :: cs, h =>
      simp only [tcells, tcS] at h ⊢
      exact tcells_run q cs ⟨_, r, h⟩ _
    | .i _ _ :: _, h => simp [tcells, tcS] at h
    | .b _ :: _, h => simp [tcells, tcS] at h
    | .sl _ :: _, h => simp [tcells, tcS] at h
    | [], h => simp [tcells, tcS] at h
  | .sl :: q, cs, ⟨f, r, h⟩, β, f' => by
    match cs, h with
    | .sl x :: cs, h =>
      simp only [tcells, tcL] at h ⊢
      exact tcells_run q cs ⟨_, r, h⟩ _
    | .i _ _ :: _, h => simp [tcells, tcL] at h
    | .b _ :: _, h => simp [tcells, tcL] at h
    | .s _ :: _, h => simp [tcells, tcL] at h
    | [], h => simp [tcells, tcL] at h

theorem binMore_core {P : Program} {op : BinOp} {t : TypeId} {x y : V} {f : V → Res} {r : End × List B} (h : binMoreK P op t x y f = some r) : ∃ v, f v = some r ∧ ∀ f' : V → Res, binMoreK P op t x y f' = f' v := by
  unfold binMoreK at h
  split at h
  · rename_i k a k' b
    split at h
    · cases hb : decide (b < 0) with
      | true => rw [hb] at h; cases h
      | false => rw [hb] at h; exact ⟨_, h, fun f' => by simp only [binMoreK, hb]; rfl⟩
    · cases hb : decide (b < 0) with
      | true => rw [hb] at h; cases h
      | false => rw [hb] at h; exact ⟨_, h, fun f' => by simp only [binMoreK, hb]; rfl⟩
    · split at h
      case isFalse => cases h
      rename_i hk
      subst hk
      unfold intMoreK at h
      split at h
      · cases hb : (b == 0) with
        | true => rw [hb] at h; cases h
        | false => rw [hb] at h; exact ⟨_, h, fun f' => by simp only [binMoreK, intMoreK, hb, if_pos]; rfl⟩
      · cases hb : (b == 0) with
        | true => rw [hb] at h; cases h
        | false => rw [hb] at h; exact ⟨_, h, fun f' => by simp only [binMoreK, intMoreK, hb, if_pos]; rfl⟩
      · exact ⟨_, h, fun f' => by simp only [binMoreK, intMoreK, if_pos]⟩
      · exact ⟨_, h, fun f' => by simp only [binMoreK, intMoreK, if_pos]⟩
      · exact ⟨_, h, fun f' => by simp only [binMoreK, intMoreK, if_pos]⟩
      · cases h
  · split at h
    · split at h
      case isFalse => cases h
      rename_i hs
      exact ⟨_, h, fun f' => by simp only [binMoreK, if_pos hs]⟩
    · cases h
  · rename_i xs ys
    split at h
    · cases h
    rename_i hg
    split at h
    case h_2 => cases h
    rename_i b h1 h2
    split at h
    · exact ⟨_, h, fun f' => by simp only [binMoreK]; rw [if_neg hg, h1, h2]⟩
    · exact ⟨_, h, fun f' => by simp only [binMoreK]; rw [if_neg hg, h1, h2]⟩
    · cases h
  · cases h

theorem bound_core {v : Option V} {d : Int} {f : Int → Res} {r : End × List B} (h : boundK v d f = some r) : ∃ n, f n = some r ∧ ∀ f' : Int → Res, boundK v d f' = f' n := by
  unfold boundK at h
  split at h
  · exact ⟨_, h, fun f' => rfl⟩
  · exact ⟨_, h, fun f' => rfl⟩
  · cases h

theorem slice_core {P : Program} {L : List B} {t : TypeId} {x : V} {lo hi : Option V} {f : V → Res} {r : End × List B} (h : sliceK P L t x lo hi f = some r) : ∃ v, f v = some r ∧ ∀ L' : List B, (∀ k ∈ refs1 x, L[k]? = L'[k]?) → ∀ f' : V → Res, sliceK P L' t x lo hi f' = f' v := by
  unfold sliceK at h
  split at h
  · rename_i b hu
    obtain ⟨n, h, hn⟩ := bound_core h
    obtain ⟨m, h, hm⟩ := bound_core h
    split at h
    case isFalse => cases h
    rename_i hc
    exact ⟨_, h, fun L' _ f' => by simp only [sliceK, hu]; rw [hn, hm, if_pos hc]⟩
  · rename_i e xs hu
    split at h
    case h_2 => cases h
    rename_i s hs
    obtain ⟨n, h, hn⟩ := bound_core h
    obtain ⟨m, h, hm⟩ := bound_core h
    split at h
    case isFalse => cases h
    rename_i hc
    cases hz : okSz s xs with
    | false => rw [hz] at h; cases h
    | true =>
      rw [hz] at h
      exact ⟨_, h, fun L' _ f' => by simp only [sliceK, hu, hs]; rw [hn, hm, if_pos hc, hz]; rfl⟩
  · rename_i e sz b a n0 hu
    split at h
    case h_2 => cases h
    rename_i s hs
    split at h
    case isFalse => cases h
    rename_i hsz
    obtain ⟨n, h, hn⟩ := bound_core h
    obtain ⟨m, h, hm⟩ := bound_core h
    split at h
    case isFalse => cases h
    rename_i hc
    refine ⟨_, h, fun L' hL' f' => ?_⟩
    have hsz' : sz = s ∧ liveB L' b = true := ⟨hsz.1, by rw [← liveB_congr (hL' b (by simp [refs1, refs0]))]; exact hsz.2⟩
    simp only [sliceK, hu, hs]
    rw [if_pos hsz', hn, hm, if_pos hc]
  · cases h

theorem src_core {P : Program} {L : List B} {t : TypeId} {s : Nat} {x : V} {f : List (List D) → Res} {r : End × List B} (h : srcK P L t s x f = some r) : ∃ ys, f ys = some r ∧ ∀ f' : List (List D) → Res, srcK P L t s x f' = f' ys := by
  unfold srcK at h
  split at h
  · rename_i e xs hu
    cases hz : okSz s xs with
    | false => rw [hz] at h; cases h
    | true => rw [hz] at h; exact ⟨_, h, fun f' => by simp only [srcK, hu, hz]; rfl⟩
  · rename_i e hu
    exact ⟨_, h, fun f' => by simp only [srcK, hu]⟩
  · rename_i e sz b a n hu
    split at h
    case h_2 => cases h
    rename_i e' sz' xs hb
    split at h
    case isFalse => cases h
    rename_i h1
    split at h
    case isFalse => cases h
    rename_i h2
    exact ⟨_, h, fun f' => by simp only [srcK, hu, hb]; rw [if_pos h1, if_pos h2]⟩
  · rename_i b hu
    split at h
    case isFalse => cases h
    rename_i h1
    exact ⟨_, h, fun f' => by simp only [srcK, hu]; rw [if_pos h1]⟩
  · cases h

theorem convert_core {P : Program} {L : List B} {s d : TypeId} {x : V} {f : V → Res} {r : End × List B} (h : convertK P L s d x f = some r) : ∃ v, f v = some r ∧ ∀ L' : List B, (∀ k ∈ refs1 x, L[k]? = L'[k]?) → ∀ f' : V → Res, convertK P L' s d x f' = f' v := by
  unfold convertK at h
  split at h
  · rename_i h1 h2
    exact ⟨_, h, fun L' _ f' => by simp only [convertK, h1, h2]⟩
  · rename_i h1 h2
    exact ⟨_, h, fun L' _ f' => by simp only [convertK, h1, h2]⟩
  · rename_i e h1 h2 hneg
    split at h
    case h_2 => cases h
    rename_i h3
    obtain ⟨ys, h, hys⟩ := src_core h
    cases hb : isBytes ys with
    | false => rw [hb] at h; cases h
    | true =>
      rw [hb] at h
      refine ⟨_, h, fun L' hL' f' => ?_⟩
      have h4 := hys (fun ys => bif isBytes ys then f' (.d (.s (ofBytes ys))) else none)
      rw [srcK_congr hL', hb] at h4
      rename_i x u1 u2 u3 u4 u5
      have h5 : convertK P L' s d x f' = srcK P L' s 1 x fun ys => bif isBytes ys then f' (.d (.s (ofBytes ys))) else none := by
        unfold convertK
        rw [h1, h2]
        cases x with
        | d dd => cases dd <;> first | exact absurd rfl (hneg _) | simp only [h3]
        | _ => simp only [h3]
      rw [h5]
      exact h4
  · cases h

theorem lookup_core {P : Program} {L : List B} {t : TypeId} {x key : V} {ok : Bool} {f : V → Res} {r : End × List B} (h : lookupK P L t x key ok f = some r) : ∃ v, f v = some r ∧ ∀ L' : List B, (∀ k ∈ refs1 x, L[k]? = L'[k]?) → ∀ f' : V → Res, lookupK P L' t x key ok f' = f' v := by
  unfold lookupK at h
  split at h
  case h_2 => cases h
  rename_i ag et hm
  split at h
  case h_2 => cases h
  rename_i q z s hq hz
  split at h
  · exact ⟨_, h, fun L' _ f' => by simp only [lookupK, hm, hq, hz]⟩
  · rename_i b
    split at h
    case h_2 => cases h
    rename_i ag' es hb
    split at h
    case isFalse => cases h
    rename_i hag
    subst hag
    unfold findK at h
    split at h
    · rename_i cs hf
      have h0 := h
      obtain ⟨h, hlen⟩ := tcells_some h
      have ht : ∀ f' : List D → Res, tcells q cs f' = f' cs := fun f' => tcells_run q cs ⟨_, _, h0⟩ f'
      split at h
      · refine ⟨_, h, fun L' hL' f' => ?_⟩
        rw [hL' b (by simp [refs1, refs0])] at hb
        simp only [lookupK, hm, hq, hz, hb, findK, hf, if_pos, ht]
      · refine ⟨_, h, fun L' hL' f' => ?_⟩
        rw [hL' b (by simp [refs1, refs0])] at hb
        simp only [lookupK, hm, hq, hz, hb, findK, hf, if_pos, ht]
      · cases h
    · rename_i hf
      refine ⟨_, h, fun L' hL' f' => ?_⟩
      rw [hL' b (by simp [refs1, refs0])] at hb
      simp only [lookupK, hm, hq, hz, hb, findK, hf, if_pos]
  · cases h

theorem nilV_congr {P : Program} {L L' : List B} {t : TypeId} {x : V} (h : ∀ k ∈ refs1 x, L[k]? = L'[k]?) : nilV P L t x = nilV P L' t x := by
  unfold nilV
  cases hu : P.underlying t with
  | none => rfl
  | some d => cases x with
    | ptr k off => cases d <;> first | rfl | simp only [liveB_congr (h k (by simp [refs1, refs0]))]
    | row sz k a n => cases d <;> first | rfl | simp only [liveB_congr (h k (by simp [refs1, refs0]))]
    | map k => cases d <;> first | rfl | simp only [liveB_congr (h k (by simp [refs1, refs0]))]
    | _ => cases d <;> rfl
theorem nilCmp_congr {P : Program} {L L' : List B} {op : BinOp} {t : TypeId} {Y : Operand} {x y : V} (h : ∀ k ∈ refs1 x, L[k]? = L'[k]?) (h' : ∀ k ∈ refs1 y, L[k]? = L'[k]?) : nilCmp P L op t Y x y = nilCmp P L' op t Y x y := by
  unfold nilCmp
  rw [nilV_congr h, nilV_congr h']
theorem rowC_congr {L L' : List B} {s : Nat} {x : V} (h : ∀ k ∈ refs1 x, L[k]? = L'[k]?) : rowC L s x = rowC L' s x := by
  unfold rowC
  cases x with
  | row sz b a n => simp only; rw [h b (by simp [refs1, refs0])]
  | d dd => cases dd <;> rfl
  | _ => rfl
theorem lookupC_congr {P : Program} {L L' : List B} {t : TypeId} {x key : V} {ok : Bool} (h : ∀ k ∈ refs1 x, L[k]? = L'[k]?) : lookupC P L t x key ok = lookupC P L' t x key ok := by
  unfold lookupC
  cases x with
  | map b => simp only; rw [h b (by simp [refs1, refs0])]
  | _ => rfl
theorem convertC_core {P : Program} {L : List B} {s d : TypeId} {x : V} {q : V → List B → Res} {r : End × List B} (h : convertC P L s d x q = some r) : ∃ v, q v L = some r ∧ ∀ L' : List B, (∀ k ∈ refs1 x, L[k]? = L'[k]?) → ∀ q' : V → List B → Res, convertC P L' s d x q' = q' v L' := by
  unfold convertC at h
  split at h
  · rename_i e n m h1 h2
    exact ⟨_, h, fun L' _ q' => by simp only [convertC, h1, h2]⟩
  · rename_i e n h1 h2
    exact ⟨_, h, fun L' _ q' => by simp only [convertC, h1, h2]⟩
  · rename_i y e h1 h2 hneg
    split at h
    case h_2 => cases h
    rename_i m ys h3 h4
    cases hb : ys.all isByteV with
    | false => rw [hb] at h; cases h
    | true =>
      rw [hb] at h
      refine ⟨_, h, fun L' hL' q' => ?_⟩
      rw [rowC_congr hL'] at h4
      unfold convertC
      rw [h1, h2]
      split
      · rename_i h5; cases h5
      · rename_i z _ _; exact (hneg z rfl).elim
      · rename_i e' h5 _ _
        injection h5 with h5
        injection h5 with h5
        subst h5
        simp only [h3, h4, hb, cond_true]
      · rename_i n3 n2 n1; exact (n3 _ rfl rfl).elim
  · cases h
theorem sliceC_core {P : Program} {L : List B} {t : TypeId} {x : V} {lo hi : Option V} {q : V → List B → Res} {r : End × List B} (h : sliceC P L t x lo hi q = some r) : ∃ v, q v L = some r ∧ ∀ L' : List B, (∀ k ∈ refs1 x, L[k]? = L'[k]?) → ∀ q' : V → List B → Res, sliceC P L' t x lo hi q' = q' v L' := by
  unfold sliceC at h
  split at h
  · rename_i e hu
    split at h
    case h_2 => cases h
    rename_i s hs
    exact ⟨_, h, fun L' _ q' => by simp only [sliceC, hu, hs]⟩
  · rename_i e k hu
    split at h
    case h_2 => cases h
    rename_i s hs
    exact ⟨_, h, fun L' _ q' => by simp only [sliceC, hu, hs]⟩
  · rename_i e k hu
    split at h
    case h_2 => cases h
    rename_i s hs
    exact ⟨_, h, fun L' _ q' => by simp only [sliceC, hu, hs]⟩
  · rename_i n1 n2 n3
    obtain ⟨v, h1, hv⟩ := slice_core h
    refine ⟨v, h1, fun L' hL' q' => ?_⟩
    unfold sliceC
    split
    · exact (n1 _ (by assumption) rfl rfl rfl).elim
    · exact (n2 _ _ (by assumption) rfl rfl rfl).elim
    · exact (n3 _ _ (by assumption) rfl rfl rfl).elim
    · exact hv L' hL' _

/-! ### what can be done at any time -/
def Rd (E : Env) (o : Oper) (fr : List V) (L : List B) (v : V) : Prop := ∀ q : V → List B → Res, evOp E o fr L q noK = q v L

theorem read_core {E : Env} {o : Oper} {fr : List V} {L : List B} {q p : V → List B → Res} {r : End × List B} (h0 : isRead o = true) (h : evOp E o fr L q p = some r) :
    ∃ v, q v L = some r ∧ ∀ L' : List B, (∀ k ∈ fpOf o fr, L[k]? = L'[k]?) → ∀ q' p' : V → List B → Res, evOp E o fr L' q' p' = q' v L' := by
  obtain ⟨dst, op, type, pos, after, guard⟩ := o
  have fp1 : ∀ {x : Operand} {L' : List B}, x ∈ op.operands → (∀ k ∈ fpOf ⟨dst, op, type, pos, after, guard⟩ fr, L[k]? = L'[k]?) → ∀ k ∈ refs1 (evO fr x), L[k]? = L'[k]? := fun hx hk k hk' => hk k (List.mem_flatMap.2 ⟨_, Array.mem_toList_iff.2 hx, hk'⟩)
  cases op <;> first | exact absurd h0 Bool.false_ne_true | skip
  case move x => exact ⟨_, h, fun L' _ q' p' => rfl⟩
  case assign x => exact ⟨_, h, fun L' _ q' p' => rfl⟩
  case pick c x y =>
    simp only [evOp] at h ⊢
    cases hc : evO fr c with
    | d dd =>
      cases dd with
      | b z =>
        rw [hc] at h
        cases z with
        | true => exact ⟨_, h, fun L' _ q' p' => rfl⟩
        | false => exact ⟨_, h, fun L' _ q' p' => rfl⟩
      | _ => rw [hc] at h; cases h
    | _ => rw [hc] at h; cases h
  case load t x =>
    simp only [evOp] at h ⊢
    split at h
    · rename_i v hv
      exact ⟨_, h, fun L' hL' q' p' => by rw [← loadV_congr (fp1 (by simp [Op.operands]) hL'), hv]⟩
    · cases h
  case nilCheck x =>
    simp only [evOp] at h ⊢
    split at h
    · rename_i n off hx
      split at h
      · rename_i hl
        refine ⟨_, h, fun L' hL' q' p' => ?_⟩
        have := fp1 (x := x) (by simp [Op.operands]) hL' n (by rw [hx]; simp [refs1, refs0])
        simp only [← liveB_congr this, hl, if_pos]
      · cases h
    · exact ⟨_, h, fun L' hL' q' p' => rfl⟩
    · cases h
  case binOp op t x y ty =>
    simp only [evOp] at h ⊢
    cases hb : binS E.P op t (evO fr x) (evO fr y) with
    | some v =>
      rw [hb] at h
      exact ⟨_, h, fun L' hL' q' p' => rfl⟩
    | none =>
      rw [hb] at h
      simp only at h
      have hcg : ∀ L' : List B, (∀ k ∈ fpOf ⟨dst, .binOp op t x y ty, type, pos, after, guard⟩ fr, L[k]? = L'[k]?) → nilCmp E.P L op t y (evO fr x) (evO fr y) = nilCmp E.P L' op t y (evO fr x) (evO fr y) := fun L' hL' => nilCmp_congr (fp1 (by simp [Op.operands]) hL') (fp1 (by simp [Op.operands]) hL')
      cases hn : nilCmp E.P L op t y (evO fr x) (evO fr y) with
      | some v =>
        rw [hn] at h
        exact ⟨_, h, fun L' hL' q' p' => by simp only [← hcg L' hL', hn]⟩
      | none =>
        rw [hn] at h
        obtain ⟨v, h, hv⟩ := binMore_core h
        exact ⟨_, h, fun L' hL' q' p' => by simp only [← hcg L' hL', hn]; exact hv _⟩
  case unOp op t x =>
    simp only [evOp] at h ⊢
    split at h
    · rename_i v hv
      exact ⟨_, h, fun L' hL' q' p' => by first | rfl | rw [hv]⟩
    · cases h
  case convert s d x =>
    simp only [evOp, moreK, moreC] at h ⊢
    cases hcc : E.conc with
    | true =>
      rw [hcc] at h
      simp only [cond_true] at h ⊢
      obtain ⟨v, h, hv⟩ := convertC_core h
      exact ⟨_, h, fun L' hL' q' p' => hv L' (fp1 (by simp [Op.operands]) hL') _⟩
    | false =>
    rw [hcc] at h
    simp only [cond_false] at h ⊢
    obtain ⟨v, h, hv⟩ := convert_core h
    exact ⟨_, h, fun L' hL' q' p' => hv L' (fp1 (by simp [Op.operands]) hL') _⟩
  case typeAssert x xt at_ ok =>
    simp only [evOp, moreK, moreC, bothK, oneK] at h ⊢
    cases hv : typeAssertV E.P (evO fr x) at_ ok with
    | none => rw [hv] at h; cases hcc : E.conc <;> rw [hcc] at h <;> cases h
    | some v =>
      rw [hv] at h
      refine ⟨v, ?_, fun L' hL' q' p' => by cases E.conc <;> rfl⟩
      cases hcc : E.conc <;> rw [hcc] at h <;> exact h
  case field t x f =>
    simp only [evOp, moreK, moreC, bothK, oneK] at h ⊢
    cases hv : fieldOfV E.P t (evO fr x) f with
    | none => rw [hv] at h; cases hcc : E.conc <;> rw [hcc] at h <;> cases h
    | some v =>
      rw [hv] at h
      refine ⟨v, ?_, fun L' hL' q' p' => by cases E.conc <;> rfl⟩
      cases hcc : E.conc <;> rw [hcc] at h <;> exact h
  case makeInterface t x =>
    simp only [evOp] at h ⊢
    split at h
    · rename_i hc
      exact ⟨_, h, fun L' hL' q' p' => by rw [if_pos hc]⟩
    · cases h
  case lookup t x key ok =>
    simp only [evOp, moreK, moreC, oneK] at h ⊢
    cases hcc : E.conc with
    | true =>
      rw [hcc] at h
      simp only [cond_true] at h ⊢
      split at h
      case h_2 => cases h
      rename_i v hv
      exact ⟨_, h, fun L' hL' q' p' => by rw [← lookupC_congr (fp1 (by simp [Op.operands]) hL'), hv]⟩
    | false =>
    rw [hcc] at h
    simp only [cond_false] at h ⊢
    obtain ⟨v, h, hv⟩ := lookup_core h
    exact ⟨_, h, fun L' hL' q' p' => hv L' (fp1 (by simp [Op.operands]) hL') _⟩
  case slice t x lo hi mx =>
    cases mx with
    | some _ => cases hcc : E.conc <;> simp [evOp, moreK, moreC, bothK, hcc] at h
    | none =>
      simp only [evOp, moreK, moreC] at h ⊢
      cases hcc : E.conc with
      | true =>
        rw [hcc] at h
        simp only [cond_true] at h ⊢
        obtain ⟨v, h, hv⟩ := sliceC_core h
        exact ⟨_, h, fun L' hL' q' p' => hv L' (fp1 (by simp [Op.operands]) hL') _⟩
      | false =>
      rw [hcc] at h
      simp only [cond_false] at h ⊢
      obtain ⟨v, h, hv⟩ := slice_core h
      exact ⟨_, h, fun L' hL' q' p' => hv L' (fp1 (by simp [Op.operands]) hL') _⟩
  case makeFunc fn first captured =>
    cases fn with
    | func f =>
      simp only [evOp] at h ⊢
      split at h
      · rename_i hf
        exact ⟨_, h, fun L' hL' q' p' => by rw [if_pos hf]⟩
      · cases h
    | _ => cases hcc : E.conc <;> simp [evOp, moreK, moreC, bothK, hcc] at h
  case fieldAddr t x f =>
    simp only [evOp] at h ⊢
    split at h
    · rename_i v hv
      exact ⟨_, h, fun L' hL' q' p' => by rw [← fieldV_congr (fp1 (by simp [Op.operands]) hL'), hv]⟩
    · cases h
  case extract x i =>
    simp only [evOp] at h ⊢
    split at h
    · split at h
      · rename_i hv
        exact ⟨_, h, fun L' hL' q' p' => by first | rfl | rw [hv]⟩
      · cases h
    · cases h
  case build t ps =>
    simp only [evOp] at h ⊢
    split at h
    · split at h
      · split at h
        · cases h
        · split at h
          · rename_i hc _ _ hv
            exact ⟨_, h, fun L' hL' q' p' => by rw [if_neg hc]⟩
          · cases h
      · cases h
    · split at h
      · cases h
      · split at h
        · rename_i hc _ _ hv
          exact ⟨_, h, fun L' hL' q' p' => by rw [if_neg hc]⟩
        · cases h
    · cases h
  case indexAddr t x i =>
    simp only [evOp] at h ⊢
    split at h
    case h_2 => cases h
    rename_i n hn
    unfold indexAddrK at h
    split at h
    case h_3 => cases h
    case h_2 =>
      rename_i len e hu
      split at h
      case h_2 => cases h
      rename_i s b off hs hx
      split at h
      case isFalse => cases h
      rename_i hc
      refine ⟨_, h, fun L' hL' q' p' => ?_⟩
      have := fp1 (x := x) (by simp [Op.operands]) hL' b (by rw [hx]; simp [refs1, refs0])
      rw [liveB_congr this] at hc
      simp only [indexAddrK, hu, hs, hx]
      rw [if_pos hc]
    rename_i e hu
    split at h
    case h_2 => cases h
    rename_i s hs
    split at h
    · rename_i xs hx
      split at h
      case h_2 => cases h
      rename_i kq hq
      split at h
      case isFalse => cases h
      rename_i hlen
      obtain ⟨hi, cs, hcs, h⟩ := getK_some h
      have ht := tcells_run kq cs ⟨_, _, h⟩ (fun cs => q (.dp cs 0) L)
      rw [ht] at h
      refine ⟨_, h, fun L' hL' q' p' => ?_⟩
      have ht' := tcells_run kq cs ⟨(fun cs => q (.dp cs 0) L), r, by rw [ht]; exact h⟩ (fun cs => q' (.dp cs 0) L')
      simp only [indexAddrK, hu, hs, hx, hq]
      rw [if_pos hlen]
      unfold getK
      rw [if_pos hi, hcs]
      exact ht'
    · rename_i sz b a n0 hx
      split at h
      case h_3 => cases h
      case h_2 =>
        rename_i e' cs hb
        split at h
        case isFalse => cases h
        rename_i hc
        refine ⟨_, h, fun L' hL' q' p' => ?_⟩
        have := fp1 (x := x) (by simp [Op.operands]) hL' b (by rw [hx]; simp [refs1, refs0])
        rw [this] at hb
        simp only [indexAddrK, hu, hs, hx, hb]
        rw [if_pos hc]
      rename_i e' sz' xs hb
      split at h
      case isFalse => cases h
      rename_i h1
      split at h
      case isFalse => cases h
      rename_i h2
      refine ⟨_, h, fun L' hL' q' p' => ?_⟩
      have := fp1 (x := x) (by simp [Op.operands]) hL' b (by rw [hx]; simp [refs1, refs0])
      rw [this] at hb
      simp only [indexAddrK, hu, hs, hx, hb]
      rw [if_pos h1, if_pos h2]
    · cases h
  case index t x i =>
    simp only [evOp] at h ⊢
    split at h
    case h_2 => cases h
    rename_i n hn
    unfold indexK at h
    split at h
    · rename_i b hu hx
      obtain ⟨hi, ch, hch, h⟩ := bytK_some h
      refine ⟨_, h, fun L' hL' q' p' => ?_⟩
      simp only [indexK, hu, hx]
      unfold bytK
      rw [if_pos hi, hch]
    · rename_i len e cs hu hx
      split at h
      case h_2 => cases h
      rename_i h1 h2
      split at h
      case isFalse => cases h
      rename_i h3
      split at h
      case h_2 => cases h
      rename_i v hv
      refine ⟨_, h, fun L' hL' q' p' => ?_⟩
      simp only [indexK, hu, hx, h1, h2]
      rw [if_pos h3, hv]
    · cases h
  case call c =>
    simp only [isRead] at h0
    split at h0
    case h_2 => cases h0
    rename_i hc
    simp only [evOp] at h ⊢
    rw [hc] at h
    simp only at h
    split at h
    case h_2 => cases h
    rename_i x t hx ht
    split at h
    case h_2 => cases h
    rename_i n hn
    refine ⟨_, h, fun L' hL' q' p' => ?_⟩
    rw [hc, hx, ht]
    simp only
    have hfp : ∀ k ∈ refs1 x, L[k]? = L'[k]? := fun k hk => by
      have hm : x ∈ c.args.toList.map (evO fr) := by rw [hx]; simp
      obtain ⟨y, hy, rfl⟩ := List.mem_map.1 hm
      exact fp1 (x := y) (by simp [Op.operands, Call.operands, hc, Array.mem_toList_iff.1 hy]) hL' k hk
    rw [← lenV_congr hfp, hn]

/-! ### what an operation leaves as it was -/
def Frm (w : List Nat) (L L' : List B) : Prop := ∀ b, b < L.length → b ∉ w → L'[b]? = L[b]?
noncomputable def held (w : List Nat) (L : List B) (k : V → List B → Res) : V → List B → Res := open Classical in fun v L' => if Frm w L L' then k v L' else none
theorem held_of {w : List Nat} {L L' : List B} (h : Frm w L L') (k : V → List B → Res) (v : V) : held w L k v L' = k v L' := if_pos h

theorem Frm.refl (w : List Nat) (L : List B) : Frm w L L := fun _ _ _ => rfl
theorem Frm.push (w : List Nat) (L M : List B) : Frm w L (L ++ M) := fun b hb _ => List.getElem?_append_left hb
theorem Frm.setPush {w : List Nat} {L M : List B} {k : Nat} {x : B} (h : k ∈ w) : Frm w L (L.set k x ++ M) := fun b hb hw => by
  rw [List.getElem?_append_left (by simpa using hb), List.getElem?_set_ne (fun e => hw (by rw [← e]; exact h))]
theorem Frm.set {w : List Nat} {L : List B} {k : Nat} {x : B} (h : k ∈ w) : Frm w L (L.set k x) := fun b hb hw => by
  rw [List.getElem?_set_ne (fun e => hw (by rw [← e]; exact h))]

theorem kill_ne {l : List Nat} : ∀ {L : List B} {b : Nat}, b ∉ l → (kill L l)[b]? = L[b]? := by
  induction l with
  | nil => intro L b _; rfl
  | cons k l ih =>
    intro L b h
    simp only [List.mem_cons, not_or] at h
    unfold kill
    rw [ih h.2, List.getElem?_set_ne (fun e => h.1 e.symm)]
theorem putBack_ne : ∀ {l : List Nat} {L bs : List B} {b : Nat}, b ∉ l → (putBack L l bs)[b]? = L[b]?
  | [], L, bs, b, _ => by cases bs <;> rfl
  | k :: l, L, [], b, _ => rfl
  | k :: l, L, x :: bs, b, h => by
    simp only [List.mem_cons, not_or] at h
    unfold putBack
    rw [putBack_ne h.2, List.getElem?_set_ne (fun e => h.1 e.symm)]
theorem putBack_length : ∀ {l : List Nat} {L bs : List B}, (putBack L l bs).length = L.length
  | [], L, bs => by cases bs <;> rfl
  | k :: l, L, [] => rfl
  | k :: l, L, x :: bs => by
    unfold putBack
    rw [putBack_length, List.length_set]

theorem store_frm {P : Program} {L L' : List B} {t : TypeId} {p v : V} (h : storeV P L t p v = some L') : Frm (refs1 p) L L' := by
  unfold storeV at h
  split at h
  case h_2 => cases h
  split at h
  case isFalse => cases h
  split at h
  · split at h
    case h_2 => cases h
    split at h
    case isFalse => cases h
    injection h with h
    subst h
    exact Frm.set (by simp [refs1, refs0])
  · split at h
    · split at h
      · injection h with h
        subst h
        exact Frm.set (by simp [refs1, refs0])
      · cases h
    · cases h
  · cases h

theorem update_frm {P : Program} {L L' : List B} {t : TypeId} {x key v : V} (h : updateV P L t x key v = some L') : Frm (refs1 x) L L' := by
  unfold updateV at h
  split at h
  case h_2 => cases h
  split at h
  case h_2 => cases h
  split at h
  case isFalse => cases h
  injection h with h
  subst h
  exact Frm.set (by simp [refs1, refs0])

theorem callC_frm {E : Env} {L : List B} {f : FuncId} {args : List V} {k : V → List B → Res} {r : End × List B} (hcc : E.conc = true) (h : callC E L f args k noK = some r) : callC E L f args (held (callW E L f args) L k) noK = some r := by
  unfold callC at h ⊢
  unfold callW
  rw [hcc]
  simp only [cond_true] at h ⊢
  generalize reach L 9 (addNew (args.flatMap refs1) []) = io at h ⊢
  cases hd : noDup io with
  | false => rw [hd] at h; cases h
  | true =>
  rw [hd] at h
  simp only [Bool.not_true, cond_false] at h ⊢
  split at h
  case h_2 => cases h
  rw [← h]
  congr 1
  funext e bs'
  have hg : ∀ v L', Frm io L L' → goE e (held io L k) noK v L' = goE e k noK v L' := fun v L' hf => by
    cases e with
    | ret _ => exact held_of hf k v
    | panic _ => rfl
  split
  · rw [hg]
    intro b hb hw
    rw [List.getElem?_append_left (by rw [putBack_length]; exact hb)]
    exact putBack_ne hw
  · rfl

theorem call_frm {E : Env} {L : List B} {f : FuncId} {args : List V} {k : V → List B → Res} {r : End × List B} (hcc : E.conc = false) (h : callK E L f args k noK = some r) : callK E L f args (held (callW E L f args) L k) noK = some r := by
  unfold callK at h ⊢
  unfold callW
  rw [hcc]
  simp only [cond_false]
  cases hrow : rowOKA L (E.byRow f) args with
  | false => rw [hrow] at h; cases h
  | true =>
  rw [hrow] at h
  simp only [cond_true] at h ⊢
  split at h
  · cases h
  · rename_i args0 ha
    simp only at h ⊢
    generalize (if E.byRow f = true then ([] : List Nat) else args.flatMap lent1) = lent at h ⊢
    generalize reach L 4 (addNew (args0.flatMap refs1) []) = io at h ⊢
    split at h
    · cases h
    · rename_i hc
      rw [if_neg hc]
      split at h
      · rename_i args' bs h1 h2
        rw [← h]
        congr 1
        funext e bs'
        have hg : ∀ v L', Frm (io ++ lent) L L' → goE e (held (io ++ lent) L k) noK v L' = goE e k noK v L' := fun v L' hf => by
          cases e with
          | ret _ => exact held_of hf k v
          | panic _ => rfl
        have hpb : ∀ bs1, Frm (io ++ lent) L (putBack (kill L lent) io bs1) := fun bs1 b hb hw => by
          simp only [List.mem_append, not_or] at hw
          rw [putBack_ne hw.1, kill_ne hw.2]
        split
        · split
          · rw [hg _ _ (Frm.refl _ _)]
          · rw [hg _ _ (hpb _)]
        · split
          · rw [hg]
            intro b hb hw
            rw [List.getElem?_append_left (by rw [putBack_length, kill_length]; exact hb)]
            exact hpb _ b hb hw
          · rfl
      · cases h

theorem append_frm {P : Program} {L : List B} {t tx : TypeId} {s x : V} {k : V → List B → Res} {r : End × List B} {w : List Nat} (hw : ∀ b ∈ refs1 s, b ∈ w) (h : appendK P L t tx s x k = some r) : appendK P L t tx s x (held w L k) = some r := by
  unfold appendK at h ⊢
  split at h
  case h_2 => cases h
  split at h
  case h_2 => cases h
  obtain ⟨ys, h1, hys⟩ := src_core h
  clear h
  rw [hys]
  split at h1
  · split at h1
    · rw [held_of (Frm.refl _ _)]; exact h1
    · split at h1
      · rename_i hc; rw [if_pos hc, held_of (Frm.push _ _ _)]; exact h1
      · cases h1
  · split at h1
    case h_2 => cases h1
    rename_i sz b n _ e' sz' xs hb
    split at h1
    case isFalse => cases h1
    rename_i hc
    rw [if_pos hc]
    split at h1
    case isFalse => cases h1
    rename_i hd
    rw [if_pos hd, held_of (Frm.setPush (hw b (by simp [refs1, refs0])))]
    exact h1
  · cases h1
theorem copy_frm {P : Program} {L : List B} {t tx : TypeId} {s x : V} {k : V → List B → Res} {r : End × List B} {w : List Nat} (hw : ∀ b ∈ refs1 s, b ∈ w) (h : copyK P L t tx s x k = some r) : copyK P L t tx s x (held w L k) = some r := by
  unfold copyK at h ⊢
  split at h
  case h_2 => cases h
  rename_i e sz b a n hu
  split at h
  case h_2 => cases h
  obtain ⟨ys, h1, hys⟩ := src_core h
  clear h
  rw [hys]
  split at h1
  case h_2 => cases h1
  split at h1
  case isFalse => cases h1
  rename_i hc
  rw [if_pos hc]
  split at h1
  case isFalse => cases h1
  rename_i hd
  rw [if_pos hd, held_of (Frm.set (hw b (by simp [refs1, refs0])))]
  exact h1

theorem Frm.mem {w w' : List Nat} {L L' : List B} (h : Frm w L L') (hw : ∀ b ∈ w, b ∈ w') : Frm w' L L' := fun b hb hn => h b hb (fun hm => hn (hw b hm))
theorem appendC_frm {P : Program} {L L' : List B} {t tx : TypeId} {s x v : V} (h : appendC P L t tx s x = some (v, L')) : Frm (refs1 s) L L' := by
  unfold appendC at h
  split at h
  case h_2 => cases h
  split at h
  case h_2 => cases h
  split at h
  case h_2 => cases h
  rename_i m ys _
  split at h
  · cases hm : Nat.beq m 0 with
    | true => rw [hm] at h; injection h with h; injection h with _ h; subst h; exact Frm.refl _ _
    | false =>
      rw [hm] at h
      simp only [cond_false] at h
      split at h
      · injection h with h; injection h with _ h; subst h; exact Frm.push _ _ _
      · cases h
  · split at h
    case h_2 => cases h
    split at h
    case isFalse => cases h
    injection h with h
    injection h with _ h
    subst h
    exact Frm.setPush (by simp [refs1, refs0])
  · cases h
theorem copyC_frm {P : Program} {L L' : List B} {t tx : TypeId} {s x : V} {n : Nat} (h : copyC P L t tx s x = some (n, L')) : Frm (refs1 s) L L' := by
  unfold copyC at h
  split at h
  case h_2 => cases h
  split at h
  case h_2 => cases h
  split at h
  case h_2 => cases h
  rename_i m ys _
  split at h
  · cases hm : Nat.beq m 0 with
    | true => rw [hm] at h; injection h with h; injection h with _ h; subst h; exact Frm.refl _ _
    | false => rw [hm] at h; cases h
  · split at h
    case h_2 => cases h
    split at h
    case isFalse => cases h
    injection h with h
    injection h with _ h
    subst h
    exact Frm.set (by simp [refs1, refs0])
  · cases h
theorem deleteC_frm {P : Program} {L L' : List B} {t : TypeId} {x key : V} (h : deleteC P L t x key = some L') : Frm (refs1 x) L L' := by
  unfold deleteC at h
  split at h
  case h_2 => cases h
  split at h
  case h_2 => cases h
  split at h
  case h_2 => cases h
  split at h
  · injection h with h; subst h; exact Frm.refl _ _
  · injection h with h; subst h; exact Frm.set (by simp [refs1, refs0])
  · cases h
theorem updateC_frm {P : Program} {L L' : List B} {t : TypeId} {x key v : V} (h : updateC P L t x key v = some L') : Frm (refs1 x) L L' := by
  unfold updateC at h
  split at h
  case h_2 => cases h
  split at h
  case h_2 => cases h
  split at h
  case h_2 => cases h
  split at h
  · injection h with h; subst h; exact Frm.set (by simp [refs1, refs0])
  · split at h
    case h_2 => cases h
    rw [cond_eq_ite] at h
    split at h
    · injection h with h; subst h; exact Frm.set (by simp [refs1, refs0])
    · cases h
  · cases h
theorem mapEntryC_frm {P : Program} {L L' : List B} {t : TypeId} {x key v : V} (h : mapEntryC P L t x key = some (v, L')) : Frm (refs1 x) L L' := by
  unfold mapEntryC at h
  split at h
  case h_2 => cases h
  split at h
  case h_2 => cases h
  split at h
  case h_2 => cases h
  split at h
  · injection h with h; injection h with _ h; subst h; exact Frm.set (by simp [refs1, refs0])
  · split at h
    case h_2 => cases h
    rw [cond_eq_ite] at h
    split at h
    · injection h with h; injection h with _ h; subst h; exact Frm.set (by simp [refs1, refs0])
    · cases h
  · cases h
theorem entryStoreC_frm {L L' : List B} {x st v : V} (h : entryStoreC L x st v = some L') : Frm (refs1 x) L L' := by
  unfold entryStoreC at h
  split at h
  case h_2 => cases h
  split at h
  case h_2 => cases h
  split at h
  case h_2 => cases h
  split at h
  case h_2 => cases h
  injection h with h; subst h; exact Frm.set (by simp [refs1, refs0])
theorem rangeC_frm {P : Program} {L L' : List B} {t : TypeId} {x v : V} {w : List Nat} (h : rangeC P L t x = some (v, L')) : Frm w L L' := by
  unfold rangeC at h
  split at h
  case h_2 => cases h
  split at h
  case h_2 => cases h
  injection h with h; injection h with _ h; subst h; exact Frm.push _ _ _
theorem nextC_frm {L L' : List B} {x v : V} (h : nextC L x = some (v, L')) : Frm (refs1 x) L L' := by
  unfold nextC at h
  split at h
  case h_2 => cases h
  split at h
  case h_2 => cases h
  split at h
  case h_2 => cases h
  rename_i m since seen last _ _ n es _
  cases hb : (!seen.isEmpty && !es.isEmpty && es.all fun e => decide (e.2.2 ≥ last)) with
  | true => rw [hb] at h; cases h
  | false =>
  rw [hb] at h
  simp only [cond_false] at h
  split at h
  · injection h with h; injection h with _ h; subst h; exact Frm.refl _ _
  · injection h with h; injection h with _ h; subst h; exact Frm.set (by simp [refs1, refs0])
  · cases h
theorem makeSliceC_frm {P : Program} {L L' : List B} {t : TypeId} {l m v : V} {w : List Nat} (h : makeSliceC P L t l m = some (v, L')) : Frm w L L' := by
  unfold makeSliceC at h
  split at h
  case h_2 => cases h
  split at h
  case h_2 => cases h
  split at h
  case isFalse => cases h
  injection h with h; injection h with _ h; subst h; exact Frm.push _ _ _
theorem buildSliceC_frm {P : Program} {L L' : List B} {t : TypeId} {n : Nat} {ps : List (Nat × V)} {v : V} {w : List Nat} (h : buildSliceC P L t n ps = some (v, L')) : Frm w L L' := by
  unfold buildSliceC at h
  split at h
  case h_2 => cases h
  split at h
  case h_2 => cases h
  split at h
  case isFalse => cases h
  split at h
  case h_2 => cases h
  injection h with h; injection h with _ h; subst h; exact Frm.push _ _ _
theorem pairK_frm {o : Option (V × List B)} {w : List Nat} {L : List B} {k : V → List B → Res} {r : End × List B} (hf : ∀ v L', o = some (v, L') → Frm w L L') (h : pairK o k = some r) : pairK o (held w L k) = some r := by
  unfold pairK at h ⊢
  split at h
  case h_2 => cases h
  rw [held_of (hf _ _ rfl)]; exact h
theorem unitK_frm {o : Option (List B)} {w : List Nat} {L : List B} {k : V → List B → Res} {r : End × List B} (hf : ∀ L', o = some L' → Frm w L L') (h : unitK o k = some r) : unitK o (held w L k) = some r := by
  unfold unitK at h ⊢
  split at h
  case h_2 => cases h
  rw [held_of (hf _ rfl)]; exact h
theorem oneK_frm {o : Option V} {w : List Nat} {L : List B} {k : V → List B → Res} {r : End × List B} (h : oneK o L k = some r) : oneK o L (held w L k) = some r := by
  unfold oneK at h ⊢
  split at h
  case h_2 => cases h
  rw [held_of (Frm.refl _ _)]; exact h

theorem evOp_frmC {E : Env} (hcc : E.conc = true) {o : Oper} {fr : List V} {L : List B} {k : V → List B → Res} {r : End × List B} (h : evOp E o fr L k noK = some r) : evOp E o fr L (held (wrOf E o fr L) L k) noK = some r := by
  cases hr : isRead o with
  | true =>
    obtain ⟨v, h1, h2⟩ := read_core hr h
    rw [h2 L (fun _ _ => rfl), held_of (Frm.refl _ _)]
    exact h1
  | false =>
  obtain ⟨dst, op, type, pos, after, guard⟩ := o
  cases op <;> first | exact absurd hr.symm Bool.false_ne_true | skip
  case alloc t =>
    simp only [evOp] at h ⊢
    split at h
    · split at h
      · rename_i hc; rw [if_pos hc, held_of (Frm.push _ _ _)]; exact h
      · cases h
    · cases h
  case box t x =>
    simp only [evOp] at h ⊢
    split at h
    · rename_i hc; rw [if_pos hc, held_of (Frm.push _ _ _)]; exact h
    · cases h
  case store t a x =>
    simp only [evOp] at h ⊢
    split at h
    · rename_i L' hs; exact (held_of (w := refs1 (evO fr a)) (store_frm hs) k .gun).trans h
    · cases h
  case panic x =>
    simp only [evOp] at h
    split at h
    · cases h
    · cases h
  case makeMap t r =>
    cases r with
    | some _ => simp [evOp, moreC, bothK, hcc] at h
    | none =>
      simp only [evOp, moreC, hcc, cond_true] at h ⊢
      rw [held_of (Frm.push _ _ _)]; exact h
  case mapUpdate t m key v =>
    simp only [evOp, moreC, hcc, cond_true] at h ⊢
    exact unitK_frm (fun L' hL' => updateC_frm hL') h
  case insert t m key v =>
    simp only [evOp, moreC, hcc, cond_true] at h ⊢
    exact unitK_frm (fun L' hL' => updateC_frm hL') h
  case mapEntry t m key =>
    simp only [evOp, moreC, hcc, cond_true] at h ⊢
    exact pairK_frm (fun v L' hL' => mapEntryC_frm hL') h
  case entryStore t m st v =>
    simp only [evOp, moreC, hcc, cond_true] at h ⊢
    exact unitK_frm (fun L' hL' => entryStoreC_frm hL') h
  case range t x =>
    simp only [evOp, moreC, hcc, cond_true] at h ⊢
    exact pairK_frm (fun v L' hL' => rangeC_frm hL') h
  case next x b =>
    cases b with
    | true => simp [evOp, moreC, bothK, hcc] at h
    | false =>
      simp only [evOp, moreC, hcc, cond_true] at h ⊢
      exact pairK_frm (fun v L' hL' => nextC_frm hL') h
  case entry x =>
    simp only [evOp, moreC, hcc, cond_true] at h ⊢
    exact oneK_frm h
  case buildSlice t n ps =>
    simp only [evOp, moreC, hcc, cond_true] at h ⊢
    exact pairK_frm (fun v L' hL' => buildSliceC_frm hL') h
  case makeSlice t a b =>
    simp only [evOp, moreC, hcc, cond_true] at h ⊢
    exact pairK_frm (fun v L' hL' => makeSliceC_frm hL') h
  case call c =>
    simp only [evOp] at h ⊢
    cases hc : c.callee with
    | invoke r m => rw [hc] at h; cases h
    | value f =>
      rw [hc] at h
      simp only [hcc, cond_true] at h ⊢
      split at h
      case h_2 => cases h
      rename_i g cap hg
      have hw : wrOf E ⟨dst, .call c, type, pos, after, guard⟩ fr L = callW E L g (c.args.toList.map (evO fr) ++ cap) := by simp only [wrOf, hc, hg]
      rw [hw]
      split at h
      · rw [held_of (Frm.refl _ _)]; exact h
      · exact callC_frm hcc h
    | builtin b =>
      have hb : b ≠ .len := fun e => by subst e; simp [isRead, hc] at hr
      have e1 : ∀ k : V → List B → Res, (match (Callee.builtin b : Callee) with
        | .builtin .len => match c.args.toList.map (evO fr), c.argTypes.toList with
          | [x], [t] => match lenV E.P L t x with
            | some n => k (.d (.i .i64 n)) L
            | none => none
          | _, _ => none
        | .value f => match evO fr f with
          | .fn g cap => bif E.conc then (match E.ext g (c.args.toList.map (evO fr) ++ cap) with
            | some v => k v L
            | none => callC E L g (c.args.toList.map (evO fr) ++ cap) k noK) else callK E L g (c.args.toList.map (evO fr) ++ cap) k noK
          | _ => none
        | .builtin b => bif E.conc then builtinC E.P b c.argTypes.toList (c.args.toList.map (evO fr)) L k else builtinK E.P b c.argTypes.toList (c.args.toList.map (evO fr)) L k
        | _ => none) = builtinC E.P b c.argTypes.toList (c.args.toList.map (evO fr)) L k := fun k => by rw [hcc]; cases b <;> first | exact absurd rfl hb | rfl
      rw [hc] at h
      have h2 := (e1 k).symm.trans h
      refine (e1 _).trans ?_
      have hw : wrOf E ⟨dst, .call c, type, pos, after, guard⟩ fr L = (c.args.toList.map (evO fr)).flatMap refs1 := by simp only [wrOf, hc]
      rw [hw]
      unfold builtinC at h2 ⊢
      split at h2
      · rename_i hx; exact pairK_frm (fun v L' hL' => (appendC_frm hL').mem (fun b hb => by rw [hx]; simp [hb])) h2
      · rename_i hx
        split at h2
        · rename_i n L' hL'
          rw [held_of ((copyC_frm hL').mem (fun b hb => by rw [hx]; simp [hb]))]
          exact h2
        · cases h2
      · rename_i hx
        split at h2
        · rename_i L' hL'
          rw [held_of ((deleteC_frm hL').mem (fun b hb => by rw [hx]; simp [hb]))]
          exact h2
        · cases h2
      · exact oneK_frm h2
      · cases h2
  all_goals (simp [evOp, moreC, bothK, hcc] at h)

theorem evOp_frm {E : Env} {o : Oper} {fr : List V} {L : List B} {k : V → List B → Res} {r : End × List B} (h : evOp E o fr L k noK = some r) : evOp E o fr L (held (wrOf E o fr L) L k) noK = some r := by
  cases hcc : E.conc with
  | true => exact evOp_frmC hcc h
  | false =>
  cases hr : isRead o with
  | true =>
    obtain ⟨v, h1, h2⟩ := read_core hr h
    rw [h2 L (fun _ _ => rfl), held_of (Frm.refl _ _)]
    exact h1
  | false =>
  obtain ⟨dst, op, type, pos, after, guard⟩ := o
  cases op <;> first | exact absurd hr.symm Bool.false_ne_true | skip
  case alloc t =>
    simp only [evOp] at h ⊢
    split at h
    · split at h
      · rename_i hc; rw [if_pos hc, held_of (Frm.push _ _ _)]; exact h
      · cases h
    · cases h
  case box t x =>
    simp only [evOp] at h ⊢
    split at h
    · rename_i hc; rw [if_pos hc, held_of (Frm.push _ _ _)]; exact h
    · cases h
  case store t a x =>
    simp only [evOp] at h ⊢
    split at h
    · rename_i L' hs; exact (held_of (w := refs1 (evO fr a)) (store_frm hs) k .gun).trans h
    · cases h
  case panic x =>
    simp only [evOp] at h
    split at h
    · cases h
    · cases h
  case makeMap t r =>
    cases r with
    | some _ => simp [evOp, moreK, bothK, hcc] at h
    | none =>
      simp only [evOp, moreK, hcc, cond_false] at h ⊢
      split at h
      case h_2 => cases h
      rw [held_of (Frm.push _ _ _)]; exact h
  case mapUpdate t m key v =>
    simp only [evOp, moreK, hcc, cond_false] at h ⊢
    split at h
    case h_2 => cases h
    rename_i L' hs
    exact (held_of (w := refs1 (evO fr m)) (update_frm hs) k .gun).trans h
  case buildSlice t n ps =>
    simp only [evOp, moreK, buildSliceK, hcc, cond_false] at h ⊢
    split at h
    case h_2 => cases h
    split at h
    case h_2 => cases h
    split at h
    case isFalse => cases h
    rename_i hc
    rw [if_pos hc]
    split at h
    case h_2 => cases h
    split at h
    case h_2 => cases h
    rw [held_of (Frm.push _ _ _)]; exact h
  case makeSlice t a b =>
    simp only [evOp, moreK, makeSliceK, hcc, cond_false] at h ⊢
    split at h
    case h_2 => cases h
    split at h
    case h_2 => cases h
    split at h
    case isFalse => cases h
    rename_i hc
    rw [if_pos hc]
    split at h
    case isFalse => cases h
    rename_i hd
    rw [if_pos hd, held_of (Frm.push _ _ _)]; exact h
  case call c =>
    simp only [evOp] at h ⊢
    cases hc : c.callee with
    | invoke r m => rw [hc] at h; cases h
    | value f =>
      rw [hc] at h
      simp only [hcc, cond_false] at h ⊢
      split at h
      case h_2 => cases h
      rename_i g cap hg
      have hw : wrOf E ⟨dst, .call c, type, pos, after, guard⟩ fr L = callW E L g (c.args.toList.map (evO fr) ++ cap) := by simp only [wrOf, hc, hg]
      rw [hw]
      exact call_frm hcc h
    | builtin b =>
      have hb : b ≠ .len := fun e => by subst e; simp [isRead, hc] at hr
      have e1 : ∀ k : V → List B → Res, (match (Callee.builtin b : Callee) with
        | .builtin .len => match c.args.toList.map (evO fr), c.argTypes.toList with
          | [x], [t] => match lenV E.P L t x with
            | some n => k (.d (.i .i64 n)) L
            | none => none
          | _, _ => none
        | .value f => match evO fr f with
          | .fn g cap => bif E.conc then (match E.ext g (c.args.toList.map (evO fr) ++ cap) with
            | some v => k v L
            | none => callC E L g (c.args.toList.map (evO fr) ++ cap) k noK) else callK E L g (c.args.toList.map (evO fr) ++ cap) k noK
          | _ => none
        | .builtin b => bif E.conc then builtinC E.P b c.argTypes.toList (c.args.toList.map (evO fr)) L k else builtinK E.P b c.argTypes.toList (c.args.toList.map (evO fr)) L k
        | _ => none) = builtinK E.P b c.argTypes.toList (c.args.toList.map (evO fr)) L k := fun k => by rw [hcc]; cases b <;> first | exact absurd rfl hb | rfl
      rw [hc] at h
      have h2 := (e1 k).symm.trans h
      refine (e1 _).trans ?_
      have hw : wrOf E ⟨dst, .call c, type, pos, after, guard⟩ fr L = (c.args.toList.map (evO fr)).flatMap refs1 := by simp only [wrOf, hc]
      rw [hw]
      unfold builtinK at h2 ⊢
      split at h2
      · rename_i hx; exact append_frm (fun b hb => by rw [hx]; simp [hb]) h2
      · rename_i hx; exact copy_frm (fun b hb => by rw [hx]; simp [hb]) h2
      · cases h2
  all_goals (simp [evOp, moreK, bothK, hcc] at h)

end Go.Tw
