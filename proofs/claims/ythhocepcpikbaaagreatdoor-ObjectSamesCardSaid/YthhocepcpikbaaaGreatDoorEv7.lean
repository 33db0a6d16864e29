/- Deferred calls that recover, and the run of a whole program by itself. -/
import Derived.Test.YthhocepcpikbaaaGreatDoorEv6
set_option linter.unusedVariables false
set_option linter.unusedSimpArgs false
namespace Go.Tw

theorem upon_mono {P : Program} {o : Oper} {a : Act} {next next' : Act → World → Prop} {Q Q' : Exit → Act → World → Prop} {r : Result Next} (hn : ∀ a w, next a w → next' a w) (hq : ∀ e a w, e ≠ .normal → Q e a w → Q' e a w) (h : o.upon P a next Q r) : o.upon P a next' Q' r := by
  unfold Oper.upon at h ⊢
  split at h
  · exact hn _ _ h
  · exact hn _ _ h
  · exact hn _ _ h
  · refine Calls.mono h (fun e w h => ?_)
    cases e with
    | returned v => exact hn _ _ h
    | panicked ch => exact hq _ _ _ (by simp) h
    | outgrown => obtain ⟨a, w, h⟩ := h; exact ⟨a, w, hq _ _ _ (by simp) h⟩
  · exact Rows.mono h (fun v w h => hn _ _ h)
  · exact hq _ _ _ (by simp) h
  · exact h.elim

theorem wpList_append {P : Program} {ops : Array Oper} {Q Q1 : Exit → Act → World → Prop} {l2 : List Oper} (hq : ∀ e a w, e ≠ .normal → Q1 e a w → Q e a w) : ∀ (l1 : List Oper) (a : Act) (w : World), wpList P ops Q1 l1 a w → (∀ a w, Q1 .normal a w → wpList P ops Q l2 a w) → wpList P ops Q (l1 ++ l2) a w
  | [], a, w, h, h2 => h2 _ _ h
  | o :: l1, a, w, h, h2 => by
    simp only [List.cons_append]
    unfold wpList at h ⊢
    split at h
    · rename_i hw
      rw [if_pos hw]
      rcases h with h | ⟨h3, a', w', h4⟩
      · exact .inl (upon_mono (fun a w h => wpList_append hq l1 a w h h2) hq h)
      · exact .inr ⟨h3, a', w', hq _ _ _ (by simp) h4⟩
    · rename_i hw
      rw [if_neg hw]
      exact wpList_append hq l1 _ _ h h2

theorem wpOpsS_of {P : Program} {ops : Array Oper} {Q : Exit → Act → World → Prop} {QS : Exit → Act → List Frame → World → Prop} {cs : List Frame} (hQ : ∀ e a w, Q e a w → QS e a cs w) (hno : ∀ a w, ¬ Q .outgrown a w) : ∀ (l : List Oper) (k : Nat) (a : Act) (w : World), (∀ j, l[j]? = ops[k + j]?) → wpList P ops Q l a w → wpOpsS P ops QS (List.range' k l.length) a cs w
  | [], k, a, w, _, h => hQ _ _ _ h
  | o :: l, k, a, w, hl, h => by
    have h0 : ops[k]? = some o := by simpa using (hl 0).symm
    have hl' : ∀ j, l[j]? = ops[k + 1 + j]? := fun j => by have := hl (j + 1); simpa [Nat.add_assoc, Nat.add_comm 1 j] using this
    simp only [List.length_cons, List.range'_succ, wpOpsS, h0]
    unfold wpList at h
    split at h
    · rename_i hw
      rw [if_pos hw]
      rcases h with h | ⟨_, a', w', h4⟩
      · have h : o.upon P a (wpList P ops Q l) Q ((execOp a.eval o).run P w) := h
        split
        · rename_i w' hr; rw [hr] at h; exact h.elim
        · exact upon_mono (fun a w h => wpOpsS_of hQ hno l (k + 1) a w hl' h) (fun e a w _ h => hQ e a w h) h
      · exact absurd h4 (hno _ _)
    · rename_i hw
      rw [if_neg hw]
      exact wpOpsS_of hQ hno l (k + 1) _ _ hl' h

/-! ### the same place with other deferred calls -/
def Ctx.dsOf (c : Ctx) (ds : List Deferred) : Ctx := { c with ds := ds }
theorem ds_le (c : Ctx) (ds : List Deferred) : c.Le (c.dsOf ds) := ⟨Nat.le_refl _, rfl, fun _ _ => .inl rfl, fun _ _ => rfl, fun i g h hg => hg.2.2 i h, fun _ _ C _ _ _ _ h => ⟨C, h, rfl⟩⟩
theorem ds_RL {c : Ctx} {L : List B} (hL : RL c L) (ds : List Deferred) : RL (c.dsOf ds) L :=
  ⟨hL.n, hL.inj, hL.lt, fun i b hi hb => by obtain ⟨g, hg, hr⟩ := hL.live i b hi hb; exact ⟨g, hg, hr.mono (ds_le c ds) rfl⟩, hL.dead, hL.nx⟩
theorem Ctx.Le.ds0 {c c' : Ctx} {ds : List Deferred} (h : (c.dsOf ds).Le c') : c.Le c' := ⟨h.n, h.X, h.m, h.data, h.dis, h.shape⟩
theorem Ctx.Le.ds1 {c c' : Ctx} (ds : List Deferred) (h : c.Le c') : (c.dsOf ds).Le c' := ⟨h.n, h.X, h.m, h.data, h.dis, h.shape⟩
theorem Since.ds0 {c c' : Ctx} {ds : List Deferred} (h : Since (c.dsOf ds) c') : Since c c' := ⟨h.os, h.tape, h.output, h.size, h.stay, h.X, h.own, h.lt⟩
theorem Since.ds1 {c c' : Ctx} (ds : List Deferred) (h : Since c c') : Since (c.dsOf ds) c' := ⟨h.os, h.tape, h.output, h.size, h.stay, h.X, h.own, h.lt⟩

/-! ### a deferred function that asks for the panic first of all -/
def recoverOf (o : Oper) : Option Tmp :=
  match o.op, o.guard, o.dst with
  | .call c, none, some d => match c.callee with
    | .builtin .recover => some d
    | _ => none
  | _, _, _ => none
def deferOf (o : Oper) : Option Operand :=
  match o.op, o.guard, o.dst with
  | .defer c, none, none => match c.callee with
    | .value f => bif c.args.toList.isEmpty then some f else none
    | _ => none
  | _, _, _ => none
def evDeferred (E : Env) (n : Nat) (fn : Func) (cap : List V) (L : List B) (pv : Option V) (k : List B → Res) : Res :=
  match fn.body with
  | some (.seq (.region _ ops false) rest) => match ops.toList with
    | o :: os => match recoverOf o with
      | some d => bif fn.results.toList.isEmpty then
          evOps { E with n0 := L.length } ops os (setAt (cap ++ List.replicate (fn.ntmps - cap.length) .gun) (some d) (pv.getD .nilif)) L (fun x fr L' => match x with
            | .normal => evC { E with n0 := L.length } n rest fr L' (fun x fr L' => match x with
              | .normal | .ret => k L'
              | _ => none)
            | _ => none)
        else none
      | none => none
    | [] => none
  | _ => none

theorem deferred_sound {E : Env} (hE : EnvOK E) {g : FuncId} {fn : Func} (hf : E.P.funcs[g]? = some fn) {n : Nat} {cap : List V} {us : Array Value} {L : List B} {c : Ctx} {pv : Option V} {u : FrameMode} {k : List B → Res} {r : End × List B}
    (hL : RL c L) (hX : ∀ g, c.X g → g < c.w.heap.size) (hlen : cap.length = us.size) (hcap : ∀ (i : Nat) v u, cap[i]? = some v → us[i]? = some u → R c v u)
    (hu : match pv with | none => u = .returning | some v => ∃ x, R c v x ∧ u = .panicking [{ v := x, recovered := false }]) (h : evDeferred E n fn cap L pv k = some r) {R' : Ending → FrameMode → World → Prop}
    (hk : ∀ v u' L' c', Go.settle u' = .returning → k L' = some r → RL c' L' → Since c c' → c.Le c' → R' (.returned v) u' c'.w) : CallsD E.P g us u c.w R' := by
  unfold evDeferred at h
  split at h
  case h_2 => cases h
  rename_i id ops rest hbody
  split at h
  case h_2 => cases h
  rename_i o os hops
  split at h
  case h_2 => cases h
  rename_i d hrec
  cases hres : fn.results.toList.isEmpty with
  | false => rw [hres] at h; cases h
  | true =>
  rw [hres] at h
  simp only [cond_true] at h
  have hres0 : fn.results = #[] := by
    have := List.isEmpty_iff.1 hres
    exact Array.toList_inj.1 (by simpa using this)
  obtain ⟨cl, hop, hg, hd, hcl⟩ : ∃ cl, o.op = .call cl ∧ o.guard = none ∧ o.dst = some d ∧ cl.callee = .builtin .recover := by
    unfold recoverOf at hrec
    split at hrec
    case h_2 => cases hrec
    rename_i cl d' h1 h2 h3
    split at hrec
    case h_2 => cases hrec
    rename_i h4
    injection hrec with hrec
    subst hrec
    exact ⟨cl, h1, h2, h3, h4⟩
  let cD := c.dsOf []
  have hLD : RL cD L := ds_RL hL []
  have hcapD : ∀ (i : Nat) v u, cap[i]? = some v → us[i]? = some u → R cD v u := fun i v u hv hu => (hcap i v u hv hu).mono (ds_le c [])
  have hG := enter_good (c := cD) (m := fn.ntmps) hLD hlen hcapD hX rfl
  have hE' : EnvOK { E with n0 := L.length } := ⟨hE.call, hE.ext, hE.mixed, hE.cmb⟩
  refine callsD_of_wpS hf hbody (fun c₀ cs hmode => ?_)
  refine wpS_seq (wpS_region ?_)
  have hsize : ops.size = os.length + 1 := by rw [← Array.length_toList, hops]; rfl
  have h0 : ops[0]? = some o := by rw [← Array.getElem?_toList, hops]; rfl
  rw [List.range_eq_range', hsize, List.range'_succ]
  simp only [wpOpsS, h0]
  rw [if_pos (by simp [Region.wanted, hg])]
  have hex : (execOp ({ tmps := us ++ Array.replicate (fn.ntmps - us.size) undef, defers := [] } : Act).eval o).run E.P c.w = .ok .recover c.w := by
    simp only [execOp, hop, resolve, hcl]
    rfl
  rw [hex]
  -- what recover answers
  obtain ⟨x, m', hx, hset, hrc⟩ : ∃ x m', R cD (pv.getD .nilif) x ∧ Go.settle m' = .returning ∧ ((recoverD (c₀ :: cs) = some (x, { c₀ with mode := m' } :: cs)) ∨ (recoverD (c₀ :: cs) = none ∧ x = .nilIface ∧ m' = c₀.mode)) := by
    cases pv with
    | none =>
      simp only at hu
      refine ⟨.nilIface, c₀.mode, .nilif, by rw [hmode, hu]; rfl, .inr ⟨?_, rfl, rfl⟩⟩
      simp only [recoverD, hmode, hu]
    | some v =>
      simp only at hu
      obtain ⟨x, hx, hu⟩ := hu
      refine ⟨x, .panicking [{ v := x, recovered := true }], hx.mono (ds_le c []), rfl, .inl ?_⟩
      simp only [recoverD, hmode, hu]
  have go : ∀ cs', cs' = { c₀ with mode := m' } :: cs → wpOpsS E.P ops (Exit.thenS (rest.wpS E.P (bodyPostS E.P fn c₀ cs R')) (bodyPostS E.P fn c₀ cs R')) (List.range' 1 os.length) (({ tmps := us ++ Array.replicate (fn.ntmps - us.size) undef, defers := [] } : Act).put o.dst x) cs' c.w := by
    intro cs' hcs'
    have hG1 : Good cD cD (setAt (cap ++ List.replicate (fn.ntmps - cap.length) .gun) (some d) (pv.getD .nilif)) L (({ tmps := us ++ Array.replicate (fn.ntmps - us.size) undef, defers := [] } : Act).put o.dst x) := by
      rw [hd]
      exact ⟨hG.L, hG.F.setAt hx (some d), hG.S, hG.le, by rw [put_defers]; exact hG.d⟩
    have hlist := evOps_sound (E := { E with n0 := L.length }) hE' (c0 := cD) (ops := ops) (Q := fun e a w => match e with | .normal => rest.wpS E.P (bodyPostS E.P fn c₀ cs R') a cs' w | _ => False) (r := r) (k := _) (fun z fr1 L1 c1 a1 h1 hG1 => ?_) os _ _ _ _ h hG1
    · refine wpOpsS_of (fun e a w hh => ?_) (fun a w hh => hh) os 1 _ _ (fun j => ?_) hlist
      · cases e with
        | normal => exact hh
        | _ => exact hh.elim
      · rw [← Array.getElem?_toList, hops, Nat.add_comm]; rfl
    · cases z with
      | normal =>
        show rest.wpS E.P (bodyPostS E.P fn c₀ cs R') a1 cs' c1.w
        refine wpS_of_wp ?_
        refine evC_sound (E := { E with n0 := L.length }) hE' (c0 := cD) (by show L.length = c.n; exact hL.n.symm) n rest _ _ _ _ _ c1 a1 h1 hG1 (fun z fr2 L2 c2 a2 h2 hG2 => ?_)
        have fin : k L2 = some r → bodyPostS E.P fn c₀ cs R' .normal a2 cs' c2.w := fun h3 => by
          refine ⟨hG2.d, m', hcs', .tuple #[], ?_, hk _ m' L2 c2 hset h3 hG2.L hG2.S.ds0 hG2.le.ds0⟩
          simp [results, hres0]
        cases z with
        | normal => exact fin h2
        | ret => exact fin h2
        | exit id => cases h2
        | panic v => cases h2
      | exit id => cases h1
      | ret => cases h1
      | panic v => cases h1
  rcases hrc with hrc | ⟨hrc, hx0, hm0⟩
  · rw [hrc]; exact go _ rfl
  · rw [hrc]
    subst hx0
    refine go _ ?_
    subst hm0
    rfl

/-! ### a function that defers one call -/
def finD (E : Env) (n : Nat) (n0 : Nat) (rs : Array ResultVar) (g : FuncId) (cap : List V) : Kont := fun x fr L =>
  let run := fun pv => match E.P.funcs[g]? with
    | some fn => evDeferred E n fn cap L pv (fun L => match resOf E.P fr L rs with
      | some v => endC n0 L false v
      | none => none)
    | none => none
  match x with
  | .normal | .ret => run none
  | .panic v => run (some v)
  | _ => none
def evPre (E : Env) (n : Nat) (fin : FuncId → List V → Kont) : Code → List V → List B → Res
  | .seq (.region id ops false) b, fr, L => match ops.toList.getLast? with
    | some o => match deferOf o with
      | some f => evOps E ops ops.toList.dropLast fr L (fun x fr L => match x with
        | .normal => (match evO fr f with
          | .fn g cap => evC { E with n0 := L.length } n b fr L (fin g cap)
          | _ => none)
        | _ => none)
      | none => evOps E ops ops.toList fr L (fun x fr L => match x with
        | .normal => evPre E n fin b fr L
        | _ => none)
    | none => none
  | .seq (.region id ops true) b, fr, L => evC E n (.region id ops true) fr L (fun x fr L => match x with
    | .normal => evPre E n fin b fr L
    | _ => none)
  | _, _, _ => none
def evFnD (E : Env) (n : Nat) (fn : Func) (args : List V) (bs : List B) : Res :=
  match fn.body with
  | none => none
  | some c => evPre { E with n0 := bs.length } n (finD { E with n0 := bs.length } n bs.length fn.results) c (args ++ List.replicate (fn.ntmps - args.length) .gun) bs

def Enters (P : Program) : Prop := ∀ g fn, P.funcs[g]? = some fn → fn.body.isSome = true → ∀ us w, (callFunc g us).run P w = .ok (.enter g us) w
theorem enters_of {P : Program} (h : P.funcs.all (fun fn => !(fn.name == "runtime.NumGoroutine")) = true) : Enters P := by
  intro g fn hf hb us w
  have hne : (fn.name == "runtime.NumGoroutine") = false := by
    have := Array.all_eq_true.1 h g (lt_of_get hf)
    rw [(Array.getElem?_eq_some_iff.1 hf).2] at this
    simpa using this
  have hbn : fn.body.isNone = false := by cases hfb : fn.body <;> simp [hfb] at hb ⊢
  simp only [callFunc, Sem.run_bind, run_program, Result.andThen_ok, hf]
  rw [hne, hbn]
  rfl

theorem pre_sound {E : Env} (hE : EnvOK E) (hen : Enters E.P) {c0 : Ctx} (hn : E.n0 = c0.n) (hds : c0.ds = []) {n : Nat} {fn : Func} {e : End} {bs' : List B} : ∀ (cd : Code) (fr : List V) (L : List B) (c : Ctx) (a : Act),
    evPre E n (finD E n E.n0 fn.results) cd fr L = some (e, bs') → Good c0 c fr L a → cd.wp E.P (bodyPostD E.P fn (fun en w' => ∃ c' : Ctx, c'.w = w' ∧ RE c' e en ∧ RL c' bs' ∧ Since c0 c' ∧ c0.Le c')) a c.w
  | .seq (.region id ops false) b, fr, L, c, a, h, hG => by
    unfold evPre at h
    split at h
    case h_2 => cases h
    rename_i o hlast
    have hsplit : ops.toList = ops.toList.dropLast ++ [o] := by
      rw [List.getLast?_eq_some_iff] at hlast
      obtain ⟨ys, hys⟩ := hlast
      rw [hys]; simp
    split at h
    · rename_i f hdef
      obtain ⟨cl, hop, hgd, hdst, hcl, hargs⟩ : ∃ cl, o.op = .defer cl ∧ o.guard = none ∧ o.dst = none ∧ cl.callee = .value f ∧ cl.args = #[] := by
        unfold deferOf at hdef
        split at hdef
        case h_2 => cases hdef
        rename_i cl h1 h2 h3
        split at hdef
        case h_2 => cases hdef
        rename_i f' h4
        cases hem : cl.args.toList.isEmpty with
        | false => rw [hem] at hdef; cases hdef
        | true =>
          rw [hem] at hdef
          injection hdef with hdef
          subst hdef
          exact ⟨cl, h1, h2, h3, h4, Array.toList_inj.1 (by simpa using List.isEmpty_iff.1 hem)⟩
      refine wp_seq (wp_region_list ?_)
      rw [hsplit]
      refine wpList_append (Q1 := fun ex a w => match ex with | .normal => wpList E.P ops _ [o] a w | _ => False) (fun ex a w hne h => ?_) _ _ _ (evOps_sound hE (fun z fr1 L1 c1 a1 h1 hG1 => ?_) _ _ _ _ _ h hG) (fun a w h => h)
      · cases ex with
        | normal => exact absurd rfl hne
        | _ => exact h.elim
      · cases z with
        | exit id => cases h1
        | ret => cases h1
        | panic v => cases h1
        | normal =>
          simp only at h1
          split at h1
          case h_2 => cases h1
          rename_i g cap hfn
          have hfv := evO_sound hG1.F f
          rw [hfn] at hfv
          generalize hy : a1.eval f = y at hfv
          cases hfv with
          | fn hl hR =>
            rename_i us
            show wpList E.P ops _ [o] a1 c1.w
            unfold wpList
            rw [if_pos (by simp [Region.wanted, hgd])]
            refine .inl ?_
            have hex : (execOp a1.eval o).run E.P c1.w = .ok (.defer { target := .fn (.func g) us, args := #[] }) c1.w := by
              simp only [execOp, hop, resolve, hcl, hy, hargs, Deferred.ofValue]
              simp
            simp only [Oper.wp, hex, Oper.upon, hdst, Act.put]
            show Code.wp E.P b _ { tmps := a1.tmps, defers := { target := .fn (.func g) us, args := #[] } :: a1.defers } c1.w
            have hd0 : a1.defers = [] := hG1.d.trans hds
            let d : Deferred := { target := .fn (.func g) us, args := #[] }
            have hX1 : ∀ g, c1.X g → g < c1.w.heap.size := fun g hg => Nat.lt_of_lt_of_le (hG1.S.lt g hg) hG1.S.size
            have hG2 : Good (c1.dsOf [d]) c1 fr1 L1 { tmps := a1.tmps, defers := d :: a1.defers } := ⟨hG1.L, hG1.F, (Since.refl hX1).ds1 _, (Ctx.Le.refl c1).ds1 _, by rw [hd0]; rfl⟩
            have hE1 : EnvOK { E with n0 := L1.length } := ⟨hE.call, hE.ext, hE.mixed, hE.cmb⟩
            refine evC_sound (E := { E with n0 := L1.length }) hE1 (c0 := c1.dsOf [d]) (by show L1.length = c1.n; exact hG1.L.n.symm) n b _ _ _ _ _ c1 _ h1 hG2 (fun z fr2 L2 c2 a2 h2 hG3 => ?_)
            have hS2 : Since c0 c2 := hG1.S.trans hG3.S.ds0
            have hle2 : c0.Le c2 := hG1.le.trans hG3.le.ds0
            -- what the deferred call comes to
            have fin : ∀ (pv : Option V) (u : FrameMode), u ≠ .run → (match pv with | none => u = .returning | some v => ∃ x, R c2 v x ∧ u = .panicking [{ v := x, recovered := false }]) →
                (match E.P.funcs[g]? with
                  | some fn' => evDeferred E n fn' cap L2 pv (fun L => match resOf E.P fr2 L fn.results with
                    | some v => endC E.n0 L false v
                    | none => none)
                  | none => none) = some (e, bs') → Leaves E.P fn a2.tmps (fun en w' => ∃ c' : Ctx, c'.w = w' ∧ RE c' e en ∧ RL c' bs' ∧ Since c0 c' ∧ c0.Le c') a2.defers u c2.w := by
              intro pv u hur hu h3
              split at h3
              case h_2 => cases h3
              rename_i fn' hfn'
              have hbs : fn'.body.isSome = true := by
                unfold evDeferred at h3
                split at h3
                · rename_i hb; rw [hb]; rfl
                · cases h3
              rw [hG3.d]
              refine leaves_cons (f := g) (args := us) hur (by have := hen g fn' hfn' hbs us c2.w; simpa [invoke] using this) ?_
              have hcap2 : ∀ (i : Nat) v u, cap[i]? = some v → us[i]? = some u → R c2 v u := fun i v u hv hu => (hR i v u hv hu).mono hG3.le.ds0
              exact deferred_sound hE hfn' hG3.L (fun g hg => Nat.lt_of_lt_of_le (hS2.lt g hg) hS2.size) hl hcap2 hu h3 (fun v u' L' c' hset hkk hL' hS' hle' => by
                simp only [hset]
                split at hkk
                case h_2 => cases hkk
                rename_i rv hrv
                have hF' : RF c' fr2 a2.tmps := hG3.F.mono hle'
                obtain ⟨ru, hrun, hr⟩ := resOf_sound (a := a2) hL' hF' hrv
                exact ⟨ru, hrun, endC_sound hkk hn hL' (hS2.trans hS') (hle2.trans hle') hr⟩)
            cases z with
            | normal => exact fin none .returning (by simp) rfl h2
            | ret => exact fin none .returning (by simp) rfl h2
            | exit id => cases h2
            | panic v => exact fun u hu => fin (some v) _ (by simp) ⟨u, hu, rfl⟩ h2
    · refine wp_seq (wp_region_list (evOps_sound hE (fun z fr1 L1 c1 a1 h1 hG1 => ?_) _ _ _ _ _ h hG))
      cases z with
      | normal => exact pre_sound hE hen hn hds b _ _ _ _ h1 hG1
      | exit id => cases h1
      | ret => cases h1
      | panic v => cases h1
  | .seq (.region id ops true) b, fr, L, c, a, h, hG => by
    unfold evPre at h
    refine wp_seq (evC_sound hE hn n _ _ _ _ _ _ c a h hG (fun z fr1 L1 c1 a1 h1 hG1 => ?_))
    cases z with
    | normal => exact pre_sound hE hen hn hds b _ _ _ _ h1 hG1
    | exit id => cases h1
    | ret => cases h1
    | panic v => cases h1
  | .skip, _, _, _, _, h, _ | .ret, _, _, _, _, h, _ | .exit _, _, _, _, _, h, _ | .region .., _, _, _, _, h, _ | .cond .., _, _, _, _, h, _ | .block .., _, _, _, _, h, _ | .loop _, _, _, _, _, h, _ | .rangeFunc .., _, _, _, _, h, _ | .scope _, _, _, _, _, h, _ | .label _, _, _, _, _, h, _ | .goto _, _, _, _, _, h, _ | .refuse _, _, _, _, _, h, _ => by simp [evPre] at h
  | .seq .skip _, _, _, _, _, h, _ | .seq .ret _, _, _, _, _, h, _ | .seq (.exit _) _, _, _, _, _, h, _ | .seq (.seq ..) _, _, _, _, _, h, _ | .seq (.cond ..) _, _, _, _, _, h, _ | .seq (.block ..) _, _, _, _, _, h, _ | .seq (.loop _) _, _, _, _, _, h, _ | .seq (.rangeFunc ..) _, _, _, _, _, h, _ | .seq (.scope _) _, _, _, _, _, h, _ | .seq (.label _) _, _, _, _, _, h, _ | .seq (.goto _) _, _, _, _, _, h, _ | .seq (.refuse _) _, _, _, _, _, h, _ => by simp [evPre] at h

theorem evFnD_sound {E : Env} (hE : EnvOK E) (hen : Enters E.P) {f : FuncId} {fn : Func} (hf : E.P.funcs[f]? = some fn) (n : Nat) {args : List V} {bs : List B} {e : End} {bs' : List B} (h : evFnD E n fn args bs = some (e, bs')) : Meets E.P f args bs e bs' := by
  have hb : fn.body.isSome = true := by
    unfold evFnD at h
    split at h
    · cases h
    · rename_i hb; rw [hb]; rfl
  refine ⟨hen f fn hf hb, fun c us hds hL hlen hargs hX => ?_⟩
  unfold evFnD at h
  split at h
  case h_1 => cases h
  rename_i cd hcd
  have hE' : EnvOK { E with n0 := bs.length } := ⟨hE.call, hE.ext, hE.mixed, hE.cmb⟩
  exact calls_of_wp_defers hf hcd (pre_sound (E := { E with n0 := bs.length }) hE' hen (c0 := c) (by show bs.length = c.n; exact hL.n.symm) hds cd _ _ c _ h (enter_good (m := fn.ntmps) hL hlen hargs hX hds))

/-! ### a program by itself -/
/-- What was reckoned before: function, arguments, blocks, end, blocks. -/
abbrev Memo := List (FuncId × List V × List B × End × List B)
def findMemo : Memo → FuncId → List V → List B → Option (End × List B)
  | [], _, _, _ => none
  | (g, as, bs, e, bs') :: m, f, args, b => bif Nat.beq g f && (eqVL as args && eqBL bs b) then some (e, bs') else findMemo m f args b
def MemoOK (P : Program) (m : Memo) : Prop := ∀ x ∈ m, Meets P x.1 x.2.1 x.2.2.1 x.2.2.2.1 x.2.2.2.2
theorem findMemo_sound {P : Program} : ∀ {m : Memo}, MemoOK P m → ∀ {f : FuncId} {args : List V} {b : List B} {r : End × List B}, findMemo m f args b = some r → Meets P f args b r.1 r.2
  | [], _, f, args, b, r, h => by cases h
  | (g, as, bs, e, bs') :: m, hm, f, args, b, r, h => by
    unfold findMemo at h
    cases hc : (Nat.beq g f && (eqVL as args && eqBL bs b)) with
    | false => rw [hc] at h; exact findMemo_sound (fun x hx => hm x (List.mem_cons_of_mem _ hx)) h
    | true =>
      rw [hc] at h
      simp only [cond_true, Option.some.injEq] at h
      subst h
      simp only [Bool.and_eq_true] at hc
      have := hm _ List.mem_cons_self
      simp only at this
      rw [Nat.eq_of_beq_eq_true hc.1, eqVL_eq hc.2.1, eqBL_eq hc.2.2] at this
      exact this

/-- Functions without a Go body, by the model's own rows. -/
def extG (P : Program) (l : List Nat) (f : FuncId) (args : List V) : Option V :=
  bif l.contains f then (match val0s args with
    | some us => (match pureRun P (callFunc f us.toArray) with
      | some (.value u) => some (ofConst u)
      | _ => none)
    | none => none) else none
theorem extG_ok {P : Program} {l : List Nat} {f : FuncId} {args : List V} {v : V} (h : extG P l f args = some v) (c : Ctx) (us : Array Value) (hl : args.length = us.size) (hR : ∀ (i : Nat) v u, args[i]? = some v → us[i]? = some u → R c v u) : ∃ u, (callFunc f us).run P c.w = .ok (.value u) c.w ∧ R c v u := by
  unfold extG at h
  cases hc : l.contains f with
  | false => rw [hc] at h; cases h
  | true =>
  rw [hc] at h
  simp only [cond_true] at h
  split at h
  case h_2 => cases h
  rename_i vs hvs
  split at h
  case h_2 => cases h
  rename_i u hu
  injection h with h
  subst h
  have hus : us = vs.toArray := by
    obtain ⟨h1, h2⟩ := val0s_sound hvs
    apply Array.ext_getElem?
    intro i
    rcases Nat.lt_or_ge i us.size with hi | hi
    · obtain ⟨x, hx, hv⟩ := h2 i _ (List.getElem?_eq_getElem (show i < args.length by omega))
      rw [Array.getElem?_eq_getElem hi, List.getElem?_toArray, hx]
      exact congrArg some (val0_sound (hR i _ _ (List.getElem?_eq_getElem (show i < args.length by omega)) (Array.getElem?_eq_getElem hi)) hv)
    · rw [Array.getElem?_eq_none hi, List.getElem?_toArray, List.getElem?_eq_none (by omega)]
  subst hus
  exact ⟨u, pureRun_sound hu c.w, ofConst_sound c u⟩

structure Set where
  P : Program
  ext : FuncId → List V → Option V
  dfr : FuncId → Bool
  n : Nat
def Set.fn (S : Set) (E : Env) (f : FuncId) (args : List V) (bs : List B) : Res :=
  match S.P.funcs[f]? with
  | some fn => bif S.dfr f then evFnD E S.n fn args bs else evFnC E S.n fn args bs
  | none => none
def Set.call (S : Set) (m : Memo) (E : Env) : FuncId → Spec := fun f args bs k => match findMemo m f args bs with
  | some (e, bs') => k e bs'
  | none => match S.fn E f args bs with
    | some (e, bs') => k e bs'
    | none => none
def Set.env (S : Set) (m : Memo) : Nat → Env
  | 0 => { P := S.P, call := fun _ _ _ _ => none, byRow := fun _ => true, head := fun _ => none, conc := true, ext := S.ext, cmb := combB }
  | d + 1 => { P := S.P, call := S.call m (S.env m d), byRow := fun _ => true, head := fun _ => none, conc := true, ext := S.ext, cmb := combB }
structure SetOK (S : Set) : Prop where
  ext : ∀ f args v, S.ext f args = some v → ∀ (c : Ctx) (us : Array Value), args.length = us.size → (∀ (i : Nat) v u, args[i]? = some v → us[i]? = some u → R c v u) → ∃ u, (callFunc f us).run S.P c.w = .ok (.value u) c.w ∧ R c v u
  mixed : S.P.follows .mixedOrders = true
  enters : Enters S.P

theorem Set.P_env (S : Set) (m : Memo) : ∀ d, (S.env m d).P = S.P
  | 0 => rfl
  | _ + 1 => rfl
theorem fn_sound {S : Set} (hS : SetOK S) {E : Env} (hP : E.P = S.P) (hE : EnvOK E) {f : FuncId} {args : List V} {bs : List B} {e : End} {bs' : List B} (h : S.fn E f args bs = some (e, bs')) : Meets S.P f args bs e bs' := by
  have hen := hS.enters
  rw [← hP] at hen ⊢
  unfold Set.fn at h
  rw [← hP] at h
  split at h
  case h_2 => cases h
  rename_i fn hf
  cases hd : S.dfr f with
  | true => rw [hd] at h; exact evFnD_sound hE hen hf S.n h
  | false =>
    rw [hd] at h
    simp only [cond_false] at h
    have hb : fn.body.isSome = true := by
      unfold evFnC at h
      split at h
      · cases h
      · rename_i hb; rw [hb]; rfl
    exact evFnC_sound hE hf (hen f fn hf hb) S.n h
theorem env_ok {S : Set} (hS : SetOK S) {m : Memo} (hm : MemoOK S.P m) : ∀ d, EnvOK (S.env m d)
  | 0 => ⟨fun f args bs k r h => (by cases h), hS.ext, hS.mixed, fun a b r h => combB_both h⟩
  | d + 1 => ⟨fun f args bs k r h => by
      simp only [Set.env, Set.call] at h
      split at h
      · rename_i e bs' hf
        exact ⟨e, bs', h, findMemo_sound hm hf⟩
      · split at h
        case h_2 => cases h
        rename_i e bs' hf
        exact ⟨e, bs', h, fn_sound hS (S.P_env m d) (env_ok hS hm d) hf⟩, hS.ext, hS.mixed, fun a b r h => combB_both h⟩
/-- What the kernel reckons, is so. -/
theorem reckoned {S : Set} (hS : SetOK S) {m : Memo} (hm : MemoOK S.P m) (d : Nat) {f : FuncId} {args : List V} {bs : List B} {e : End} {bs' : List B} (h : S.fn (S.env m d) f args bs = some (e, bs')) : Meets S.P f args bs e bs' := fn_sound hS (S.P_env m d) (env_ok hS hm d) h
theorem memo_nil (P : Program) : MemoOK P [] := fun x hx => by cases hx
theorem memo_cons {P : Program} {f : FuncId} {args : List V} {bs : List B} {e : End} {bs' : List B} {m : Memo} (h : Meets P f args bs e bs') (hm : MemoOK P m) : MemoOK P ((f, args, bs, e, bs') :: m) := fun x hx => by
  rcases List.mem_cons.1 hx with rfl | hx
  · exact h
  · exact hm x hx
end Go.Tw
