/- The abstract run: what code comes to, reckoned over abstract values. -/
import Derived.Test.YthhocepcpikbaaaGreatDoorEv1
import Derived.Orders
import Derived.Laws.Build
set_option linter.unusedVariables false
namespace Go.Tw

inductive Ex where
  | normal
  | exit (id : Nat)
  | ret
  | panic (v : V)

inductive End where
  | ret (v : V)
  | panic (v : V)

abbrev Res := Option (End × List B)
abbrev Spec := List V → List B → (End → List B → Res) → Res

/-- How a call hands its arguments over: rows by themselves, or as what they hold. -/
structure Env where
  P : Program
  call : FuncId → Spec
  byRow : FuncId → Bool
  head : Nat → Option (List Nat)
  n0 : Nat := 0
  conc : Bool := false
  ext : FuncId → List V → Option V := fun _ _ => none
  cmb : Res → Res → Res

def atom : V → Bool
  | .undef | .agg _ | .tup _ => false
  | .gun => false
  | _ => true

def cellsV : V → List V
  | .agg cs => cs
  | v => [v]

/-- A value of the program's text. -/
def ofConst0 : Value → V
  | .bool x => .d (.b x)
  | .int k n => .d (.i k n)
  | .string s => .d (.s s)
  | .pointer none => .nilp
  | .slice none 0 0 => .nilsl
  | .map none => .nilmap
  | .nilIface => .nilif
  | _ => .undef
def ofConst : Value → V
  | .agg cs => .agg (cs.toList.map ofConst0)
  | v => ofConst0 v

def evO (fr : List V) : Operand → V
  | .tmp t => fr.getD t .undef
  | .const v => ofConst v
  | .func f => .fn f []
  | .global _ => .undef

def setAt (fr : List V) (dst : Option Tmp) (v : V) : List V :=
  match dst with
  | some d => fr.set d v
  | none => fr

def isAggT (P : Program) (t : TypeId) : Option Bool :=
  match P.underlying t with
  | some (.struct _) | some (.array _ _) => some true
  | some _ => some false
  | none => none
def sizeT (P : Program) (t : TypeId) : Option Nat := (P.info? t).map (·.size)
def zeroT (P : Program) (t : TypeId) : Option V := ((P.info? t).bind (·.zero)).map ofConst

/-- Closed data. -/
def close0 : V → Option D
  | .d x => some x
  | .nilsl => some (.sl [])
  | _ => none
def closeAll : List V → Option (List D)
  | [] => some []
  | v :: vs => match close0 v with
    | some x => match closeAll vs with
      | some xs => some (x :: xs)
      | none => none
    | none => none

/-- Parts laid over cells. -/
def over : List V → Nat → List V → List V
  | cs, _, [] => cs
  | cs, off, v :: vs => over (cs.set off v) (off + 1) vs

def fillS (place : Nat → Option (Nat × Nat)) (cs : List V) : List (Nat × V) → Option (List V)
  | [] => some cs
  | (i, v) :: rest => match place i with
    | none => none
    | some (off, size) => if (cellsV v).length = size ∧ off + size ≤ cs.length ∧ (cellsV v).all atom then fillS place (over cs off (cellsV v)) rest else none

def intCmp (op : BinOp) (x y : Int) : Option V :=
  match op with
  | .eql => some (.d (.b (x == y)))
  | .neq => some (.d (.b (x != y)))
  | .lss => some (.d (.b (decide (x < y))))
  | .leq => some (.d (.b (decide (x ≤ y))))
  | .gtr => some (.d (.b (decide (x > y))))
  | .geq => some (.d (.b (decide (x ≥ y))))
  | _ => none
def intArith (op : BinOp) (k : IntKind) (x y : Int) : Option V :=
  match op with
  | .add => some (.d (.i k (k.wrap (x + y))))
  | .sub => some (.d (.i k (k.wrap (x - y))))
  | .mul => some (.d (.i k (k.wrap (x * y))))
  | _ => none
def strOp (op : BinOp) (x y : ByteArray) : Option V :=
  match op with
  | .eql => some (.d (.b (x.toList == y.toList)))
  | .neq => some (.d (.b (!(x.toList == y.toList))))
  | .lss => some (.d (.b (Op.bytesLess x.toList y.toList)))
  | .leq => some (.d (.b (Op.bytesLess x.toList y.toList || x.toList == y.toList)))
  | .gtr => some (.d (.b (!(Op.bytesLess x.toList y.toList || x.toList == y.toList))))
  | .geq => some (.d (.b (!Op.bytesLess x.toList y.toList)))
  | _ => none
def binS (P : Program) (op : BinOp) (t : TypeId) (x y : V) : Option V :=
  match x, y with
  | .d (.i k a), .d (.i k' b) => if k = k' then (match intArith op k a b with | some v => some v | none => intCmp op a b) else none
  | .d (.s a), .d (.s b) => strOp op a b
  | .d (.b a), .d (.b b) => match P.underlying t with
    | some .bool => (match op with
      | .eql => some (.d (.b (a == b)))
      | .neq => some (.d (.b (!(a == b))))
      | _ => none)
    | _ => none
  | _, _ => none
def unS (op : UnOp) (x : V) : Option V :=
  match op, x with
  | .not, .d (.b a) => some (.d (.b (!a)))
  | .neg, .d (.i k a) => some (.d (.i k (k.wrap (0 - a))))
  | _, _ => none

def liveB (L : List B) (k : Nat) : Bool :=
  match L[k]? with
  | some .dead => false
  | some _ => true
  | none => false

def lenV (P : Program) (L : List B) (t : TypeId) (x : V) : Option Int :=
  match P.underlying t, x with
  | some .string, .d (.s x) => some x.size
  | some (.slice _), .d (.sl xs) => some xs.length
  | some (.slice _), .nilsl => some 0
  | some (.slice _), .row _ k _ n => if liveB L k then some n else none
  | some (.slice _), .esl => some 0
  | some (.map _ _), .nilmap => some 0
  | some (.map _ _), .map k => match L[k]? with
    | some (.vmap _ es) => some es.length
    | _ => none
  | some (.array n _), _ => some n
  | _, _ => none

/-- Cells at a pointer. -/
def cellsAt (L : List B) (p : V) (n : Nat) : Option (List V) :=
  match p with
  | .ptr k off => match L[k]? with
    | some (.cells _ cs) => if off + n ≤ cs.length then some ((cs.drop off).take n) else none
    | _ => none
  | .dp cs off => if off + n ≤ cs.length then some (((cs.drop off).take n).map .d) else none
  | .rp sz k j off => match L[k]? with
    | some (.row _ sz' xs) => if sz = sz' then (match xs[j]? with
      | some cs => if off + n ≤ cs.length then some (((cs.drop off).take n).map .d) else none
      | none => none) else none
    | _ => none
  | _ => none
def loadV (P : Program) (L : List B) (t : TypeId) (p : V) : Option V :=
  match isAggT P t, sizeT P t with
  | some true, some n => if 0 < n then (cellsAt L p n).map .agg else none
  | some false, _ => match cellsAt L p 1 with
    | some [v] => some v
    | _ => none
  | _, _ => none
def storeV (P : Program) (L : List B) (t : TypeId) (p v : V) : Option (List B) :=
  match sizeT P t with
  | some n => if (cellsV v).length = n ∧ (cellsV v).all atom then (match p with
    | .ptr k off => match L[k]? with
      | some (.cells e cs) => if off + n ≤ cs.length then some (L.set k (.cells e (over cs off (cellsV v)))) else none
      | _ => none
    | .rp sz k j off => match L[k]?, closeAll (cellsV v) with
      | some (.row e sz' xs), some ds => if sz = sz' ∧ off = 0 ∧ n = sz ∧ j < xs.length then some (L.set k (.row e sz (xs.set j ds))) else none
      | _, _ => none
    | _ => none) else none
  | none => none

def fieldV (P : Program) (L : List B) (t : TypeId) (p : V) (f : Nat) : Option V :=
  match P.underlying t with
  | some (.struct fs) => match fs[f]? with
    | some fd => match sizeT P fd.type with
      | some s => if s = 0 then none else (match p with
        | .ptr k off => if liveB L k then some (.ptr k (off + fd.offset)) else none
        | .dp cs off => some (.dp cs (off + fd.offset))
        | .rp sz k j off => if liveB L k then some (.rp sz k j (off + fd.offset)) else none
        | _ => none)
      | none => none
    | none => none
  | _ => none

/-- Kinds of cells. -/
inductive Kd where
  | i (k : IntKind)
  | b
  | s
  | sl
def tcI {α : Type} (k : IntKind) (cs : List D) (f : Int → List D → Option α) : Option α :=
  match cs with
  | .i k' n :: cs => if k' = k then f n cs else none
  | _ => none
def tcB {α : Type} (cs : List D) (f : Bool → List D → Option α) : Option α :=
  match cs with
  | .b x :: cs => f x cs
  | _ => none
def tcS {α : Type} (cs : List D) (f : ByteArray → List D → Option α) : Option α :=
  match cs with
  | .s x :: cs => f x cs
  | _ => none
def tcL {α : Type} (cs : List D) (f : List (List D) → List D → Option α) : Option α :=
  match cs with
  | .sl x :: cs => f x cs
  | _ => none
def tcE {α : Type} (cs : List D) (f : Option α) : Option α :=
  match cs with
  | [] => f
  | _ => none
def tcells {α : Type} : List Kd → List D → (List D → Option α) → Option α
  | [], cs, f => tcE cs (f [])
  | .i k :: q, cs, f => tcI k cs fun n cs => tcells q cs fun l => f (.i k n :: l)
  | .b :: q, cs, f => tcB cs fun n cs => tcells q cs fun l => f (.b n :: l)
  | .s :: q, cs, f => tcS cs fun n cs => tcells q cs fun l => f (.s n :: l)
  | .sl :: q, cs, f => tcL cs fun n cs => tcells q cs fun l => f (.sl n :: l)
def kindsT (P : Program) : Nat → TypeId → Option (List Kd)
  | 0, _ => none
  | n + 1, t => match P.underlying t with
    | some (.int k) => some [.i k]
    | some .bool => some [.b]
    | some .string => some [.s]
    | some (.slice _) => some [.sl]
    | some (.struct fs) => fs.toList.foldl (fun acc f => match acc, kindsT P n f.type with
      | some a, some b => some (a ++ b)
      | _, _ => none) (some [])
    | _ => none
/-- Element i. -/
def getK {α β : Type} (xs : List α) (i : Int) (f : α → Option β) : Option β :=
  if 0 ≤ i then (match xs[i.toNat]? with
    | some x => f x
    | none => none) else none
/-- Byte i. -/
def bytK {β : Type} (s : ByteArray) (i : Int) (f : Int → Option β) : Option β :=
  if 0 ≤ i then (match s[i.toNat]? with
    | some x => f x.toNat
    | none => none) else none

section
variable (E : Env) (k : V → List B → Res)

/-- An element's address. -/
def indexAddrK (L : List B) (t : TypeId) (x : V) (i : Int) : Res :=
  match E.P.underlying t with
  | some (.slice e) => match sizeT E.P e with
    | some s => match x with
      | .d (.sl xs) => match kindsT E.P 9 e with
        | some q => if q.length = s ∧ 0 < s then getK xs i fun cs => tcells q cs fun cs => k (.dp cs 0) L else none
        | none => none
      | .row sz b a n => match L[b]? with
        | some (.row _ sz' xs) => if sz = s ∧ sz = sz' ∧ 0 < s then (if 0 ≤ i ∧ i < n ∧ a + n ≤ xs.length then k (.rp sz b (a + i.toNat) 0) L else none) else none
        | some (.cells _ _) => if sz = s ∧ 0 < sz ∧ 0 ≤ i ∧ i < n then k (.ptr b ((a + i.toNat) * sz)) L else none
        | _ => none
      | _ => none
    | none => none
  | some (.array len e) => match sizeT E.P e, x with
    | some s, .ptr b off => if liveB L b = true ∧ 0 ≤ i ∧ i < len then k (.ptr b (off + i.toNat * s)) L else none
    | _, _ => none
  | _ => none

def indexK (L : List B) (t : TypeId) (x : V) (i : Int) : Res :=
  match E.P.underlying t, x with
  | some .string, .d (.s b) => bytK b i fun n => k (.d (.i .u8 n)) L
  | some (.array len e), .agg cs => match isAggT E.P e, sizeT E.P e with
    | some false, some 1 => if 0 ≤ i ∧ i < len then (match cs[i.toNat]? with
      | some v => k v L
      | none => none) else none
    | _, _ => none
  | _, _ => none
end

/-- An argument as it is handed over: a row as what it holds, where that is asked. -/
def dataOf (L : List B) (byRow : Bool) : V → Option V
  | .nilsl => some (.d (.sl []))
  | .row sz b a n => if byRow then some (.row sz b a n) else (match L[b]? with
    | some (.row _ sz' xs) => if sz = sz' ∧ a + n ≤ xs.length then some (.d (.sl ((xs.drop a).take n))) else none
    | _ => none)
  | .agg _ => none
  | .tup _ => none
  | v => some v
def dataL (L : List B) (byRow : Bool) : List V → Option (List V)
  | [] => some []
  | v :: vs => match dataOf L byRow v with
    | some x => match dataL L byRow vs with
      | some xs => some (x :: xs)
      | none => none
    | none => none
def data1 (L : List B) (byRow : Bool) : V → Option V
  | .agg cs => match dataL L byRow cs with
    | some cs => some (.agg cs)
    | none => none
  | v => dataOf L byRow v
def dataArgs (L : List B) (byRow : Bool) : List V → Option (List V)
  | [] => some []
  | v :: vs => match data1 L byRow v with
    | some x => match dataArgs L byRow vs with
      | some xs => some (x :: xs)
      | none => none
    | none => none

/-! the same, where rows are known to be long enough -/
def rowOK0 (L : List B) (byRow : Bool) : V → Bool
  | .row _ b a n => bif byRow then true else (match L[b]? with
    | some (.row _ _ xs) => decide (a + n ≤ xs.length)
    | _ => true)
  | _ => true
def rowOKL (L : List B) (byRow : Bool) : List V → Bool
  | [] => true
  | v :: vs => rowOK0 L byRow v && rowOKL L byRow vs
def rowOK1 (L : List B) (byRow : Bool) : V → Bool
  | .agg cs => rowOKL L byRow cs
  | v => rowOK0 L byRow v
def rowOKA (L : List B) (byRow : Bool) : List V → Bool
  | [] => true
  | v :: vs => rowOK1 L byRow v && rowOKA L byRow vs
def dataOf' (L : List B) (byRow : Bool) : V → Option V
  | .nilsl => some (.d (.sl []))
  | .row sz b a n => if byRow then some (.row sz b a n) else (match L[b]? with
    | some (.row _ sz' xs) => if sz = sz' then some (.d (.sl ((xs.drop a).take n))) else none
    | _ => none)
  | .agg _ => none
  | .tup _ => none
  | v => some v
def dataL' (L : List B) (byRow : Bool) : List V → Option (List V)
  | [] => some []
  | v :: vs => match dataOf' L byRow v with
    | some x => match dataL' L byRow vs with
      | some xs => some (x :: xs)
      | none => none
    | none => none
def data1' (L : List B) (byRow : Bool) : V → Option V
  | .agg cs => match dataL' L byRow cs with
    | some cs => some (.agg cs)
    | none => none
  | v => dataOf' L byRow v
def dataArgs' (L : List B) (byRow : Bool) : List V → Option (List V)
  | [] => some []
  | v :: vs => match data1' L byRow v with
    | some x => match dataArgs' L byRow vs with
      | some xs => some (x :: xs)
      | none => none
    | none => none
theorem dataOf_eq {L : List B} {byRow : Bool} {v : V} (h : rowOK0 L byRow v = true) : dataOf' L byRow v = dataOf L byRow v := by
  cases v with
  | row sz b a n =>
    unfold rowOK0 at h
    unfold dataOf' dataOf
    cases byRow with
    | true => rfl
    | false =>
      simp only [cond_false, Bool.false_eq_true, if_false] at h ⊢
      split at h
      · rename_i e sz' xs hb
        have h := of_decide_eq_true h
        by_cases hs : sz = sz'
        · simp only [hs, if_true, true_and]; rw [if_pos h]
        · simp only [hs, if_false, false_and]
      · rfl
  | _ => rfl
theorem dataL_eq {L : List B} {byRow : Bool} : ∀ {vs : List V}, rowOKL L byRow vs = true → dataL' L byRow vs = dataL L byRow vs
  | [], _ => rfl
  | v :: vs, h => by
    simp only [rowOKL, Bool.and_eq_true] at h
    simp only [dataL', dataL, dataOf_eq h.1, dataL_eq h.2]
theorem data1_eq {L : List B} {byRow : Bool} {v : V} (h : rowOK1 L byRow v = true) : data1' L byRow v = data1 L byRow v := by
  cases v with
  | agg cs => simp only [data1', data1, dataL_eq (show rowOKL L byRow cs = true from h)]
  | _ =>
    simp only [data1', data1]
    exact dataOf_eq (by simpa only [rowOK1] using h)
theorem dataArgs_eq {L : List B} {byRow : Bool} : ∀ {vs : List V}, rowOKA L byRow vs = true → dataArgs' L byRow vs = dataArgs L byRow vs
  | [], _ => rfl
  | v :: vs, h => by
    simp only [rowOKA, Bool.and_eq_true] at h
    simp only [dataArgs', dataArgs, data1_eq h.1, dataArgs_eq h.2]

def idxOf (l : List Nat) (k : Nat) : Option Nat := l.findIdx? (· == k)

def ren0 (f : Nat → Option Nat) : V → Option V
  | .ptr k o => (f k).map (.ptr · o)
  | .row sz k a n => (f k).map (.row sz · a n)
  | .rp sz k j o => (f k).map (.rp sz · j o)
  | .map k => (f k).map .map
  | .agg _ | .tup _ | .fn _ _ | .iface _ _ => none
  | v => some v
def renL (f : Nat → Option Nat) : List V → Option (List V)
  | [] => some []
  | v :: vs => match ren0 f v with
    | some x => match renL f vs with
      | some xs => some (x :: xs)
      | none => none
    | none => none
def ren1 (f : Nat → Option Nat) : V → Option V
  | .fn g cs => (renL f cs).map (.fn g)
  | .agg cs => (renL f cs).map .agg
  | .iface t (.agg cs) => (renL f cs).map (fun cs => .iface t (.agg cs))
  | .iface t v => (ren0 f v).map (.iface t)
  | v => ren0 f v
def renArgs (f : Nat → Option Nat) : List V → Option (List V)
  | [] => some []
  | v :: vs => match ren1 f v with
    | some x => match renArgs f vs with
      | some xs => some (x :: xs)
      | none => none
    | none => none
def ren2 (f : Nat → Option Nat) : V → Option V
  | .tup vs => match renArgs f vs with
    | some vs => some (.tup vs)
    | none => none
  | v => ren1 f v
def renM (f : Nat → Option Nat) : List (Value × V × Nat) → Option (List (Value × V × Nat))
  | [] => some []
  | (k, v, b) :: es => match ren1 f v with
    | some v => match renM f es with
      | some es => some ((k, v, b) :: es)
      | none => none
    | none => none
def renB (f : Nat → Option Nat) : B → Option B
  | .cells e cs => match renArgs f cs with
    | some cs => some (.cells e cs)
    | none => none
  | .vmap n es => match renM f es with
    | some es => some (.vmap n es)
    | none => none
  | .iter k s n l => match f k with
    | some k => some (.iter k s n l)
    | none => none
  | b => some b
def renBs (f : Nat → Option Nat) : List B → Option (List B)
  | [] => some []
  | v :: vs => match renB f v with
    | some x => match renBs f vs with
      | some xs => some (x :: xs)
      | none => none
    | none => none

/-- The blocks that values name. -/
def refs0 : V → List Nat
  | .ptr k _ => [k]
  | .row _ k _ _ => [k]
  | .rp _ k _ _ => [k]
  | .map k => [k]
  | _ => []
def refs1 : V → List Nat
  | .fn _ cs => cs.flatMap refs0
  | .agg cs => cs.flatMap refs0
  | .iface _ (.agg cs) => cs.flatMap refs0
  | .iface _ v => refs0 v
  | v => refs0 v
def refsB : B → List Nat
  | .cells _ cs => cs.flatMap refs1
  | .vmap _ es => es.flatMap fun e => refs1 e.2.1
  | .iter k _ _ _ => [k]
  | _ => []
def addNew : List Nat → List Nat → List Nat
  | [], l => l
  | k :: ks, l => addNew ks (if l.contains k then l else l ++ [k])
def reach (L : List B) : Nat → List Nat → List Nat
  | 0, l => l
  | n + 1, l =>
    let l' := addNew (l.flatMap fun k => match L[k]? with | some b => refsB b | none => []) l
    bif Nat.beq l'.length l.length then l' else reach L n l'

def isScalar : V → Bool
  | .d (.b _) | .d (.i _ _) | .d (.s _) | .gun | .nilif | .someif => true
  | _ => false
def isScalar1 : V → Bool
  | .agg cs => cs.all isScalar
  | .tup cs => cs.all fun v => match v with | .agg cs => cs.all isScalar | v => isScalar v
  | .iface _ (.agg cs) => cs.all isScalar
  | .iface _ v => isScalar v
  | v => isScalar v

def pick (L : List B) (l : List Nat) : Option (List B) :=
  match l with
  | [] => some []
  | k :: ks => match L[k]? with
    | some b => match pick L ks with
      | some bs => some (b :: bs)
      | none => none
    | none => none

/-- Blocks written back. -/
def putBack : List B → List Nat → List B → List B
  | L, k :: ks, b :: bs => putBack (L.set k b) ks bs
  | L, _, _ => L

def noDup : List Nat → Bool
  | [] => true
  | k :: l => !l.contains k && noDup l
def kill : List B → List Nat → List B
  | L, [] => L
  | L, k :: ks => kill (L.set k .dead) ks
def lent0 : V → List Nat
  | .row _ k _ _ => [k]
  | _ => []
def lent1 : V → List Nat
  | .agg cs => cs.flatMap lent0
  | v => lent0 v

def endV : End → V
  | .ret v => v
  | .panic v => v
def goE (e : End) (k p : V → List B → Res) : V → List B → Res :=
  match e with
  | .ret _ => k
  | .panic _ => p

/-- A call. -/
def callC (E : Env) (L : List B) (f : FuncId) (args : List V) (k : V → List B → Res) (p : V → List B → Res) : Res :=
  let io := reach L 9 (addNew (args.flatMap refs1) [])
  bif !noDup io then none else
  match renArgs (idxOf io) args, (pick L io).bind (renBs (idxOf io)) with
  | some args', some bs =>
    E.call f args' bs fun e bs' =>
      let back := fun i => if i < io.length then io[i]? else if i < bs'.length then some (L.length + (i - io.length)) else none
      match ren2 back (endV e), renBs back bs' with
      | some v', some bs1 => goE e k p v' (putBack L io (bs1.take io.length) ++ bs1.drop io.length)
      | _, _ => none
  | _, _ => none
def callK (E : Env) (L : List B) (f : FuncId) (args : List V) (k : V → List B → Res) (p : V → List B → Res) : Res :=
  bif rowOKA L (E.byRow f) args then match dataArgs' L (E.byRow f) args with
  | none => none
  | some args0 =>
    let lent := if E.byRow f then [] else args.flatMap lent1
    let args := args0
    let io := reach L 4 (addNew (args.flatMap refs1) [])
    if !(noDup io && lent.all fun k => !io.contains k) then none else
    match renArgs (idxOf io) args, (pick L io).bind (renBs (idxOf io)) with
    | some args', some bs =>
      E.call f args' bs fun e bs' =>
        let back := fun i => if i < io.length then io[i]? else if i < bs'.length then some (L.length + (i - io.length)) else none
        let back0 := fun i => io[i]?
        let v := endV e
        let go := goE e k p
        match ren2 back0 v, renBs back0 (bs'.take io.length) with
        | some v', some bs1 => if isScalar1 v' && io.isEmpty then go v' L else go v' (putBack (kill L lent) io bs1)
        | _, _ => match ren2 back v, renBs back bs' with
          | some v', some bs1 => go v' (putBack (kill L lent) io (bs1.take io.length) ++ bs1.drop io.length)
          | _, _ => none
    | _, _ => none
  else none

/-! ### more operations -/
def okSz (s : Nat) (xs : List (List D)) : Bool := match xs with
  | [] => true
  | x :: _ => x.length == s
def bytesD (s : ByteArray) : List (List D) := s.data.toList.map fun b => [.i .u8 b.toNat]
def isBytes (xs : List (List D)) : Bool := xs.all fun x => match x with
  | [.i .u8 _] => true
  | _ => false
def ofBytes (xs : List (List D)) : ByteArray := ⟨(xs.map fun x => match x with
  | [.i .u8 n] => UInt8.ofNat n.toNat
  | _ => 0).toArray⟩
def chunk (s n : Nat) (ds : List D) : List (List D) := (List.range n).map fun j => (ds.drop (j * s)).take s

def intMoreK (op : BinOp) (k : IntKind) (x y : Int) (f : V → Res) : Res :=
  match op with
  | .quo => bif y == 0 then none else f (.d (.i k (k.wrap (x.tdiv y))))
  | .rem => bif y == 0 then none else f (.d (.i k (x.tmod y)))
  | .and => f (.d (.i k (k.wrap (BitVec.ofInt k.bits x &&& BitVec.ofInt k.bits y).toNat)))
  | .or => f (.d (.i k (k.wrap (BitVec.ofInt k.bits x ||| BitVec.ofInt k.bits y).toNat)))
  | .xor => f (.d (.i k (k.wrap (BitVec.ofInt k.bits x ^^^ BitVec.ofInt k.bits y).toNat)))
  | _ => none
/-- Are two values of a type the same? -/
def eqFs (P : Program) (eq : TypeId → List V → List V → Option Bool) : List Field → List V → List V → Option Bool
  | [], _, _ => some true
  | f :: fs, xs, ys => if f.name == "_" then none else match sizeT P f.type with
    | none => none
    | some s => match eq f.type ((xs.drop f.offset).take s) ((ys.drop f.offset).take s), eqFs P eq fs xs ys with
      | some a, some b => match fs with
        | [] => some a
        | _ => some (a && b)
      | _, _ => none
def eqT (P : Program) : Nat → TypeId → List V → List V → Option Bool
  | 0, _, _, _ => none
  | n + 1, t, xs, ys => match P.underlying t with
    | some .bool => match xs, ys with
      | [.d (.b a)], [.d (.b b)] => some (a == b)
      | _, _ => none
    | some (.int _) => match xs, ys with
      | [.d (.i k a)], [.d (.i k' b)] => if k = k' then some (a == b) else none
      | _, _ => none
    | some .string => match xs, ys with
      | [.d (.s a)], [.d (.s b)] => some (a == b)
      | _, _ => none
    | some (.struct fs) => if P.stoodInHeld t then none else eqFs P (eqT P n) fs.toList xs ys
    | _ => none

def binMoreK (P : Program) (op : BinOp) (t : TypeId) (x y : V) (f : V → Res) : Res :=
  match x, y with
  | .d (.i k a), .d (.i k' b) => match op with
    | .shl => bif decide (b < 0) then none else f (.d (.i k (k.wrap (a * 2 ^ (min b.toNat k.bits)))))
    | .shr => bif decide (b < 0) then none else f (.d (.i k (a.fdiv (2 ^ (min b.toNat k.bits)))))
    | op => if k = k' then intMoreK op k a b f else none
  | .d (.s a), .d (.s b) => match op with
    | .add => if a.size + b.size ≤ 9223372036854775807 then f (.d (.s (a ++ b))) else none
    | _ => none
  | .agg xs, .agg ys => if P.eqGuardType P.depth t then none else match isAggT P t, eqT P 6 t xs ys with
    | some true, some r => match op with
      | .eql => f (.d (.b r))
      | .neq => f (.d (.b (!r)))
      | _ => none
    | _, _ => none
  | _, _ => none

def boundK (v : Option V) (dflt : Int) (f : Int → Res) : Res :=
  match v with
  | none => f dflt
  | some (.d (.i _ n)) => f n
  | _ => none
def sliceK (P : Program) (L : List B) (t : TypeId) (x : V) (lo hi : Option V) (f : V → Res) : Res :=
  match P.underlying t, x with
  | some .string, .d (.s b) => boundK hi b.size fun h => boundK lo 0 fun l => if 0 ≤ l ∧ l ≤ h ∧ h ≤ b.size then f (.d (.s (b.extract l.toNat h.toNat))) else none
  | some (.slice e), .d (.sl xs) => match sizeT P e with
    | some s => boundK hi xs.length fun h => boundK lo 0 fun l => if 0 ≤ l ∧ l ≤ h ∧ h ≤ xs.length then (bif okSz s xs then f (.d (.sl ((xs.take h.toNat).drop l.toNat))) else none) else none
    | none => none
  | some (.slice e), .row sz b a n => match sizeT P e with
    | some s => if sz = s ∧ liveB L b = true then boundK hi n fun h => boundK lo 0 fun l => if 0 ≤ l ∧ l ≤ h ∧ h ≤ n then f (.row sz b (a + l.toNat) (h.toNat - l.toNat)) else none else none
    | none => none
  | _, _ => none

/-- What is appended or copied. -/
def srcK (P : Program) (L : List B) (t : TypeId) (s : Nat) (x : V) (f : List (List D) → Res) : Res :=
  match P.underlying t, x with
  | some (.slice _), .d (.sl xs) => bif okSz s xs then f xs else none
  | some (.slice _), .nilsl => f []
  | some (.slice _), .row sz b a n => match L[b]? with
    | some (.row _ sz' xs) => if sz = s ∧ sz = sz' then (if a + n ≤ xs.length then f ((xs.drop a).take n) else none) else none
    | _ => none
  | some .string, .d (.s b) => if s = 1 then f (bytesD b) else none
  | _, _ => none

def growOK (P : Program) (e : TypeId) : Option (Nat × Nat) := match P.info? e with
  | some i => match i.zero with
    | some z => if (cellsV (ofConst z)).length = i.size ∧ (cellsV (ofConst z)).all atom ∧ 0 < i.bytes ∧ 0 < i.size then some (i.size, i.bytes) else none
    | none => none
  | none => none

def appendK (P : Program) (L : List B) (t tx : TypeId) (s x : V) (k : V → List B → Res) : Res :=
  match P.underlying t with
  | some (.slice e) => match growOK P e with
    | some (size, bytes) => srcK P L tx size x fun ys => match s with
      | .nilsl => (match ys with
        | [] => k .nilsl L
        | y :: ys => if (ys.length + 1) * bytes ≤ 140737488355328 then k (.row size L.length 0 (ys.length + 1)) (L ++ [.row e size (y :: ys)]) else none)
      | .row sz b 0 n => match L[b]? with
        | some (.row e' sz' xs) => if sz = size ∧ sz = sz' ∧ e = e' then (if n ≤ xs.length ∧ (n + ys.length) * bytes ≤ 140737488355328 then k (.row sz L.length 0 (n + ys.length)) (L.set b .dead ++ [.row e sz (xs.take n ++ ys)]) else none) else none
        | _ => none
      | _ => none
    | none => none
  | _ => none

def makeSliceK (P : Program) (L : List B) (t : TypeId) (l c : V) (k : V → List B → Res) : Res :=
  match P.underlying t, l, c with
  | some (.slice e), .d (.i _ l), .d (.i _ c) => match growOK P e, (zeroT P e).bind (fun z => closeAll (cellsV z)) with
    | some (size, bytes), some zs => if zs.length = size then (if 0 ≤ l ∧ l ≤ c ∧ bytes * c ≤ 281474976710656 then k (.row size L.length 0 l.toNat) (L ++ [.row e size (List.replicate l.toNat zs)]) else none) else none
    | _, _ => none
  | _, _, _ => none

def copyK (P : Program) (L : List B) (t tx : TypeId) (s x : V) (k : V → List B → Res) : Res :=
  match P.underlying t, s with
  | some (.slice e), .row sz b a n => match sizeT P e with
    | some size => srcK P L tx size x fun ys => match L[b]? with
      | some (.row e' sz' xs) => if sz = size ∧ sz = sz' ∧ 0 < sz then (if a + n ≤ xs.length ∧ ys.length ≤ n then k (.d (.i .i64 ys.length)) (L.set b (.row e' sz (xs.take a ++ ys ++ xs.drop (a + ys.length)))) else none) else none
      | _ => none
    | none => none
  | _, _ => none

def buildSliceK (P : Program) (L : List B) (t : TypeId) (n : Nat) (parts : List (Nat × V)) (k : V → List B → Res) : Res :=
  match P.underlying t with
  | some (.slice e) => match sizeT P e, zeroT P e with
    | some size, some z => if 0 < size ∧ n * size ≤ 16777216 ∧ (cellsV z).length = size ∧ (cellsV z).all atom then
        (match fillS (fun i => some (i * size, size)) (List.replicate n (cellsV z)).flatten parts with
        | some cs => match closeAll cs with
          | some ds => k (.row size L.length 0 n) (L ++ [.row e size (chunk size n ds)])
          | none => none
        | none => none) else none
    | _, _ => none
  | _ => none

def convertK (P : Program) (L : List B) (src dst : TypeId) (x : V) (f : V → Res) : Res :=
  match P.underlying src, P.underlying dst, x with
  | some _, some (.int k), .d (.i _ n) => f (.d (.i k (k.wrap n)))
  | some _, some .string, .d (.s s) => f (.d (.s s))
  | some (.slice e), some .string, x => match P.underlying e with
    | some (.int .u8) => srcK P L src 1 x fun ys => bif isBytes ys then f (.d (.s (ofBytes ys))) else none
    | _ => none
  | _, _, _ => none

/-! ### maps, by strings -/
def findM : List (ByteArray × List D) → ByteArray → Option (List D)
  | [], _ => none
  | (a, cs) :: es, s => bif s == a then some cs else findM es s
def setM : List (ByteArray × List D) → ByteArray → List D → List (ByteArray × List D)
  | [], s, v => [(s, v)]
  | (a, cs) :: es, s, v => bif s == a then (s, v) :: es else (a, cs) :: setM es s v
def findK {α : Type} (es : List (ByteArray × List D)) (s : ByteArray) (f : List D → Option α) (z : Option α) : Option α :=
  match findM es s with
  | some cs => f cs
  | none => z
def mapT (P : Program) (t : TypeId) : Option (Bool × TypeId) :=
  match P.underlying t with
  | some (.map kt et) => match P.underlying kt, isAggT P et with
    | some .string, some ag => some (ag, et)
    | _, _ => none
  | _ => none
def okV (commaOk : Bool) (v : V) (ok : Bool) : V := bif commaOk then .tup [v, .d (.b ok)] else v
def lookupK (P : Program) (L : List B) (t : TypeId) (x key : V) (commaOk : Bool) (f : V → Res) : Res :=
  match mapT P t with
  | some (ag, et) => match kindsT P 9 et, zeroT P et, key with
    | some q, some z, .d (.s s) => match x with
      | .nilmap => f (okV commaOk z false)
      | .map b => match L[b]? with
        | some (.map ag' es) => if ag = ag' then findK es s (fun cs => tcells q cs fun cs => match ag, cs with
            | true, cs => f (okV commaOk (.agg (cs.map .d)) true)
            | false, [d] => f (okV commaOk (.d d) true)
            | _, _ => none) (f (okV commaOk z false)) else none
        | _ => none
      | _ => none
    | _, _, _ => none
  | none => none
def shOK (ag : Bool) (v : V) : Bool :=
  match ag, v with
  | true, .agg _ => true
  | false, .agg _ => false
  | false, .tup _ => false
  | false, _ => true
  | _, _ => false
def updateV (P : Program) (L : List B) (t : TypeId) (x key v : V) : Option (List B) :=
  match mapT P t, x, key with
  | some (ag, et), .map b, .d (.s s) => match L[b]?, closeAll (cellsV v) with
    | some (.map ag' es), some ds => if ag = ag' ∧ shOK ag v = true then some (L.set b (.map ag (setM es s ds))) else none
    | _, _ => none
  | _, _, _ => none

/-! ### the model's own pure steps -/
def pureRun (P : Program) {α : Type} : Sem α → Option α
  | .pure a => some a
  | .program k => pureRun P (k P)
  | .mark _ k => pureRun P k
  | _ => none
def val0 : V → Option Value
  | .d (.b x) => some (.bool x)
  | .d (.i k n) => some (.int k n)
  | .d (.s s) => some (.string s)
  | _ => none
def val0s : List V → Option (List Value)
  | [] => some []
  | v :: vs => match val0 v with
    | some x => match val0s vs with
      | some xs => some (x :: xs)
      | none => none
    | none => none
def valV : V → Option Value
  | .agg cs => match val0s cs with
    | some l => some (.agg l.toArray)
    | none => none
  | v => val0 v

/-! ### rows of cells -/
/-- How many elements, and their cells. -/
def rowC (L : List B) (s : Nat) : V → Option (Nat × List V)
  | .nilsl => some (0, [])
  | .row sz b a n => match L[b]? with
    | some (.cells _ cs) => if sz = s ∧ (a + n) * s ≤ cs.length ∧ (a = 0 ∨ 0 < n) then some (n, (cs.drop (a * s)).take (n * s)) else none
    | _ => none
  | .d (.sl xs) => bif xs.all (fun x => x.length == s) && Nat.blt 0 s then some (xs.length, xs.flatten.map .d) else none
  | _ => none
def srcC (P : Program) (L : List B) (t : TypeId) (s : Nat) (x : V) : Option (Nat × List V) :=
  match P.underlying t, x with
  | some .string, .d (.s b) => if s = 1 then some (b.size, b.data.toList.map fun x => .d (.i .u8 x.toNat)) else none
  | some (.slice _), x => rowC L s x
  | _, _ => none
def appendC (P : Program) (L : List B) (t tx : TypeId) (s x : V) : Option (V × List B) :=
  match P.underlying t with
  | some (.slice e) => match growOK P e with
    | some (size, bytes) => match srcC P L tx size x with
      | some (m, ys) => match s with
        | .nilsl => bif Nat.beq m 0 then some (.nilsl, L) else if m * bytes ≤ 140737488355328 then some (.row size L.length 0 m, L ++ [.cells e ys]) else none
        | .row sz b 0 n => match L[b]? with
          | some (.cells e' cs) => if sz = size ∧ e = e' ∧ n * size ≤ cs.length ∧ (n + m) * bytes ≤ 140737488355328 then some (.row sz L.length 0 (n + m), L.set b .dead ++ [.cells e (cs.take (n * size) ++ ys)]) else none
          | _ => none
        | _ => none
      | none => none
    | none => none
  | _ => none
def copyC (P : Program) (L : List B) (t tx : TypeId) (s x : V) : Option (Nat × List B) :=
  match P.underlying t with
  | some (.slice e) => match sizeT P e with
    | some size => match srcC P L tx size x with
      | some (m, ys) => match s with
        | .nilsl => bif Nat.beq m 0 then some (0, L) else none
        | .row sz b a n => match L[b]? with
          | some (.cells e' cs) => if sz = size ∧ 0 < size ∧ (a + n) * size ≤ cs.length ∧ (a = 0 ∨ 0 < n) ∧ m ≤ n then some (m, L.set b (.cells e' (over cs (a * size) ys))) else none
          | _ => none
        | _ => none
      | none => none
    | none => none
  | _ => none
def makeSliceC (P : Program) (L : List B) (t : TypeId) (l c : V) : Option (V × List B) :=
  match P.underlying t, l, c with
  | some (.slice e), .d (.i _ l), .d (.i _ c) => match growOK P e, zeroT P e with
    | some (size, bytes), some z => if 0 ≤ l ∧ l ≤ c ∧ bytes * c ≤ 281474976710656 then some (.row size L.length 0 l.toNat, L ++ [.cells e (List.replicate l.toNat (cellsV z)).flatten]) else none
    | _, _ => none
  | _, _, _ => none
def buildSliceC (P : Program) (L : List B) (t : TypeId) (n : Nat) (parts : List (Nat × V)) : Option (V × List B) :=
  match P.underlying t with
  | some (.slice e) => match sizeT P e, zeroT P e with
    | some size, some z => if 0 < size ∧ n * size ≤ 16777216 ∧ (cellsV z).length = size ∧ (cellsV z).all atom then
        (match fillS (fun i => some (i * size, size)) (List.replicate n (cellsV z)).flatten parts with
        | some cs => some (.row size L.length 0 n, L ++ [.cells e cs])
        | none => none) else none
    | _, _ => none
  | _ => none
def sliceC (P : Program) (L : List B) (t : TypeId) (x : V) (lo hi : Option V) (k : V → List B → Res) : Res :=
  match P.underlying t, x, lo, hi with
  | some (.slice e), .nilsl, none, none => match sizeT P e with
    | some _ => k .nilsl L
    | none => none
  | some (.slice e), .nilsl, some (.d (.i _ 0)), none => match sizeT P e with
    | some _ => k .nilsl L
    | none => none
  | some (.slice e), .nilsl, none, some (.d (.i _ 0)) => match sizeT P e with
    | some _ => k .nilsl L
    | none => none
  | _, x, lo, hi => sliceK P L t x lo hi (fun v => k v L)
def isByteV : V → Bool
  | .d (.i .u8 _) => true
  | _ => false
def byteV : V → UInt8
  | .d (.i .u8 n) => UInt8.ofNat n.toNat
  | _ => 0
def convertC (P : Program) (L : List B) (s d : TypeId) (x : V) (k : V → List B → Res) : Res :=
  match P.underlying s, P.underlying d, x with
  | some _, some (.int q), .d (.i _ n) => k (.d (.i q (q.wrap n))) L
  | some _, some .string, .d (.s s) => k (.d (.s s)) L
  | some (.slice e), some .string, x => match P.underlying e, rowC L 1 x with
    | some (.int .u8), some (_, ys) => bif ys.all isByteV then k (.d (.s ⟨(ys.map byteV).toArray⟩)) L else none
    | _, _ => none
  | _, _, _ => none
/-- Bytes that are converted to bytes: what they hold, from there on. -/
def markC (P : Program) (L : List B) (s d : TypeId) (x : V) : Option (V × List B) :=
  match P.underlying s, x with
  | some (.slice e), .row sz b 0 n => match P.underlying e, L[b]? with
    | some (.int .u8), some (.cells _ cs) => if s = d ∧ sz = 1 ∧ n ≤ cs.length then (match closeAll (cs.take n) with
      | some ds => some (.d (.sl (ds.map fun d => [d])), L.set b .dead)
      | none => none) else none
    | _, _ => none
  | _, _ => none

/-! ### maps of any keys -/
def keysOf (es : List (Value × V × Nat)) : List MapEntry := es.map fun e => { key := e.1, val := .tuple #[], born := 0 }
def findC (P : Program) (empty : Bool) (kt : TypeId) (k : Value) (es : List (Value × V × Nat)) : Option (Option Nat) :=
  match pureRun P (Instr.checkKey empty 10000 kt k) with
  | some _ => match pureRun P (Instr.findKey kt k (keysOf es)) with
    | some r => some (r.map (·.1))
    | none => none
  | none => none
def lookupC (P : Program) (L : List B) (t : TypeId) (x key : V) (ok : Bool) : Option V :=
  match P.underlying t with
  | some (.map kt et) => match zeroT P et, valV key with
    | some z, some k => match x with
      | .nilmap => match findC P true kt k [] with
        | some _ => some (okV ok z false)
        | none => none
      | .map b => match L[b]? with
        | some (.vmap _ es) => match findC P es.isEmpty kt k es with
          | some none => some (okV ok z false)
          | some (some i) => match es[i]? with
            | some e => some (okV ok e.2.1 true)
            | none => none
          | none => none
        | _ => none
      | _ => none
    | _, _ => none
  | _ => none
def updateC (P : Program) (L : List B) (t : TypeId) (x key v : V) : Option (List B) :=
  match P.underlying t with
  | some (.map kt et) => match x, valV key with
    | .map b, some k => match L[b]? with
      | some (.vmap n es) => match findC P false kt k es with
        | some none => some (L.set b (.vmap (n + 1) (es ++ [(k, v, n)])))
        | some (some i) => match es[i]? with
          | some e => bif Instr.sameBits 10000 e.1 k then some (L.set b (.vmap n (es.set i (k, v, e.2.2)))) else none
          | none => none
        | none => none
      | _ => none
    | _, _ => none
  | _ => none
def mapEntryC (P : Program) (L : List B) (t : TypeId) (x key : V) : Option (V × List B) :=
  match P.underlying t with
  | some (.map kt et) => match x, valV key, zeroT P et with
    | .map b, some k, some z => match L[b]? with
      | some (.vmap n es) => match findC P false kt k es with
        | some none => some (.tup [z, .d (.i .i64 n)], L.set b (.vmap (n + 1) (es ++ [(k, z, n)])))
        | some (some i) => match es[i]? with
          | some e => bif Instr.sameBits 10000 e.1 k then some (.tup [e.2.1, .d (.i .i64 e.2.2)], L.set b (.vmap n (es.set i (k, e.2.1, e.2.2)))) else none
          | none => none
        | none => none
      | _ => none
    | _, _, _ => none
  | _ => none
def entryStoreC (L : List B) (x stamp v : V) : Option (List B) :=
  match x, stamp with
  | .map b, .d (.i _ s) => match L[b]? with
    | some (.vmap n es) => match es.findIdx? (fun e => (e.2.2 : Int) == s) with
      | some i => match es[i]? with
        | some e => some (L.set b (.vmap n (es.set i (e.1, v, e.2.2))))
        | none => none
      | none => none
    | _ => none
  | _, _ => none
def deleteC (P : Program) (L : List B) (t : TypeId) (x key : V) : Option (List B) :=
  match P.underlying t with
  | some (.map kt _) => match x, valV key with
    | .map b, some k => match L[b]? with
      | some (.vmap n es) => match findC P es.isEmpty kt k es with
        | some none => some L
        | some (some i) => some (L.set b (.vmap n (es.eraseIdx i)))
        | none => none
      | _ => none
    | _, _ => none
  | _ => none
def rangeC (P : Program) (L : List B) (t : TypeId) (x : V) : Option (V × List B) :=
  match P.underlying t, x with
  | some (.map _ _), .map b => match L[b]? with
    | some (.vmap n _) => some (.ptr L.length 0, L ++ [.iter b n [] n])
    | _ => none
  | _, _ => none
/-- One step over a map, where there is no choice. -/
def nextC (L : List B) (x : V) : Option (V × List B) :=
  match x with
  | .ptr r 0 => match L[r]? with
    | some (.iter m since seen last) => match L[m]? with
      | some (.vmap n es) =>
        bif !seen.isEmpty && !es.isEmpty && es.all (fun e => decide (e.2.2 ≥ last)) then none else
        let left := es.filter fun e => !seen.contains e.2.2
        let old := left.filter fun e => decide (e.2.2 < since)
        let new := left.filter fun e => decide (e.2.2 ≥ since)
        match old, new with
        | [], [] => some (.tup [.d (.b false)], L)
        | [e], [] => some (.tup [.d (.b true), ofConst e.1, e.2.1], L.set r (.iter m since (seen ++ [e.2.2]) n))
        | _, _ => none
      | _ => none
    | _ => none
  | _ => none
def entryC (L : List B) (x : V) : Option V :=
  match x with
  | .ptr r 0 => match L[r]? with
    | some (.iter m since seen last) => match L[m]?, seen.getLast? with
      | some (.vmap n es), some stamp => bif Nat.beq n last then (match es.find? (fun e => e.2.2 == stamp) with
        | some e => some (.tup [ofConst e.1, e.2.1])
        | none => none) else none
      | _, _ => none
    | _ => none
  | _ => none

/-! ### more -/
def typeAssertV (P : Program) (x : V) (at_ : TypeId) (ok : Bool) : Option V :=
  match P.underlying at_ with
  | some (.interface _) => none
  | some _ => match x with
    | .iface t v => if t = at_ then some (okV ok v true) else (bif ok then (zeroT P at_).map (okV true · false) else none)
    | .nilif => bif ok then (zeroT P at_).map (okV true · false) else none
    | _ => none
  | none => none
def partV (P : Program) (t : TypeId) (cs : List V) (off : Nat) : Option V :=
  match isAggT P t, sizeT P t with
  | some true, some s => if off + s ≤ cs.length then some (.agg ((cs.drop off).take s)) else none
  | some false, some 1 => cs[off]?
  | _, _ => none
def fieldOfV (P : Program) (t : TypeId) (x : V) (f : Nat) : Option V :=
  match P.underlying t, x with
  | some (.struct fs), .agg cs => match fs[f]? with
    | some fd => partV P fd.type cs fd.offset
    | none => none
  | _, _ => none
def isConstO : Operand → Bool
  | .const _ => true
  | _ => false
/-- Is it nil? -/
def nilV (P : Program) (L : List B) (t : TypeId) (x : V) : Option Bool :=
  match P.underlying t, x with
  | some (.pointer _), .nilp => some true
  | some (.pointer _), .ptr k _ => if liveB L k = true then some false else none
  | some (.pointer _), .dp _ _ => some false
  | some (.slice _), .nilsl => some true
  | some (.slice _), .row _ k a n => if liveB L k = true ∧ (a = 0 ∨ 0 < n) then some false else none
  | some (.map _ _), .nilmap => some true
  | some (.map _ _), .map k => if liveB L k = true then some false else none
  | some (.interface _), .nilif => some true
  | some (.interface _), .iface _ _ => some false
  | _, _ => none
def isNilC : V → Bool
  | .nilp | .nilsl | .nilmap | .nilif => true
  | _ => false
/-- Comparison with the literal nil. -/
def nilCmp (P : Program) (L : List B) (op : BinOp) (t : TypeId) (Y : Operand) (x y : V) : Option V :=
  if isConstO Y = true ∧ isNilC y = true then (match op, nilV P L t x, nilV P L t y with
    | .eql, some b, some true => some (.d (.b b))
    | .neq, some b, some true => some (.d (.b (!b)))
    | _, _, _ => none) else none
def minV : List V → Option V
  | [.d (.i k x), .d (.i _ y)] => some (.d (.i k (if y < x then y else x)))
  | _ => none

def pairK (r : Option (V × List B)) (k : V → List B → Res) : Res := match r with
  | some (v, L) => k v L
  | none => none
def unitK (r : Option (List B)) (k : V → List B → Res) : Res := match r with
  | some L => k .gun L
  | none => none
def oneK (r : Option V) (L : List B) (k : V → List B → Res) : Res := match r with
  | some v => k v L
  | none => none
def bothK (P : Program) (o : Oper) (fr : List V) (L : List B) (k : V → List B → Res) : Res :=
  match o.op with
  | .typeAssert x _ at_ ok => oneK (typeAssertV P (evO fr x) at_ ok) L k
  | .field t x f => oneK (fieldOfV P t (evO fr x) f) L k
  | _ => none
def moreC (P : Program) (o : Oper) (fr : List V) (L : List B) (k : V → List B → Res) : Res :=
  match o.op with
  | .slice t x lo hi none => sliceC P L t (evO fr x) (lo.map (evO fr)) (hi.map (evO fr)) k
  | .buildSlice t n parts => pairK (buildSliceC P L t n (parts.toList.map fun q => (q.1, evO fr q.2))) k
  | .makeSlice t l c => pairK (makeSliceC P L t (evO fr l) (evO fr c)) k
  | .convert s d x => convertC P L s d (evO fr x) k
  | .makeMap _ none => k (.map L.length) (L ++ [.vmap 0 []])
  | .lookup t x key ok => oneK (lookupC P L t (evO fr x) (evO fr key) ok) L k
  | .mapUpdate t m key v | .insert t m key v => unitK (updateC P L t (evO fr m) (evO fr key) (evO fr v)) k
  | .mapEntry t m key => pairK (mapEntryC P L t (evO fr m) (evO fr key)) k
  | .entryStore _ m s v => unitK (entryStoreC L (evO fr m) (evO fr s) (evO fr v)) k
  | .range t x => pairK (rangeC P L t (evO fr x)) k
  | .next x false => pairK (nextC L (evO fr x)) k
  | .entry x => oneK (entryC L (evO fr x)) L k
  | _ => bothK P o fr L k
def moreK (P : Program) (o : Oper) (fr : List V) (L : List B) (k : V → List B → Res) : Res :=
  match o.op with
  | .slice t x lo hi none => sliceK P L t (evO fr x) (lo.map (evO fr)) (hi.map (evO fr)) (fun v => k v L)
  | .buildSlice t n parts => buildSliceK P L t n (parts.toList.map fun q => (q.1, evO fr q.2)) k
  | .makeSlice t l c => makeSliceK P L t (evO fr l) (evO fr c) k
  | .convert s d x => convertK P L s d (evO fr x) (fun v => k v L)
  | .makeMap t none => match mapT P t with
    | some (ag, _) => k (.map L.length) (L ++ [.map ag []])
    | none => none
  | .lookup t x key ok => lookupK P L t (evO fr x) (evO fr key) ok (fun v => k v L)
  | .mapUpdate t m key v => match updateV P L t (evO fr m) (evO fr key) (evO fr v) with
    | some L' => k .gun L'
    | none => none
  | _ => bothK P o fr L k
def builtinC (P : Program) (b : Builtin) (ts : List TypeId) (xs : List V) (L : List B) (k : V → List B → Res) : Res :=
  match b, ts, xs with
  | .append, [t, tx], [s, x] => pairK (appendC P L t tx s x) k
  | .copy, [t, tx], [s, x] => match copyC P L t tx s x with
    | some (n, L) => k (.d (.i .i64 n)) L
    | none => none
  | .delete, [t, _], [x, key] => match deleteC P L t x key with
    | some L => k (.tup []) L
    | none => none
  | .min, _, xs => oneK (minV xs) L k
  | _, _, _ => none
def builtinK (P : Program) (b : Builtin) (ts : List TypeId) (xs : List V) (L : List B) (k : V → List B → Res) : Res :=
  match b, ts, xs with
  | .append, [t, tx], [s, x] => appendK P L t tx s x k
  | .copy, [t, tx], [s, x] => copyK P L t tx s x k
  | _, _, _ => none

def evOp (E : Env) (o : Oper) (fr : List V) (L : List B) (k : V → List B → Res) (p : V → List B → Res) : Res :=
  match o.op with
  | .move x | .assign x => k (evO fr x) L
  | .pick c a b => match evO fr c with
    | .d (.b x) => bif x then k (evO fr a) L else k (evO fr b) L
    | _ => none
  | .alloc t => match zeroT E.P t with
    | some z => if (cellsV z).all atom then k (.ptr L.length 0) (L ++ [.cells t (cellsV z)]) else none
    | none => none
  | .box t x => if (cellsV (evO fr x)).all atom then k (.ptr L.length 0) (L ++ [.cells t (cellsV (evO fr x))]) else none
  | .build t parts => match zeroT E.P t, E.P.underlying t with
    | some z, some (.array n e) => match sizeT E.P e with
      | some s => if !((cellsV z).all atom) then none else match fillS (fun i => some (i * s, s)) (cellsV z) (parts.toList.map fun q => (q.1, evO fr q.2)) with
        | some cs => k (.agg cs) L
        | none => none
      | none => none
    | some z, some (.struct fs) => if !((cellsV z).all atom && fs.toList.all fun f => (sizeT E.P f.type).isSome) then none else match fillS (fun i => match fs[i]? with | some f => (sizeT E.P f.type).map (f.offset, ·) | none => none) (cellsV z) (parts.toList.map fun q => (q.1, evO fr q.2)) with
      | some cs => k (.agg cs) L
      | none => none
    | _, _ => none
  | .load t a => match loadV E.P L t (evO fr a) with
    | some v => k v L
    | none => none
  | .store t a x => match storeV E.P L t (evO fr a) (evO fr x) with
    | some L' => k .gun L'
    | none => none
  | .nilCheck x => match evO fr x with
    | .ptr n off => if liveB L n then k (.ptr n off) L else none
    | .dp cs off => k (.dp cs off) L
    | _ => none
  | .binOp op t x y _ => match binS E.P op t (evO fr x) (evO fr y) with
    | some v => k v L
    | none => match nilCmp E.P L op t y (evO fr x) (evO fr y) with
    | some v => k v L
    | none => binMoreK E.P op t (evO fr x) (evO fr y) (fun v => k v L)
  | .unOp op _ x => match unS op (evO fr x) with
    | some v => k v L
    | none => none
  | .fieldAddr t x f => match fieldV E.P L t (evO fr x) f with
    | some v => k v L
    | none => none
  | .indexAddr t x i => match evO fr i with
    | .d (.i .i64 n) => indexAddrK E k L t (evO fr x) n
    | _ => none
  | .index t x i => match evO fr i with
    | .d (.i .i64 n) => indexK E k L t (evO fr x) n
    | _ => none
  | .extract x i => match evO fr x with
    | .tup vs => match vs[i]? with
      | some v => k v L
      | none => none
    | _ => none
  | .makeFunc (.func f) first cap => if first.isEmpty then k (.fn f (cap.toList.map (evO fr))) L else none
  | .call c => match c.callee with
    | .builtin .len => match c.args.toList.map (evO fr), c.argTypes.toList with
      | [x], [t] => match lenV E.P L t x with
        | some n => k (.d (.i .i64 n)) L
        | none => none
      | _, _ => none
    | .value f => match evO fr f with
      | .fn g cap => bif E.conc then (match E.ext g (c.args.toList.map (evO fr) ++ cap) with
        | some v => k v L
        | none => callC E L g (c.args.toList.map (evO fr) ++ cap) k p) else callK E L g (c.args.toList.map (evO fr) ++ cap) k p
      | _ => none
    | .builtin b => bif E.conc then builtinC E.P b c.argTypes.toList (c.args.toList.map (evO fr)) L k else builtinK E.P b c.argTypes.toList (c.args.toList.map (evO fr)) L k
    | _ => none
  | .panic x => match evO fr x with
    | .iface t v => p (.iface t v) L
    | _ => none
  | .makeInterface t x => if E.P.concrete t = true then k (.iface t (evO fr x)) L else none
  | _ => bif E.conc then moreC E.P o fr L k else moreK E.P o fr L k

/-- Which way a guard goes. -/
def yieldV (ops : Array Oper) (fr : List V) (j : Nat) : Option (Option Bool) :=
  match (ops[j]?).bind (·.dst) with
  | some t => match fr[t]? with
    | some (.d (.b x)) => some (some x)
    | some .gun => some none
    | _ => none
  | none => none

/-- An operation in a region in text order. -/
def markK (E : Env) (o : Oper) (fr : List V) (L : List B) : Option (V × List B) :=
  bif E.conc then (match o.op with
    | .convert s d x => markC E.P L s d (evO fr x)
    | _ => none) else none
def evOpT (E : Env) (o : Oper) (fr : List V) (L : List B) (k : V → List B → Res) (p : V → List B → Res) : Res :=
  match markK E o fr L with
  | some (v, L) => k v L
  | none => evOp E o fr L k p
def evOps (E : Env) (ops : Array Oper) : List Oper → List V → List B → (Ex → List V → List B → Res) → Res
  | [], fr, L, k => k .normal fr L
  | o :: rest, fr, L, k =>
    let run := fun fr => evOpT E o fr L (fun v L => evOps E ops rest (setAt fr o.dst v) L k) (fun v L => k (.panic v) fr L)
    match o.guard with
    | none => run fr
    | some (j, want) => match yieldV ops fr j with
      | some (some x) =>
        let dst := (ops[j]?).bind (·.dst)
        let skip := fun fr => evOps E ops rest (setAt fr o.dst .gun) L k
        match want with
        | true => bif x then run (setAt fr dst (.d (.b true))) else skip (setAt fr dst (.d (.b false)))
        | false => bif x then skip (setAt fr dst (.d (.b true))) else run (setAt fr dst (.d (.b false)))
      | some none => evOps E ops rest (setAt fr o.dst .gun) L k
      | none => none

/-! ### regions whose order is open -/
def isRead (o : Oper) : Bool :=
  match o.op with
  | .move _ | .assign _ | .pick _ _ _ | .load _ _ | .nilCheck _ | .binOp _ _ _ _ _ | .unOp _ _ _ | .fieldAddr _ _ _ | .indexAddr _ _ _ | .index _ _ _ | .extract _ _ | .build _ _ | .makeFunc _ _ _ | .slice _ _ _ _ _ | .convert _ _ _ | .lookup _ _ _ _ | .makeInterface _ _ | .typeAssert _ _ _ _ | .field _ _ _ => true
  | .call c => match c.callee with
    | .builtin .len => true
    | _ => false
  | _ => false
def union (l : List Nat) : List Nat → List Nat
  | [] => l
  | k :: ks => union (if l.contains k then l else k :: l) ks
/-- What comes before each operation in every order. -/
def ancRow (acc : List (List Nat)) : List Edge → List Nat → List Nat
  | [], l => l
  | e :: es, l => ancRow acc es (if Region.binds .any e then union (union l [e.on]) (acc.getD e.on []) else l)
def ancs : List Oper → List (List Nat) → List (List Nat)
  | [], acc => acc
  | o :: os, acc => ancs os (acc ++ [ancRow acc o.after.toList []])
/-- The slots that an operation looks at. -/
def looks (ops : Array Oper) (o : Oper) : List Tmp :=
  (o.op.operands.toList.filterMap fun | .tmp t => some t | _ => none) ++
  (match o.guard with
   | some (g, _) => match (ops[g]?).bind (·.dst) with
     | some t => [t]
     | none => []
   | none => [])
/-- May it be done at any time? -/
def free (ops : Array Oper) (anc : List (List Nat)) (i : Nat) : Bool :=
  match ops[i]? with
  | some o => isRead o && (match o.dst with
    | none => true
    | some d => (List.range ops.size).all fun j => match ops[j]? with
      | some q => !(looks ops q).contains d || (anc.getD j []).contains i
      | none => true)
  | none => false
def drawOK (ops : Array Oper) (anc : List (List Nat)) : Bool :=
  (List.range ops.size).all fun i => match ops[i]? with
    | none => true
    | some o => (o.after.toList.all fun e => !Region.binds .any e || Nat.blt e.on i) && ((List.range ops.size).all fun j => match ops[j]? with
      | none => true
      | some q => match q.dst with
        | none => true
        | some d => (Nat.beq i j || o.dst != some d) && (!(looks ops o).contains d || (anc.getD i []).contains j || ((anc.getD j []).contains i && !free ops anc j)))
def callW (E : Env) (L : List B) (f : FuncId) (args : List V) : List Nat :=
  bif E.conc then reach L 9 (addNew (args.flatMap refs1) []) else
  match dataArgs' L (E.byRow f) args with
  | none => []
  | some args0 => reach L 4 (addNew (args0.flatMap refs1) []) ++ (if E.byRow f then [] else args.flatMap lent1)
/-- The blocks that an operation may write. -/
def wrOf (E : Env) (o : Oper) (fr : List V) (L : List B) : List Nat :=
  match o.op with
  | .store _ a _ => refs1 (evO fr a)
  | .mapUpdate _ m _ _ | .insert _ m _ _ | .mapEntry _ m _ | .entryStore _ m _ _ => refs1 (evO fr m)
  | .next x _ => refs1 (evO fr x)
  | .call c => match c.callee with
    | .value f => match evO fr f with
      | .fn g cap => callW E L g (c.args.toList.map (evO fr) ++ cap)
      | _ => []
    | _ => (c.args.toList.map (evO fr)).flatMap refs1
  | _ => []
/-- The blocks that an operation may look at. -/
def fpOf (o : Oper) (fr : List V) : List Nat := o.op.operands.toList.flatMap fun x => refs1 (evO fr x)

noncomputable def comb (a b : Res) : Res := open Classical in if a = b then a else none
theorem comb_self (a : Res) : comb a a = a := by simp [comb]
def combs (cmb : Res → Res → Res) (f : Nat → Res) : List Nat → Res
  | [] => none
  | [i] => f i
  | i :: is => cmb (f i) (combs cmb f is)

def noK : V → List B → Res := fun _ _ => none
/-- An operation under its guard. -/
def evG (E : Env) (ops : Array Oper) (o : Oper) (fr : List V) (L : List B) (k : List V → V → List B → Res) : Res :=
  match o.guard with
  | none => evOp E o fr L (k fr) noK
  | some (j, want) => match yieldV ops fr j with
    | some (some x) =>
      let dst := (ops[j]?).bind (·.dst)
      match want with
      | true => bif x then evOp E o (setAt fr dst (.d (.b true))) L (k (setAt fr dst (.d (.b true)))) noK else k (setAt fr dst (.d (.b false))) .gun L
      | false => bif x then k (setAt fr dst (.d (.b true))) .gun L else evOp E o (setAt fr dst (.d (.b false))) L (k (setAt fr dst (.d (.b false)))) noK
    | some none => k fr .gun L
    | none => none
def evD (E : Env) (ops : Array Oper) (anc : List (List Nat)) (k : List V → List B → Res) : Nat → Array Bool → List Nat → List V → List B → Res
  | 0, _, _, _, _ => none
  | n + 1, listed, pend, fr, L =>
    match Region.ready .any ops listed with
    | [] => k fr L
    | r :: rs => match (r :: rs).find? (free ops anc) with
      | some i => match ops[i]? with
        | some o => evG E ops o fr L fun fr v L => evD E ops anc k n (listed.setIfInBounds i true) (i :: pend) (setAt fr o.dst v) L
        | none => none
      | none => combs E.cmb (fun i => match ops[i]? with
        | some o => if pend.all (fun p => (anc.getD i []).contains p || (match ops[p]? with
            | some q => (fpOf q fr).all fun b => Nat.blt b L.length && !(wrOf E o fr L).contains b
            | none => true)) then evG E ops o fr L fun fr v L => evD E ops anc k n (listed.setIfInBounds i true) pend (setAt fr o.dst v) L else none
        | none => none) (r :: rs)

/-- What is kept where the region of a number comes next: slots, blocks. -/
def atHead (E : Env) (id : Option Nat) (fr : List V) (L : List B) (k : List V → List B → Res) : Res :=
  match id.bind E.head with
  | none => k fr L
  | some keep =>
    let fr := fr.mapIdx fun i v => if keep.contains i then v else .undef
    let order := reach L 4 (addNew (fr.flatMap refs1) (List.range E.n0))
    if !(noDup order && (order.take E.n0 == List.range E.n0)) then none else
    match renArgs (idxOf order) fr, (pick L order).bind (renBs (idxOf order)) with
    | some fr, some L => k fr L
    | _, _ => none
/-- A part of code. -/
def _root_.Go.Code.sub : Code → List Nat → Code
  | c, [] => c
  | .seq a _, 0 :: p => a.sub p
  | .seq _ b, _ :: p => b.sub p
  | .cond _ a _, 0 :: p => a.sub p
  | .cond _ _ b, _ :: p => b.sub p
  | .block _ c, _ :: p => c.sub p
  | .loop c, _ :: p => c.sub p
  | c, _ => c
/-- The number of the first region. -/
def first : Code → Option Nat
  | .region id _ _ => some id
  | .seq a _ => first a
  | .block _ c => first c
  | .loop c => first c
  | _ => none

def dstOf : Operand → Option Tmp
  | .tmp t => some t
  | _ => none

abbrev Kont := Ex → List V → List B → Res
/-- n rounds at the most. -/
def blockK (id : Nat) (k : Kont) : Kont := fun x fr L => match x with
  | .exit id' => if id' = id then k .normal fr L else k (.exit id') fr L
  | x => k x fr L
def seqK (E : Env) (id : Option Nat) (b : List V → List B → Kont → Res) (k : Kont) : Kont := fun x fr L => match x with
  | .normal => atHead E id fr L fun fr L => b fr L k
  | x => k x fr L
def loopN (E : Env) (id : Option Nat) (body : List V → List B → Kont → Res) : Nat → List V → List B → Kont → Res
  | 0, _, _, _ => none
  | n + 1, fr, L, k => body fr L (seqK E id (loopN E id body n) k)

/-- Code; each loop goes round n times at the most. -/
def ev (E : Env) (n : Nat) : Code → List V → List B → Kont → Res
  | .skip, fr, L, k => k .normal fr L
  | .ret, fr, L, k => k .ret fr L
  | .exit id, fr, L, k => k (.exit id) fr L
  | .region id ops false, fr, L, k => evOps E ops ops.toList fr L k
  | .region id ops true, fr, L, k => bif drawOK ops (ancs ops.toList []) then evD E ops (ancs ops.toList []) (fun fr L => k .normal fr L) (ops.size + 1) (Array.replicate ops.size false) [] fr L else none
  | .seq a b, fr, L, k => ev E n a fr L (seqK E (first b) (ev E n b) k)
  | .cond c a b, fr, L, k => match evO fr c with
    | .d (.b x) => bif x then ev E n a (setAt fr (dstOf c) (.d (.b true))) L k else ev E n b (setAt fr (dstOf c) (.d (.b false))) L k
    | _ => none
  | .block id c, fr, L, k => ev E n c fr L (blockK id k)
  | .loop c, fr, L, k => atHead E (first c) fr L fun fr L => loopN E (first c) (ev E n c) n fr L k
  | _, _, _, _ => none

def resV (P : Program) (fr : List V) (L : List B) : ResultVar → Option V
  | .tmp t => fr[t]?
  | .cell a t => match fr[a]? with
    | some p => loadV P L t p
    | none => none
def resVs (P : Program) (fr : List V) (L : List B) : List ResultVar → Option (List V)
  | [] => some []
  | r :: rs => match resV P fr L r with
    | some x => match resVs P fr L rs with
      | some xs => some (x :: xs)
      | none => none
    | none => none
def resOf (P : Program) (fr : List V) (L : List B) (rs : Array ResultVar) : Option V :=
  match resVs P fr L rs.toList with
  | some [v] => some v
  | some vs => some (.tup vs)
  | none => none

def told (L : List B) : V → Option V
  | .tup vs => match dataArgs L false vs with
    | some vs => some (.tup vs)
    | none => none
  | v => data1 L false v
def lent2 : V → List Nat
  | .tup vs => vs.flatMap lent1
  | v => lent1 v
/-- A result with its rows told as data, and without the call's own blocks. -/
def tell (L : List B) (n : Nat) (v : V) : Option (V × List B) :=
  match told L v with
  | some v' => match ren2 (idxOf (List.range n)) v', (pick (kill L (lent2 v)) (List.range n)).bind (renBs (idxOf (List.range n))) with
    | some v', some bs => some (v', bs)
    | _, _ => none
  | none => none

def told' (L : List B) : V → Option V
  | .tup vs => match dataArgs' L false vs with
    | some vs => some (.tup vs)
    | none => none
  | v => data1' L false v
def rowOK2 (L : List B) : V → Bool
  | .tup vs => rowOKA L false vs
  | v => rowOK1 L false v
def tell' (L : List B) (n : Nat) (v : V) : Option (V × List B) :=
  match told' L v with
  | some v' => match ren2 (idxOf (List.range n)) v', (pick (kill L (lent2 v)) (List.range n)).bind (renBs (idxOf (List.range n))) with
    | some v', some bs => some (v', bs)
    | _, _ => none
  | none => none
theorem tell_eq {L : List B} {n : Nat} {v : V} (h : rowOK2 L v = true) : tell' L n v = tell L n v := by
  have ht : told' L v = told L v := by
    cases v with
    | tup vs => simp only [told', told, dataArgs_eq (show rowOKA L false vs = true from h)]
    | _ =>
      simp only [told', told]
      exact data1_eq (by simpa only [rowOK2] using h)
  simp only [tell', tell, ht]

/-- A function's end. tells: its rows are handed back as data. -/
def finK (P : Program) (n0 : Nat) (tells : Bool) (rs : Array ResultVar) : Kont := fun x fr L => match x with
  | .normal | .ret => match resOf P fr L rs with
    | some v => if tells then (bif rowOK2 L v then (match tell' L n0 v with | some (v, L) => some (.ret v, L) | none => none) else none) else some (.ret v, L)
    | none => none
  | .panic v => some (.panic v, L)
  | _ => none

/-- A function of the program. -/
def evFn (E : Env) (n : Nat) (tells : Bool) (fn : Func) (args : List V) (bs : List B) : Res :=
  match fn.body with
  | none => none
  | some c => ev { E with n0 := bs.length } n c (args ++ List.replicate (fn.ntmps - args.length) .gun) bs (finK E.P bs.length tells fn.results)
end Go.Tw
