import GoSem.Dispatch
import GoSem.Step
import Derived.Orders
import Derived.Calls
import Derived.Laws.Append
import Derived.Laws.CopyRow
import Derived.Laws.Rows
import Derived.Laws.Strings
import Derived.Laws.BytesString
import Derived.Laws.MakeOwn
import Derived.Laws.Small
import Derived.ChangeKeysEq
import Derived.Laws.Tables
import Derived.Laws.NewFold
set_option linter.unusedVariables false
set_option linter.unusedSimpArgs false
namespace Go.Am

/-- a place: row (object) number, cell -/
abbrev Pl := Option (Nat × Nat)

/-- global values: what may stand in a cell. A slice: where it begins, how many elements, cells of an element -/
inductive GV where
  | bool (b : Bool) | int (k : IntKind) (n : Int) | str (s : ByteArray)
  | ptr (a : Pl) | sl (a : Pl) (n z : Nat)
  | map (m : Option Nat) | fn (f : Nat) (caps : List (Nat × Nat)) | nilfn
  | iface (t : Nat) (v : GV) | nilif
  deriving Inhabited

/-- a part of a tuple: one value, or a struct's cells -/
inductive RV where
  | s (v : GV) | a (cs : List GV)
  deriving Inhabited

/-- what a temporary holds (bad: nothing is known; und: nothing was put there): a value, a struct, a tuple, a local box (its cells), a place in the box of a temporary, an immutable row of n elements -/
inductive FV where
  | g (v : GV) | agg (cs : List GV) | tup (vs : List RV) | bx (cs : List GV) | lp (s o : Nat) | bs (cs : List GV) (n z : Nat) | bad | und
  deriving Inhabited

/-- an entry of a map: when it was born, its key, its value -/
abbrev Ent := Nat × RV × RV
inductive Obj where
  | row (own : Bool) (t : TypeId) (cs : List GV)
  | dead
  | map (es : List Ent) (clock : Nat)
  | iter (m : Option Nat) (since : Nat) (seen : List Nat) (last : Nat)
  deriving Inhabited

abbrev Hp := List Obj
abbrev Post := FV → Hp → Prop
/-- what a function does, as a transformer of what is wanted behind it -/
abbrev Sm := List FV → Hp → Post → Prop

/-- kinds of cells -/
inductive LK where
  | bool | int (k : IntKind) | str | ptr | sl (z : Nat) | map | fn | iface
  deriving Inhabited, DecidableEq

/-- what is known of a type: is it a struct (or array), its cells' kinds, an element's type, a struct's fields (where they begin, their types), bytes, a word (1: slice, 2: pointer, 3: string, 4: tuple (fs: its types), 5: map) -/
structure TI where
  agg : Bool
  lv : List LK
  el : Nat
  fs : List (Nat × Nat)
  by_ : Nat
  k : Nat
  /-- methods that stand by themselves: name, function, does it take a pointer -/
  ms : List (String × Nat × Bool) := []
  /-- an array's length -/
  an : Nat := 0
  deriving Inhabited

structure Cx where
  tys : List TI
  esc : List Nat
  keep : List (Nat × List Nat)
  cut : List (Nat × List Nat)
  env : List (Nat × Sm)
  dyn : Nat → Sm
  res : List ResultVar

/-! the words in which functions are told -/
def bite (b : Bool) (x y : Prop) : Prop := match b with | true => x | false => y
def dB (v : GV) (K : Bool → Prop) : Prop := match v with | .bool b => K b | _ => False
def dI (k : IntKind) (v : GV) (K : Int → Prop) : Prop := match v with | .int k' n => k' = k ∧ K n | _ => False
def dS (v : GV) (K : ByteArray → Prop) : Prop := match v with | .str s => K s | _ => False
def dP (v : GV) (K : Pl → Prop) : Prop := match v with | .ptr a => K a | _ => False
def dL (z : Nat) (v : GV) (K : Pl → Nat → Prop) : Prop := match v with | .sl a n z' => (a = none ∨ z' = z) ∧ K a n | _ => False
def dM (v : GV) (K : Option Nat → Prop) : Prop := match v with | .map m => K m | _ => False
/-- what stands in an interface value of that type -/
def dX (t : Nat) (v : GV) (K : GV → Prop) : Prop := match v with | .iface t' w => t' = t ∧ K w | _ => False
def dF (v : GV) (K : Nat → List (Nat × Nat) → Prop) : Prop := match v with | .fn f caps => K f caps | _ => False
def pS (a : Pl) (K : Nat → Nat → Prop) : Prop := match a with | some (l, o) => K l o | none => False
def uC (cs : List GV) (K : GV → List GV → Prop) : Prop := match cs with | c :: cs => K c cs | [] => False
def uN (cs : List GV) (x : Prop) : Prop := match cs with | [] => x | _ => False
def rG (r : FV) (K : GV → Prop) : Prop := match r with | .g v => K v | _ => False
def rA (r : FV) (K : List GV → Prop) : Prop := match r with | .agg cs => K cs | _ => False
def rT (r : FV) (K : List RV → Prop) : Prop := match r with | .tup vs => K vs | _ => False
def uR (vs : List RV) (K : RV → List RV → Prop) : Prop := match vs with | v :: vs => K v vs | [] => False
def uE (vs : List RV) (x : Prop) : Prop := match vs with | [] => x | _ => False
def rS (r : RV) (K : GV → Prop) : Prop := match r with | .s v => K v | _ => False
def rC (r : RV) (K : List GV → Prop) : Prop := match r with | .a cs => K cs | _ => False
def chk (b : Bool) (x : Prop) : Prop := match b with | true => x | false => False
/-- a call -/
def cl (s : Sm) (as : List FV) (H : Hp) (K : FV → Hp → Prop) : Prop := s as H K

/-- a check of what is written in the code -/
def ck (b : Bool) (x : Prop) : Prop := match b with | true => x | false => False
/-- a cell -/
def gt (H : Hp) (l o : Nat) : Option GV := match H[l]? with | some (.row _ _ cs) => cs[o]? | _ => none
def rd (H : Hp) (l o : Nat) (K : GV → Prop) : Prop := match gt H l o with | some v => K v | none => False
def st? (H : Hp) (l o : Nat) (v : GV) : Option Hp := match H[l]? with
  | some (.row true t cs) => if o < cs.length then some (H.set l (.row true t (cs.set o v))) else none
  | _ => none
def wr (H : Hp) (l o : Nat) (v : GV) (K : Hp → Prop) : Prop := match st? H l o v with | some H' => K H' | none => False
def ln (H : Hp) : Nat := H.length
def pu (H : Hp) (x : Obj) : Hp := H ++ [x]
/-- are these cells as they were? -/
def same (H H' : Hp) (l o n : Nat) : Prop := ∀ i, i < n → gt H' l (o + i) = gt H l (o + i)

/-- cells one behind the other -/
def cells? (H : Hp) (a : Pl) (n : Nat) : Option (List GV) := match a with
  | none => if n = 0 then some [] else none
  | some (l, o) => match H[l]? with
    | some (.row _ _ cs) => if o + n ≤ cs.length then some ((cs.drop o).take n) else none
    | _ => none
def rdN (H : Hp) (a : Pl) (n : Nat) (K : List GV → Prop) : Prop := match cells? H a n with | some cs => K cs | none => False

/-- elements set to nothing (zs: an element's cells) -/
def clr (H : Hp) (a : Pl) (n : Nat) (zs : List GV) (K : Hp → Prop) : Prop := match n with
  | 0 => K H
  | n' + 1 => match a with
    | none => False
    | some (l, o) => match H[l]? with
      | some (.row true t cs) => o + (n' + 1) * zs.length ≤ cs.length ∧ K (H.set l (.row true t (cs.take o ++ (List.replicate (n' + 1) zs).flatten ++ cs.drop (o + (n' + 1) * zs.length))))
      | _ => False

def Lim : Nat := 140737488355328

/-- cells (m elements of z cells, b bytes each) put behind a slice of n: a new row; the old one is dead (ahead of a row's end: where they stand) -/
def app? (H : Hp) (t z b : Nat) (a : Pl) (n : Nat) (cs : List GV) (m : Nat) : Option (Pl × Nat × Hp) :=
  if (n + m) * b ≤ Lim ∧ cs.length = m * z then match a with
    | none => if n = 0 then (if m = 0 then some (none, 0, H) else some (some (H.length, 0), m, H ++ [.row true t cs])) else none
    | some (l, o) => match H[l]? with
      | some (.row true t' cs') => if o = 0 ∧ t' = t ∧ cs'.length = n * z then some (some (H.length, 0), n + m, (H.set l .dead) ++ [.row true t (cs' ++ cs)])
        else if o + (n + m) * z ≤ cs'.length then some (some (l, o), n + m, H.set l (.row true t' (cs'.take (o + n * z) ++ cs ++ cs'.drop (o + (n + m) * z)))) else none
      | _ => none
  else none
def ap (H : Hp) (t z b : Nat) (a : Pl) (n : Nat) (cs : List GV) (m : Nat) (K : Pl → Nat → Hp → Prop) : Prop :=
  match app? H t z b a n cs m with | some (a', n', H') => K a' n' H' | none => False
/-- cells put behind an empty row that is not nil -/
def ap0 (H : Hp) (t z b : Nat) (cs : List GV) (m : Nat) (K : Hp → Prop) : Prop := (m * b ≤ Lim ∧ cs.length = m * z) ∧ K (H ++ [.row true t cs])

/-! the machine -/
def zeroLK : LK → GV
  | .bool => .bool false | .int k => .int k 0 | .str => .str ⟨#[]⟩ | .ptr => .ptr none | .sl z => .sl none 0 z | .map => .map none | .fn => .nilfn | .iface => .nilif

def setK {R : Type} : List FV → Nat → FV → (List FV → R) → R
  | [], _, _, K => K []
  | _ :: xs, 0, v, K => K (v :: xs)
  | x :: xs, d + 1, v, K => setK xs d v fun ys => K (x :: ys)

def FV.isLp (s : Nat) : FV → Bool
  | .lp s' _ => s == s'
  | _ => false
def noLp (s : Nat) (fr : List FV) : Bool := match fr with
  | [] => true
  | x :: xs => match x.isLp s with | true => false | false => noLp s xs

def Cx.ty (cx : Cx) (t : Nat) : TI := cx.tys.getD t default
/-- is it a type of values? -/
def TI.ok (x : TI) : Bool := match x.agg with
  | true => true
  | false => match x.lv with | [] => false | _ => true
def Cx.okT (cx : Cx) (t : Nat) : Bool := (cx.ty t).ok
def Cx.okFs (cx : Cx) (n : Nat) : List (Nat × Nat) → Bool
  | [] => true
  | (p, t) :: l => match cx.okT t, Nat.ble (p + (cx.ty t).lv.length) n with | true, true => cx.okFs n l | _, _ => false
def TI.isA (x : TI) (k : Nat) : Bool := match x.ok with | true => Nat.beq x.k k | false => false
def TI.isBool (x : TI) : Bool := match x.agg, x.lv with | false, [.bool] => true | _, _ => false
def TI.isIface (x : TI) : Bool := match x.agg, x.lv with | false, [.iface] => true | _, _ => false
def TI.isU8 (x : TI) : Bool := match x.agg, x.lv with | false, [.int .u8] => true | _, _ => false
/-- a slice's type, whose elements have cells and bytes -/
def Cx.isSl (cx : Cx) (t : Nat) : Bool := match (cx.ty t).isA 1, cx.okT (cx.ty t).el with | true, true => true | _, _ => false
def Cx.full (cx : Cx) (e : Nat) : Bool := match Nat.ble 1 (cx.ty e).lv.length, Nat.ble 1 (cx.ty e).by_ with | true, true => true | _, _ => false

def ofValue : Value → FV
  | .bool b => .g (.bool b) | .int k n => .g (.int k n) | .string s => .g (.str s) | .pointer none => .g (.ptr none)
  | .slice none 0 0 => .g (.sl none 0 0) | .map none => .g (.map none) | .nilFunc => .g .nilfn | .nilIface => .g .nilif
  | _ => .bad

def atFr (fr : List FV) (t : Nat) : FV := match fr.getD t .bad with
  | .bx _ => .lp t 0
  | x => x

def ev (fr : List FV) : Operand → FV
  | .tmp t => atFr fr t
  | .const v => ofValue v
  | .global _ => .bad
  | .func f => .g (.fn f [])

/-- a value by its kind -/
def dLeaf (k : LK) (v : GV) (K : GV → Prop) : Prop := match k with
  | .bool => dB v fun b => K (.bool b)
  | .int k => dI k v fun n => K (.int k n)
  | .str => dS v fun s => K (.str s)
  | .ptr => dP v fun a => K (.ptr a)
  | .sl z => dL z v fun a n => K (.sl a n z)
  | .map => dM v fun m => K (.map m)
  | .fn => K v
  | .iface => K v

def dLeaves : List LK → List GV → (List GV → Prop) → Prop
  | [], cs, K => uN cs (K [])
  | k :: ks, cs, K => uC cs fun c cs => dLeaf k c fun c => dLeaves ks cs fun r => K (c :: r)

/-- the parts of a tuple -/
def dParts (cx : Cx) : List (Nat × Nat) → List RV → (List RV → Prop) → Prop
  | [], vs, K => uE vs (K [])
  | (_, t) :: ts, vs, K => uR vs fun v vs => match (cx.ty t).agg with
    | true => rC v fun cs => dLeaves (cx.ty t).lv cs fun cs => dParts cx ts vs fun vs => K (.a cs :: vs)
    | false => rS v fun v => match (cx.ty t).lv with | [k] => dLeaf k v fun v => dParts cx ts vs fun vs => K (.s v :: vs) | _ => False

/-- a result of a type -/
def dRes (cx : Cx) (t : Nat) (r : FV) (K : FV → Prop) : Prop :=
  match (cx.ty t).k with
  | 4 => match (cx.ty t).fs with
    | [] => K .bad
    | _ => rT r fun vs => dParts cx (cx.ty t).fs vs fun vs => K (.tup vs)
  | _ => match (cx.ty t).agg with
    | true => rA r fun cs => dLeaves (cx.ty t).lv cs fun cs => K (.agg cs)
    | false => rG r fun v => match (cx.ty t).lv with | [k] => dLeaf k v fun v => K (.g v) | _ => False

/-- cells l, o, l, o + 1, .. by their kinds -/
def ldLeaves (H : Hp) (l : Nat) : Nat → List LK → (List GV → Prop) → Prop
  | _, [], K => K []
  | o, k :: ks, K => rd H l o fun c => dLeaf k c fun c => ldLeaves H l (o + 1) ks fun r => K (c :: r)

def stCells (l : Nat) : Hp → Nat → List GV → (Hp → Prop) → Prop
  | H, _, [], K => K H
  | H, o, c :: cs, K => wr H l o c fun H => stCells l H (o + 1) cs K

def cellsK (x : FV) (K : List GV → Prop) : Prop := match x with
  | .g v => K [v]
  | .agg cs => K cs
  | _ => False

/-- a list with cells in their places -/
def fillK : List GV → Nat → List GV → (List GV → Prop) → Prop
  | zs, _, [], K => K zs
  | [], _, _ :: _, _ => False
  | z :: zs, o + 1, cs, K => fillK zs o cs fun r => K (z :: r)
  | _ :: zs, 0, c :: cs, K => fillK zs 0 cs fun r => K (c :: r)

def wrapI (k : IntKind) (n : Int) : Int := k.wrap n
def strLt (a b : ByteArray) : Bool := Op.bytesLess a.toList b.toList
def strEq (a b : ByteArray) : Bool := a.toList == b.toList
def bitsI (op : BinOp) (k : IntKind) (x y : Int) : Int :=
  let a := BitVec.ofInt k.bits x
  let b := BitVec.ofInt k.bits y
  k.wrap (match op with | .and => a &&& b | .or => a ||| b | .xor => a ^^^ b | _ => a &&& ~~~b).toNat
def shlI (k : IntKind) (x y : Int) : Int := k.wrap (x * 2 ^ (min y.toNat k.bits))
def shrI (k : IntKind) (x y : Int) : Int := x.fdiv (2 ^ (min y.toNat k.bits))
def eqI (x y : Int) : Bool := x == y
def ltI (x y : Int) : Bool := decide (x < y)
def leI (x y : Int) : Bool := decide (x ≤ y)
def mnI (a b : Int) : Int := if b < a then b else a
def mxI (a b : Int) : Int := if b > a then b else a
def leN (x y : Nat) : Bool := decide (x ≤ y)
def shf (a : Pl) (m : Nat) : Pl := match a with | none => none | some (l, o) => some (l, o + m)
/-- are there so many cells in the row? -/
def room (H : Hp) (a : Pl) (m : Nat) : Bool := match a with
  | none => leN m 0
  | some (l, o) => match H[l]? with | some (.row _ _ cs) => leN (o + m) cs.length | _ => false
def nI (n : Nat) : Int := n
def tN (n : Int) : Nat := n.toNat
def byt (s : ByteArray) (j : Nat) : Int := (s.data.toList.getD j 0).toNat
def bof (n : Int) : UInt8 := UInt8.ofNat n.toNat
def sz (s : ByteArray) : Int := s.size
def szN (s : ByteArray) : Nat := s.size
def sub (s : ByteArray) (l h : Nat) : ByteArray := s.extract l h
def mkS (l : List UInt8) : ByteArray := ⟨l.toArray⟩
def bytesOf (s : ByteArray) : List GV := s.data.toList.map fun b => .int .u8 b.toNat
def eqB (x y : Bool) : Bool := x == y
def catS (a b : ByteArray) (K : ByteArray → Prop) : Prop := a.size + b.size ≤ 9223372036854775807 ∧ K (a ++ b)
def isNone {α : Type} : Option α → Bool | none => true | some _ => false

/-- '==' of two cells -/
def eqC : GV → GV → Option Bool
  | .bool a, .bool b => some (eqB a b)
  | .int _ a, .int _ b => some (eqI a b)
  | .str a, .str b => some (strEq a b)
  | _, _ => none
/-- '==' of structs' cells -/
def eqAll : List GV → List GV → Option Bool
  | [], [] => some true
  | a :: as, b :: bs => match eqC a b, eqAll as bs with | some e, some r => some (e && r) | _, _ => none
  | _, _ => none
/-- does a cell fit a kind that may be compared? -/
def fitC (k : LK) (v : GV) : Bool := match k, v with
  | .bool, .bool _ => true
  | .int k, .int k' _ => decide (k = k')
  | .str, .str _ => true
  | _, _ => false
def fits : List LK → List GV → Bool
  | [], [] => true
  | k :: ks, v :: vs => match fitC k v with | true => fits ks vs | false => false
  | _, _ => false
/-- a struct of plain fields, that may be compared (el: 1) -/
def TI.cmp (x : TI) : Bool := match x.agg with | true => (match Nat.beq x.k 0 with | true => Nat.beq x.el 1 | false => false) | false => false

def gb (b : Bool) : FV := .g (.bool b)
def gi (k : IntKind) (n : Int) : FV := .g (.int k n)

def binK (cx : Cx) (t : Nat) (op : BinOp) (x y : FV) (K : FV → Prop) : Prop :=
  match x, y with
  | .g (.int k a), .g (.int k' b) =>
    match op with
    | .shl => chk (leI 0 b) (K (gi k (shlI k a b)))
    | .shr => chk (leI 0 b) (K (gi k (shrI k a b)))
    | op => if k = k' then match op with
      | .add => K (gi k (wrapI k (a + b))) | .sub => K (gi k (wrapI k (a - b))) | .mul => K (gi k (wrapI k (a * b)))
      | .quo => chk (!(eqI b 0)) (K (gi k (wrapI k (a.tdiv b)))) | .rem => chk (!(eqI b 0)) (K (gi k (a.tmod b)))
      | .and => K (gi k (bitsI .and k a b)) | .or => K (gi k (bitsI .or k a b)) | .xor => K (gi k (bitsI .xor k a b)) | .andNot => K (gi k (bitsI .andNot k a b))
      | .eql => K (gb (eqI a b)) | .neq => K (gb (!(eqI a b))) | .lss => K (gb (ltI a b)) | .leq => K (gb (leI a b)) | .gtr => K (gb (ltI b a)) | .geq => K (gb (leI b a))
      | _ => False
      else False
  | .g (.str a), .g (.str b) =>
    match op with
    | .add => catS a b fun s => K (.g (.str s))
    | .eql => K (gb (strEq a b)) | .neq => K (gb (!(strEq a b))) | .lss => K (gb (strLt a b)) | .leq => K (gb (strLt a b || strEq a b))
    | .gtr => K (gb (!(strLt a b || strEq a b))) | .geq => K (gb (!(strLt a b)))
    | _ => False
  | .g (.bool a), .g (.bool b) => ck (cx.ty t).isBool <| match op with | .eql => K (gb (eqB a b)) | .neq => K (gb (!(eqB a b))) | _ => False
  | .g (.ptr a), .g (.ptr none) => ck ((cx.ty t).isA 2) <| match op with | .eql => K (gb (isNone a)) | .neq => K (gb (!(isNone a))) | _ => False
  | .g (.sl a _ _), .g (.sl none _ _) => ck ((cx.ty t).isA 1) <| match op with | .eql => K (gb (isNone a)) | .neq => K (gb (!(isNone a))) | _ => False
  | .agg xs, .agg ys => ck (cx.ty t).cmp <| ck (fits (cx.ty t).lv xs) <| ck (fits (cx.ty t).lv ys) <| match eqAll xs ys with
    | some e => (match op with | .eql => K (gb e) | .neq => K (gb (!e)) | _ => False)
    | none => False
  | _, _ => False

/-- a bound of a slice expression, as a number -/
def bndK (E : Operand → FV) (x : Option Operand) (d : Nat) (K : Nat → Prop) : Prop := match x with
  | none => K d
  | some x => match E x with | .g (.int _ n) => chk (leI 0 n) (K (tN n)) | _ => False

/-- is the size of an element the slice's? -/
def okz (a : Pl) (z' z : Nat) : Bool := match z' == z with | true => true | false => match a with | none => true | some _ => false

/-- a value of a type (nil slices: how many cells an element has) -/
def evT (cx : Cx) (t : Nat) (E : Operand → FV) (x : Operand) : FV := match x with
  | .const (.slice none 0 0) => .g (.sl none 0 (cx.ty (cx.ty t).el).lv.length)
  | x => E x
def hdN (ts : List Nat) : Nat := match ts with | [] => 0 | t :: _ => t
def tlN (ts : List Nat) : List Nat := match ts with | [] => [] | _ :: ts => ts
/-- a box lent for a call: the type its row is told under -/
abbrev lentT : TypeId := 1000003
def argsK (cx : Cx) (E : Operand → FV) : List Operand → List Nat → Hp → (List FV → Hp → Prop) → Prop
  | [], _, H, K => K [] H
  | x :: xs, ts, H, K => match evT cx (hdN ts) E x with
    | .g v => argsK cx E xs (tlN ts) H fun r H => K (.g v :: r) H
    | .agg cs => argsK cx E xs (tlN ts) H fun r H => K (.agg cs :: r) H
    | .bs cs n z => argsK cx E xs (tlN ts) (pu H (.row false lentT cs)) fun r H' => K (.g (.sl (some (ln H, 0)) n z) :: r) H'
    | _ => False

def bldK (cx : Cx) (E : Operand → FV) (t : Nat) : List GV → List (Nat × Operand) → (List GV → Prop) → Prop
  | zs, [], K => K zs
  | zs, (i, x) :: ps, K => match (cx.ty t).fs[i]? with
    | some (p, e) => cellsK (E x) fun cs => ck (cx.okT e) (ck (Nat.beq cs.length (cx.ty e).lv.length) (fillK zs p cs fun zs => bldK cx E t zs ps K))
    | none => False
def blsK (E : Operand → FV) (z : Nat) : List GV → List (Nat × Operand) → (List GV → Prop) → Prop
  | zs, [], K => K zs
  | zs, (i, x) :: ps, K => cellsK (E x) fun cs => ck (Nat.beq cs.length z) (fillK zs (i * z) cs fun zs => blsK E z zs ps K)
def bytesK : List GV → (List UInt8 → Prop) → Prop
  | [], K => K []
  | c :: cs, K => dI .u8 c fun n => bytesK cs fun r => K (bof n :: r)
/-- the bytes of a row, as a text -/
def txt (cs : List GV) (K : ByteArray → Prop) : Prop := bytesK cs fun s => K (mkS s)
def capsK (E : Operand → FV) : List Operand → (List (Nat × Nat) → Prop) → Prop
  | [], K => K []
  | x :: xs, K => match E x with | .g (.ptr (some p)) => capsK E xs fun r => K (p :: r) | _ => False
def srcK (H : Hp) (z : Nat) (y : FV) (K : List GV → Nat → Prop) : Prop := match y with
  | .g (.sl a m z') => chk (okz a z' z) (rdN H a (m * z) fun cs => K cs m)
  | .bs cs m z' => ck (Nat.beq z' z) (K cs m)
  | .g (.str s) => K (bytesOf s) (szN s)
  | _ => False
def zerosK (ks : List LK) : List GV := ks.map zeroLK
def repN (n : Nat) (cs : List GV) : List GV := (List.replicate n cs).flatten
def repK (n : Nat) (cs : List GV) : List GV := (List.replicate n cs).flatten
def Cx.isEsc (cx : Cx) (d : Option Nat) : Bool := cx.esc.contains (d.getD 0)
/-- a box -/
def mkK (cx : Cx) (o : Oper) (fr : List FV) (H : Hp) (t : Nat) (cs : List GV) (K : FV → List FV → Hp → Prop) : Prop := match cx.isEsc o.dst with
  | true => K (.g (.ptr (some (ln H, 0)))) fr (pu H (.row true t cs))
  | false => match o.dst with | some d => ck (noLp d fr) (ck (Nat.blt d fr.length) (K (.bx cs) fr H)) | none => False
def oneK (cs : List GV) (agg : Bool) (K : FV → Prop) : Prop := match agg with
  | true => K (.agg cs)
  | false => match cs with | [v] => K (.g v) | _ => False
/-- cells out of a list -/
def cutK (cs : List GV) (p n : Nat) (agg : Bool) (K : FV → Prop) : Prop := match agg with
  | true => ck (Nat.ble (p + n) cs.length) (K (.agg ((cs.drop p).take n)))
  | false => match cs[p]? with | some v => K (.g v) | none => False

def loadK (cx : Cx) (t : Nat) (x : FV) (B : Nat → FV) (H : Hp) (K : FV → Prop) : Prop := match x with
  | .lp s p => match B s with
    | .bx cs => cutK cs p (cx.ty t).lv.length (cx.ty t).agg K
    | _ => False
  | .g (.ptr (some (l, p))) => ldLeaves H l p (cx.ty t).lv fun cs => oneK cs (cx.ty t).agg K
  | _ => False
def storeK (x : FV) (ns : List GV) (fr : List FV) (H : Hp) (K : List FV → Hp → Prop) : Prop := match x with
  | .lp s p => match fr.getD s .bad with
    | .bx cs => fillK cs p ns fun cs => setK fr s (.bx cs) fun fr => K fr H
    | _ => False
  | .g (.ptr (some (l, p))) => stCells l H p ns fun H => K fr H
  | _ => False
def unK (op : UnOp) (x : FV) (K : FV → Prop) : Prop := match op, x with
  | .not, .g (.bool b) => K (gb (!b))
  | .neg, .g (.int k n) => K (gi k (wrapI k (0 - n)))
  | .xor, .g (.int k n) => K (gi k (bitsI .xor k (if k.signed then -1 else k.max) n))
  | _, _ => False
/-- the types of bytes -/
def byteT (t : TypeId) : Bool := Nat.beq t 5 || Nat.beq t 6
def convK (cx : Cx) (s d : Nat) (x : FV) (H : Hp) (K : FV → Hp → Prop) : Prop := ck (cx.okT s) <| ck (cx.okT d) <| match (cx.ty d).k, (cx.ty d).lv, x with
  | 0, [.int k], .g (.int _ n) => ck (!(cx.ty d).agg) (K (gi k (wrapI k n)) H)
  | 3, _, .g (.str s) => K (.g (.str s)) H
  | 3, _, .g (.sl a n _) => ck (cx.isSl s) <| ck (cx.ty (cx.ty s).el).isU8 <| rdN H a n fun cs => txt cs fun s => K (.g (.str s)) H
  | 3, _, .bs cs n _ => ck (cx.isSl s) <| ck (cx.ty (cx.ty s).el).isU8 <| ck (Nat.beq cs.length n) <| txt cs fun s => K (.g (.str s)) H
  | 1, _, .g (.str s) => ck (cx.ty (cx.ty d).el).isU8 <| ck (byteT (cx.ty d).el) <| chk (leN (szN s) Lim) (K (.g (.sl (some (ln H, 0)) (szN s) 1)) (pu H (.row true (cx.ty d).el (bytesOf s))))
  | _, _, _ => False
def mkslK (cx : Cx) (t : Nat) (l c : FV) (H : Hp) (K : FV → Hp → Prop) : Prop := match l, c with
  | .g (.int _ l), .g (.int _ c) => ck (cx.isSl t) <| ck (cx.full (cx.ty t).el) <| chk (eqI l c && leI 0 l && leI (l * (cx.ty (cx.ty t).el).by_) (nI Lim))
      (K (.g (.sl (some (ln H, 0)) (tN l) (cx.ty (cx.ty t).el).lv.length)) (pu H (.row true (cx.ty t).el (repN (tN l) (zerosK (cx.ty (cx.ty t).el).lv)))))
  | _, _ => False
/-- a row that is not lent on -/
def mkslB (cx : Cx) (t : Nat) (l c : FV) (K : FV → Prop) : Prop := match l, c with
  | .g (.int _ l), .g (.int _ c) => ck (cx.isSl t) <| ck (cx.full (cx.ty t).el) <| chk (eqI l c && leI 0 l && leI (l * (cx.ty (cx.ty t).el).by_) (nI Lim))
      (K (.bs (repK l.toNat (zerosK (cx.ty (cx.ty t).el).lv)) l.toNat (cx.ty (cx.ty t).el).lv.length))
  | _, _ => False
/-- do a row's told cells end here? -/
def ends (H : Hp) (a : Pl) (k : Nat) : Bool := match a with
  | none => true
  | some (l, o) => match H[l]? with | some (.row _ _ cs) => leN cs.length (o + k) | _ => false
def sliceK (cx : Cx) (t : Nat) (x : FV) (lo hi : Option Operand) (E : Operand → FV) (H : Hp) (K : FV → Prop) : Prop := match x with
  | .g (.str s) => ck ((cx.ty t).isA 3) <| bndK E hi (szN s) fun h => bndK E lo 0 fun l => chk (leN l h && leN h (szN s)) (K (.g (.str (sub s l h))))
  | .g (.sl a n z') => ck (cx.isSl t) <| ck (Nat.ble 1 (cx.ty (cx.ty t).el).lv.length) <| chk (okz a z' (cx.ty (cx.ty t).el).lv.length) <| match hi with
    | none => bndK E lo 0 fun l => chk (leN l n) (K (.g (.sl (shf a (l * (cx.ty (cx.ty t).el).lv.length)) (n - l) (cx.ty (cx.ty t).el).lv.length)))
    | some _ => bndK E hi n fun h => bndK E lo 0 fun l => chk (leN l h && (leN h n || room H a (h * (cx.ty (cx.ty t).el).lv.length))) (K (.g (.sl (shf a (l * (cx.ty (cx.ty t).el).lv.length)) (h - l) (cx.ty (cx.ty t).el).lv.length)))
  | .g (.ptr (some (r, o))) => ck ((cx.ty t).isA 6) <| ck (cx.okT (cx.ty t).el) <| ck (Nat.ble 1 (cx.ty (cx.ty t).el).lv.length) <| ck (Nat.ble (cx.ty t).an 16777216) <| bndK E hi (cx.ty t).an fun h => bndK E lo 0 fun l =>
      chk (leN l h && (leN h (cx.ty t).an && (room H (some (r, o)) ((cx.ty t).an * (cx.ty (cx.ty t).el).lv.length) && ends H (some (r, o)) ((cx.ty t).an * (cx.ty (cx.ty t).el).lv.length))))
        (K (.g (.sl (some (r, o + l * (cx.ty (cx.ty t).el).lv.length)) (h - l) (cx.ty (cx.ty t).el).lv.length)))
  | _ => False
/-- a slice with a bound for its cap -/
def slice3K (cx : Cx) (t : Nat) (x : FV) (lo hi : Option Operand) (mx : Operand) (E : Operand → FV) (H : Hp) (K : FV → Prop) : Prop := match x, hi with
  | .g (.sl a n z'), some hi => ck (cx.isSl t) <| ck (Nat.ble 1 (cx.ty (cx.ty t).el).lv.length) <| chk (okz a z' (cx.ty (cx.ty t).el).lv.length) <|
      bndK E (some mx) n fun m => bndK E (some hi) n fun h => bndK E lo 0 fun l => chk (leN l h && (leN h m && (leN m n && ends H a (m * (cx.ty (cx.ty t).el).lv.length))))
        (K (.g (.sl (shf a (l * (cx.ty (cx.ty t).el).lv.length)) (h - l) (cx.ty (cx.ty t).el).lv.length)))
  | _, _ => False
def fldK (x : FV) (p : Nat) (K : FV → Prop) : Prop := match x with
  | .lp s q => K (.lp s (q + p))
  | .g (.ptr (some (l, q))) => K (.g (.ptr (some (l, q + p))))
  | _ => False
def idxK (cx : Cx) (t : Nat) (x i : FV) (K : FV → Prop) : Prop := match x, i with
  | .g (.sl a n z'), .g (.int _ j) => ck (cx.isSl t) <| chk (okz a z' (cx.ty (cx.ty t).el).lv.length) (chk (leI 0 j && ltI j (nI n)) (pS a fun l q => K (.g (.ptr (some (l, q + tN j * (cx.ty (cx.ty t).el).lv.length))))))
  | .g (.ptr (some (l, q))), .g (.int _ j) => ck ((cx.ty t).isA 6) <| ck (cx.okT (cx.ty t).el) <| chk (leI 0 j && ltI j (nI (cx.ty t).an)) (K (.g (.ptr (some (l, q + tN j * (cx.ty (cx.ty t).el).lv.length)))))
  | _, _ => False
def lenK (cx : Cx) (t : Nat) (x : FV) (K : FV → Prop) : Prop := match x with
  | .g (.str s) => ck ((cx.ty t).isA 3) <| K (gi .i64 (sz s))
  | .g (.sl _ n _) => ck ((cx.ty t).isA 1) <| K (gi .i64 (nI n))
  | .bs _ n _ => ck ((cx.ty t).isA 1) <| K (gi .i64 (nI n))
  | _ => False
def min2K (mx : Bool) (x y : FV) (K : FV → Prop) : Prop := match x, y with
  | .g (.int k a), .g (.int _ b) => K (gi k (match mx with | true => mxI a b | false => mnI a b))
  | _, _ => False
def appK (cx : Cx) (e : Nat) (x y : FV) (H : Hp) (K : FV → Hp → Prop) : Prop := srcK H (cx.ty e).lv.length y fun cs m => match x with
  | .g (.sl a n z') => chk (okz a z' (cx.ty e).lv.length) (ap H e (cx.ty e).lv.length (cx.ty e).by_ a n cs m fun a n H => K (.g (.sl a n (cx.ty e).lv.length)) H)
  | .bs [] 0 _ => ap0 H e (cx.ty e).lv.length (cx.ty e).by_ cs m fun H' => K (.g (.sl (some (ln H, 0)) m (cx.ty e).lv.length)) H'
  | _ => False

def clrK (cx : Cx) (t : Nat) (x : FV) (H : Hp) (K : FV → Hp → Prop) : Prop := match x with
  | .g (.sl a n z') => ck (cx.isSl t) <| ck (cx.full (cx.ty t).el) <| chk (okz a z' (cx.ty (cx.ty t).el).lv.length) <| clr H a n (zerosK (cx.ty (cx.ty t).el).lv) fun H => K .bad H
  | _ => False


def capV (p : Nat × Nat) : FV := .g (.ptr (some p))
/-- arguments, what was captured behind them -/
def cpl (as : List FV) (caps : List (Nat × Nat)) : List FV := as ++ caps.map capV

def mth : List (String × Nat × Bool) → String → Option (Nat × Bool)
  | [], _ => none
  | (n, f, b) :: l, x => match n == x with | true => some (f, b) | false => mth l x
/-- the receiver of a method, out of an interface value -/
def recvK (cx : Cx) (t : Nat) (b : Bool) (w : GV) (B : Nat → FV) (H : Hp) (K : FV → Prop) : Prop := match (cx.ty t).isA 2 with
  | true => match b with
    | true => K (.g w)
    | false => ck (cx.okT (cx.ty t).el) <| match w with
      | .ptr a => pS a fun l o => loadK cx (cx.ty t).el (.g (.ptr (some (l, o)))) B H fun x => match x with
        | .g v => K (.g v)
        | .agg cs => K (.agg cs)
        | _ => False
      | _ => False
  | false => False
/-- an operation that leaves the frame alone: what stands in its temporary then, the heap -/
def opE (cx : Cx) (o : Oper) (E : Operand → FV) (B : Nat → FV) (H : Hp) (K : FV → Hp → Prop) : Prop :=
  match o.op with
  | .move x | .assign x => K (evT cx o.type E x) H
  | .pick c a b => match E c with | .g (.bool t) => bite t (K (E a) H) (K (E b) H) | _ => False
  | .build t parts => ck (cx.ty t).agg <| ck (Nat.beq (cx.ty t).k 0) <| ck (cx.okFs (cx.ty t).lv.length (cx.ty t).fs) <| bldK cx E t (zerosK (cx.ty t).lv) parts.toList fun cs => K (.agg cs) H
  | .buildSlice t n parts => ck (cx.isSl t) <| ck (Nat.ble 1 (cx.ty (cx.ty t).el).lv.length) <| ck (Nat.ble (n * (cx.ty (cx.ty t).el).lv.length) 16777216) <| blsK E (cx.ty (cx.ty t).el).lv.length (repK n (zerosK (cx.ty (cx.ty t).el).lv)) parts.toList fun cs => match cx.isEsc o.dst with
      | true => K (.g (.sl (some (ln H, 0)) n (cx.ty (cx.ty t).el).lv.length)) (pu H (.row true (cx.ty t).el cs))
      | false => K (.bs cs n (cx.ty (cx.ty t).el).lv.length) H
  | .load t a => ck (cx.okT t) <| loadK cx t (E a) B H fun v => K v H
  | .nilCheck x => match E x with
    | .lp s p => K (.lp s p) H
    | .g (.ptr a) => pS a fun l p => K (.g (.ptr (some (l, p)))) H
    | _ => False
  | .binOp op t x y _ => binK cx t op (E x) (E y) fun v => K v H
  | .unOp op _ x => unK op (E x) fun v => K v H
  | .convert s d x => convK cx s d (E x) H fun v H => K v H
  | .makeInterface t x => ck (cx.okT t) <| ck (!(cx.ty t).isIface) <| match E x with | .g v => K (.g (.iface t v)) H | _ => False
  | .makeFunc fn first caps => match fn, first.toList with
    | .func f, [] => capsK E caps.toList fun cs => K (.g (.fn f cs)) H
    | _, _ => False
  | .makeSlice t l c => match cx.isEsc o.dst with
    | true => mkslK cx t (E l) (E c) H fun v H => K v H
    | false => mkslB cx t (E l) (E c) fun v => K v H
  | .slice t x lo hi mx => match mx with
    | some m => slice3K cx t (E x) lo hi m E H fun v => K v H
    | none => sliceK cx t (E x) lo hi E H fun v => K v H
  | .fieldAddr t x f => match (cx.ty t).fs[f]? with
    | some (p, e) => ck (cx.ty t).agg <| ck (cx.okT e) <| ck (Nat.ble 1 (cx.ty e).lv.length) <| fldK (E x) p fun v => K v H
    | none => False
  | .field t x f => match (cx.ty t).fs[f]?, E x with
    | some (p, t'), .agg cs => ck (cx.ty t).agg <| ck (cx.okT t') <| cutK cs p (cx.ty t').lv.length (cx.ty t').agg fun v => K v H
    | _, _ => False
  | .indexAddr t x i => idxK cx t (E x) (E i) fun v => K v H
  | .index t x i => match E x, E i with
    | .g (.str s), .g (.int _ j) => ck ((cx.ty t).isA 3) <| chk (leI 0 j && ltI j (sz s)) (K (gi .u8 (byt s (tN j))) H)
    | _, _ => False
  | .extract x i => match E x with
    | .tup vs => match vs[i]? with | some (.s v) => K (.g v) H | some (.a cs) => K (.agg cs) H | none => False
    | _ => False
  | .typeAssert x _ a ok => match ok with
    | true => False
    | false => ck (cx.okT a) <| ck (!(cx.ty a).isIface) <| match E x with | .g v => dX a v fun w => (match (cx.ty a).lv with | [k] => dLeaf k w fun w => K (.g w) H | _ => False) | _ => False
  | .call c => match c.callee with
    | .value (.func f) => match cx.env.lookup f with
      | some sem => argsK cx E c.args.toList c.argTypes.toList H fun as H => cl sem as H fun r H => dRes cx o.type r fun r => K r H
      | none => False
    | .value f => match E f with
      | .g v => dF v fun f caps => argsK cx E c.args.toList c.argTypes.toList H fun as H => cl (cx.dyn f) (cpl as caps) H fun r H => dRes cx o.type r fun r => K r H
      | _ => False
    | .builtin b => match b, c.args.toList with
      | .len, [x] => match c.argTypes.toList with
        | [t] => lenK cx t (E x) fun v => K v H
        | _ => False
      | .clear, [x] => match c.argTypes.toList with
        | [t] => clrK cx t (E x) H fun v H => K v H
        | _ => False
      | .min, [x, y] => min2K false (E x) (E y) fun v => K v H
      | .max, [x, y] => min2K true (E x) (E y) fun v => K v H
      | .append, [x, y] => match c.argTypes.toList with
        | [t, t'] => ck (cx.isSl t) <| ck (cx.full (cx.ty t).el) <| ck ((cx.ty t').isA 1 || (cx.ty t').isA 3) <| appK cx (cx.ty t).el (E x) (E y) H fun v H => K v H
        | _ => False
      | _, _ => False
    | .invoke r n => match E r with
      | .g (.iface t w) => match mth (cx.ty t).ms n with
        | some (f, b) => match cx.env.lookup f with
          | some sem => argsK cx E c.args.toList c.argTypes.toList H fun as H' => recvK cx t b w B H fun x => cl sem (x :: as) H' fun r H => dRes cx o.type r fun r => K r H
          | none => False
        | none => False
      | _ => False
  | _ => False

/-- an operation: what stands in its temporary then, the frame, the heap -/
def opK (cx : Cx) (o : Oper) (fr : List FV) (H : Hp) (K : FV → List FV → Hp → Prop) : Prop :=
  match o.op with
  | .alloc t => ck (cx.okT t) <| mkK cx o fr H t (zerosK (cx.ty t).lv) K
  | .box t v => cellsK (ev fr v) fun cs => mkK cx o fr H t cs K
  | .store t a x => cellsK (ev fr x) fun ns => ck (cx.okT t) <| ck (Nat.beq ns.length (cx.ty t).lv.length) <| storeK (ev fr a) ns fr H fun fr H => K .bad fr H
  | _ => opE cx o (ev fr) (fun s => fr.getD s .bad) H fun v H => K v fr H

def wantK (ops : Array Oper) (fr : List FV) (g : Option (Nat × Bool)) (yes no : List FV → Prop) : Prop := match g with
  | none => yes fr
  | some (j, w) => match (ops[j]?).bind (·.dst) with
    | some d => match fr.getD d .bad with
      | .g (.bool b) => bite b (setK fr d (.g (.bool true)) (match w with | true => yes | false => no)) (setK fr d (.g (.bool false)) (match w with | true => no | false => yes))
      | .und => no fr
      | _ => False
    | none => False

/-- a value in its constructor -/
def frc {R : Type} (v : FV) (K : FV → R) : R := match v with
  | .g v => K (.g v) | .agg cs => K (.agg cs) | .tup vs => K (.tup vs) | .bx cs => K (.bx cs) | .lp s o => K (.lp s o) | .bs cs n z => K (.bs cs n z) | .bad => K .bad | .und => K .und

def putK {R : Type} (fr : List FV) (d : Option Nat) (v : FV) (K : List FV → R) : R := match d with
  | some d => frc v fun v => setK fr d v K
  | none => K fr

def opsK (cx : Cx) (ops : Array Oper) : List Oper → List FV → Hp → (List FV → Hp → Prop) → Prop
  | [], fr, H, K => K fr H
  | o :: os, fr, H, K => wantK ops fr o.guard
      (fun fr => opK cx o fr H fun v fr H => putK fr o.dst v fun fr => opsK cx ops os fr H K)
      (fun fr => putK fr o.dst .und fun fr => opsK cx ops os fr H K)

/-- all but some are forgotten -/
def keepK {R : Type} : List FV → Nat → List Nat → (List FV → R) → R
  | [], _, _, K => K []
  | x :: xs, i, l, K => match l.contains i with
    | true => keepK xs (i + 1) l fun ys => K (x :: ys)
    | false => keepK xs (i + 1) l fun ys => K (.bad :: ys)

/-- a condition, known from here on -/
def knowK {R : Type} (fr : List FV) (c : Operand) (b : Bool) (K : List FV → R) : R := match c with
  | .tmp d => setK fr d (.g (.bool b)) K
  | _ => K fr

def firstReg : Code → Nat
  | .region id _ _ => id
  | .seq a _ => firstReg a
  | .block _ b | .loop b | .scope b => firstReg b
  | .cond _ a _ => firstReg a
  | _ => 0

def popTo (id : Nat) : List Item → Option (List Item)
  | .inBlock id' :: k => if id' == id then some k else popTo id k
  | .inScope _ :: k | .code _ :: k | .inLoop _ :: k => popTo id k
  | _ => none

/-- the stack at the head of the loop that begins with region 'id' -/
def findIn (id : Nat) : Code → List Item → Option (List Item)
  | .seq a b, k => match findIn id a (.code b :: k) with | some r => some r | none => findIn id b k
  | .cond _ a b, k => match findIn id a k with | some r => some r | none => findIn id b k
  | .block i b, k => findIn id b (.inBlock i :: k)
  | .scope b, k => findIn id b (.inScope b :: k)
  | .loop b, k => if firstReg b = id then some (.inLoop b :: k) else findIn id b (.inLoop b :: k)
  | .region i os d, k => if i = id then some (.code (.region i os d) :: k) else none
  | _, _ => none

/-- the results, read -/
def resK (cx : Cx) (fr : List FV) : List ResultVar → (List RV → Prop) → Prop
  | [], K => K []
  | .tmp t :: rs, K => match atFr fr t with
    | .g v => resK cx fr rs fun vs => K (.s v :: vs)
    | .agg cs => resK cx fr rs fun vs => K (.a cs :: vs)
    | _ => False
  | .cell a t :: rs, K => match atFr fr a with
    | .lp s p => match fr.getD s .bad with
      | .bx cs => ck (cx.okT t) <| cutK cs p (cx.ty t).lv.length (cx.ty t).agg fun v => match v with
        | .g v => resK cx fr rs fun vs => K (.s v :: vs)
        | .agg cs => resK cx fr rs fun vs => K (.a cs :: vs)
        | _ => False
      | _ => False
    | _ => False
def finK (cx : Cx) (fr : List FV) (H : Hp) (Q : Post) : Prop := resK cx fr cx.res fun vs => match vs with
    | [.s v] => Q (.g v) H
    | [.a cs] => Q (.agg cs) H
    | vs => Q (.tup vs) H

/-! a region whose order is open: the operations ahead of its tail in an order in which those that turn the heap come as late as they can; behind each of these what was read, and may be read behind it, reads as it did -/
def has (m i : Nat) : Bool := m.testBit i
/-- which operations one waits for, as bits -/
def bitsOf (acc : List Nat) (es : List Edge) (s : Nat) : Nat := match es with
  | [] => s
  | e :: es => bitsOf acc es (match Region.binds .any e with | true => s ||| 2 ^ e.on ||| acc.getD e.on 0 | false => s)
def waitsGo (acc : List Nat) : List Oper → List Nat
  | [] => acc
  | o :: os => waitsGo (acc ++ [bitsOf acc o.after.toList 0]) os
def waits (ops : Array Oper) : List Nat := waitsGo [] ops.toList
/-- does it turn the heap? -/
def isEff (cx : Cx) (o : Oper) : Bool := match o.op with
  | .store .. => true
  | .alloc _ | .box _ _ | .buildSlice _ _ _ | .makeSlice _ _ _ => cx.isEsc o.dst
  | .convert _ d _ => Nat.beq (cx.ty d).k 1
  | .call c => match c.callee with
    | .builtin .len | .builtin .min | .builtin .max => false
    | _ => true
  | _ => false
def readsH (o : Oper) (E : Operand → FV) : Bool := match o.op with
  | .load _ a => match E a with | .g _ => true | _ => false
  | .convert _ _ x => match E x with | .g (.sl _ _ _) => true | _ => false
  | .slice _ x _ hi _ => match E x with | .g (.sl _ _ _) => (match hi with | some _ => true | none => false) | .g (.ptr _) => true | _ => false
  | _ => false
/-- into which box does it store? does one look into that box? -/
def stBox (o : Oper) (E : Operand → FV) : Option Nat := match o.op with | .store _ a _ => (match E a with | .lp s _ => some s | _ => none) | _ => none
def inBox (o : Oper) (E : Operand → FV) (s : Nat) : Bool := match o.op with | .load _ a => (match E a with | .lp s' _ => Nat.beq s' s | _ => false) | _ => false
/-- must it be read again behind that one? -/
def again (oi : Option Oper) (o : Oper) (E : Operand → FV) : Bool := match oi with
  | some oi => (match stBox oi E with | some s => inBox o E s | none => readsH o E)
  | none => readsH o E
/-- where the tail begins: each operation from there on waits for all ahead of it -/
def tailFrom (W : List Nat) : Nat → Nat
  | 0 => 0
  | j + 1 => match (List.range j).all fun i => has (W.getD j 0) i with | true => tailFrom W j | false => j + 1
def opAt (ops : Array Oper) (i : Nat) (d : Bool) (f : Oper → Bool) : Bool := match ops[i]? with | some o => f o | none => d
def firstOf (p : Nat → Bool) : List Nat → Option Nat
  | [] => none
  | i :: l => match p i with | true => some i | false => firstOf p l
def without (i : Nat) : List Nat → List Nat
  | [] => []
  | j :: l => match Nat.beq i j with | true => l | false => j :: without i l
def ordG (cx : Cx) (ops : Array Oper) (W : List Nat) : Nat → Nat → List Nat → List Nat
  | 0, _, _ => []
  | n + 1, done, rem => match firstOf (fun i => Nat.beq (W.getD i 0 &&& done) (W.getD i 0) && opAt ops i false fun o => !isEff cx o) rem with
    | some i => i :: ordG cx ops W n (done ||| 2 ^ i) (without i rem)
    | none => match firstOf (fun i => Nat.beq (W.getD i 0 &&& done) (W.getD i 0)) rem with
      | some i => i :: ordG cx ops W n (done ||| 2 ^ i) (without i rem)
      | none => []
def mem (i : Nat) : List Nat → Bool
  | [] => false
  | j :: l => match Nat.beq i j with | true => true | false => mem i l
def nodupB : List Nat → Bool
  | [] => true
  | i :: l => match mem i l with | true => false | false => nodupB l
/-- two that turn the heap and do not wait for each other: both orders are walked -/
def split (cx : Cx) (ops : Array Oper) (W : List Nat) (i j : Nat) : Bool := opAt ops i false (isEff cx) && opAt ops j false (isEff cx) && !has (W.getD i 0) j && !has (W.getD j 0) i
def twin (cx : Cx) (ops : Array Oper) (W : List Nat) (i : Nat) : List Nat → Bool
  | [] => false
  | j :: l => split cx ops W i j && (l.all fun k => has (W.getD k 0) i) && l.all fun k => has (W.getD k 0) j
/-- behind each that turns the heap stand those alone that wait for it (but its twin) -/
def effOK (cx : Cx) (ops : Array Oper) (W : List Nat) : List Nat → Bool
  | [] => true
  | i :: l => (match opAt ops i false (isEff cx) with | true => (l.all fun j => has (W.getD j 0) i) || twin cx ops W i l | false => true) && !has (W.getD i 0) i && l.all (fun j => !has (W.getD i 0) j) && effOK cx ops W l
def dstAt (ops : Array Oper) (i : Nat) : List Nat := match ops[i]? with | some o => (match o.dst with | some d => [d] | none => []) | none => []
def isAl (cx : Cx) (o : Oper) : Bool := match o.op with | .alloc _ | .box _ _ => !cx.isEsc o.dst | _ => false
def allocs (cx : Cx) (ops : Array Oper) : List Nat → List Nat
  | [] => []
  | i :: l => match opAt ops i false (isAl cx) with | true => dstAt ops i ++ allocs cx ops l | false => allocs cx ops l
def isStore (o : Oper) : Bool := match o.op with | .store .. => true | _ => false
def noDst (o : Oper) : Bool := match o.dst with | none => true | some _ => false
/-- what an operation looks at waits for those that write it; no local box of the region's is looked at (but that one stores into it) -/
def looksOK (ops : Array Oper) (W : List Nat) (m : Nat) (al : List Nat) (i : Nat) : Bool := opAt ops i false fun o =>
  (o.looksAt ops).all fun t => (isStore o || !mem t al) && (List.range m).all fun j => match mem t (dstAt ops j) with | true => has (W.getD i 0) j | false => true
def guardOK (W : List Nat) (i : Nat) (o : Oper) : Bool := match o.guard with | some (g, _) => has (W.getD i 0) g | none => true
def edgesOK (i : Nat) (o : Oper) : Bool := o.after.toList.all fun e => match Region.binds .any e with | true => Nat.blt e.on i | false => true
def drOKs (cx : Cx) (ops : Array Oper) (W : List Nat) (m : Nat) (σ al : List Nat) : Bool :=
  (List.range m).all (fun i => mem i σ) && σ.all (fun i => Nat.blt i m) && Nat.ble m ops.size && nodupB σ && effOK cx ops W σ && nodupB ((List.range m).flatMap (dstAt ops)) &&
  (List.range m).all (fun i => looksOK ops W m al i && opAt ops i false fun o => (!isStore o || noDst o) && guardOK W i o && match isAl cx o with | true => (dstAt ops i).all fun d => mem d al | false => true) &&
  (List.range ops.size).all (fun i => opAt ops i false (edgesOK i) && (Nat.blt i m || (List.range i).all fun j => has (W.getD i 0) j))
def notBx : FV → Bool | .bx _ => false | _ => true
def bxIn (al : List Nat) (d : Nat) : FV → Bool | .bx _ => mem d al | _ => true
def noLps (fr : List FV) : List Nat → Bool
  | [] => true
  | d :: al => match noLp d fr with | true => noLps fr al | false => false
def putG (al : List Nat) (dst : Option Nat) (v : FV) (fr : List FV) (K : List FV → Prop) : Prop := match dst with
  | none => K fr
  | some d => ck (notBx (fr.getD d .bad)) <| ck (bxIn al d v) <| frc v fun v => setK fr d v fun fr => ck (noLps fr al) (K fr)
def wantF (ops : Array Oper) (fr : List FV) (g : Option (Nat × Bool)) : Option Bool := match g with
  | none => some true
  | some (j, w) => match (ops[j]?).bind (·.dst) with
    | some d => match fr.getD d .bad with | .g (.bool b) => some (b == w) | .und => some false | _ => none
    | none => none
/-- the same value again -/
def eqv (v v' : FV) (x : Prop) : Prop := v = v' ∧ x
def dstV (fr : List FV) : Option Nat → FV
  | some d => fr.getD d .bad
  | none => .bad
def reK (cx : Cx) (ops : Array Oper) (W : List Nat) (i : Nat) (H : Hp) (fr : List FV) : List Nat → Prop → Prop
  | [], x => x
  | j :: js, x => match ops[j]? with
    | some o => match isEff cx o || has (W.getD i 0) j || !(again ops[i]? o (ev fr)) with
      | true => reK cx ops W i H fr js x
      | false => match wantF ops fr o.guard with
        | some true => opE cx o (ev fr) (fun s => fr.getD s .bad) H fun v' _ => frc v' fun v' => eqv (dstV fr o.dst) v' (reK cx ops W i H fr js x)
        | _ => reK cx ops W i H fr js x
    | none => reK cx ops W i H fr js x
def both (a b : Prop) : Prop := a ∧ b
def stp (cx : Cx) (ops : Array Oper) (W : List Nat) (al : List Nat) (i : Nat) (seen : List Nat) (fr : List FV) (H : Hp) (next : List FV → Hp → Prop) : Prop := match ops[i]? with
  | none => False
  | some o => wantK ops fr o.guard
      (fun fr => opK cx o fr H fun v fr H' => putG al o.dst v fr fun fr => reK cx ops W i H' fr (match isEff cx o with | true => seen | false => []) (next fr H'))
      (fun fr => putG al o.dst .und fr fun fr => next fr H)
def goK (cx : Cx) (ops : Array Oper) (W : List Nat) (al : List Nat) : List Nat → List Nat → List FV → Hp → (List FV → Hp → Prop) → Prop
  | [], _, fr, H, K => K fr H
  | [i], seen, fr, H, K => stp cx ops W al i seen fr H K
  | i :: j :: σ, seen, fr, H, K => match split cx ops W i j with
    | true => both (stp cx ops W al i seen fr H fun fr H => stp cx ops W al j (i :: seen) fr H fun fr H => goK cx ops W al σ (j :: i :: seen) fr H K)
        (stp cx ops W al j seen fr H fun fr H => stp cx ops W al i (j :: seen) fr H fun fr H => goK cx ops W al σ (i :: j :: seen) fr H K)
    | false => stp cx ops W al i seen fr H fun fr H => goK cx ops W al (j :: σ) (i :: seen) fr H K
def drGo (cx : Cx) (ops : Array Oper) (W : List Nat) (m : Nat) (σ al : List Nat) (fr : List FV) (H : Hp) (K : List FV → Hp → Prop) : Prop :=
  ck (drOKs cx ops W m σ al) <| ck (noLps fr al) <| goK cx ops W al σ [] fr H fun fr H => opsK cx ops (ops.toList.drop m) fr H K
/-- a region whose order is open -/
def drK (cx : Cx) (ops : Array Oper) (fr : List FV) (H : Hp) (K : List FV → Hp → Prop) : Prop :=
  drGo cx ops (waits ops) (tailFrom (waits ops) ops.size) (ordG cx ops (waits ops) ops.size 0 (List.range (tailFrom (waits ops) ops.size)))
    (allocs cx ops (List.range (tailFrom (waits ops) ops.size))) fr H K

def regK (cx : Cx) (dr : Array Oper → List FV → Hp → (List FV → Hp → Prop) → Prop) (ops : Array Oper) (d : Bool) (fr : List FV) (H : Hp) (K : List FV → Hp → Prop) : Prop := match d with
  | false => opsK cx ops ops.toList fr H K
  | true => dr ops fr H K

def step (cx : Cx) (Q : Post) (dr : Array Oper → List FV → Hp → (List FV → Hp → Prop) → Prop) (rec : List Item → List FV → Hp → Prop) (go : List Item → List FV → Hp → Prop) (k : List Item) (fr : List FV) (H : Hp) : Prop :=
  match k with
  | [] | .code .ret :: _ => finK cx fr H Q
  | .code .skip :: k | .code (.label _) :: k | .inBlock _ :: k | .inScope _ :: k => go k fr H
  | .code (.seq a b) :: k => go (.code a :: .code b :: k) fr H
  | .code (.cond c a b) :: k => match ev fr c with
    | .g (.bool t) => bite t (knowK fr c true fun fr => go (.code a :: k) fr H) (knowK fr c false fun fr => go (.code b :: k) fr H)
    | _ => False
  | .code (.block id b) :: k => go (.code b :: .inBlock id :: k) fr H
  | .code (.loop b) :: k | .inLoop b :: k => keepK fr 0 ((cx.keep.lookup (firstReg b)).getD []) fun fr => rec (.inLoop b :: k) fr H
  | .code (.scope b) :: k => go (.code b :: .inScope b :: k) fr H
  | .code (.exit id) :: k => match popTo id k with | some k => go k fr H | none => False
  | .code (.region i ops d) :: k => match cx.cut.lookup i with
    | some l => keepK fr 0 l fun fr => rec (.code (.region i ops d) :: k) fr H
    | none => regK cx dr ops d fr H fun fr H => go k fr H
  | _ => False

def gas : Nat := 100000
def walk (cx : Cx) (Q : Post) (rec : List Item → List FV → Hp → Prop) : Nat → List Item → List FV → Hp → Prop :=
  fun g => Nat.rec (motive := fun _ => List Item → List FV → Hp → Prop) (fun _ _ _ => False) (fun _ ih => step cx Q (drK cx) rec ih) g

def runF (cx : Cx) (Q : Post) (ih : List Item → List FV → Hp → Prop) (k : List Item) (fr : List FV) (H : Hp) : Prop := match k with
  | .inLoop b :: k => walk cx Q ih gas (.code b :: .inLoop b :: k) fr H
  | .code (.region _ ops d) :: k => regK cx (drK cx) ops d fr H fun fr H => walk cx Q ih gas k fr H
  | k => walk cx Q ih gas k fr H
def runK (cx : Cx) (Q : Post) : Nat → List Item → List FV → Hp → Prop :=
  fun n => Nat.rec (motive := fun _ => List Item → List FV → Hp → Prop) (fun _ _ _ => False) (fun _ ih k fr H => runF cx Q ih k fr H) n

def callK (cx : Cx) (f : Func) (n : Nat) (as : List FV) (H : Hp) (Q : Post) : Prop :=
  match f.body with
  | some c => runK cx Q n [.code c] (as ++ List.replicate (f.ntmps - as.length) .bad) H
  | none => False

/-- the function from the head of a loop on -/
def loopK (cx : Cx) (f : Func) (id : Nat) (n : Nat) (fr : List FV) (H : Hp) (Q : Post) : Prop :=
  match f.body with
  | some c => match findIn id c [] with | some k => runK cx Q n k fr H | none => False
  | none => False
/-- so many temporaries that hold nothing -/
def dynOf (l : List (Nat × Sm)) : Nat → Sm := fun f => match l.lookup f with | some s => s | none => fun _ _ _ => False
def noDyn : Nat → Sm := fun _ _ _ _ => False
def B (n : Nat) (l : List FV) : List FV := List.replicate n .bad ++ l

end Go.Am
namespace Go.Am

/-- where a row lies: block, first cell, may it be written, cells told, cells of the block -/
structure LI where
  b : Nat
  p : Nat
  own : Bool
  u : Nat
  s : Nat

def capIs (φ : List LI) (p : Nat × Nat) (x : Value) : Prop := ∃ i, φ[p.1]? = some i ∧ x = .pointer (some ⟨i.b, i.p + p.2, none⟩)

inductive All2 {α β : Type} (R : α → β → Prop) : List α → List β → Prop
  | nil : All2 R [] []
  | cons {a b as bs} : R a b → All2 R as bs → All2 R (a :: as) (b :: bs)

def GV.is (φ : List LI) : GV → Value → Prop
  | .bool b, x => x = .bool b
  | .int k n, x => x = .int k n
  | .str s, x => x = .string s
  | .ptr none, x => x = .pointer none
  | .ptr (some p), x => capIs φ p x
  | .sl none n _, x => n = 0 ∧ x = .slice none 0 0
  | .sl (some (l, o)) n z, x => ∃ i ad c, φ[l]? = some i ∧ x = .slice (some ad) n c ∧ (ad = ⟨i.b, i.p + o, none⟩ ∨ c = 0) ∧ n ≤ c ∧ i.u ≤ o + c * z ∧ (i.own = true → i.p = 0 ∧ o + c * z ≤ i.s ∧ c ≤ 9223372036854775807)
  | .map none, x => x = .map none
  | .map (some l), x => ∃ i, φ[l]? = some i ∧ x = .map (some i.b)
  | .fn f caps, x => ∃ xs : List Value, x = .func (.func f) #[] xs.toArray ∧ All2 (capIs φ) caps xs
  | .nilfn, x => x = .nilFunc
  | .iface t v, x => ∃ y, x = .iface t y ∧ v.is φ y
  | .nilif, x => x = .nilIface

abbrev Is2 (φ : List LI) := All2 (GV.is φ)

def RV.is (φ : List LI) : RV → Value → Prop
  | .s v, x => v.is φ x
  | .a cs, x => ∃ us : Array Value, x = .agg us ∧ Is2 φ cs us.toList

def FV.is (φ : List LI) : FV → Value → Prop
  | .g v, x => v.is φ x
  | .agg cs, x => ∃ us : Array Value, x = .agg us ∧ Is2 φ cs us.toList
  | .tup vs, x => ∃ us : Array Value, x = .tuple us ∧ All2 (RV.is φ) vs us.toList
  | _, _ => False

section All2
variable {α β : Type} {R S : α → β → Prop}
theorem All2.length {as : List α} {bs : List β} (h : All2 R as bs) : as.length = bs.length := by
  induction h with
  | nil => rfl
  | cons _ _ ih => simp [ih]
theorem All2.imp (hRS : ∀ a b, R a b → S a b) {as : List α} {bs : List β} (h : All2 R as bs) : All2 S as bs := by
  induction h with
  | nil => exact .nil
  | cons h _ ih => exact .cons (hRS _ _ h) ih
theorem All2.get {as : List α} {bs : List β} (h : All2 R as bs) : ∀ {j : Nat} {a : α}, as[j]? = some a → ∃ b, bs[j]? = some b ∧ R a b := by
  induction h with
  | nil => intro j a h; simp at h
  | cons h _ ih =>
    intro j a hj
    cases j with
    | zero => simp at hj; subst hj; exact ⟨_, by simp, h⟩
    | succ j => simp at hj ⊢; exact ih hj
theorem All2.append {as as' : List α} {bs bs' : List β} (h : All2 R as bs) (h' : All2 R as' bs') : All2 R (as ++ as') (bs ++ bs') := by
  induction h with
  | nil => exact h'
  | cons h _ ih => exact .cons h ih
theorem All2.take {as : List α} {bs : List β} (h : All2 R as bs) : ∀ n, All2 R (as.take n) (bs.take n) := by
  induction h with
  | nil => intro n; simp; exact .nil
  | cons h _ ih => intro n; cases n with
    | zero => exact .nil
    | succ n => exact .cons h (ih n)
theorem All2.drop {as : List α} {bs : List β} (h : All2 R as bs) : ∀ n, All2 R (as.drop n) (bs.drop n) := by
  induction h with
  | nil => intro n; simp; exact .nil
  | cons h h' ih => intro n; cases n with
    | zero => exact .cons h h'
    | succ n => exact ih n
theorem All2.set {as : List α} {bs : List β} (h : All2 R as bs) {a : α} {b : β} (hab : R a b) : ∀ n, All2 R (as.set n a) (bs.set n b) := by
  induction h with
  | nil => intro n; simp; exact .nil
  | cons h h' ih => intro n; cases n with
    | zero => exact .cons hab h'
    | succ n => exact .cons h (ih n)
theorem All2.replicate {a : α} {b : β} (h : R a b) : ∀ n, All2 R (List.replicate n a) (List.replicate n b)
  | 0 => .nil
  | n + 1 => .cons h (All2.replicate h n)
theorem All2.cons_inv {a : α} {as : List α} {bs : List β} (h : All2 R (a :: as) bs) : ∃ b bs', bs = b :: bs' ∧ R a b ∧ All2 R as bs' := by
  cases h with
  | cons h h' => exact ⟨_, _, rfl, h, h'⟩
theorem All2.nil_inv {bs : List β} (h : All2 R [] bs) : bs = [] := by cases h; rfl
theorem All2.of_get {as : List α} : ∀ {bs : List β}, as.length = bs.length → (∀ (j : Nat) (a : α) (b : β), as[j]? = some a → bs[j]? = some b → R a b) → All2 R as bs := by
  induction as with
  | nil => intro bs h _; cases bs with
    | nil => exact .nil
    | cons => simp at h
  | cons a as ih => intro bs h hh; cases bs with
    | nil => simp at h
    | cons b bs => exact .cons (hh 0 a b (by simp) (by simp)) (ih (by simpa using h) (fun j a b h1 h2 => hh (j + 1) a b (by simpa using h1) (by simpa using h2)))
end All2

theorem pre_get {φ φ' : List LI} (h : φ <+: φ') {l : Nat} {i : LI} (hl : φ[l]? = some i) : φ'[l]? = some i := by
  obtain ⟨r, rfl⟩ := h
  rw [List.getElem?_append_left (by
    rcases Nat.lt_or_ge l φ.length with h | h
    · exact h
    · simp [List.getElem?_eq_none h] at hl)]
  exact hl
theorem capIs.mono {φ φ' : List LI} (h : φ <+: φ') {p : Nat × Nat} {x : Value} : capIs φ p x → capIs φ' p x
  | ⟨i, hi, hx⟩ => ⟨i, pre_get h hi, hx⟩
theorem GV.is.mono {φ φ' : List LI} (h : φ <+: φ') : ∀ {v : GV} {x : Value}, v.is φ x → v.is φ' x
  | .bool _, _, hv | .int _ _, _, hv | .str _, _, hv | .ptr none, _, hv | .sl none _ _, _, hv | .nilfn, _, hv | .nilif, _, hv | .map none, _, hv => hv
  | .ptr (some _), _, hv => capIs.mono h hv
  | .sl (some (_, _)) _ _, _, ⟨i, q, c, hi, r⟩ => ⟨i, q, c, pre_get h hi, r⟩
  | .map (some _), _, ⟨i, hi, hx⟩ => ⟨i, pre_get h hi, hx⟩
  | .fn _ _, _, ⟨xs, hx, hc⟩ => ⟨xs, hx, hc.imp fun _ _ => capIs.mono h⟩
  | .iface _ _, _, ⟨y, hx, hy⟩ => ⟨y, hx, GV.is.mono h hy⟩
theorem Is2.mono {φ φ' : List LI} (h : φ <+: φ') {cs : List GV} {xs : List Value} (hh : Is2 φ cs xs) : Is2 φ' cs xs := hh.imp fun _ _ => GV.is.mono h
theorem RV.is.mono {φ φ' : List LI} (h : φ <+: φ') {v : RV} {x : Value} (hv : v.is φ x) : v.is φ' x := by
  cases v with
  | s v => exact GV.is.mono h hv
  | a cs => obtain ⟨us, hx, hc⟩ := hv; exact ⟨us, hx, Is2.mono h hc⟩

/-! ## the heap -/
def RowOK (φ : List LI) (w : World) (own : Bool) (t : TypeId) (cs : List GV) (i : LI) : Prop :=
  i.own = own ∧ i.u = cs.length ∧ i.b < w.heap.size ∧
  match own with
  | true => i.p = 0 ∧ ∃ c t' fz, w.heap[i.b]? = some (.cells c t' fz) ∧ (0 < i.s → t' = t) ∧ c.size = i.s ∧ (∀ j, fz.1 ≤ j → j < fz.2 → i.s ≤ j ∧ (byteT t' = false → i.s < j)) ∧ cs.length ≤ c.size ∧ Is2 φ cs (c.toList.take cs.length)
  | false => (∀ j v, cs[j]? = some v → ∃ x, w.cell? ⟨i.b, i.p + j, none⟩ = some x ∧ v.is φ x) ∧ (t = lentT → i.p = 0 ∧ ∃ c e, w.heap[i.b]? = some (.cells c e (0, 0)))

/-- an entry of a map, as it stands in the world -/
def EntOK (φ : List LI) (e : Ent) (x : MapEntry) : Prop := x.born = e.1 ∧ RV.is φ e.2.1 x.key ∧ RV.is φ e.2.2 x.val
def MapOK (φ : List LI) (w : World) (es : List Ent) (clock : Nat) (i : LI) : Prop :=
  i.b < w.heap.size ∧ ∃ xs : Array MapEntry, w.heap[i.b]? = some (.map xs clock) ∧ All2 (EntOK φ) es xs.toList
def IterOK (φ : List LI) (w : World) (m : Option Nat) (since : Nat) (seen : List Nat) (last : Nat) (i : LI) : Prop :=
  i.b < w.heap.size ∧ i.p = 0 ∧ match m with
  | none => w.heap[i.b]? = some (.mapIter none since seen.toArray last)
  | some l => ∃ j, φ[l]? = some j ∧ w.heap[i.b]? = some (.mapIter (some j.b) since seen.toArray last)
def ObjOK (φ : List LI) (w : World) (i : LI) : Obj → Prop
  | .row own t cs => RowOK φ w own t cs i
  | .map es clock => MapOK φ w es clock i
  | .iter m since seen last => IterOK φ w m since seen last i
  | .dead => True
/-- is there something? -/
def Obj.live : Obj → Bool
  | .dead => false
  | _ => true
/-- may it be written? -/
def Obj.mut (i : LI) : Obj → Prop
  | .row own _ _ => own = true ∧ 0 < i.s
  | .dead => False
  | _ => True
theorem Obj.mut.live {i : LI} {o : Obj} (h : o.mut i) : o.live = true := by cases o <;> first | rfl | exact h.elim
structure RepH (φ : List LI) (H : Hp) (w : World) : Prop where
  len : φ.length = H.length
  obj : ∀ (l : Nat) (o : Obj), H[l]? = some o → o.live = true → ∃ i, φ[l]? = some i ∧ ObjOK φ w i o
  apart : ∀ (l l' : Nat) (o o' : Obj) (i i' : LI), H[l]? = some o → H[l']? = some o' → o'.live = true → l ≠ l' → φ[l]? = some i → φ[l']? = some i' → o.mut i → i.b ≠ i'.b
theorem RepH.row {φ : List LI} {H : Hp} {w : World} (h : RepH φ H w) (l : Nat) (own : Bool) (t : TypeId) (cs : List GV) (hl : H[l]? = some (Obj.row own t cs)) : ∃ i, φ[l]? = some i ∧ RowOK φ w own t cs i := h.obj l _ hl rfl
theorem RepH.rows {φ : List LI} {H : Hp} {w : World} (h : RepH φ H w) (l l' : Nat) (t : TypeId) (cs : List GV) (own' : Bool) (t' : TypeId) (cs' : List GV) (i i' : LI) (h1 : H[l]? = some (Obj.row true t cs)) (h2 : H[l']? = some (Obj.row own' t' cs')) (h3 : l ≠ l') (h4 : φ[l]? = some i) (h5 : φ[l']? = some i') (h6 : 0 < i.s) : i.b ≠ i'.b :=
  h.apart l l' _ _ i i' h1 h2 rfl h3 h4 h5 ⟨rfl, h6⟩

/-- blocks that may be written; blocks that something lies in -/
def ownB (φ : List LI) (H : Hp) (b : Nat) : Prop := ∃ (l : Nat) (o : Obj) (i : LI), H[l]? = some o ∧ φ[l]? = some i ∧ i.b = b ∧ o.mut i
def rowB (φ : List LI) (H : Hp) (b : Nat) : Prop := ∃ (l : Nat) (o : Obj) (i : LI), H[l]? = some o ∧ o.live = true ∧ φ[l]? = some i ∧ i.b = b
theorem ownB.row {φ : List LI} {H : Hp} {b : Nat} : ownB φ H b → rowB φ H b | ⟨l, o, i, h1, h2, h3, h4⟩ => ⟨l, o, i, h1, h4.live, h2, h3⟩
theorem ownB.of {φ : List LI} {H : Hp} {l : Nat} {t : TypeId} {cs : List GV} {i : LI} (h1 : H[l]? = some (Obj.row true t cs)) (h2 : φ[l]? = some i) (h3 : 0 < i.s) : ownB φ H i.b := ⟨l, _, i, h1, h2, rfl, rfl, h3⟩
theorem rowB.of {φ : List LI} {H : Hp} {l : Nat} {own : Bool} {t : TypeId} {cs : List GV} {i : LI} (h1 : H[l]? = some (Obj.row own t cs)) (h2 : φ[l]? = some i) : rowB φ H i.b := ⟨l, _, i, h1, rfl, h2, rfl⟩

structure Keeps (own : Nat → Prop) (w w' : World) : Prop where
  os : w'.os = w.os
  tape : w'.tape = w.tape
  output : w'.output = w.output
  size : w.heap.size ≤ w'.heap.size
  block : ∀ b, b < w.heap.size → ¬ own b → w'.heap[b]? = w.heap[b]?

theorem Keeps.refl (own : Nat → Prop) (w : World) : Keeps own w w := ⟨rfl, rfl, rfl, Nat.le_refl _, fun _ _ _ => rfl⟩
theorem Keeps.trans {own own' : Nat → Prop} {w w' w'' : World} (h : Keeps own w w') (h' : Keeps own' w' w'') (ho : ∀ b, own' b → own b ∨ w.heap.size ≤ b) : Keeps own w w'' :=
  ⟨h'.os.trans h.os, h'.tape.trans h.tape, h'.output.trans h.output, Nat.le_trans h.size h'.size, fun b hb hn => by
    refine (h'.block b (Nat.lt_of_lt_of_le hb h.size) fun hb' => ?_).trans (h.block b hb hn)
    rcases ho b hb' with h1 | h1
    · exact hn h1
    · omega⟩

/-- what a call may answer with -/
structure Back (φ : List LI) (H : Hp) (w : World) (φ' : List LI) (H' : Hp) (w' : World) : Prop where
  pre : φ <+: φ'
  rep : RepH φ' H' w'
  keeps : Keeps (ownB φ H) w w'
  own : ∀ b, ownB φ' H' b → ownB φ H b ∨ w.heap.size ≤ b
  row : ∀ b, rowB φ' H' b → rowB φ H b ∨ w.heap.size ≤ b

theorem Back.refl {φ : List LI} {H : Hp} {w : World} (h : RepH φ H w) : Back φ H w φ H w := ⟨List.prefix_refl _, h, Keeps.refl _ _, fun _ h => .inl h, fun _ h => .inl h⟩
theorem Back.trans {φ φ' φ'' : List LI} {H H' H'' : Hp} {w w' w'' : World} (h : Back φ H w φ' H' w') (h' : Back φ' H' w' φ'' H'' w'') : Back φ H w φ'' H'' w'' where
  pre := h.pre.trans h'.pre
  rep := h'.rep
  keeps := h.keeps.trans h'.keeps h.own
  own b hb := by
    rcases h'.own b hb with h1 | h1
    · exact h.own b h1
    · exact .inr (Nat.le_trans h.keeps.size h1)
  row b hb := by
    rcases h'.row b hb with h1 | h1
    · exact h.row b h1
    · exact .inr (Nat.le_trans h.keeps.size h1)

/-- A FUNCTION IS AS IT IS TOLD -/
def Sound (P : Program) (f : FuncId) (s : Sm) : Prop :=
  ∀ as H Q, s as H Q → ∀ φ w vs, RepH φ H w → All2 (FV.is φ) as vs →
    Calls P f vs.toArray w fun e w' => ∃ r H' φ' x, Q r H' ∧ e = .returned x ∧ r.is φ' x ∧ Back φ H w φ' H' w'

end Go.Am
namespace Go.Am
variable {φ : List LI} {H : Hp} {w : World}

theorem cell_of {w : World} {b j : Nat} {c : Array Value} {t : TypeId} {fz : Nat × Nat} (h : w.heap[b]? = some (.cells c t fz)) : w.cell? ⟨b, j, none⟩ = c[j]? := cell_of_row w b j c t fz h

theorem RepH.lt (h : RepH φ H w) {l : Nat} {own : Bool} {t : TypeId} {cs : List GV} (hl : H[l]? = some (.row own t cs)) : l < φ.length := by
  rw [h.len]
  rcases Nat.lt_or_ge l H.length with h1 | h1
  · exact h1
  · simp [List.getElem?_eq_none h1] at hl

/-- a read cell -/
theorem RepH.get (h : RepH φ H w) {l o : Nat} {v : GV} (hv : gt H l o = some v) : ∃ i x, φ[l]? = some i ∧ w.cell? ⟨i.b, i.p + o, none⟩ = some x ∧ v.is φ x := by
  unfold gt at hv
  split at hv
  · rename_i own t cs hl
    obtain ⟨i, hi, h1, h2, h3, h4⟩ := h.row l own t cs hl
    cases own with
    | false => obtain ⟨x, hx, hvx⟩ := h4.1 o v hv; exact ⟨i, x, hi, hx, hvx⟩
    | true =>
      obtain ⟨hp, c, t', fz, hb, _, hs, hf, hle, his⟩ := h4
      obtain ⟨x, hx, hvx⟩ := his.get hv
      refine ⟨i, x, hi, ?_, hvx⟩
      rw [hp, Nat.zero_add, cell_of hb]
      rw [List.getElem?_take] at hx
      split at hx
      · simpa using hx
      · simp at hx
  · simp at hv

/-- cells one behind the other -/
theorem RepH.cells (h : RepH φ H w) {l o n : Nat} {cs : List GV} (hv : cells? H (some (l, o)) n = some cs) :
    ∃ i, φ[l]? = some i ∧ cs.length = n ∧ ∃ xs : List Value, Is2 φ cs xs ∧ ∀ j x, xs[j]? = some x → w.cell? ⟨i.b, i.p + o + j, none⟩ = some x := by
  unfold cells? at hv
  simp only at hv
  split at hv
  · rename_i own t ds hl
    split at hv
    · rename_i hle
      simp only [Option.some.injEq] at hv
      have hlen : cs.length = n := by rw [← hv]; simp; omega
      obtain ⟨i, hi, _⟩ := h.row l own t ds hl
      refine ⟨i, hi, hlen, ?_⟩
      have key : ∀ j v, cs[j]? = some v → ∃ x, w.cell? ⟨i.b, i.p + o + j, none⟩ = some x ∧ v.is φ x := by
        intro j v hj
        have : gt H l (o + j) = some v := by
          unfold gt; rw [hl]; simp only
          rw [← hv, List.getElem?_take] at hj
          split at hj
          · simpa using hj
          · simp at hj
        obtain ⟨i', x, hi', hx, hvx⟩ := h.get this
        rw [hi] at hi'; cases hi'
        exact ⟨x, by rw [Nat.add_assoc]; exact hx, hvx⟩
      clear hv hlen
      have : ∀ (cs : List GV) (d : Nat), (∀ j v, cs[j]? = some v → ∃ x, w.cell? ⟨i.b, i.p + o + (d + j), none⟩ = some x ∧ v.is φ x) →
          ∃ xs : List Value, Is2 φ cs xs ∧ ∀ j x, xs[j]? = some x → w.cell? ⟨i.b, i.p + o + (d + j), none⟩ = some x := by
        intro cs
        induction cs with
        | nil => intro d _; exact ⟨[], .nil, by simp⟩
        | cons c cs ih =>
          intro d hd
          obtain ⟨x, hx, hcx⟩ := hd 0 c (by simp)
          obtain ⟨xs, h1, h2⟩ := ih (d + 1) (fun j v hj => by have := hd (j + 1) v (by simpa using hj); rwa [show d + 1 + j = d + (j + 1) by omega])
          refine ⟨x :: xs, .cons hcx h1, ?_⟩
          intro j y hy
          cases j with
          | zero => simp at hy; subst hy; exact hx
          | succ j => have := h2 j y (by simpa using hy); rwa [show d + (j + 1) = d + 1 + j by omega]
      obtain ⟨xs, h1, h2⟩ := this cs 0 (by simpa using key)
      exact ⟨xs, h1, by simpa using h2⟩
    · simp at hv
  · simp at hv

/-- the same rows in a world in which their blocks are as they were -/
theorem RowOK.keep {w' : World} {own : Bool} {t : TypeId} {cs : List GV} {i : LI} (h : RowOK φ w own t cs i) (hb : w'.heap[i.b]? = w.heap[i.b]?) (hs : w.heap.size ≤ w'.heap.size) : RowOK φ w' own t cs i := by
  obtain ⟨h1, h2, h3, h4⟩ := h
  refine ⟨h1, h2, by omega, ?_⟩
  cases own with
  | true =>
    obtain ⟨hp, c, t', fz, hc, r⟩ := h4
    exact ⟨hp, c, t', fz, by rw [hb]; exact hc, r⟩
  | false =>
    refine ⟨fun j v hj => ?_, fun q => ⟨(h4.2 q).1, by rw [hb]; exact (h4.2 q).2⟩⟩
    obtain ⟨x, hx, hv⟩ := h4.1 j v hj
    exact ⟨x, by rw [World.cell?_of_block (w := w) (w' := w') hb]; exact hx, hv⟩
theorem RowOK.mono {φ' : List LI} (hp : φ <+: φ') {own : Bool} {t : TypeId} {cs : List GV} {i : LI} (h : RowOK φ w own t cs i) : RowOK φ' w own t cs i := by
  obtain ⟨h1, h2, h3, h4⟩ := h
  refine ⟨h1, h2, h3, ?_⟩
  cases own with
  | true =>
    obtain ⟨hp', c, t', fz, hc, ht', hs, hf, hle, his⟩ := h4
    exact ⟨hp', c, t', fz, hc, ht', hs, hf, hle, Is2.mono hp his⟩
  | false =>
    refine ⟨fun j v hj => ?_, h4.2⟩
    obtain ⟨x, hx, hv⟩ := h4.1 j v hj
    exact ⟨x, hx, GV.is.mono hp hv⟩

theorem EntOK.mono {φ' : List LI} (hp : φ <+: φ') {e : Ent} {x : MapEntry} (h : EntOK φ e x) : EntOK φ' e x := ⟨h.1, RV.is.mono hp h.2.1, RV.is.mono hp h.2.2⟩
theorem ObjOK.keep {w' : World} {o : Obj} {i : LI} (h : ObjOK φ w i o) (hb : w'.heap[i.b]? = w.heap[i.b]?) (hs : w.heap.size ≤ w'.heap.size) : ObjOK φ w' i o := by
  cases o with
  | row own t cs => exact RowOK.keep h hb hs
  | map es clock => obtain ⟨h1, xs, h2, h3⟩ := h; exact ⟨by omega, xs, by rw [hb]; exact h2, h3⟩
  | iter m since seen last =>
    obtain ⟨h1, h2, h3⟩ := h
    refine ⟨by omega, h2, ?_⟩
    cases m with
    | none => rw [← h3, hb]
    | some l => obtain ⟨j, q1, q2⟩ := h3; exact ⟨j, q1, by rw [hb]; exact q2⟩
  | dead => trivial
theorem ObjOK.mono {φ' : List LI} (hp : φ <+: φ') {o : Obj} {i : LI} (h : ObjOK φ w i o) : ObjOK φ' w i o := by
  cases o with
  | row own t cs => exact RowOK.mono hp h
  | map es clock => obtain ⟨h1, xs, h2, h3⟩ := h; exact ⟨h1, xs, h2, h3.imp fun _ _ => EntOK.mono hp⟩
  | iter m since seen last =>
    obtain ⟨h1, h2, h3⟩ := h
    refine ⟨h1, h2, ?_⟩
    cases m with
    | none => exact h3
    | some l => obtain ⟨j, q1, q2⟩ := h3; exact ⟨j, pre_get hp q1, q2⟩
  | dead => trivial
theorem ObjOK.lt {o : Obj} {i : LI} (h : ObjOK φ w i o) (hl : o.live = true) : i.b < w.heap.size := by
  cases o with
  | row own t cs => exact h.2.2.1
  | map es clock => exact h.1
  | iter m since seen last => exact h.1
  | dead => cases hl
theorem RepH.blockLt (h : RepH φ H w) {b : Nat} (hb : rowB φ H b) : b < w.heap.size := by
  obtain ⟨l, o, i, hl, ho, hi, rfl⟩ := hb
  obtain ⟨i', hi', hk⟩ := h.obj l o hl ho
  rw [hi] at hi'; cases hi'; exact hk.lt ho

theorem get_snoc {α : Type} {xs : List α} {x y : α} {l : Nat} (h : (xs ++ [x])[l]? = some y) : (l < xs.length ∧ xs[l]? = some y) ∨ (l = xs.length ∧ x = y) := by
  rcases Nat.lt_trichotomy l xs.length with h1 | h1 | h1
  · rw [List.getElem?_append_left h1] at h; exact .inl ⟨h1, h⟩
  · subst h1; simp at h; exact .inr ⟨rfl, h⟩
  · rw [List.getElem?_append_right (by omega)] at h
    have : l - xs.length = (l - xs.length - 1) + 1 := by omega
    rw [this] at h; simp at h

/-- one thing more -/
theorem RepH.snocO (h : RepH φ H w) {w' : World} (hs : w.heap.size ≤ w'.heap.size) (hkb : ∀ b, rowB φ H b → w'.heap[b]? = w.heap[b]?) {o : Obj} {i : LI} (hi : ObjOK (φ ++ [i]) w' i o)
    (ha : o.mut i → ¬ rowB φ H i.b) (ha' : ¬ ownB φ H i.b) :
    RepH (φ ++ [i]) (H ++ [o]) w' ∧ (∀ b, ownB (φ ++ [i]) (H ++ [o]) b → ownB φ H b ∨ (o.mut i ∧ b = i.b)) ∧ (∀ b, rowB (φ ++ [i]) (H ++ [o]) b → rowB φ H b ∨ b = i.b) := by
  have hpre : φ <+: φ ++ [i] := List.prefix_append _ _
  have hφ : ∀ {l : Nat} {j : LI}, (φ ++ [i])[l]? = some j → (l < φ.length ∧ φ[l]? = some j) ∨ (l = φ.length ∧ i = j) := fun h => get_snoc h
  have hlen := h.len
  refine ⟨⟨by simp [hlen], ?_, ?_⟩, ?_, ?_⟩
  · intro l o' hl ho
    rcases get_snoc hl with ⟨h1, h2⟩ | ⟨rfl, h2⟩
    · obtain ⟨i', hi', hr⟩ := h.obj l o' h2 ho
      refine ⟨i', pre_get hpre hi', (hr.keep (hkb _ ⟨l, o', i', h2, ho, hi', rfl⟩) hs).mono hpre⟩
    · cases h2
      exact ⟨i, by rw [← hlen]; simp, hi⟩
  · intro l l' o1 o2 i1 i2 hl hl' hv hne hi1 hi2 hpos
    rcases get_snoc hl with ⟨h1, h2⟩ | ⟨e1, h2⟩ <;> rcases get_snoc hl' with ⟨h1', h2'⟩ | ⟨e1', h2'⟩
    · have a1 : φ[l]? = some i1 := by rcases hφ hi1 with ⟨_, q⟩ | ⟨q, _⟩; exact q; omega
      have a2 : φ[l']? = some i2 := by rcases hφ hi2 with ⟨_, q⟩ | ⟨q, _⟩; exact q; omega
      exact h.apart l l' o1 o2 i1 i2 h2 h2' hv hne a1 a2 hpos
    · have a1 : φ[l]? = some i1 := by rcases hφ hi1 with ⟨_, q⟩ | ⟨q, _⟩; exact q; omega
      have a2 : i = i2 := by rcases hφ hi2 with ⟨q, _⟩ | ⟨_, q⟩; omega; exact q
      subst a2
      intro e
      exact ha' ⟨l, o1, i1, h2, a1, e, hpos⟩
    · have a1 : i = i1 := by rcases hφ hi1 with ⟨q, _⟩ | ⟨_, q⟩; omega; exact q
      have a2 : φ[l']? = some i2 := by rcases hφ hi2 with ⟨_, q⟩ | ⟨q, _⟩; exact q; omega
      subst a1
      cases h2
      intro e
      exact ha hpos ⟨l', o2, i2, h2', hv, a2, e.symm⟩
    · omega
  · intro b ⟨l, o1, j, hl, hj, hb, hpos⟩
    rcases get_snoc hl with ⟨h1, h2⟩ | ⟨e1, h2⟩
    · rcases hφ hj with ⟨_, q⟩ | ⟨q, _⟩
      · exact .inl ⟨l, o1, j, h2, q, hb, hpos⟩
      · omega
    · cases h2
      rcases hφ hj with ⟨q, _⟩ | ⟨_, q⟩
      · omega
      · subst q; exact .inr ⟨hpos, hb.symm⟩
  · intro b ⟨l, o1, j, hl, hv, hj, hb⟩
    rcases get_snoc hl with ⟨h1, h2⟩ | ⟨e1, h2⟩
    · rcases hφ hj with ⟨_, q⟩ | ⟨q, _⟩
      · exact .inl ⟨l, o1, j, h2, hv, q, hb⟩
      · omega
    · cases h2
      rcases hφ hj with ⟨q, _⟩ | ⟨_, q⟩
      · omega
      · subst q; exact .inr hb.symm

/-- one more row -/
theorem RepH.snoc (h : RepH φ H w) {w' : World} (hs : w.heap.size ≤ w'.heap.size) (hkb : ∀ b, rowB φ H b → w'.heap[b]? = w.heap[b]?) {own : Bool} {t : TypeId} {cs : List GV} {i : LI} (hi : RowOK (φ ++ [i]) w' own t cs i)
    (ha : own = true → 0 < i.s → ¬ rowB φ H i.b) (ha' : ¬ ownB φ H i.b) :
    RepH (φ ++ [i]) (H ++ [.row own t cs]) w' ∧ (∀ b, ownB (φ ++ [i]) (H ++ [.row own t cs]) b → ownB φ H b ∨ (own = true ∧ b = i.b ∧ 0 < i.s)) ∧ (∀ b, rowB (φ ++ [i]) (H ++ [.row own t cs]) b → rowB φ H b ∨ b = i.b) := by
  obtain ⟨h1, h2, h3⟩ := h.snocO (o := .row own t cs) hs hkb hi (fun q => ha q.1 q.2) ha'
  exact ⟨h1, fun b q => (h2 b q).imp_right fun z => ⟨z.1.1, z.2, z.1.2⟩, h3⟩

/-- one thing more, in a new block -/
theorem Back.snocO (h : RepH φ H w) {w' : World} (hk : Keeps (ownB φ H) w w') (hkb : ∀ b, rowB φ H b → w'.heap[b]? = w.heap[b]?) {o : Obj} {i : LI} (hi : ObjOK (φ ++ [i]) w' i o)
    (hnew : w.heap.size ≤ i.b) : Back φ H w (φ ++ [i]) (H ++ [o]) w' := by
  have hb : ¬ rowB φ H i.b := fun q => by have := h.blockLt q; omega
  obtain ⟨h1, h2, h3⟩ := h.snocO hk.size hkb hi (fun _ => hb) (fun q => hb q.row)
  exact ⟨List.prefix_append _ _, h1, hk, fun b q => (h2 b q).imp_right fun q => by rw [q.2]; exact hnew, fun b q => (h3 b q).imp_right fun q => by rw [q]; exact hnew⟩
/-- one more row, in a new block -/
theorem Back.snoc (h : RepH φ H w) {w' : World} (hk : Keeps (ownB φ H) w w') (hkb : ∀ b, rowB φ H b → w'.heap[b]? = w.heap[b]?) {own : Bool} {t : TypeId} {cs : List GV} {i : LI} (hi : RowOK (φ ++ [i]) w' own t cs i)
    (hnew : w.heap.size ≤ i.b) : Back φ H w (φ ++ [i]) (H ++ [.row own t cs]) w' := Back.snocO h hk hkb (o := .row own t cs) hi hnew

theorem keeps_alloc (own : Nat → Prop) (w : World) (o : Go.Obj) : Keeps own w (w.alloc o) :=
  ⟨rfl, rfl, rfl, by simp, fun b hb _ => heap_alloc_old w o b hb⟩
theorem keeps_drew (own : Nat → Prop) (w : World) : Keeps own w w.drew := ⟨rfl, rfl, rfl, Nat.le_refl _, fun _ _ _ => rfl⟩

/-- a new block -/
theorem Back.new (h : RepH φ H w) (t : TypeId) (cs : List GV) (c : Array Value) (fz : Nat × Nat) (hle : cs.length ≤ c.size) (his : Is2 φ cs (c.toList.take cs.length)) (hf : ∀ j, fz.1 ≤ j → j < fz.2 → c.size ≤ j ∧ (byteT t = false → c.size < j)) :
    Back φ H w (φ ++ [⟨w.heap.size, 0, true, cs.length, c.size⟩]) (H ++ [.row true t cs]) (w.alloc (.cells c t fz)) :=
  Back.snoc h (keeps_alloc _ _ _) (fun b hb => heap_alloc_old w _ b (h.blockLt hb))
    ⟨rfl, rfl, by simp, rfl, c, t, fz, heap_alloc_new w _, fun _ => rfl, rfl, hf, hle, Is2.mono (List.prefix_append _ _) his⟩ (Nat.le_refl _)

/-- a draw -/
theorem Back.drew (h : RepH φ H w) : Back φ H w φ H w.drew :=
  ⟨List.prefix_refl _, ⟨h.len, fun l o hl hv => by obtain ⟨i, hi, hr⟩ := h.obj l o hl hv; exact ⟨i, hi, hr.keep rfl (Nat.le_refl _)⟩, h.apart⟩, keeps_drew _ _, fun _ h => .inl h, fun _ h => .inl h⟩

theorem set_get {α : Type} {xs : List α} {l l' : Nat} {x y : α} (h : (xs.set l x)[l']? = some y) : (l' = l ∧ y = x) ∨ (l' ≠ l ∧ xs[l']? = some y) := by
  rw [List.getElem?_set] at h
  split at h
  · split at h
    · rename_i e _; simp at h; exact .inl ⟨e.symm, h.symm⟩
    · simp at h
  · rename_i e; exact .inr ⟨fun q => e q.symm, h⟩

/-- a thing is turned: its block alone is written -/
theorem Back.turnO (h : RepH φ H w) {w' : World} {l : Nat} {o o' : Obj} {i : LI} (hl : H[l]? = some o) (hv : o.live = true) (hv' : o'.live = true) (hi : φ[l]? = some i) (hm : o.mut i) (hm' : o'.mut i)
    (hk : Keeps (fun b => b = i.b) w w') (hr : ObjOK φ w' i o') : Back φ H w φ (H.set l o') w' := by
  have hown : ownB φ H i.b := ⟨l, o, i, hl, hi, rfl, hm⟩
  refine ⟨List.prefix_refl _, ⟨by simp [h.len], ?_, ?_⟩, ⟨hk.os, hk.tape, hk.output, hk.size, fun b hb hn => hk.block b hb (fun e => hn (e ▸ hown))⟩, ?_, ?_⟩
  · intro l' o1 hl' hv1
    rcases set_get hl' with ⟨rfl, e⟩ | ⟨hne, hl'⟩
    · cases e; exact ⟨i, hi, hr⟩
    · obtain ⟨i', hi', hr'⟩ := h.obj l' o1 hl' hv1
      refine ⟨i', hi', hr'.keep (hk.block _ (h.blockLt ⟨l', o1, i', hl', hv1, hi', rfl⟩) (fun e => ?_)) hk.size⟩
      exact h.apart l l' o o1 i i' hl hl' hv1 (fun q => hne q.symm) hi hi' hm e.symm
  · intro l1 l2 o1 o2 i1 i2 hl1 hl2 hv2 hne hi1 hi2 hp1
    have q1 : ∃ o, H[l1]? = some o ∧ o.mut i1 := by
      rcases set_get hl1 with ⟨rfl, e⟩ | ⟨_, q⟩
      · cases e; rw [hi] at hi1; cases hi1; exact ⟨o, hl, hm⟩
      · exact ⟨_, q, hp1⟩
    have q2 : ∃ o, H[l2]? = some o ∧ o.live = true := by
      rcases set_get hl2 with ⟨rfl, e⟩ | ⟨_, q⟩
      · cases e; exact ⟨o, hl, hv⟩
      · exact ⟨_, q, hv2⟩
    obtain ⟨_, q1, m1⟩ := q1
    obtain ⟨_, q2, v2⟩ := q2
    exact h.apart l1 l2 _ _ i1 i2 q1 q2 v2 hne hi1 hi2 m1
  · intro b ⟨l', o1, j, hl', hj, hb, hp1⟩
    rcases set_get hl' with ⟨rfl, e⟩ | ⟨_, q⟩
    · cases e; rw [hi] at hj; cases hj; exact .inl (hb ▸ hown)
    · exact .inl ⟨l', o1, j, q, hj, hb, hp1⟩
  · intro b ⟨l', o1, j, hl', hv1, hj, hb⟩
    rcases set_get hl' with ⟨rfl, e⟩ | ⟨_, q⟩
    · cases e; rw [hi] at hj; cases hj; exact .inl (hb ▸ hown.row)
    · exact .inl ⟨l', o1, j, q, hv1, hj, hb⟩
/-- a row is turned: its block alone is written -/
theorem Back.turn (h : RepH φ H w) {w' : World} {l : Nat} {t : TypeId} {cs cs' : List GV} {i : LI} (hl : H[l]? = some (.row true t cs)) (hi : φ[l]? = some i) (hpos : 0 < i.s)
    (hk : Keeps (fun b => b = i.b) w w') (hr : RowOK φ w' true t cs' i) : Back φ H w φ (H.set l (.row true t cs')) w' :=
  Back.turnO h hl rfl rfl hi ⟨rfl, hpos⟩ ⟨rfl, hpos⟩ hk hr

/-- a thing goes: nobody may touch it any more -/
theorem Back.drop (h : RepH φ H w) (l : Nat) : Back φ H w φ (H.set l .dead) w := by
  have o : ∀ {l' : Nat} {o : Obj}, (H.set l .dead)[l']? = some o → o.live = true → H[l']? = some o := by
    intro l' o hl' hv
    rcases set_get hl' with ⟨_, e⟩ | ⟨_, q⟩
    · cases e; cases hv
    · exact q
  exact ⟨List.prefix_refl _, ⟨by simp [h.len], fun l' o' hl' hv => h.obj l' o' (o hl' hv) hv, fun l1 l2 o1 o2 i1 i2 a b hv c d e f => h.apart l1 l2 o1 o2 i1 i2 (o a f.live) (o b hv) hv c d e f⟩,
    Keeps.refl _ _, fun b ⟨l', o', j, a, c, d, e⟩ => .inl ⟨l', o', j, o a e.live, c, d, e⟩, fun b ⟨l', o', j, a, v, c⟩ => .inl ⟨l', o', j, o a v, v, c⟩⟩

/-- a row's block passes to a new row -/
theorem Back.pass (h : RepH φ H w) {w' : World} {l : Nat} {t t' : TypeId} {cs cs' : List GV} {i i' : LI} (hl : H[l]? = some (.row true t cs)) (hi : φ[l]? = some i) (hpos : 0 < i.s) (hb : i'.b = i.b)
    (hk : Keeps (fun b => b = i.b) w w') (hr : RowOK (φ ++ [i']) w' true t' cs' i') : Back φ H w (φ ++ [i']) (H.set l .dead ++ [.row true t' cs']) w' := by
  have hown : ownB φ H i.b := .of hl hi hpos
  have hpre : φ <+: φ ++ [i'] := List.prefix_append _ _
  have hlen := h.len
  have hφ : ∀ {l : Nat} {j : LI}, (φ ++ [i'])[l]? = some j → (l < φ.length ∧ φ[l]? = some j) ∨ (l = φ.length ∧ i' = j) := fun h => get_snoc h
  have o : ∀ {l' : Nat} {o : Obj}, (H.set l .dead)[l']? = some o → o.live = true → l' ≠ l ∧ H[l']? = some o := by
    intro l' o hl' hv
    rcases set_get hl' with ⟨_, e⟩ | ⟨n, q⟩
    · cases e; cases hv
    · exact ⟨n, q⟩
  have hsl : (H.set l .dead).length = φ.length := by simp [hlen]
  refine ⟨hpre, ⟨by simp [hlen], ?_, ?_⟩, ⟨hk.os, hk.tape, hk.output, hk.size, fun b hb hn => hk.block b hb (fun e => hn (e ▸ hown))⟩, ?_, ?_⟩
  · intro l' o1 hl' hv
    rcases get_snoc hl' with ⟨h1, h2⟩ | ⟨e1, h2⟩
    · obtain ⟨hne, h3⟩ := o h2 hv
      obtain ⟨j, hj, hr'⟩ := h.obj l' o1 h3 hv
      refine ⟨j, pre_get hpre hj, (hr'.keep (hk.block _ (h.blockLt ⟨l', o1, j, h3, hv, hj, rfl⟩) (fun e => ?_)) hk.size).mono hpre⟩
      exact h.apart l l' _ o1 i j hl h3 hv (fun q => hne q.symm) hi hj ⟨rfl, hpos⟩ e.symm
    · cases h2
      exact ⟨i', by rw [e1, hsl]; simp, hr⟩
  · intro l1 l2 o1 o2 i1 i2 hl1 hl2 hv2 hne hi1 hi2 hp1
    rcases get_snoc hl1 with ⟨h1, h2⟩ | ⟨e1, h2⟩ <;> rcases get_snoc hl2 with ⟨h1', h2'⟩ | ⟨e1', h2'⟩
    · obtain ⟨n1, q1⟩ := o h2 hp1.live
      obtain ⟨n2, q2⟩ := o h2' hv2
      have a1 : φ[l1]? = some i1 := by rcases hφ hi1 with ⟨_, q⟩ | ⟨q, _⟩; exact q; omega
      have a2 : φ[l2]? = some i2 := by rcases hφ hi2 with ⟨_, q⟩ | ⟨q, _⟩; exact q; omega
      exact h.apart l1 l2 o1 o2 i1 i2 q1 q2 hv2 hne a1 a2 hp1
    · obtain ⟨n1, q1⟩ := o h2 hp1.live
      have a1 : φ[l1]? = some i1 := by rcases hφ hi1 with ⟨_, q⟩ | ⟨q, _⟩; exact q; omega
      have a2 : i' = i2 := by rcases hφ hi2 with ⟨q, _⟩ | ⟨_, q⟩; omega; exact q
      subst a2
      rw [hb]
      intro e
      exact h.apart l1 l o1 _ i1 i q1 hl rfl n1 a1 hi hp1 e
    · obtain ⟨n2, q2⟩ := o h2' hv2
      have a2 : φ[l2]? = some i2 := by rcases hφ hi2 with ⟨_, q⟩ | ⟨q, _⟩; exact q; omega
      have a1 : i' = i1 := by rcases hφ hi1 with ⟨q, _⟩ | ⟨_, q⟩; omega; exact q
      subst a1
      rw [hb]
      exact h.apart l l2 _ o2 i i2 hl q2 hv2 (fun q => n2 q.symm) hi a2 ⟨rfl, hpos⟩
    · omega
  · intro b ⟨l', o1, j, hl', hj, hb', hp1⟩
    rcases get_snoc hl' with ⟨h1, h2⟩ | ⟨e1, h2⟩
    · rcases hφ hj with ⟨_, q⟩ | ⟨q, _⟩
      · exact .inl ⟨l', o1, j, (o h2 hp1.live).2, q, hb', hp1⟩
      · omega
    · rcases hφ hj with ⟨q, _⟩ | ⟨_, q⟩
      · omega
      · subst q; exact .inl (hb' ▸ hb ▸ hown)
  · intro b ⟨l', o1, j, hl', hv, hj, hb'⟩
    rcases get_snoc hl' with ⟨h1, h2⟩ | ⟨e1, h2⟩
    · rcases hφ hj with ⟨_, q⟩ | ⟨q, _⟩
      · exact .inl ⟨l', o1, j, (o h2 hv).2, hv, q, hb'⟩
      · omega
    · rcases hφ hj with ⟨q, _⟩ | ⟨_, q⟩
      · omega
      · subst q; exact .inl (hb' ▸ hb ▸ hown.row)

end Go.Am
namespace Go.Am

def boxB (fr : List FV) (lam : Nat → Nat) (b : Nat) : Prop := ∃ s cs, fr[s]? = some (.bx cs) ∧ lam s = b

/-- what a temporary's value is (but for boxes) -/
def VOK (n0 : Nat) (φ : List LI) (H : Hp) (lam : Nat → Nat) (fr : List FV) (w : World) : FV → Value → Prop
  | .g v, u => v.is φ u
  | .agg cs, u => ∃ us : Array Value, u = .agg us ∧ Is2 φ cs us.toList
  | .tup vs, u => ∃ us : Array Value, u = .tuple us ∧ All2 (RV.is φ) vs us.toList
  | .lp s o, u => u = .pointer (some ⟨lam s, o, none⟩)
  | .bs cs n z, u => ∃ b c t fz, u = .slice (some ⟨b, 0, none⟩) n n ∧ n0 ≤ b ∧ w.heap[b]? = some (.cells c t fz) ∧ Is2 φ cs c.toList ∧ (cs.length = n * z ∧ fz = (0, 0)) ∧ ¬ ownB φ H b ∧ ¬ boxB fr lam b
  | .bx _, _ => False
  | .bad, _ => True
  | .und, u => u = undef

def FOK (n0 : Nat) (φ : List LI) (H : Hp) (lam : Nat → Nat) (fr : List FV) (w : World) (d : Nat) : FV → Value → Prop
  | .bx cs, u => u = .pointer (some ⟨lam d, 0, none⟩) ∧ n0 ≤ lam d ∧ ¬ rowB φ H (lam d) ∧ ∃ c t, w.heap[lam d]? = some (.cells c t (0, 0)) ∧ Is2 φ cs c.toList
  | v, u => VOK n0 φ H lam fr w v u

theorem FOK.of {n0 : Nat} {φ : List LI} {H : Hp} {lam : Nat → Nat} {fr : List FV} {w : World} {d : Nat} {v : FV} {u : Value} (h : VOK n0 φ H lam fr w v u) : FOK n0 φ H lam fr w d v u := by
  cases v <;> first | exact h | exact h.elim

/-- from the function's beginning (0) to now -/
structure Inv (φ0 : List LI) (H0 : Hp) (w0 : World) (φ : List LI) (H : Hp) (lam : Nat → Nat) (fr : List FV) (tmps : Array Value) (w : World) : Prop where
  pre : φ0 <+: φ
  rep : RepH φ H w
  keeps : Keeps (ownB φ0 H0) w0 w
  own : ∀ b, ownB φ H b → ownB φ0 H0 b ∨ w0.heap.size ≤ b
  row : ∀ b, rowB φ H b → rowB φ0 H0 b ∨ w0.heap.size ≤ b
  size : fr.length = tmps.size
  slot : ∀ (d : Nat) (v : FV), fr[d]? = some v → FOK w0.heap.size φ H lam fr w d v (tmps.getD d undef)
  apart : ∀ (s s' : Nat) (cs cs' : List GV), fr[s]? = some (.bx cs) → fr[s']? = some (.bx cs') → s ≠ s' → lam s ≠ lam s'

variable {φ0 : List LI} {H0 : Hp} {w0 : World} {φ : List LI} {H : Hp} {lam : Nat → Nat} {fr : List FV} {tmps : Array Value} {w : World}

theorem Inv.boxLt (I : Inv φ0 H0 w0 φ H lam fr tmps w) {b : Nat} (hb : boxB fr lam b) : b < w.heap.size ∧ w0.heap.size ≤ b ∧ ¬ rowB φ H b := by
  obtain ⟨s, cs, hs, rfl⟩ := hb
  obtain ⟨_, h1, h2, c, t, hc, _⟩ := I.slot s _ hs
  exact ⟨(Array.getElem?_eq_some_iff.1 hc).1, h1, h2⟩

theorem getD_of {fr : List FV} {d : Nat} {v : FV} (h : fr.getD d .bad = v) (hv : v ≠ .bad) : fr[d]? = some v := by
  rw [List.getD_eq_getElem?_getD] at h
  cases hx : fr[d]? with
  | none => rw [hx] at h; exact (hv h.symm).elim
  | some x => rw [hx] at h; simpa using h

theorem isSome_lt {α : Type} {l : List α} {d : Nat} {v : α} (h : l[d]? = some v) : d < l.length := by
  rcases Nat.lt_or_ge d l.length with h1 | h1
  · exact h1
  · simp [List.getElem?_eq_none h1] at h

theorem Inv.at (I : Inv φ0 H0 w0 φ H lam fr tmps w) (t : Nat) : VOK w0.heap.size φ H lam fr w (atFr fr t) (tmps.getD t undef) := by
  unfold atFr
  cases hx : fr[t]? with
  | none =>
    rw [List.getD_eq_getElem?_getD, hx]
    simp [VOK]
  | some v =>
    have hs := I.slot t v hx
    rw [List.getD_eq_getElem?_getD, hx]
    simp only [Option.getD_some]
    cases v with
    | bx cs => exact hs.1
    | _ => exact hs

theorem ofValue_ok (n0 : Nat) (φ : List LI) (H : Hp) (lam : Nat → Nat) (fr : List FV) (w : World) (v : Value) : VOK n0 φ H lam fr w (ofValue v) v := by
  unfold ofValue
  split <;> simp [VOK, GV.is]

theorem Inv.ev (I : Inv φ0 H0 w0 φ H lam fr tmps w) (df : List Deferred) (x : Operand) : VOK w0.heap.size φ H lam fr w (Am.ev fr x) (Act.eval ⟨tmps, df⟩ x) := by
  cases x with
  | tmp t => exact I.at t
  | const v => exact ofValue_ok _ _ _ _ _ _ v
  | global g => simp [Am.ev, VOK]
  | func f => simp only [Am.ev, VOK, Act.eval, GV.is]; exact ⟨[], by simp, .nil⟩

/-- what is known of a value, in a state that has gone on -/
theorem VOK.step {n0 : Nat} {φ' : List LI} {H' : Hp} {lam' : Nat → Nat} {fr' : List FV} {w' : World} {v : FV} {u : Value} (hp : φ <+: φ')
    (hlp : ∀ s o, v = .lp s o → lam' s = lam s) (hbs : ∀ b, n0 ≤ b → b < w.heap.size → ¬ ownB φ H b → ¬ boxB fr lam b → w'.heap[b]? = w.heap[b]? ∧ ¬ ownB φ' H' b ∧ ¬ boxB fr' lam' b)
    (h : VOK n0 φ H lam fr w v u) : VOK n0 φ' H' lam' fr' w' v u := by
  cases v with
  | g v => exact GV.is.mono hp h
  | agg cs => obtain ⟨us, h1, h2⟩ := h; exact ⟨us, h1, Is2.mono hp h2⟩
  | tup vs => obtain ⟨us, h1, h2⟩ := h; exact ⟨us, h1, h2.imp fun _ _ => RV.is.mono hp⟩
  | lp s o =>
    have h' : u = .pointer (some ⟨lam s, o, none⟩) := h
    show u = .pointer (some ⟨lam' s, o, none⟩)
    rw [hlp s o rfl]; exact h'
  | bs cs n z =>
    obtain ⟨b, c, t, fz, h1, h2, h3, h4, h6, h7, h8⟩ := h
    obtain ⟨k1, k2, k3⟩ := hbs b h2 (Array.getElem?_eq_some_iff.1 h3).1 h7 h8
    exact ⟨b, c, t, fz, h1, h2, by rw [k1]; exact h3, Is2.mono hp h4, h6, k2, k3⟩
  | bx cs => exact h.elim
  | bad => trivial
  | und => exact h

/-- the rows, the world go on; the frame stays -/
theorem Inv.go (I : Inv φ0 H0 w0 φ H lam fr tmps w) {φ' : List LI} {H' : Hp} {w' : World} (hp : φ <+: φ') (hr : RepH φ' H' w') (hk : Keeps (ownB φ H) w w')
    (ho : ∀ b, ownB φ' H' b → ownB φ H b ∨ w.heap.size ≤ b) (hrow : ∀ b, rowB φ' H' b → rowB φ H b ∨ (w0.heap.size ≤ b ∧ ¬ boxB fr lam b)) : Inv φ0 H0 w0 φ' H' lam fr tmps w' where
  pre := I.pre.trans hp
  rep := hr
  keeps := I.keeps.trans hk I.own
  own b hb := by
    rcases ho b hb with h1 | h1
    · exact I.own b h1
    · exact .inr (Nat.le_trans I.keeps.size h1)
  row b hb := by
    rcases hrow b hb with h1 | h1
    · exact I.row b h1
    · exact .inr h1.1
  size := I.size
  slot d v hd := by
    have hs := I.slot d v hd
    cases v with
    | bx cs =>
      obtain ⟨h1, h2, h3, c, t, h4, h5⟩ := hs
      have hlt := (Array.getElem?_eq_some_iff.1 h4).1
      refine ⟨h1, h2, fun h => ?_, c, t, ?_, Is2.mono hp h5⟩
      · rcases hrow _ h with q | q
        · exact h3 q
        · exact q.2 ⟨d, cs, hd, rfl⟩
      · rw [hk.block _ hlt (fun q => h3 q.row)]; exact h4
    | _ =>
      refine FOK.of (VOK.step hp (fun _ _ _ => rfl) (fun b hb hlt h1 h2 => ⟨hk.block b hlt h1, fun q => ?_, h2⟩) hs)
      rcases ho b q with r | r
      · exact h1 r
      · omega
  apart := I.apart

theorem Inv.back (I : Inv φ0 H0 w0 φ H lam fr tmps w) {φ' : List LI} {H' : Hp} {w' : World} (B : Back φ H w φ' H' w') : Inv φ0 H0 w0 φ' H' lam fr tmps w' :=
  I.go B.pre B.rep B.keeps B.own fun b hb => by
    rcases B.row b hb with h | h
    · exact .inl h
    · exact .inr ⟨Nat.le_trans I.keeps.size h, fun q => by have := (I.boxLt q).1; omega⟩

theorem boxB_set {d : Nat} {v : FV} (hv : ∀ cs, v ≠ .bx cs) {b : Nat} : boxB (fr.set d v) lam b → boxB fr lam b := by
  intro ⟨s, cs, hs, hb⟩
  rcases set_get hs with ⟨_, e⟩ | ⟨_, q⟩
  · exact (hv _ e.symm).elim
  · exact ⟨s, cs, q, hb⟩

theorem getD_set_same' {tmps : Array Value} {d : Nat} {u : Value} (h : d < tmps.size) : (tmps.setIfInBounds d u).getD d undef = u := by simp [h]
theorem getD_set_other' {tmps : Array Value} {d d' : Nat} {u : Value} (h : d' ≠ d) : (tmps.setIfInBounds d u).getD d' undef = tmps.getD d' undef := by
  simp [Array.getElem?_setIfInBounds, Ne.symm h]

/-- a value into a temporary -/
theorem Inv.put (I : Inv φ0 H0 w0 φ H lam fr tmps w) {d : Nat} {v : FV} {u : Value} (hv : VOK w0.heap.size φ H lam fr w v u) : Inv φ0 H0 w0 φ H lam (fr.set d v) (tmps.setIfInBounds d u) w where
  pre := I.pre
  rep := I.rep
  keeps := I.keeps
  own := I.own
  row := I.row
  size := by simp [I.size]
  slot d' v' hd' := by
    have hnb : ∀ cs, v ≠ .bx cs := fun cs e => by subst e; exact hv
    have key : ∀ v u, VOK w0.heap.size φ H lam fr w v u → VOK w0.heap.size φ H lam (fr.set d _) w v u := fun v u h =>
      VOK.step (List.prefix_refl _) (fun _ _ _ => rfl) (fun b _ _ h1 h2 => ⟨rfl, h1, fun q => h2 (boxB_set hnb q)⟩) h
    have hlt := isSome_lt hd'
    rcases set_get hd' with ⟨rfl, e⟩ | ⟨hne, q⟩
    · subst e
      rw [getD_set_same' (by rw [← I.size]; simpa using hlt)]
      exact FOK.of (key _ _ hv)
    · rw [getD_set_other' hne]
      have hs := I.slot d' v' q
      cases v' with
      | bx cs => exact hs
      | _ => exact FOK.of (key _ _ hs)
  apart s s' cs cs' hs hs' hne := by
    have hnb : ∀ cs, v ≠ .bx cs := fun cs e => by subst e; exact hv
    rcases set_get hs with ⟨_, e⟩ | ⟨_, q⟩
    · exact (hnb _ e.symm).elim
    rcases set_get hs' with ⟨_, e⟩ | ⟨_, q'⟩
    · exact (hnb _ e.symm).elim
    exact I.apart s s' cs cs' q q' hne

/-- a temporary forgotten -/
theorem Inv.forget (I : Inv φ0 H0 w0 φ H lam fr tmps w) (d : Nat) : Inv φ0 H0 w0 φ H lam (fr.set d .bad) tmps w where
  pre := I.pre
  rep := I.rep
  keeps := I.keeps
  own := I.own
  row := I.row
  size := by simp [I.size]
  slot d' v' hd' := by
    have key : ∀ v u, VOK w0.heap.size φ H lam fr w v u → VOK w0.heap.size φ H lam (fr.set d .bad) w v u := fun v u h =>
      VOK.step (List.prefix_refl _) (fun _ _ _ => rfl) (fun b _ _ h1 h2 => ⟨rfl, h1, fun q => h2 (boxB_set (fun cs e => by cases e) q)⟩) h
    rcases set_get hd' with ⟨rfl, e⟩ | ⟨_, q⟩
    · subst e; trivial
    · have hs := I.slot d' v' q
      cases v' with
      | bx cs => exact hs
      | _ => exact FOK.of (key _ _ hs)
  apart s s' cs cs' hs hs' hne := by
    rcases set_get hs with ⟨_, e⟩ | ⟨_, q⟩
    · cases e
    rcases set_get hs' with ⟨_, e⟩ | ⟨_, q'⟩
    · cases e
    exact I.apart s s' cs cs' q q' hne

theorem noLp_get {s : Nat} : ∀ {fr : List FV}, noLp s fr = true → ∀ (d o : Nat), fr[d]? ≠ some (.lp s o)
  | [], _, d, o, h => by simp at h
  | x :: xs, hn, d, o, h => by
    unfold noLp at hn
    split at hn
    · simp at hn
    · rename_i hx
      cases d with
      | zero => simp at h; subst h; simp [FV.isLp] at hx
      | succ d => simp at h; exact noLp_get hn d o h

/-- a new box -/
theorem Inv.box (I : Inv φ0 H0 w0 φ H lam fr tmps w) {d : Nat} {cs : List GV} {c : Array Value} {t : TypeId} (hn : noLp d fr = true) (hd : d < fr.length) (hcs : Is2 φ cs c.toList) :
    Inv φ0 H0 w0 φ H (fun s => if s = d then w.heap.size else lam s) (fr.set d (.bx cs)) (tmps.setIfInBounds d (.pointer (some ⟨w.heap.size, 0, none⟩))) (w.alloc (.cells c t)) := by
  have hk : Keeps (ownB φ H) w (w.alloc (.cells c t)) := keeps_alloc _ _ _
  have I1 : Inv φ0 H0 w0 φ H lam fr tmps (w.alloc (.cells c t)) := I.go (List.prefix_refl _)
    ⟨I.rep.len, fun l o hl hv => by obtain ⟨i, hi, hr⟩ := I.rep.obj l o hl hv; exact ⟨i, hi, hr.keep (heap_alloc_old w _ _ (I.rep.blockLt ⟨l, o, i, hl, hv, hi, rfl⟩)) hk.size⟩, I.rep.apart⟩ hk (fun _ h => .inl h) (fun _ h => .inl h)
  have hbox : ∀ b, boxB (fr.set d (.bx cs)) (fun s => if s = d then w.heap.size else lam s) b → boxB fr lam b ∨ b = w.heap.size := by
    intro b ⟨s, cs', hs, hb⟩
    rcases set_get hs with ⟨rfl, e⟩ | ⟨hne, q⟩
    · right; simpa using hb.symm
    · left; exact ⟨s, cs', q, by simpa [hne] using hb⟩
  have hrowlt : ∀ b, rowB φ H b → b < w.heap.size := fun b h => I.rep.blockLt h
  refine ⟨I1.pre, I1.rep, I1.keeps, I1.own, I1.row, by simp [I.size], ?_, ?_⟩
  · intro d' v' hd'
    rcases set_get hd' with ⟨rfl, e⟩ | ⟨hne, q⟩
    · subst e
      rw [getD_set_same' (by rw [← I.size]; exact hd)]
      refine ⟨by simp, by simpa using I.keeps.size, fun h => by have := hrowlt _ h; simp at this, c, t, ?_, hcs⟩
      simpa using heap_alloc_new w (.cells c t)
    · rw [getD_set_other' hne]
      have hs := I1.slot d' v' q
      have hs0 := I.slot d' v' q
      cases v' with
      | bx cs' =>
        obtain ⟨h1, h2, h3, c', t', h4, h5⟩ := hs
        exact ⟨by simpa [hne] using h1, by simpa [hne] using h2, by simpa [hne] using h3, c', t', by simpa [hne] using h4, h5⟩
      | _ =>
        refine FOK.of (VOK.step (w := w) (fr := fr) (lam := lam) (H := H) (List.prefix_refl _) (fun s o e => ?_) (fun b hb hlt h1 h2 => ⟨heap_alloc_old w _ b hlt, h1, fun h => ?_⟩) hs0)
        · have : s ≠ d := fun e' => by subst e'; rw [e] at q; exact noLp_get hn d' o q
          simp [this]
        · rcases hbox b h with r | r
          · exact h2 r
          · omega
  · intro s s' cs1 cs2 hs hs' hne
    rcases set_get hs with ⟨rfl, e⟩ | ⟨n1, q⟩ <;> rcases set_get hs' with ⟨rfl, e'⟩ | ⟨n2, q'⟩
    · exact (hne rfl).elim
    · have := (I.boxLt ⟨s', cs2, q', rfl⟩).1; simp [n2]; omega
    · have := (I.boxLt ⟨s, cs1, q, rfl⟩).1; simp [n1]; omega
    · simp [n1, n2]; exact I.apart s s' cs1 cs2 q q' hne

/-- a box written -/
theorem Inv.boxTurn (I : Inv φ0 H0 w0 φ H lam fr tmps w) {s : Nat} {cs cs' : List GV} {c : Array Value} {t : TypeId} {w' : World} (hs : fr[s]? = some (.bx cs))
    (hk : Keeps (fun b => b = lam s) w w') (hb : w'.heap[lam s]? = some (.cells c t (0, 0))) (hcs : Is2 φ cs' c.toList) : Inv φ0 H0 w0 φ H lam (fr.set s (.bx cs')) tmps w' := by
  obtain ⟨h1, h2, h3, c0, t0, h4, h5⟩ := I.slot s _ hs
  have hlt := (Array.getElem?_eq_some_iff.1 h4).1
  have hbox : ∀ b, boxB (fr.set s (.bx cs')) lam b → boxB fr lam b := by
    intro b ⟨s', cs1, hs', hb'⟩
    rcases set_get hs' with ⟨rfl, e⟩ | ⟨_, q⟩
    · exact ⟨s', cs, hs, hb'⟩
    · exact ⟨s', cs1, q, hb'⟩
  refine ⟨I.pre, ⟨I.rep.len, fun l o1 hl hv => ?_, I.rep.apart⟩, ?_, I.own, I.row, by simp [I.size], ?_, ?_⟩
  · obtain ⟨i, hi, hr⟩ := I.rep.obj l o1 hl hv
    have hrb : rowB φ H i.b := ⟨l, o1, i, hl, hv, hi, rfl⟩
    exact ⟨i, hi, hr.keep (hk.block _ (I.rep.blockLt hrb) (fun e => h3 (e ▸ hrb))) hk.size⟩
  · exact I.keeps.trans hk (fun b hb => .inr (hb ▸ h2))
  · intro d v hd
    rcases set_get hd with ⟨rfl, e⟩ | ⟨hne, q⟩
    · subst e; exact ⟨h1, h2, h3, c, t, hb, hcs⟩
    · have hsd := I.slot d v q
      cases v with
      | bx cs1 =>
        obtain ⟨k1, k2, k3, c1, t1, k4, k5⟩ := hsd
        exact ⟨k1, k2, k3, c1, t1, by rw [hk.block _ (Array.getElem?_eq_some_iff.1 k4).1 (fun e => I.apart d s cs1 cs q hs hne e)]; exact k4, k5⟩
      | _ => exact FOK.of (VOK.step (List.prefix_refl _) (fun _ _ _ => rfl) (fun b _ hlt' g1 g2 => ⟨hk.block b hlt' (fun e => g2 ⟨s, cs, hs, e.symm⟩), g1, fun h => g2 (hbox b h)⟩) hsd)
  · intro s1 s2 cs1 cs2 hs1 hs2 hne
    have o : ∀ {s' : Nat} {cs1 : List GV}, (fr.set s (.bx cs'))[s']? = some (.bx cs1) → ∃ cs, fr[s']? = some (.bx cs) := by
      intro s' cs1 hs'
      rcases set_get hs' with ⟨rfl, e⟩ | ⟨_, q⟩
      · exact ⟨cs, hs⟩
      · exact ⟨cs1, q⟩
    obtain ⟨_, q1⟩ := o hs1
    obtain ⟨_, q2⟩ := o hs2
    exact I.apart s1 s2 _ _ q1 q2 hne

end Go.Am
namespace Go.Am

/-! ## types -/
def zV : LK → Value
  | .bool => .bool false | .int k => .int k 0 | .str => .string ⟨#[]⟩ | .ptr => .pointer none | .sl _ => .slice none 0 0 | .map => .map none | .fn => .nilFunc | .iface => .nilIface

def isLv (x : TI) (k : LK) : Bool := match x.lv with | [k'] => decide (k' = k) | _ => false
def isSlLv (x : TI) : Bool := match x.lv with | [.sl _] => true | _ => false
def fsEq : List (Nat × Nat) → List Field → Bool
  | [], [] => true
  | (a, b) :: l, f :: fs => Nat.beq a f.offset && Nat.beq b f.type && fsEq l fs
  | _, _ => false
def descOK (x : TI) : TypeDesc → Bool
  | .bool => Nat.beq x.k 0 && !x.agg && isLv x .bool
  | .int k => Nat.beq x.k 0 && !x.agg && isLv x (.int k)
  | .string => Nat.beq x.k 3 && !x.agg && isLv x .str
  | .pointer e => Nat.beq x.k 2 && !x.agg && isLv x .ptr && Nat.beq x.el e
  | .slice e => Nat.beq x.k 1 && !x.agg && isSlLv x && Nat.beq x.el e
  | .map _ e => Nat.beq x.k 5 && !x.agg && isLv x .map
  | .struct fs => Nat.beq x.k 0 && x.agg && fsEq x.fs fs.toList
  | .array n e => Nat.beq x.k 6 && x.agg && (match x.fs with | [] => true | _ => false) && Nat.beq x.el e && Nat.beq x.an n
  | .func _ _ _ => Nat.beq x.k 0 && !x.agg && isLv x .fn
  | .interface _ => Nat.beq x.k 0 && !x.agg && isLv x .iface
  | _ => false

def TyOK (P : Program) (x : TI) (t : Nat) : Prop :=
  x.ok = true → ∃ i z d, P.info? t = some i ∧ i.size = x.lv.length ∧ i.zero = some z ∧ z.cells.toList = x.lv.map zV ∧ i.bytes = x.by_ ∧ P.underlying t = some d ∧ descOK x d = true
/-- the fields of a struct that may be compared -/
def flatF (P : Program) (lv : List LK) (f : Field) : Bool := match lv[f.offset]?, P.underlying f.type with
  | some .bool, some .bool => true
  | some (.int k), some (.int k') => decide (k = k')
  | some .str, some .string => true
  | _, _ => false
def flatFs (P : Program) (lv : List LK) : Nat → List Field → Bool
  | n, [] => Nat.beq n lv.length
  | n, f :: fs => f.name != "_" && Nat.beq f.offset n && flatF P lv f && flatFs P lv (n + 1) fs
def CmpOK (P : Program) (x : TI) (t : Nat) : Prop :=
  x.cmp = true → ∃ fs, P.underlying t = some (.struct fs) ∧ flatFs P x.lv 0 fs.toList = true ∧ P.stoodInHeld t = false ∧ P.eqGuardType P.depth t = false
/-- methods of a type -/
def MsOK (P : Program) (x : TI) (t : Nat) : Prop :=
  ∀ n f b, mth x.ms n = some (f, b) → ∃ i m, P.info? t = some i ∧ i.methods.find? (·.name == n) = some m ∧ m.path = #[] ∧ m.func = some (f, b)
def TysOK (P : Program) (tys : List TI) : Prop := (∀ t, TyOK P (tys.getD t default) t) ∧ (∀ t, CmpOK P (tys.getD t default) t) ∧ ∀ t, MsOK P (tys.getD t default) t

theorem beq_eq {a b : Nat} (h : Nat.beq a b = true) : a = b := Nat.eq_of_beq_eq_true h
theorem isLv_eq {x : TI} {k : LK} (h : isLv x k = true) : x.lv = [k] := by
  unfold isLv at h
  split at h
  · rename_i k' e; rw [e]; simpa using h
  · cases h
theorem isA_iff {x : TI} {k : Nat} (h : x.isA k = true) : x.ok = true ∧ x.k = k := by
  unfold TI.isA at h
  split at h
  · rename_i e; exact ⟨e, beq_eq h⟩
  · cases h

section ty
variable {P : Program} {cx : Cx}
theorem desc_slice (hT : TysOK P cx.tys) {t : Nat} (h : (cx.ty t).isA 1 = true) : P.underlying t = some (.slice (cx.ty t).el) := by
  obtain ⟨h0, hk⟩ := isA_iff h
  obtain ⟨i, z, d, _, _, _, _, _, hd, hok⟩ := hT.1 t h0
  rw [hd]
  change descOK (cx.ty t) d = true at hok
  generalize cx.ty t = x at *
  cases d <;> simp [descOK, hk] at hok
  · rw [hok.2]
theorem desc_pointer (hT : TysOK P cx.tys) {t : Nat} (h : (cx.ty t).isA 2 = true) : P.underlying t = some (.pointer (cx.ty t).el) := by
  obtain ⟨h0, hk⟩ := isA_iff h
  obtain ⟨i, z, d, _, _, _, _, _, hd, hok⟩ := hT.1 t h0
  rw [hd]
  change descOK (cx.ty t) d = true at hok
  generalize cx.ty t = x at *
  cases d <;> simp [descOK, hk] at hok
  · rw [hok.2]
theorem desc_string (hT : TysOK P cx.tys) {t : Nat} (h : (cx.ty t).isA 3 = true) : P.underlying t = some .string := by
  obtain ⟨h0, hk⟩ := isA_iff h
  obtain ⟨i, z, d, _, _, _, _, _, hd, hok⟩ := hT.1 t h0
  rw [hd]
  change descOK (cx.ty t) d = true at hok
  generalize cx.ty t = x at *
  cases d <;> simp [descOK, hk] at hok
  rfl
theorem desc_array (hT : TysOK P cx.tys) {t : Nat} (h : (cx.ty t).isA 6 = true) : P.underlying t = some (.array (cx.ty t).an (cx.ty t).el) := by
  obtain ⟨h0, hk⟩ := isA_iff h
  obtain ⟨i, z, d, _, _, _, _, _, hd, hok⟩ := hT.1 t h0
  rw [hd]
  change descOK (cx.ty t) d = true at hok
  generalize cx.ty t = x at *
  cases d <;> simp [descOK, hk] at hok
  · rw [hok.1.2, hok.2]
theorem run_sizeOf (hT : TysOK P cx.tys) {t : Nat} (h : cx.okT t = true) (w : World) : (sizeOf t).run P w = .ok (cx.ty t).lv.length w := by
  obtain ⟨i, z, d, hi, hs, _⟩ := hT.1 t h
  simp [sizeOf, typeInfo, hi, hs]; rfl
theorem run_info (hT : TysOK P cx.tys) {t : Nat} (h : cx.okT t = true) : ∃ i z, P.info? t = some i ∧ i.size = (cx.ty t).lv.length ∧ i.zero = some z ∧ z.cells.toList = (cx.ty t).lv.map zV ∧ i.bytes = (cx.ty t).by_ := by
  obtain ⟨i, z, d, h1, h2, h3, h4, h5, _⟩ := hT.1 t h
  exact ⟨i, z, h1, h2, h3, h4, h5⟩
theorem run_isAgg (hT : TysOK P cx.tys) {t : Nat} (h : cx.okT t = true) (w : World) : (isAgg t).run P w = .ok (cx.ty t).agg w := by
  obtain ⟨i, z, d, _, _, _, _, _, hd, hok⟩ := hT.1 t h
  change descOK (cx.ty t) d = true at hok
  cases d <;> simp [descOK] at hok <;> simp [isAgg, run_underlying hd, hok]
theorem run_under (hT : TysOK P cx.tys) {t : Nat} (h : cx.okT t = true) : ∃ d, P.underlying t = some d ∧ descOK (cx.ty t) d = true := by
  obtain ⟨i, z, d, _, _, _, _, _, hd, hok⟩ := hT.1 t h
  exact ⟨d, hd, hok⟩
end ty

theorem zero_is (φ : List LI) : ∀ k, (zeroLK k).is φ (zV k)
  | .bool | .int _ | .str | .ptr | .map | .fn | .iface => rfl
  | .sl _ => ⟨rfl, rfl⟩
theorem zeros_is (φ : List LI) : ∀ ks : List LK, Is2 φ (zerosK ks) (ks.map zV)
  | [] => .nil
  | k :: ks => .cons (zero_is φ k) (zeros_is φ ks)

/-! ## values -/
theorem GV.is.one {φ : List LI} {v : GV} {x : Value} (h : v.is φ x) : x.cells = #[x] ∧ x.oneCell' = true := by
  cases v with
  | bool b => cases h; exact ⟨rfl, rfl⟩
  | int k n => cases h; exact ⟨rfl, rfl⟩
  | str s => cases h; exact ⟨rfl, rfl⟩
  | ptr a => cases a with
    | none => cases h; exact ⟨rfl, rfl⟩
    | some p => obtain ⟨_, _, rfl⟩ := h; exact ⟨rfl, rfl⟩
  | sl a n z => cases a with
    | none => obtain ⟨_, rfl⟩ := h; exact ⟨rfl, rfl⟩
    | some p => obtain ⟨l, o⟩ := p; obtain ⟨_, _, _, _, rfl, _⟩ := h; exact ⟨rfl, rfl⟩
  | map m => cases m with
    | none => cases h; exact ⟨rfl, rfl⟩
    | some p => obtain ⟨_, _, rfl⟩ := h; exact ⟨rfl, rfl⟩
  | fn f caps => obtain ⟨_, rfl, _⟩ := h; exact ⟨rfl, rfl⟩
  | nilfn => cases h; exact ⟨rfl, rfl⟩
  | iface t v => obtain ⟨_, rfl, _⟩ := h; exact ⟨rfl, rfl⟩
  | nilif => cases h; exact ⟨rfl, rfl⟩
theorem Is2.one {φ : List LI} {cs : List GV} {xs : List Value} (h : Is2 φ cs xs) : ∀ x ∈ xs, x.oneCell' = true := by
  induction h with
  | nil => intro x hx; cases hx
  | cons h _ ih =>
    intro x hx
    cases hx with
    | head => exact h.one.2
    | tail _ hx => exact ih x hx

section vals
variable {n0 : Nat} {φ : List LI} {H : Hp} {lam : Nat → Nat} {fr : List FV} {w : World}
theorem cellsK_ok {x : FV} {K : List GV → Prop} {u : Value} (h : cellsK x K) (hv : VOK n0 φ H lam fr w x u) : ∃ cs, K cs ∧ Is2 φ cs u.cells.toList := by
  cases x with
  | g v => exact ⟨[v], h, by rw [(GV.is.one hv).1]; exact .cons hv .nil⟩
  | agg cs => obtain ⟨us, rfl, hu⟩ := hv; exact ⟨cs, h, hu⟩
  | _ => exact h.elim
end vals

theorem ck_iff {b : Bool} {x : Prop} : ck b x ↔ b = true ∧ x := by cases b <;> simp [ck]
theorem chk_iff {b : Bool} {x : Prop} : chk b x ↔ b = true ∧ x := by cases b <;> simp [chk]
theorem bite_iff {b : Bool} {x y : Prop} : bite b x y ↔ if b = true then x else y := by cases b <;> simp [bite]
theorem setK_eq {R : Type} : ∀ (fr : List FV) (d : Nat) (v : FV) (K : List FV → R), setK fr d v K = K (fr.set d v)
  | [], d, v, K => by simp [setK]
  | x :: xs, 0, v, K => by simp [setK]
  | x :: xs, d + 1, v, K => by simp [setK, setK_eq xs d v]
theorem frc_eq {R : Type} (v : FV) (K : FV → R) : frc v K = K v := by cases v <;> rfl
theorem leN_iff {a b : Nat} : leN a b = true ↔ a ≤ b := by simp [leN]
theorem leI_iff {a b : Int} : leI a b = true ↔ a ≤ b := by simp [leI]
theorem ltI_iff {a b : Int} : ltI a b = true ↔ a < b := by simp [ltI]
theorem eqI_iff {a b : Int} : eqI a b = true ↔ a = b := by simp [eqI]

theorem fillK_ok : ∀ {zs : List GV} {p : Nat} {cs : List GV} {K : List GV → Prop}, fillK zs p cs K → ∃ zs', K zs' ∧ zs'.length = zs.length ∧ p + cs.length ≤ zs.length + (if cs = [] then p else 0) ∧ zs' = zs.take p ++ cs ++ zs.drop (p + cs.length)
  | zs, p, [], K, h => by
    refine ⟨zs, ?_, rfl, by simp, by simp⟩
    cases zs <;> cases p <;> exact h
  | [], p, c :: cs, K, h => by cases p <;> exact h.elim
  | z :: zs, p + 1, c :: cs, K, h => by
    have h' : fillK zs p (c :: cs) fun r => K (z :: r) := h
    obtain ⟨zs', hk, hl, hle, e⟩ := fillK_ok h'
    refine ⟨z :: zs', hk, by simp [hl], by simp at hle ⊢; omega, ?_⟩
    rw [e]; simp
    rw [show p + 1 + (cs.length + 1) = (p + (cs.length + 1)) + 1 by omega, List.drop_succ_cons]
  | _ :: zs, 0, c :: cs, K, h => by
    have h' : fillK zs 0 cs fun r => K (c :: r) := h
    obtain ⟨zs', hk, hl, hle, e⟩ := fillK_ok h'
    refine ⟨c :: zs', hk, by simp [hl], ?_, ?_⟩
    · cases cs <;> simp at hle ⊢; omega
    · rw [e]; simp

theorem list_set_append {α : Type} (l : List α) (p : Nat) (c : α) (cs : List α) (h : p + (cs.length + 1) ≤ l.length) :
    l.take p ++ (c :: cs) ++ l.drop (p + (cs.length + 1)) = (l.set p c).take (p + 1) ++ cs ++ (l.set p c).drop (p + 1 + cs.length) := by
  have h1 : (l.set p c).take (p + 1) = l.take p ++ [c] := by
    apply List.ext_getElem?
    intro j
    by_cases h1 : j < p
    · rw [List.getElem?_take_of_lt (by omega), List.getElem?_set_ne (by omega), List.getElem?_append_left (by simp; omega), List.getElem?_take_of_lt h1]
    · by_cases h2 : j = p
      · subst h2
        rw [List.getElem?_take_of_lt (by omega), List.getElem?_set_self (by omega), List.getElem?_append_right (by simp; omega)]
        simp [Nat.min_eq_left (show j ≤ l.length by omega)]
      · rw [List.getElem?_eq_none (by simp; omega), List.getElem?_eq_none (by simp; omega)]
  have h2 : (l.set p c).drop (p + 1 + cs.length) = l.drop (p + (cs.length + 1)) := by
    apply List.ext_getElem?
    intro j
    rw [List.getElem?_drop, List.getElem?_drop, List.getElem?_set_ne (by omega)]
    congr 1; omega
  rw [h1, h2]; simp

end Go.Am
namespace Go.Am

theorem add_at (b o j : Nat) : (⟨b, o, none⟩ : Addr).add j = ⟨b, o + j, none⟩ := by unfold Addr.add; split <;> simp_all

theorem dLeaf_ok {k : LK} {v : GV} {K : GV → Prop} (h : dLeaf k v K) : ∃ v', K v' ∧ ∀ φ x, v.is φ x → v'.is φ x := by
  cases k with
  | bool => cases v <;> first | exact ⟨_, h, fun _ _ q => q⟩ | exact h.elim
  | int k => cases v <;> first | exact h.elim | (obtain ⟨e, h⟩ := h; subst e; exact ⟨_, h, fun _ _ q => q⟩)
  | str => cases v <;> first | exact ⟨_, h, fun _ _ q => q⟩ | exact h.elim
  | ptr => cases v <;> first | exact ⟨_, h, fun _ _ q => q⟩ | exact h.elim
  | map => cases v <;> first | exact ⟨_, h, fun _ _ q => q⟩ | exact h.elim
  | fn => exact ⟨_, h, fun _ _ q => q⟩
  | iface => exact ⟨_, h, fun _ _ q => q⟩
  | sl z =>
    cases v <;> first | exact h.elim | skip
    rename_i a n z'
    obtain ⟨e, h⟩ := h
    refine ⟨_, h, fun φ x q => ?_⟩
    rcases e with e | e
    · subst e; exact q
    · subst e; exact q

theorem dLeaves_ok : ∀ {ks : List LK} {cs : List GV} {K : List GV → Prop}, dLeaves ks cs K → ∃ cs', K cs' ∧ ∀ φ xs, Is2 φ cs xs → Is2 φ cs' xs
  | [], [], K, h => ⟨[], h, fun _ _ q => q⟩
  | [], c :: cs, K, h => h.elim
  | k :: ks, [], K, h => h.elim
  | k :: ks, c :: cs, K, h => by
    have h' : dLeaf k c fun c => dLeaves ks cs fun r => K (c :: r) := h
    obtain ⟨c', h1, hc⟩ := dLeaf_ok h'
    obtain ⟨cs', h2, hcs⟩ := dLeaves_ok h1
    refine ⟨c' :: cs', h2, fun φ xs q => ?_⟩
    cases q with
    | cons q q' => exact .cons (hc _ _ q) (hcs _ _ q')

theorem dParts_ok (cx : Cx) : ∀ {ts : List (Nat × Nat)} {vs : List RV} {K : List RV → Prop}, dParts cx ts vs K → ∃ vs', K vs' ∧ ∀ φ xs, All2 (RV.is φ) vs xs → All2 (RV.is φ) vs' xs
  | [], [], K, h => ⟨[], h, fun _ _ q => q⟩
  | [], v :: vs, K, h => h.elim
  | t :: ts, [], K, h => h.elim
  | t :: ts, v :: vs, K, h => by
    obtain ⟨t0, t⟩ := t
    have h' : (match (cx.ty t).agg with
      | true => rC v fun cs => dLeaves (cx.ty t).lv cs fun cs => dParts cx ts vs fun vs => K (.a cs :: vs)
      | false => rS v fun v => match (cx.ty t).lv with | [k] => dLeaf k v fun v => dParts cx ts vs fun vs => K (.s v :: vs) | _ => False) := h
    cases v with
    | a cs =>
      split at h'
      · obtain ⟨cs', h1, hc⟩ := dLeaves_ok h'
        obtain ⟨vs', h2, hvs⟩ := dParts_ok cx h1
        refine ⟨.a cs' :: vs', h2, fun φ xs q => ?_⟩
        cases q with
        | cons q q' => obtain ⟨us, e, q⟩ := q; exact .cons ⟨us, e, hc _ _ q⟩ (hvs _ _ q')
      · exact h'.elim
    | s v =>
      split at h'
      · exact h'.elim
      · have h'' : (match (cx.ty t).lv with | [k] => dLeaf k v fun v => dParts cx ts vs fun vs => K (.s v :: vs) | _ => False) := h'
        split at h''
        · obtain ⟨v', h1, hc⟩ := dLeaf_ok h''
          obtain ⟨vs', h2, hvs⟩ := dParts_ok cx h1
          refine ⟨.s v' :: vs', h2, fun φ xs q => ?_⟩
          cases q with
          | cons q q' => exact .cons (hc _ _ q) (hvs _ _ q')
        · exact h''.elim

theorem dRes_ok (cx : Cx) {t : Nat} {r : FV} {K : FV → Prop} (h : dRes cx t r K) : ∃ r', K r' ∧ ∀ n0 φ H lam fr w x, r.is φ x → VOK n0 φ H lam fr w r' x := by
  unfold dRes at h
  split at h
  · split at h
    · exact ⟨_, h, fun _ _ _ _ _ _ _ _ => trivial⟩
    · cases r <;> first | exact h.elim | skip
      obtain ⟨vs', h1, hvs⟩ := dParts_ok cx h
      refine ⟨.tup vs', h1, fun n0 φ H lam fr w x q => ?_⟩
      obtain ⟨us, e, q⟩ := q
      exact ⟨us, e, hvs _ _ q⟩
  · split at h
    · cases r <;> first | exact h.elim | skip
      obtain ⟨cs', h1, hc⟩ := dLeaves_ok h
      refine ⟨.agg cs', h1, fun n0 φ H lam fr w x q => ?_⟩
      obtain ⟨us, e, q⟩ := q
      exact ⟨us, e, hc _ _ q⟩
    · cases r <;> first | exact h.elim | skip
      rename_i v
      have h'' : (match (cx.ty t).lv with | [k] => dLeaf k v fun v => K (.g v) | _ => False) := h
      split at h''
      · obtain ⟨v', h1, hc⟩ := dLeaf_ok h''
        exact ⟨.g v', h1, fun n0 φ H lam fr w x q => hc _ _ q⟩
      · exact h''.elim

/-! ## memory -/
variable {P : Program} {cx : Cx} {φ : List LI} {H : Hp} {w : World}

theorem ldLeaves_ok (hr : RepH φ H w) {l : Nat} {i : LI} (hi : φ[l]? = some i) : ∀ {ks : List LK} {p : Nat} {K : List GV → Prop}, ldLeaves H l p ks K →
    ∃ cs xs, K cs ∧ Is2 φ cs xs ∧ xs.length = ks.length ∧ ∀ j x, xs[j]? = some x → w.cell? ⟨i.b, i.p + p + j, none⟩ = some x
  | [], p, K, h => ⟨[], [], h, .nil, rfl, by simp⟩
  | k :: ks, p, K, h => by
    have h' : rd H l p fun c => dLeaf k c fun c => ldLeaves H l (p + 1) ks fun r => K (c :: r) := h
    unfold rd at h'
    split at h'
    · rename_i v hv
      obtain ⟨i', x, hi', hx, hvx⟩ := hr.get hv
      rw [hi] at hi'; cases hi'
      obtain ⟨v', h1, hv'⟩ := dLeaf_ok h'
      obtain ⟨cs, xs, h2, his, hl, hc⟩ := ldLeaves_ok hr hi h1
      refine ⟨v' :: cs, x :: xs, h2, .cons (hv' _ _ hvx) his, by simp [hl], ?_⟩
      intro j y hy
      cases j with
      | zero => simp at hy; subst hy; exact hx
      | succ j => have := hc j y (by simpa using hy); rwa [show i.p + p + (j + 1) = i.p + (p + 1) + j by omega]
    · exact h'.elim

section
theorem run_loadVar_agg (hT : TysOK P cx.tys) {t : Nat} (ht : cx.okT t = true) (ha : (cx.ty t).agg = true) {b o : Nat} {xs : List Value} (hx : ∀ j x, xs[j]? = some x → w.cell? ⟨b, o + j, none⟩ = some x) (hl : xs.length = (cx.ty t).lv.length) :
    (loadVar t ⟨b, o, none⟩).run P w = .ok (.agg xs.toArray) w := by
  have h := run_loadCells_list (P := P) w ⟨b, o, none⟩ xs (fun j v hv => by rw [add_at]; exact hx j v hv)
  rw [hl] at h
  simp [loadVar, run_isAgg hT ht, ha, run_sizeOf hT ht, h]
theorem run_loadVar_one (hT : TysOK P cx.tys) {t : Nat} (ht : cx.okT t = true) (ha : (cx.ty t).agg = false) {b o : Nat} {x : Value} (hx : w.cell? ⟨b, o, none⟩ = some x) :
    (loadVar t ⟨b, o, none⟩).run P w = .ok x w := by
  simp [loadVar, run_isAgg hT ht, ha, hx]
end

theorem oneK_ok {cs : List GV} {agg : Bool} {K : FV → Prop} (h : oneK cs agg K) : (agg = true ∧ K (.agg cs)) ∨ (agg = false ∧ ∃ v, cs = [v] ∧ K (.g v)) := by
  cases agg with
  | true => exact .inl ⟨rfl, h⟩
  | false => match cs, h with
    | [v], h => exact .inr ⟨rfl, v, rfl, h⟩
theorem cutK_ok {cs : List GV} {p n : Nat} {agg : Bool} {K : FV → Prop} (h : cutK cs p n agg K) : (agg = true ∧ p + n ≤ cs.length ∧ K (.agg ((cs.drop p).take n))) ∨ (agg = false ∧ ∃ v, cs[p]? = some v ∧ K (.g v)) := by
  cases agg with
  | true => obtain ⟨h1, h2⟩ := ck_iff.1 h; exact .inl ⟨rfl, Nat.le_of_ble_eq_true h1, h2⟩
  | false =>
    have h' : (match cs[p]? with | some v => K (.g v) | none => False) := h
    split at h'
    · rename_i v e; exact .inr ⟨rfl, v, e, h'⟩
    · exact h'.elim

/-- a place in a row of cells, read -/
theorem cut_load (hT : TysOK P cx.tys) {t : Nat} (ht : cx.okT t = true) {b o : Nat} {cs : List GV} {ys : List Value} (his : Is2 φ cs ys) (hy : ∀ j y, ys[j]? = some y → w.cell? ⟨b, j, none⟩ = some y) {K : FV → Prop}
    (h : cutK cs o (cx.ty t).lv.length (cx.ty t).agg K) : ∃ v u, K v ∧ (loadVar t ⟨b, o, none⟩).run P w = .ok u w ∧ ∀ n0 lam fr w', VOK n0 φ H lam fr w' v u := by
  rcases cutK_ok h with ⟨ha, hle, hk⟩ | ⟨ha, v, hv, hk⟩
  · have h1 := (his.drop o).take (cx.ty t).lv.length
    refine ⟨_, .agg ((ys.drop o).take (cx.ty t).lv.length).toArray, hk, run_loadVar_agg hT ht ha ?_ ?_, fun n0 lam fr w' => ⟨_, rfl, by simpa using h1⟩⟩
    · intro j x hx
      rw [List.getElem?_take] at hx
      split at hx
      · exact hy _ _ (by simpa using hx)
      · simp at hx
    · have := his.length; simp; omega
  · obtain ⟨x, hx, hvx⟩ := his.get hv
    exact ⟨_, x, hk, run_loadVar_one hT ht ha (hy _ _ hx), fun n0 lam fr w' => hvx⟩

theorem heap_setCell_at {w : World} {b o : Nat} {c : Array Value} {t : TypeId} {fz : Nat × Nat} {v : Value} (h : w.heap[b]? = some (.cells c t fz)) : (w.setCell ⟨b, o, none⟩ v).heap[b]? = some (.cells (c.setIfInBounds o v) t fz) := by
  simp [World.setCell, Array.getElem?_modify, h]

theorem keeps_setCell (w : World) (b o : Nat) (v : Value) : Keeps (fun b' => b' = b) w (w.setCell ⟨b, o, none⟩ v) :=
  ⟨rfl, rfl, rfl, by simp, fun b' _ hn => heap_setCell_other w ⟨b, o, none⟩ b' v hn⟩

theorem st_one (hr : RepH φ H w) {l o : Nat} {i : LI} (hi : φ[l]? = some i) {v : GV} {x : Value} (hv : v.is φ x) {H' : Hp} (h : st? H l o v = some H') :
    ∃ w', (store ⟨i.b, i.p + o, none⟩ x).run P w = .ok () w' ∧ Back φ H w φ H' w' := by
  unfold st? at h
  split at h
  · rename_i t cs hl
    split at h
    · rename_i ho
      cases h
      obtain ⟨i', hi', h1, h2, h3, hp, c, t', fz, hb, ht', hs, hf, hle, his⟩ := hr.row l true t cs hl
      rw [hi] at hi'; cases hi'
      have hpos : 0 < i.s := by omega
      have hcell : w.cell? ⟨i.b, i.p + o, none⟩ = some c[o] := by
        rw [hp, Nat.zero_add, cell_of hb, Array.getElem?_eq_getElem (by omega)]
      have hfr : w.frozen? ⟨i.b, i.p + o, none⟩ = false := by
        obtain ⟨f1, f2⟩ := fz
        simp only [World.frozen?, hb]
        by_cases q : f1 ≤ i.p + o ∧ i.p + o < f2
        · have := hf _ q.1 q.2; omega
        · simp; omega
      refine ⟨w.setCell ⟨i.b, i.p + o, none⟩ x, ?_, ?_⟩
      · rw [run_store P w _ x _ hv.one.2, hcell]
        simp [hfr]
      · refine Back.turn hr hl hi hpos (keeps_setCell w i.b _ x) ⟨h1, by simp [h2], by simp [h3], hp, c.setIfInBounds o x, t', fz, ?_, ht', by simp [hs], hf, by simp; omega, ?_⟩
        · rw [hp, Nat.zero_add]; exact heap_setCell_at hb
        · have := his.set hv o
          rw [List.length_set, Array.toList_setIfInBounds]
          rwa [show (c.toList.take cs.length).set o x = (c.toList.set o x).take cs.length from by rw [List.take_set]] at this
    · cases h
  · cases h

theorem stCells_ok : ∀ (ns : List GV) (xs : List Value) (k : Nat) {H : Hp} {w : World} {l p0 : Nat} {i : LI} {K : Hp → Prop}, stCells l H (p0 + k) ns K → RepH φ H w → φ[l]? = some i → Is2 φ ns xs →
    ∃ H' w', K H' ∧ (storeCells ⟨i.b, i.p + p0, none⟩ xs k).run P w = .ok () w' ∧ Back φ H w φ H' w'
  | [], xs, k, H, w, l, p0, i, K, h, hr, hi, his => by
    cases his.nil_inv
    exact ⟨H, w, h, by simp [storeCells], Back.refl hr⟩
  | n :: ns, xs, k, H, w, l, p0, i, K, h, hr, hi, his => by
    obtain ⟨x, xs, rfl, hx, his⟩ := his.cons_inv
    have h' : wr H l (p0 + k) n fun H => stCells l H (p0 + k + 1) ns K := h
    unfold wr at h'
    split at h'
    · rename_i H1 he
      obtain ⟨w1, hw1, B⟩ := st_one (P := P) hr hi hx he
      obtain ⟨H', w', hk, hrun, B'⟩ := stCells_ok ns xs (k + 1) (p0 := p0) h' B.rep hi his
      refine ⟨H', w', hk, ?_, B.trans B'⟩
      rw [Nat.add_comm] at hw1
      simp only [storeCells, Sem.run_bind, add_at]
      rw [show i.p + p0 + k = i.p + (p0 + k) by omega, show i.p + (p0 + k) = p0 + k + i.p by omega, hw1]
      simp only [Result.andThen_ok, hrun]
    · exact h'.elim

end Go.Am
namespace Go.Am

section
variable {P : Program} {cx : Cx} {n0 : Nat} {φ : List LI} {H : Hp} {lam : Nat → Nat} {fr : List FV} {w : World}

theorem eqGuard_ok (op : BinOp) (t : TypeId) (x y : Operand) (a b : Value) (h1 : a ≠ .nilIface) (h2 : ∀ cs, a ≠ .agg cs) : (eqGuard op t x y a b).run P w = .ok () w := by
  cases a <;> first | exact (h1 rfl).elim | exact (h2 _ rfl).elim | simp [eqGuard]

theorem eq_ptr (d : Nat) {t e : TypeId} (hd : P.underlying t = some (.pointer e)) (p : Option Addr) : (Op.equalIn (d + 1) t (.pointer p) (.pointer none)).run P w = .ok p.isNone w := by
  cases p <;> simp [Op.equalIn, run_underlying hd]
theorem eq_sl (d : Nat) {t e : TypeId} (hd : P.underlying t = some (.slice e)) (p : Option Addr) (l c : Nat) : (Op.equalIn (d + 1) t (.slice p l c) (.slice none 0 0)).run P w = .ok p.isNone w := by
  cases p <;> simp [Op.equalIn, run_underlying hd]

theorem fits_at : ∀ {lv : List LK} {xs : List GV}, fits lv xs = true → xs.length = lv.length ∧ ∀ (n : Nat) k, lv[n]? = some k → ∃ v, xs[n]? = some v ∧ fitC k v = true
  | [], [], _ => ⟨rfl, fun n k h => by simp at h⟩
  | [], _ :: _, h => by cases h
  | _ :: _, [], h => by cases h
  | k :: lv, v :: xs, h => by
    unfold fits at h
    split at h
    · rename_i e
      obtain ⟨h1, h2⟩ := fits_at h
      refine ⟨by simp [h1], fun n k' hk => ?_⟩
      cases n with
      | zero => simp at hk; subst hk; exact ⟨v, rfl, e⟩
      | succ n => exact h2 n k' (by simpa using hk)
    · cases h
theorem eqAll_cons {a b : GV} {xs ys : List GV} {e : Bool} (h : eqAll (a :: xs) (b :: ys) = some e) : ∃ e1 e2, eqC a b = some e1 ∧ eqAll xs ys = some e2 ∧ e = (e1 && e2) := by
  have h' : (match eqC a b, eqAll xs ys with | some e, some r => some (e && r) | _, _ => none) = some e := h
  split at h'
  · rename_i e1 e2 q1 q2; cases h'; exact ⟨e1, e2, q1, q2, rfl⟩
  · cases h'
/-- two fields -/
theorem field_eq {f : Field} {lv : List LK} {d : Nat} {n : Nat} {a b : GV} {e : Bool} {us vs : Array Value} {u v : Value} (hf : flatF P lv f = true) (hn : f.offset = n) {k : LK} (hk : lv[n]? = some k) (ha : fitC k a = true) (hb : fitC k b = true) (he : eqC a b = some e)
    (h1 : us[n]? = some u) (h2 : vs[n]? = some v) (h3 : a.is φ u) (h4 : b.is φ v) :
    (part f.type us f.offset).run P w = .ok u w ∧ (part f.type vs f.offset).run P w = .ok v w ∧ (Op.equalIn (d + 1) f.type u v).run P w = .ok e w := by
  unfold flatF at hf
  rw [hn, hk] at hf
  rw [hn]
  split at hf
  · rename_i q1 q2
    cases q1
    cases a <;> simp [fitC] at ha
    cases b <;> simp [fitC] at hb
    cases h3; cases h4; cases he
    have hp : P.plainKey f.type = true := by simp [Program.plainKey, q2]
    exact ⟨run_part_plain w hp h1, run_part_plain w hp h2, run_equalIn_bool w d f.type _ _ q2⟩
  · rename_i k1 k2 q1 q2
    cases q1
    cases a <;> simp [fitC] at ha
    cases b <;> simp [fitC] at hb
    cases h3; cases h4; cases he
    subst ha; subst hb
    have hp : P.plainKey f.type = true := by simp [Program.plainKey, q2]
    exact ⟨run_part_plain w hp h1, run_part_plain w hp h2, run_equalIn_int w d f.type _ _ _ _ q2⟩
  · rename_i q1 q2
    cases q1
    cases a <;> simp [fitC] at ha
    cases b <;> simp [fitC] at hb
    cases h3; cases h4; cases he
    have hp : P.plainKey f.type = true := by simp [Program.plainKey, q2]
    exact ⟨run_part_plain w hp h1, run_part_plain w hp h2, run_equalIn_string w d f.type _ _ q2⟩
  · cases hf
theorem eqFields_ok {lv : List LK} {d : Nat} {us vs : Array Value} {xs ys : List GV} (hx : fits lv xs = true) (hy : fits lv ys = true) (ix : Is2 φ xs us.toList) (iy : Is2 φ ys vs.toList) :
    ∀ (fs : List Field) (n : Nat) (e : Bool), flatFs P lv n fs = true → eqAll (xs.drop n) (ys.drop n) = some e → (Op.eqFields (d + 1) us vs fs).run P w = .ok e w
  | [], n, e, hf, he => by
    unfold flatFs at hf
    have hn := beq_eq hf
    rw [List.drop_of_length_le (by rw [(fits_at hx).1]; omega), List.drop_of_length_le (by rw [(fits_at hy).1]; omega)] at he
    cases he
    rfl
  | f :: fs, n, e, hf, he => by
    unfold flatFs at hf
    simp only [Bool.and_eq_true, bne_iff_ne, ne_eq] at hf
    obtain ⟨⟨⟨hname, hoff⟩, hfl⟩, hrest⟩ := hf
    have hoff := beq_eq hoff
    have hk : ∃ k, lv[n]? = some k := by
      unfold flatF at hfl
      rw [hoff] at hfl
      cases hq : lv[n]? with
      | none => rw [hq] at hfl; simp at hfl
      | some k => exact ⟨k, rfl⟩
    obtain ⟨k, hk⟩ := hk
    obtain ⟨a, ha, fa⟩ := (fits_at hx).2 n k hk
    obtain ⟨b, hb, fb⟩ := (fits_at hy).2 n k hk
    obtain ⟨hal, hae⟩ := List.getElem?_eq_some_iff.1 ha
    obtain ⟨hbl, hbe⟩ := List.getElem?_eq_some_iff.1 hb
    rw [List.drop_eq_getElem_cons hal, List.drop_eq_getElem_cons hbl, hae, hbe] at he
    obtain ⟨e1, e2, q1, q2, rfl⟩ := eqAll_cons he
    obtain ⟨u, hu, hu2⟩ := All2.get ix ha
    obtain ⟨v, hv, hv2⟩ := All2.get iy hb
    obtain ⟨p1, p2, p3⟩ := field_eq (P := P) (w := w) (d := d) hfl hoff hk fa fb q1 (by simpa using hu) (by simpa using hv) hu2 hv2
    have ih := eqFields_ok (d := d) hx hy ix iy fs (n + 1) e2 hrest q2
    simp only [Op.eqFields, hname, ne_eq, not_false_eq_true, if_true, Sem.run_bind, p1, p2, p3, Result.andThen_ok]
    cases e1
    · simp
    · simpa using ih

theorem binK_ok (hT : TysOK P cx.tys) {t : TypeId} {op : BinOp} {x y : FV} {K : FV → Prop} {ox oy : Operand} {ux uy : Value} (h : binK cx t op x y K) (hx : VOK n0 φ H lam fr w x ux) (hy : VOK n0 φ H lam fr w y uy) :
    ∃ v u, K v ∧ (do eqGuard op t ox oy ux uy; binOp op t ux uy : Sem Value).run P w = .ok u w ∧ VOK n0 φ H lam fr w v u := by
  unfold binK at h
  split at h
  · rename_i k a k' b
    cases hx; cases hy
    have hg := eqGuard_ok (P := P) (w := w) op t ox oy (.int k a) (.int k' b) (by simp) (by simp)
    split at h
    · obtain ⟨h1, h⟩ := chk_iff.1 h
      have h1 := leI_iff.1 h1
      refine ⟨_, _, h, ?_, rfl⟩
      simp [hg, binOp, Op.shift, show ¬ b < 0 by omega, shlI]
    · obtain ⟨h1, h⟩ := chk_iff.1 h
      have h1 := leI_iff.1 h1
      refine ⟨_, _, h, ?_, rfl⟩
      simp [hg, binOp, Op.shift, show ¬ b < 0 by omega, shrI]
    · rename_i n1 n2
      split at h
      · rename_i e
        subst e
        have hb : ∀ {u : Value}, (binOp op t (.int k a) (.int k b)).run P w = .ok u w → (do eqGuard op t ox oy (.int k a) (.int k b); binOp op t (.int k a) (.int k b) : Sem Value).run P w = .ok u w := by
          intro u q; simp [hg, q]
        cases op <;> dsimp only at h <;> first
          | exact h.elim
          | (obtain ⟨h1, h⟩ := chk_iff.1 h
             have hne : b ≠ 0 := by simpa [eqI] using h1
             refine ⟨_, _, h, hb ?_, rfl⟩
             simp [binOp, Op.intDiv, hne, wrapI]; done)
          | (refine ⟨_, _, h, hb ?_, rfl⟩
             simp [binOp, Op.intArith, Op.intBits, Op.intCmp, wrapI, bitsI, eqI, ltI, leI, bne]; done)
          | (refine ⟨_, _, h, hb ?_, rfl⟩
             rfl)
      · exact h.elim
  · rename_i a b
    cases hx; cases hy
    have hg := eqGuard_ok (P := P) (w := w) op t ox oy (.string a) (.string b) (by simp) (by simp)
    cases op <;> first
      | exact h.elim
      | (refine ⟨_, _, h, ?_, rfl⟩
         simp [hg, binOp, Op.stringOp, strEq, strLt]; done)
      | (obtain ⟨h1, h⟩ := h
         refine ⟨_, _, h, ?_, rfl⟩
         simp [hg, binOp, Op.stringOp, IntKind.max, IntKind.bits, IntKind.signed]
         omega)
  · rename_i a b
    cases hx; cases hy
    have hg := eqGuard_ok (P := P) (w := w) op t ox oy (.bool a) (.bool b) (by simp) (by simp)
    obtain ⟨ht, h⟩ := ck_iff.1 h
    have hd : P.underlying t = some .bool := by
      have h0 : (cx.ty t).ok = true ∧ isLv (cx.ty t) .bool = true ∧ (cx.ty t).agg = false := by
        unfold TI.isBool at ht
        split at ht
        · rename_i e1 e2; simp [TI.ok, isLv, e1, e2]
        · cases ht
      obtain ⟨d, hd, hok⟩ := run_under hT h0.1
      rw [hd]
      have e := isLv_eq h0.2.1
      cases d <;> simp [descOK, isLv, e, h0.2.2, isSlLv] at hok ⊢
    cases op <;> first
      | exact h.elim
      | (refine ⟨_, _, h, ?_, rfl⟩
         simp [hg, binOp, run_equal_bool w t a b hd, eqB]; done)
  · rename_i a
    cases hy
    obtain ⟨ht, h⟩ := ck_iff.1 h
    have hd := desc_pointer hT ht
    have hux : ∃ p : Option Addr, ux = .pointer p ∧ p.isNone = isNone a := by
      cases a with
      | none => cases hx; exact ⟨none, rfl, rfl⟩
      | some q => obtain ⟨i, _, rfl⟩ := hx; exact ⟨_, rfl, rfl⟩
    obtain ⟨p, rfl, hp⟩ := hux
    have hg := eqGuard_ok (P := P) (w := w) op t ox oy (.pointer p) (.pointer none) (by simp) (by simp)
    have he : (Op.equal t (.pointer p) (.pointer none)).run P w = .ok (isNone a) w := by
      rw [← hp]
      exact eq_ptr 9999 hd p
    cases op <;> first
      | exact h.elim
      | (refine ⟨_, _, h, ?_, rfl⟩
         simp [hg, binOp, he]; done)
  · rename_i a n z n' z'
    obtain ⟨_, rfl⟩ := hy
    obtain ⟨ht, h⟩ := ck_iff.1 h
    have hd := desc_slice hT ht
    have hux : ∃ (p : Option Addr) (l c : Nat), ux = .slice p l c ∧ p.isNone = isNone a := by
      cases a with
      | none => obtain ⟨_, rfl⟩ := hx; exact ⟨none, 0, 0, rfl, rfl⟩
      | some q => obtain ⟨i, _⟩ := q; obtain ⟨_, _, _, _, rfl, _⟩ := hx; exact ⟨_, _, _, rfl, rfl⟩
    obtain ⟨p, l, c, rfl, hp⟩ := hux
    have hg := eqGuard_ok (P := P) (w := w) op t ox oy (.slice p l c) (.slice none 0 0) (by simp) (by simp)
    have he : (Op.equal t (.slice p l c) (.slice none 0 0)).run P w = .ok (isNone a) w := by
      rw [← hp]
      exact eq_sl 9999 hd p l c
    cases op <;> first
      | exact h.elim
      | (refine ⟨_, _, h, ?_, rfl⟩
         simp [hg, binOp, he]; done)
  · rename_i xs ys
    obtain ⟨us, rfl, ix⟩ := hx
    obtain ⟨vs, rfl, iy⟩ := hy
    obtain ⟨hc, h⟩ := ck_iff.1 h
    obtain ⟨hfx, h⟩ := ck_iff.1 h
    obtain ⟨hfy, h⟩ := ck_iff.1 h
    obtain ⟨fs, hd, hfl, hst, hgd⟩ := hT.2.1 t hc
    have hfo : P.fieldsOf t = fs := by simp [Program.fieldsOf, hd]
    have hg := run_eqGuard_agg (P := P) w op t ox oy us vs hgd
    split at h
    · rename_i e he
      have heq : (Op.equalIn 10000 t (.agg us) (.agg vs)).run P w = .ok e w := by
        rw [run_equalIn_struct w 9999 t us vs (by rw [hfo]; exact hd) hst, hfo]
        exact eqFields_ok (d := 9998) hfx hfy ix iy fs.toList 0 e hfl (by simpa using he)
      cases op <;> first
        | exact h.elim
        | (refine ⟨_, _, h, ?_, rfl⟩
           rw [Sem.run_bind, hg, Result.andThen_ok]
           first | rw [run_eql_struct, heq] | rw [run_neq_struct, heq]
           simp [gb]; done)
    · exact h.elim
  · exact h.elim

theorem unK_ok {op : UnOp} {x : FV} {K : FV → Prop} {ux : Value} (h : unK op x K) (hx : VOK n0 φ H lam fr w x ux) : ∃ v u, K v ∧ (Op.unary op ux).run P w = .ok u w ∧ VOK n0 φ H lam fr w v u := by
  unfold unK at h
  split at h
  · cases hx; exact ⟨_, _, h, by simp [Op.unary], rfl⟩
  · cases hx; exact ⟨_, _, h, by simp [Op.unary, Op.intArith, wrapI], rfl⟩
  · cases hx; exact ⟨_, _, h, by simp [Op.unary, Op.intBits, bitsI], rfl⟩
  · exact h.elim

end
end Go.Am
namespace Go.Am

section
variable {P : Program} {cx : Cx} {n0 : Nat} {φ : List LI} {H : Hp} {lam : Nat → Nat} {fr : List FV} {w : World}

theorem min2K_ok {mx : Bool} {x y : FV} {K : FV → Prop} {ux uy : Value} (h : min2K mx x y K) (hx : VOK n0 φ H lam fr w x ux) (hy : VOK n0 φ H lam fr w y uy) :
    ∃ v u, K v ∧ (match mx with | true => Builtin.max2 ux uy | false => Builtin.min2 ux uy).run P w = .ok u w ∧ VOK n0 φ H lam fr w v u := by
  unfold min2K at h
  split at h
  · cases hx; cases hy
    cases mx with
    | true => exact ⟨_, _, h, by simp [Builtin.max2, mxI], rfl⟩
    | false => exact ⟨_, _, h, by simp [Builtin.min2, mnI], rfl⟩
  · exact h.elim

theorem lenK_ok (hT : TysOK P cx.tys) {t ty : TypeId} {x : FV} {K : FV → Prop} {ux : Value} (h : lenK cx t x K) (hx : VOK n0 φ H lam fr w x ux) :
    ∃ v u, K v ∧ (Builtin.len_ #[t] ty #[ux]).run P w = .ok u w ∧ VOK n0 φ H lam fr w v u := by
  unfold lenK at h
  split at h
  · obtain ⟨ht, h⟩ := ck_iff.1 h
    cases hx
    exact ⟨_, _, h, by simp [Builtin.len_, run_underlying (desc_string hT ht), goInt, sz], rfl⟩
  · rename_i a n z
    obtain ⟨ht, h⟩ := ck_iff.1 h
    have hd := desc_slice hT ht
    have hux : ∃ (p : Option Addr) (c : Nat), ux = .slice p n c := by
      cases a with
      | none => obtain ⟨e, rfl⟩ := hx; subst e; exact ⟨none, 0, rfl⟩
      | some q => obtain ⟨i, _⟩ := q; obtain ⟨_, _, _, _, rfl, _⟩ := hx; exact ⟨_, _, rfl⟩
    obtain ⟨p, c, rfl⟩ := hux
    exact ⟨_, _, h, by simp [Builtin.len_, run_underlying hd, goInt, nI], rfl⟩
  · rename_i cs n z
    obtain ⟨ht, h⟩ := ck_iff.1 h
    have hd := desc_slice hT ht
    obtain ⟨b, c, t', fz, rfl, _⟩ := hx
    exact ⟨_, _, h, by simp [Builtin.len_, run_underlying hd, goInt, nI], rfl⟩
  · exact h.elim

theorem run_loadAt (t : TypeId) (a : Addr) : (Instr.loadAt t (.pointer (some a))).run P w = (loadVar t a).run P w := by simp [Instr.loadAt, Instr.sureAddr]
theorem run_storeAt (t : TypeId) (a : Addr) (x : Value) : (Instr.storeAt t (.pointer (some a)) x).run P w = (storeVar t a x).run P w := by simp [Instr.storeAt, Instr.sureAddr]

theorem loadK_ok (hT : TysOK P cx.tys) {φ0 : List LI} {H0 : Hp} {w0 : World} {tmps : Array Value} (I : Inv φ0 H0 w0 φ H lam fr tmps w) {t : TypeId} {x : FV} {K : FV → Prop} {ux : Value} (ht : cx.okT t = true) (h : loadK cx t x (fun s => fr.getD s .bad) H K) (hx : VOK w0.heap.size φ H lam fr w x ux) :
    ∃ v u, K v ∧ (Instr.loadAt t ux).run P w = .ok u w ∧ VOK w0.heap.size φ H lam fr w v u := by
  unfold loadK at h
  split at h
  · rename_i s p
    dsimp only at h
    split at h
    · rename_i cs hcs
      obtain ⟨e, _, _, c, t', hb, his⟩ := I.slot s _ (getD_of hcs (by simp))
      cases hx
      obtain ⟨v, u, hk, hr, hv⟩ := cut_load (P := P) (H := H) hT ht his (w := w) (b := lam s) (o := p) (fun j y hy => by rw [cell_of hb]; simpa using hy) h
      exact ⟨v, u, hk, (run_loadAt _ _).trans hr, hv _ _ _ _⟩
    · exact h.elim
  · rename_i l p
    obtain ⟨i, hi, rfl⟩ := hx
    obtain ⟨cs, xs, h1, his, hl, hc⟩ := ldLeaves_ok I.rep hi h
    rcases oneK_ok h1 with ⟨ha, hk⟩ | ⟨ha, v, rfl, hk⟩
    · exact ⟨_, _, hk, (run_loadAt _ _).trans (run_loadVar_agg hT ht ha hc hl), ⟨_, rfl, by simpa using his⟩⟩
    · obtain ⟨x, xs, rfl, hvx, _⟩ := his.cons_inv
      exact ⟨_, _, hk, (run_loadAt _ _).trans (run_loadVar_one hT ht ha (hc 0 x (by simp))), hvx⟩
  · exact h.elim

theorem asIntOf_int (k : IntKind) (n : Int) : (asIntOf (.int k n)).run P w = .ok (k, n) w := rfl



def isBnd (a : Act) (d : Nat) : Option Operand → Nat → Prop
  | none, m => m = d
  | some x, m => ∃ k, a.eval x = .int k m
/-- a bound of a slice expression -/
theorem bndK_ok {φ0 : List LI} {H0 : Hp} {w0 : World} {tmps : Array Value} (I : Inv φ0 H0 w0 φ H lam fr tmps w) (df : List Deferred) {x : Option Operand} {d : Nat} {K : Nat → Prop} (h : bndK (ev fr) x d K) :
    ∃ m : Nat, K m ∧ isBnd ⟨tmps, df⟩ d x m := by
  cases x with
  | none => exact ⟨d, h, rfl⟩
  | some x =>
    have hv := I.ev df x
    have h' : (match ev fr x with | .g (.int _ n) => chk (leI 0 n) (K (tN n)) | _ => False) := h
    split at h'
    · rename_i k n e
      rw [e] at hv
      obtain ⟨h1, h⟩ := chk_iff.1 h'
      have h1 := leI_iff.1 h1
      refine ⟨_, h, k, ?_⟩
      rw [hv]; simp [tN]; omega
    · exact h'.elim

theorem run_bound {k : IntKind} {m y : Nat} {code : BoundsCode} (h : m ≤ y) : (Instr.sliceBound (.int k m) y code).run P w = .ok m w := by
  simp [Instr.sliceBound, asIntOf, h]

/-- the bounds of a slice expression -/
theorem run_bounds {tmps : Array Value} (df : List Deferred) {lo hi : Option Operand} {isS : Bool} {len cap l h : Nat}
    (hlo : isBnd ⟨tmps, df⟩ 0 lo l) (hhi : isBnd ⟨tmps, df⟩ len hi h) (h1 : l ≤ h) (h2 : h ≤ cap) :
    (Instr.sliceBounds isS len cap (lo.map (Act.eval ⟨tmps, df⟩)) (hi.map (Act.eval ⟨tmps, df⟩)) none).run P w = .ok (l, h, cap) w := by
  cases lo <;> cases hi <;> simp only [isBnd] at hlo hhi
  · subst hlo; subst hhi; simp [Instr.sliceBounds]
  · subst hlo; obtain ⟨k, e⟩ := hhi; simp [Instr.sliceBounds, e, run_bound h2]
  · subst hhi; obtain ⟨k, e⟩ := hlo; simp [Instr.sliceBounds, e, run_bound h1]
  · obtain ⟨k, e⟩ := hhi; obtain ⟨k', e'⟩ := hlo; simp [Instr.sliceBounds, e, e', run_bound h1, run_bound h2]

theorem run_sliceAt {t : TypeId} {d : TypeDesc} (hd : P.underlying t = some d) (hn : ∀ n e, d ≠ .array n e) (x : Value) (lo hi mx : Option Value) : (Instr.sliceAt t x lo hi mx).run P w = (Instr.slice t x lo hi mx).run P w := by
  unfold Instr.sliceAt
  rw [Sem.run_bind, run_underlying hd]
  cases d <;> first | rfl | exact (hn _ _ rfl).elim

theorem okz_or {a : Pl} {z' z : Nat} (h : okz a z' z = true) : z' = z ∨ a = none := by
  unfold okz at h
  split at h
  · rename_i e; exact .inl (by simpa using e)
  · split at h
    · exact .inr rfl
    · cases h

theorem room_le (hr : RepH φ H w) {l o m : Nat} {i : LI} (hi : φ[l]? = some i) (h : room H (some (l, o)) m = true) : o + m ≤ i.u := by
  unfold room at h
  simp only at h
  split at h
  · rename_i own t cs hl
    obtain ⟨i', hi', _, h2, _⟩ := hr.row l own t cs hl
    rw [hi] at hi'; cases hi'
    have := leN_iff.1 h; omega
  · cases h

theorem ends_le (hr : RepH φ H w) {l o k : Nat} {i : LI} (hi : φ[l]? = some i) (h : ends H (some (l, o)) k = true) : i.u ≤ o + k := by
  unfold ends at h
  simp only at h
  split at h
  · rename_i own t cs hl
    obtain ⟨i', hi', _, h2, _⟩ := hr.row l own t cs hl
    rw [hi] at hi'; cases hi'
    have := leN_iff.1 h; omega
  · cases h

theorem ends_own (hr : RepH φ H w) {l o k : Nat} {i : LI} (hi : φ[l]? = some i) (h : ends H (some (l, o)) k = true) (hw : i.own = true) : i.p = 0 ∧ i.u ≤ i.s := by
  unfold ends at h
  dsimp only at h
  split at h
  · rename_i own t cs hl
    obtain ⟨i', hi', hrow⟩ := hr.row l own t cs hl
    rw [hi] at hi'; cases hi'
    obtain ⟨r1, r2, r3, r4⟩ := hrow
    rw [hw] at r1
    subst r1
    obtain ⟨p0, c, t', fz, _, _, hs, _, hle, _⟩ := r4
    exact ⟨p0, by omega⟩
  · cases h

theorem sliceK_ok (hT : TysOK P cx.tys) {φ0 : List LI} {H0 : Hp} {w0 : World} {tmps : Array Value} (I : Inv φ0 H0 w0 φ H lam fr tmps w) (df : List Deferred) {t : TypeId} {x : FV} {lo hi : Option Operand} {K : FV → Prop} {ux : Value}
    (h : sliceK cx t x lo hi (ev fr) H K) (hx : VOK w0.heap.size φ H lam fr w x ux) :
    ∃ v u, K v ∧ (Instr.sliceAt t ux (lo.map (Act.eval ⟨tmps, df⟩)) (hi.map (Act.eval ⟨tmps, df⟩)) none).run P w = .ok u w ∧ VOK w0.heap.size φ H lam fr w v u := by
  unfold sliceK at h
  split at h
  · rename_i s
    cases hx
    obtain ⟨ht, h⟩ := ck_iff.1 h
    have hd := desc_string hT ht
    obtain ⟨hh, h, hhi⟩ := bndK_ok I df h
    obtain ⟨l, h, hlo⟩ := bndK_ok I df h
    obtain ⟨hc, h⟩ := chk_iff.1 h
    rw [Bool.and_eq_true] at hc
    have h1 := leN_iff.1 hc.1
    have h2 : hh ≤ s.size := leN_iff.1 hc.2
    refine ⟨_, _, h, ?_, rfl⟩
    rw [run_sliceAt hd (by simp)]
    have hb := run_bounds (P := P) (w := w) df (isS := false) (len := s.size) hlo hhi h1 h2
    simp [Instr.slice, run_underlying hd, hb, sub]
  · rename_i a n z'
    obtain ⟨ht, h⟩ := ck_iff.1 h
    obtain ⟨hz0, h⟩ := ck_iff.1 h
    obtain ⟨hz, h⟩ := chk_iff.1 h
    have hz0 := Nat.le_of_ble_eq_true hz0
    have hsl : (cx.ty t).isA 1 = true ∧ cx.okT (cx.ty t).el = true := by
      unfold Cx.isSl at ht; split at ht
      · rename_i e1 e2; exact ⟨e1, e2⟩
      · cases ht
    have hd := desc_slice hT hsl.1
    have hsz := run_sizeOf hT hsl.2 w
    generalize (cx.ty (cx.ty t).el).lv.length = z at *
    generalize (cx.ty t).el = e at *
    -- what the bounds say
    have hB : ∃ l hh : Nat, K (.g (.sl (shf a (l * z)) (hh - l) z)) ∧ isBnd ⟨tmps, df⟩ 0 lo l ∧ isBnd ⟨tmps, df⟩ n hi hh ∧ l ≤ hh ∧ (hh ≤ n ∨ room H a (hh * z) = true) := by
      split at h
      · obtain ⟨l, h, hlo⟩ := bndK_ok I df h
        obtain ⟨hc, h⟩ := chk_iff.1 h
        exact ⟨l, n, h, hlo, rfl, leN_iff.1 hc, .inl (Nat.le_refl _)⟩
      · rename_i y
        obtain ⟨hh, h, hhi⟩ := bndK_ok I df h
        obtain ⟨l, h, hlo⟩ := bndK_ok I df h
        obtain ⟨hc, h⟩ := chk_iff.1 h
        rw [Bool.and_eq_true, Bool.or_eq_true] at hc
        exact ⟨l, hh, h, hlo, hhi, leN_iff.1 hc.1, hc.2.imp leN_iff.1 id⟩
    obtain ⟨l, hh, hk, hlo, hhi, h1, h2⟩ := hB
    cases a with
    | none =>
      obtain ⟨rfl, rfl⟩ := hx
      have h2' : hh ≤ 0 := by
        rcases h2 with q | q
        · exact q
        · have q := leN_iff.1 (show leN (hh * z) 0 = true from q)
          have := Nat.le_of_mul_le_mul_right (by omega : hh * z ≤ 0 * z) hz0; omega
      have hb := run_bounds (P := P) (w := w) df (isS := true) (len := 0) hlo hhi h1 h2'
      have e1 : hh = 0 := by omega
      have e2 : l = 0 := by omega
      subst e1; subst e2
      refine ⟨_, _, hk, ?_, ⟨rfl, rfl⟩⟩
      rw [run_sliceAt hd (by simp)]
      simp [Instr.slice, run_underlying hd, hb, hsz]
    | some p =>
      obtain ⟨r, o⟩ := p
      obtain ⟨i, ad, c, hi', rfl, hq, hnc, hu, hown⟩ := hx
      have hz' : z' = z := by rcases okz_or hz with q | q; exact q; cases q
      subst hz'
      have h2' : hh ≤ c := by
        rcases h2 with q | q
        · omega
        · have := room_le I.rep hi' q
          exact Nat.le_of_mul_le_mul_right (by omega : hh * z' ≤ c * z') hz0
      have hb := run_bounds (P := P) (w := w) df (isS := true) (len := n) hlo hhi h1 h2'
      have hle : l * z' ≤ c * z' := Nat.mul_le_mul_right _ (by omega)
      have hsub : (c - l) * z' = c * z' - l * z' := Nat.sub_mul _ _ _
      refine ⟨_, .slice (some (if c = l then ad else ad.add (l * z'))) (hh - l) (c - l), hk, ?_, ⟨i, _, _, hi', rfl, ?_, by omega, ?_, ?_⟩⟩
      · rw [run_sliceAt hd (by simp)]
        simp only [Instr.slice, Sem.run_bind, run_underlying hd, Result.andThen_ok, hb, hsz, Sem.run_pure]
        split <;> simp
      · by_cases e : c = l
        · right; omega
        · left
          rw [if_neg e]
          rcases hq with q | q
          · subst q; rw [add_at, Nat.add_assoc]
          · omega
      · show i.u ≤ o + l * z' + (c - l) * z'
        omega
      · intro hw
        obtain ⟨g1, g2, g3⟩ := hown hw
        refine ⟨g1, ?_, by omega⟩
        show o + l * z' + (c - l) * z' ≤ i.s
        omega
  · rename_i r o
    obtain ⟨ht, h⟩ := ck_iff.1 h
    obtain ⟨he, h⟩ := ck_iff.1 h
    obtain ⟨hz0, h⟩ := ck_iff.1 h
    obtain ⟨hbig, h⟩ := ck_iff.1 h
    have hz0 := Nat.le_of_ble_eq_true hz0
    have hbig := Nat.le_of_ble_eq_true hbig
    obtain ⟨hh, hA, hhi⟩ := bndK_ok I df h
    clear h
    obtain ⟨l, hB, hlo⟩ := bndK_ok I df hA
    clear hA
    obtain ⟨hc, hk⟩ := chk_iff.1 hB
    clear hB
    rw [Bool.and_eq_true, Bool.and_eq_true, Bool.and_eq_true] at hc
    obtain ⟨c1, c2, c3, c4⟩ := hc
    have c1 := leN_iff.1 c1
    have c2 := leN_iff.1 c2
    have hd := desc_array hT ht
    have hsz := run_sizeOf hT he w
    generalize (cx.ty (cx.ty t).el).lv.length = z at *
    generalize (cx.ty t).an = n at *
    obtain ⟨i, hi', rfl⟩ := hx
    have u1 := room_le I.rep hi' c3
    have u2 := ends_le I.rep hi' c4
    have hb := run_bounds (P := P) (w := w) df (isS := false) (len := n) (cap := n) hlo hhi c1 c2
    have hle : l * z ≤ n * z := Nat.mul_le_mul_right _ (by omega)
    have hsub : (n - l) * z = n * z - l * z := Nat.sub_mul _ _ _
    refine ⟨_, .slice (some (if n = l then ⟨i.b, i.p + o, none⟩ else (⟨i.b, i.p + o, none⟩ : Addr).add (l * z))) (hh - l) (n - l), hk, ?_, ⟨i, _, _, hi', rfl, ?_, by omega, ?_, ?_⟩⟩
    · simp only [Instr.sliceAt, Instr.sureAddr, Sem.run_bind, run_underlying hd, Result.andThen_ok, hb, hsz, Sem.run_pure, Option.map_none]
    · by_cases e : n = l
      · right; omega
      · left
        rw [if_neg e, add_at, Nat.add_assoc]
    · show i.u ≤ o + l * z + (n - l) * z
      omega
    · intro hw
      obtain ⟨g1, g2⟩ := ends_own I.rep hi' c4 hw
      refine ⟨g1, ?_, by omega⟩
      show o + l * z + (n - l) * z ≤ i.s
      omega
  · exact h.elim


theorem run_bounds3 {tmps : Array Value} (df : List Deferred) {lo : Option Operand} {hi mx : Operand} {len cap l h m d d' : Nat}
    (hlo : isBnd ⟨tmps, df⟩ 0 lo l) (hhi : isBnd ⟨tmps, df⟩ d (some hi) h) (hmx : isBnd ⟨tmps, df⟩ d' (some mx) m) (h1 : l ≤ h) (h2 : h ≤ m) (h3 : m ≤ cap) :
    (Instr.sliceBounds true len cap (lo.map (Act.eval ⟨tmps, df⟩)) ((some hi).map (Act.eval ⟨tmps, df⟩)) ((some mx).map (Act.eval ⟨tmps, df⟩))).run P w = .ok (l, h, m) w := by
  obtain ⟨k1, e1⟩ := hhi
  obtain ⟨k2, e2⟩ := hmx
  cases lo <;> simp only [isBnd] at hlo
  · subst hlo; simp [Instr.sliceBounds, e1, e2, run_bound h2, run_bound h3]
  · obtain ⟨k, e⟩ := hlo; simp [Instr.sliceBounds, e, e1, e2, run_bound h1, run_bound h2, run_bound h3]

theorem slice3K_ok (hT : TysOK P cx.tys) {φ0 : List LI} {H0 : Hp} {w0 : World} {tmps : Array Value} (I : Inv φ0 H0 w0 φ H lam fr tmps w) (df : List Deferred) {t : TypeId} {x : FV} {lo hi : Option Operand} {mx : Operand} {K : FV → Prop} {ux : Value}
    (h : slice3K cx t x lo hi mx (ev fr) H K) (hx : VOK w0.heap.size φ H lam fr w x ux) :
    ∃ v u, K v ∧ (Instr.sliceAt t ux (lo.map (Act.eval ⟨tmps, df⟩)) (hi.map (Act.eval ⟨tmps, df⟩)) ((some mx).map (Act.eval ⟨tmps, df⟩))).run P w = .ok u w ∧ VOK w0.heap.size φ H lam fr w v u := by
  unfold slice3K at h
  split at h
  · rename_i a n z' hi
    obtain ⟨ht, h⟩ := ck_iff.1 h
    obtain ⟨hz0, h⟩ := ck_iff.1 h
    obtain ⟨hz, h⟩ := chk_iff.1 h
    have hz0 := Nat.le_of_ble_eq_true hz0
    have hsl : (cx.ty t).isA 1 = true ∧ cx.okT (cx.ty t).el = true := by
      unfold Cx.isSl at ht; split at ht
      · rename_i e1 e2; exact ⟨e1, e2⟩
      · cases ht
    have hd := desc_slice hT hsl.1
    have hsz := run_sizeOf hT hsl.2 w
    obtain ⟨m, h, hmx⟩ := bndK_ok I df h
    obtain ⟨hh, h, hhi⟩ := bndK_ok I df h
    obtain ⟨l, h, hlo⟩ := bndK_ok I df h
    obtain ⟨hc, hk⟩ := chk_iff.1 h
    simp only [Bool.and_eq_true] at hc
    obtain ⟨c1, c2, c3, c4⟩ := hc
    have c1 := leN_iff.1 c1
    have c2 := leN_iff.1 c2
    have c3 := leN_iff.1 c3
    generalize (cx.ty (cx.ty t).el).lv.length = z at *
    generalize (cx.ty t).el = e at *
    cases a with
    | none =>
      obtain ⟨e0, rfl⟩ := hx
      have e3 : m = 0 := by omega
      have e1 : hh = 0 := by omega
      have e2 : l = 0 := by omega
      subst e1; subst e2; subst e3
      have hb := run_bounds3 (P := P) (w := w) df (len := 0) (cap := 0) hlo hhi hmx c1 c2 (by omega)
      simp only [Option.map_some] at hb
      refine ⟨_, _, hk, ?_, ⟨by omega, rfl⟩⟩
      rw [run_sliceAt hd (by simp)]
      simp [Instr.slice, run_underlying hd, hb, hsz]
    | some p =>
      obtain ⟨r, o⟩ := p
      obtain ⟨i, ad, c, hi', rfl, hq, hnc, hu, hown⟩ := hx
      have hz' : z' = z := by rcases okz_or hz with q | q; exact q; cases q
      subst hz'
      have hend := ends_le I.rep hi' c4
      have hb := run_bounds3 (P := P) (w := w) df (len := n) (cap := c) hlo hhi hmx c1 c2 (by omega)
      have hle : l * z' ≤ m * z' := Nat.mul_le_mul_right _ (by omega)
      have hle2 : m * z' ≤ c * z' := Nat.mul_le_mul_right _ (by omega)
      have hsub : (m - l) * z' = m * z' - l * z' := Nat.sub_mul _ _ _
      refine ⟨_, .slice (some (if m = l then ad else ad.add (l * z'))) (hh - l) (m - l), hk, ?_, ⟨i, _, _, hi', rfl, ?_, by omega, ?_, ?_⟩⟩
      · rw [run_sliceAt hd (by simp)]
        simp only [Instr.slice, Sem.run_bind, run_underlying hd, Result.andThen_ok, hb, hsz, Sem.run_pure]
        split <;> simp
      · by_cases e : m = l
        · right; omega
        · left
          rw [if_neg e]
          rcases hq with q | q
          · subst q; rw [add_at, Nat.add_assoc]
          · omega
      · show i.u ≤ o + l * z' + (m - l) * z'
        omega
      · intro hw
        obtain ⟨g1, g2, g3⟩ := hown hw
        refine ⟨g1, ?_, by omega⟩
        show o + l * z' + (m - l) * z' ≤ i.s
        omega
  · exact h.elim

end
end Go.Am
namespace Go.Am

section
variable {P : Program} {cx : Cx} {n0 : Nat} {φ : List LI} {H : Hp} {lam : Nat → Nat} {fr : List FV} {w : World}

theorem fsEq_get : ∀ {l : List (Nat × Nat)} {fs : List Field} {f : Nat} {p t : Nat}, fsEq l fs = true → l[f]? = some (p, t) → ∃ g, fs[f]? = some g ∧ g.offset = p ∧ g.type = t
  | [], _, f, p, t, _, h => by simp at h
  | (a, b) :: l, [], f, p, t, h, _ => by simp [fsEq] at h
  | (a, b) :: l, g :: fs, f, p, t, h, hf => by
    simp only [fsEq, Bool.and_eq_true] at h
    cases f with
    | zero => simp at hf; exact ⟨g, by simp, by rw [← hf.1]; exact (beq_eq h.1.1).symm, by rw [← hf.2]; exact (beq_eq h.1.2).symm⟩
    | succ f => simp at hf ⊢; exact fsEq_get h.2 hf

theorem okT_of_agg {t : TypeId} (h : (cx.ty t).agg = true) : cx.okT t = true := by
  unfold Cx.okT TI.ok; rw [h]
/-- a struct's field -/
theorem desc_field (hT : TysOK P cx.tys) {t : TypeId} (ht : (cx.ty t).agg = true) {f p e : Nat} (hf : (cx.ty t).fs[f]? = some (p, e)) :
    ∃ fs g, P.underlying t = some (.struct fs) ∧ fs[f]? = some g ∧ g.offset = p ∧ g.type = e := by
  obtain ⟨d, hd, hok⟩ := run_under hT (okT_of_agg ht)
  have key : ∀ fs, d = .struct fs → ∃ g, fs[f]? = some g ∧ g.offset = p ∧ g.type = e := by
    intro fs e'; subst e'
    simp only [descOK, Bool.and_eq_true] at hok
    obtain ⟨g, h1, h2⟩ := fsEq_get hok.2 hf
    exact ⟨g, by simpa using h1, h2⟩
  cases d with
  | struct fs => obtain ⟨g, h⟩ := key fs rfl; exact ⟨fs, g, hd, h⟩
  | array n el =>
    simp only [descOK, Bool.and_eq_true] at hok
    have := hok.1.1.2
    split at this
    · rename_i e'; rw [e'] at hf; simp at hf
    · cases this
  | _ => simp [descOK, ht] at hok

theorem fldK_ok (hT : TysOK P cx.tys) {t e : TypeId} {x : FV} {f p : Nat} {K : FV → Prop} {ux : Value} (ht : (cx.ty t).agg = true) (he : cx.okT e = true) (hpos : 1 ≤ (cx.ty e).lv.length) (hf : (cx.ty t).fs[f]? = some (p, e)) (h : fldK x p K) (hx : VOK n0 φ H lam fr w x ux) :
    ∃ v u, K v ∧ (Instr.fieldAt t ux f).run P w = .ok u w ∧ VOK n0 φ H lam fr w v u := by
  obtain ⟨fs, g, hd, hg, rfl, rfl⟩ := desc_field hT ht hf
  have hs := run_sizeOf hT he w
  have hne : (cx.ty g.type).lv.length ≠ 0 := by omega
  have run : ∀ b o, (Instr.fieldAt t (.pointer (some ⟨b, o, none⟩)) f).run P w = .ok (.pointer (some ⟨b, o + g.offset, none⟩)) w := by
    intro b o
    simp [Instr.fieldAt, run_underlying hd, hg, Instr.sureAddr, fieldPlace, hs, hne, add_at]
  unfold fldK at h
  split at h
  · cases hx; exact ⟨_, _, h, run _ _, rfl⟩
  · obtain ⟨i, hi, rfl⟩ := hx
    exact ⟨_, _, h, run _ _, i, hi, by simp [Nat.add_assoc]⟩
  · exact h.elim

theorem field_ok (hT : TysOK P cx.tys) {t e : TypeId} {cs : List GV} {f p : Nat} {K : FV → Prop} {ux : Value} (ht : (cx.ty t).agg = true) (he : cx.okT e = true) (hf : (cx.ty t).fs[f]? = some (p, e)) (h : cutK cs p (cx.ty e).lv.length (cx.ty e).agg K) (hx : VOK n0 φ H lam fr w (.agg cs) ux) :
    ∃ v u, K v ∧ (Instr.field t ux f).run P w = .ok u w ∧ VOK n0 φ H lam fr w v u := by
  obtain ⟨fs, g, hd, hg, rfl, rfl⟩ := desc_field hT ht hf
  obtain ⟨us, rfl, his⟩ := hx
  have hs := run_sizeOf hT he w
  have ha := run_isAgg hT he w
  rcases cutK_ok h with ⟨h1, h2, h3⟩ | ⟨h1, v, h2, h3⟩
  · rw [h1] at ha
    refine ⟨_, _, h3, ?_, ⟨us.extract g.offset (g.offset + (cx.ty g.type).lv.length), rfl, ?_⟩⟩
    · simp [Instr.field, run_underlying hd, hg, asAgg, part, ha, hs]
    · have := (his.drop g.offset).take (cx.ty g.type).lv.length
      simpa [List.extract_eq_take_drop] using this
  · rw [h1] at ha
    obtain ⟨x, hx, hvx⟩ := his.get h2
    refine ⟨_, x, h3, ?_, hvx⟩
    have : us[g.offset]? = some x := by simpa using hx
    simp [Instr.field, run_underlying hd, hg, asAgg, part, ha, this]

theorem isSl_iff {t : TypeId} (h : cx.isSl t = true) : (cx.ty t).isA 1 = true ∧ cx.okT (cx.ty t).el = true := by
  unfold Cx.isSl at h; split at h
  · rename_i e1 e2; exact ⟨e1, e2⟩
  · cases h

theorem idxK_ok (hT : TysOK P cx.tys) {t : TypeId} {x i : FV} {K : FV → Prop} {ux ui : Value} (h : idxK cx t x i K) (hx : VOK n0 φ H lam fr w x ux) (hi : VOK n0 φ H lam fr w i ui) :
    ∃ v u, K v ∧ (Instr.indexAt t ux ui).run P w = .ok u w ∧ VOK n0 φ H lam fr w v u := by
  unfold idxK at h
  split at h
  · rename_i a n z' k j
    cases hi
    obtain ⟨ht, h⟩ := ck_iff.1 h
    obtain ⟨hz, h⟩ := chk_iff.1 h
    obtain ⟨hj, h⟩ := chk_iff.1 h
    rw [Bool.and_eq_true] at hj
    have h1 := leI_iff.1 hj.1
    have h2 : j < n := ltI_iff.1 hj.2
    have ht := isSl_iff ht
    have hd := desc_slice hT ht.1
    have hs := run_sizeOf hT ht.2 w
    cases a with
    | none => exact h.elim
    | some pl =>
      obtain ⟨l, o⟩ := pl
      obtain ⟨i, ad, c, hi, rfl, hq, hnc, _⟩ := hx
      obtain rfl : ad = ⟨i.b, i.p + o, none⟩ := by rcases hq with q | q; exact q; omega
      refine ⟨_, _, h, ?_, i, hi, rfl⟩
      simp only [Instr.indexAt, Sem.run_bind, asIntOf_int, Result.andThen_ok, run_underlying hd, Sem.run_pure, Sem.run_ite, h1, h2, and_self, if_true, hs, add_at]
      simp [tN, Nat.add_assoc]
  · rename_i l o k j
    cases hi
    obtain ⟨ht, h⟩ := ck_iff.1 h
    obtain ⟨he, h⟩ := ck_iff.1 h
    obtain ⟨hj, h⟩ := chk_iff.1 h
    rw [Bool.and_eq_true] at hj
    have h1 := leI_iff.1 hj.1
    have h2 : j < ((cx.ty t).an : Int) := ltI_iff.1 hj.2
    have hd := desc_array hT ht
    have hs := run_sizeOf hT he w
    obtain ⟨i, hi, rfl⟩ := hx
    refine ⟨_, _, h, ?_, i, hi, rfl⟩
    simp only [Instr.indexAt, Instr.sureAddr, Sem.run_bind, asIntOf_int, Result.andThen_ok, run_underlying hd, Sem.run_pure, Sem.run_ite, h1, h2, and_self, if_true, hs, add_at]
    simp [tN, Nat.add_assoc]
  · exact h.elim

theorem index_ok (hT : TysOK P cx.tys) {t : TypeId} {s : ByteArray} {k : IntKind} {j : Int} (ht : (cx.ty t).isA 3 = true) (h1 : 0 ≤ j) (h2 : j < s.size) :
    (Instr.index t (.string s) (.int k j)).run P w = .ok (.int .u8 (byt s (tN j))) w := by
  have hd := desc_string hT ht
  have hlt : j.toNat < s.size := by omega
  simp [Instr.index, asIntOf, run_underlying hd, h1, ByteArray.getElem?_lt' s j.toNat hlt, byt, tN]
  show (s.data[j.toNat].toNat : Int) = _
  rw [Array.getElem?_eq_getElem (show j.toNat < s.data.size from hlt)]
  simp

theorem extract_ok {vs : List RV} {i : Nat} {us : Array Value} (h : All2 (RV.is φ) vs us.toList) {r : RV} (hr : vs[i]? = some r) : ∃ u, (Instr.extract (.tuple us) i).run P w = .ok u w ∧ r.is φ u := by
  obtain ⟨u, hu, hru⟩ := h.get hr
  have hu' : us[i]? = some u := by simpa using hu
  exact ⟨u, by simp [Instr.extract, hu'], hru⟩

theorem capsK_ok {φ0 : List LI} {H0 : Hp} {w0 : World} {tmps : Array Value} (I : Inv φ0 H0 w0 φ H lam fr tmps w) (df : List Deferred) : ∀ {xs : List Operand} {K : List (Nat × Nat) → Prop}, capsK (ev fr) xs K →
    ∃ caps, K caps ∧ All2 (capIs φ) caps (xs.map (Act.eval ⟨tmps, df⟩))
  | [], K, h => ⟨[], h, .nil⟩
  | x :: xs, K, h => by
    have hv := I.ev df x
    have h' : (match ev fr x with | .g (.ptr (some p)) => capsK (ev fr) xs fun r => K (p :: r) | _ => False) := h
    split at h'
    · rename_i p e
      rw [e] at hv
      obtain ⟨caps, h1, h2⟩ := capsK_ok I df h'
      exact ⟨p :: caps, h1, .cons hv h2⟩
    · exact h'.elim

end
end Go.Am
namespace Go.Am

theorem foldl_fill (off : Nat) : ∀ (vs : List Value) (k : Nat) (cells : Array Value), off + k + vs.length ≤ cells.size →
    ((vs.zipIdx k).foldl (fun (cs : Array Value) (c, j) => cs.setIfInBounds (off + j) c) cells).toList = cells.toList.take (off + k) ++ vs ++ cells.toList.drop (off + k + vs.length)
  | [], k, cells, h => by simp
  | v :: vs, k, cells, h => by
    simp only [List.zipIdx_cons, List.foldl_cons]
    rw [foldl_fill off vs (k + 1) _ (by simp at h ⊢; omega)]
    rw [Array.toList_setIfInBounds]
    have := list_set_append cells.toList (off + k) v vs (by simp at h ⊢; omega)
    rw [show off + (k + 1) = off + k + 1 by omega, ← this]
    simp

theorem fill_one {place : Nat → Option (Nat × Nat)} {i off : Nat} {v : Value} {rest : List (Nat × Value)} {cells : Array Value} (hp : place i = some (off, v.cells.size)) (hle : off + v.cells.size ≤ cells.size) :
    Instr.fill place cells ((i, v) :: rest) = Instr.fill place (cells.toList.take off ++ v.cells.toList ++ cells.toList.drop (off + v.cells.size)).toArray rest := by
  simp only [Instr.fill, hp]
  have h : ¬ (off + v.cells.size > cells.size) := by omega
  simp only [ne_eq, not_true_eq_false, decide_false, Bool.false_or, h, Bool.false_eq_true, if_false]
  congr 1
  apply Array.ext'
  rw [← Array.foldl_toList, Array.toList_zipIdx]
  have := foldl_fill off v.cells.toList 0 cells (by simpa using hle)
  simpa using this

section
variable {P : Program} {cx : Cx} {φ : List LI} {H : Hp} {lam : Nat → Nat} {fr : List FV} {w : World} {φ0 : List LI} {H0 : Hp} {w0 : World} {tmps : Array Value}

theorem Is2.fill {zs cs : List GV} {ys xs : List Value} (hz : Is2 φ zs ys) (hc : Is2 φ cs xs) (p n : Nat) : Is2 φ (zs.take p ++ cs ++ zs.drop n) (ys.take p ++ xs ++ ys.drop n) :=
  ((hz.take p).append hc).append (hz.drop n)

theorem bldK_ok (I : Inv φ0 H0 w0 φ H lam fr tmps w) (df : List Deferred) (t : Nat) (place : Nat → Option (Nat × Nat)) (hp : ∀ i p e, (cx.ty t).fs[i]? = some (p, e) → place i = some (p, (cx.ty e).lv.length)) :
    ∀ {parts : List (Nat × Operand)} {zs : List GV} {cells : Array Value} {K : List GV → Prop}, bldK cx (ev fr) t zs parts K → Is2 φ zs cells.toList → (∀ p : Nat, ∀ e, (p, e) ∈ (cx.ty t).fs → p + (cx.ty e).lv.length ≤ zs.length) →
      ∃ zs' cells', K zs' ∧ Instr.fill place cells (parts.map fun (i, x) => (i, Act.eval ⟨tmps, df⟩ x)) = some cells' ∧ Is2 φ zs' cells'.toList
  | [], zs, cells, K, h, his, _ => ⟨zs, cells, h, rfl, his⟩
  | (i, x) :: ps, zs, cells, K, h, his, hb => by
    have hv := I.ev df x
    have h' : (match (cx.ty t).fs[i]? with
      | some (p, e) => cellsK (ev fr x) fun cs => ck (cx.okT e) (ck (Nat.beq cs.length (cx.ty e).lv.length) (fillK zs p cs fun zs => bldK cx (ev fr) t zs ps K))
      | none => False) := h
    split at h'
    · rename_i p e hf
      obtain ⟨cs, h1, hcs⟩ := cellsK_ok h' hv
      obtain ⟨_, h1⟩ := ck_iff.1 h1
      obtain ⟨hl, h1⟩ := ck_iff.1 h1
      have hl := beq_eq hl
      obtain ⟨zs', h2, hzl, hle, rfl⟩ := fillK_ok h1
      have hcl := hcs.length
      have hsz : (Act.eval ⟨tmps, df⟩ x).cells.size = (cx.ty e).lv.length := by rw [← hl, hcl]; simp
      have hbp := hb p e (List.mem_of_getElem? hf)
      have hzlen := his.length
      have hf' := hp i p e hf
      rw [← hsz] at hf'
      obtain ⟨zs'', cells', h3, h4, h5⟩ := bldK_ok I df t place hp (cells := ((cells.toList.take p ++ (Act.eval ⟨tmps, df⟩ x).cells.toList ++ cells.toList.drop (p + (Act.eval ⟨tmps, df⟩ x).cells.size)).toArray)) h2
        (by simpa [hsz, hl] using Is2.fill his hcs p (p + cs.length)) (by rw [hzl]; exact hb)
      refine ⟨zs'', cells', h3, ?_, h5⟩
      rw [List.map_cons, fill_one hf' (by simp at hzlen; omega)]
      exact h4
    · exact h'.elim

theorem blsK_ok (I : Inv φ0 H0 w0 φ H lam fr tmps w) (df : List Deferred) {z : Nat} (hz1 : 1 ≤ z) :
    ∀ {parts : List (Nat × Operand)} {zs : List GV} {cells : Array Value} {K : List GV → Prop}, blsK (ev fr) z zs parts K → Is2 φ zs cells.toList → 
      ∃ zs' cells', K zs' ∧ zs'.length = zs.length ∧ Instr.fill (fun i => some (i * z, z)) cells (parts.map fun (i, x) => (i, Act.eval ⟨tmps, df⟩ x)) = some cells' ∧ Is2 φ zs' cells'.toList
  | [], zs, cells, K, h, his => ⟨zs, cells, h, rfl, rfl, his⟩
  | (i, x) :: ps, zs, cells, K, h, his => by
    have hv := I.ev df x
    have h' : cellsK (ev fr x) fun cs => ck (Nat.beq cs.length z) (fillK zs (i * z) cs fun zs => blsK (ev fr) z zs ps K) := h
    obtain ⟨cs, h1, hcs⟩ := cellsK_ok h' hv
    obtain ⟨hl, h1⟩ := ck_iff.1 h1
    have hl := beq_eq hl
    obtain ⟨zs', h2, hzl, hle, rfl⟩ := fillK_ok h1
    have hcl := hcs.length
    have hsz : (Act.eval ⟨tmps, df⟩ x).cells.size = z := by rw [← hl, hcl]; simp
    have hzlen := his.length
    have hbad : cs ≠ [] := by intro e; subst e; simp at hl; omega
    have hle : i * z + cs.length ≤ zs.length := by simpa [hbad] using hle
    obtain ⟨zs'', cells', h3, h3', h4, h5⟩ := blsK_ok I df hz1 (cells := ((cells.toList.take (i * z) ++ (Act.eval ⟨tmps, df⟩ x).cells.toList ++ cells.toList.drop (i * z + (Act.eval ⟨tmps, df⟩ x).cells.size)).toArray)) h2
        (by simpa [hsz, hl] using Is2.fill his hcs (i * z) (i * z + cs.length))
    refine ⟨zs'', cells', h3, by rw [h3', hzl], ?_, h5⟩
    rw [List.map_cons, fill_one (by rw [hsz]) (by simp at hzlen; omega)]
    exact h4


theorem okFs_all : ∀ {l : List (Nat × Nat)} {n : Nat}, cx.okFs n l = true → ∀ p e, (p, e) ∈ l → cx.okT e = true ∧ p + (cx.ty e).lv.length ≤ n
  | [], n, _, p, e, h => by cases h
  | (p0, t0) :: l, n, h, p, e, hm => by
    unfold Cx.okFs at h
    split at h
    · rename_i h1 h2
      cases hm with
      | head => exact ⟨h1, Nat.le_of_ble_eq_true h2⟩
      | tail _ hm => exact okFs_all h p e hm
    · cases h

theorem places_ok (hT : TysOK P cx.tys) : ∀ {l : List (Nat × Nat)} {fs : List Field}, fsEq l fs = true → (∀ p e, (p, e) ∈ l → cx.okT e = true) →
    fs.mapM (fun f => (P.info? f.type).map fun i => (f.offset, i.size)) = some (l.map fun pe => (pe.1, (cx.ty pe.2).lv.length))
  | [], [], _, _ => rfl
  | [], _ :: _, h, _ => by simp [fsEq] at h
  | (_, _) :: _, [], h, _ => by simp [fsEq] at h
  | (p, e) :: l, f :: fs, h, hok => by
    simp only [fsEq, Bool.and_eq_true] at h
    have h1 := beq_eq h.1.1
    have h2 := beq_eq h.1.2
    subst h1; subst h2
    obtain ⟨i, z, hi, hs, _⟩ := run_info hT (hok _ _ (.head _))
    have ih := places_ok hT h.2 (fun p e hm => hok p e (.tail _ hm))
    simp [List.mapM_cons, hi, hs, ih]

theorem build_ok (hT : TysOK P cx.tys) (I : Inv φ0 H0 w0 φ H lam fr tmps w) (df : List Deferred) {t : Nat} {parts : Array (Nat × Operand)} {K : List GV → Prop} (ht : (cx.ty t).agg = true) (hk0 : (cx.ty t).k = 0) (hfs : cx.okFs (cx.ty t).lv.length (cx.ty t).fs = true)
    (h : bldK cx (ev fr) t (zerosK (cx.ty t).lv) parts.toList K) : ∃ cs u, K cs ∧ (Instr.build t (parts.map fun (i, x) => (i, Act.eval ⟨tmps, df⟩ x))).run P w = .ok u w ∧ VOK w0.heap.size φ H lam fr w (.agg cs) u := by
  obtain ⟨i, z, hi, hs, hz, hzc, _⟩ := run_info hT (okT_of_agg ht)
  obtain ⟨d, hd, hok⟩ := run_under hT (okT_of_agg ht)
  have hall := okFs_all hfs
  have hzl : z.cells.toList.length = (cx.ty t).lv.length := by rw [hzc]; simp
  have hzi : Is2 φ (zerosK (cx.ty t).lv) z.cells.toList := by rw [hzc]; exact zeros_is φ _
  have fin : ∀ place, (∀ i p e, (cx.ty t).fs[i]? = some (p, e) → place i = some (p, (cx.ty e).lv.length)) → (∀ cells', Instr.fill place z.cells (parts.toList.map fun (i, x) => (i, Act.eval ⟨tmps, df⟩ x)) = some cells' → P.built t (parts.map fun (i, x) => (i, Act.eval ⟨tmps, df⟩ x)).toList = some cells') →
      ∃ cs u, K cs ∧ (Instr.build t (parts.map fun (i, x) => (i, Act.eval ⟨tmps, df⟩ x))).run P w = .ok u w ∧ VOK w0.heap.size φ H lam fr w (.agg cs) u := by
    intro place hp hb
    obtain ⟨zs', cells', h1, h2, h3⟩ := bldK_ok I df t place hp h hzi (fun p e hm => by have := (hall p e hm).2; simp [zerosK]; exact this)
    exact ⟨zs', _, h1, run_build w t _ cells' (hb _ h2), cells', rfl, h3⟩
  cases d with
  | struct fs =>
    simp only [descOK, Bool.and_eq_true] at hok
    have hpl := places_ok hT hok.2 (fun p e hm => (hall p e hm).1)
    refine fin (((cx.ty t).fs.map fun pe => (pe.1, (cx.ty pe.2).lv.length))[·]?) (fun i p e hf => by simp [hf]) (fun cells' hc => ?_)
    simp only [Program.built, hi, hd, hz, hpl, Array.toList_map]
    simpa using hc
  | array n e => simp [descOK, hk0] at hok
  | _ => simp [descOK, ht, hk0] at hok

theorem rep_get {α : Type} (cs : List α) : ∀ (n j : Nat), (List.replicate n cs).flatten[j]? = if j < n * cs.length then cs[j % cs.length]? else none
  | 0, j => by simp
  | n + 1, j => by
    rw [List.replicate_succ, List.flatten_cons]
    by_cases h : j < cs.length
    · rw [List.getElem?_append_left h, Nat.mod_eq_of_lt h, if_pos]
      rw [Nat.succ_mul]; omega
    · rw [List.getElem?_append_right (by omega), rep_get cs n]
      have h1 : (j - cs.length) % cs.length = j % cs.length := by rw [← Nat.mod_eq_sub_mod (by omega)]
      rw [h1, Nat.succ_mul]
      by_cases h2 : j - cs.length < n * cs.length
      · rw [if_pos h2, if_pos (by omega)]
      · rw [if_neg h2, if_neg (by omega)]

theorem rep_is (φ : List LI) (ks : List LK) (zc : Array Value) (hz : zc.toList = ks.map zV) (n m : Nat) (hm : m = n * ks.length) : Is2 φ (repK n (zerosK ks)) ((Array.range m).map (zc[· % zc.size]!)).toList := by
  have hsz : zc.size = ks.length := by rw [← Array.length_toList, hz]; simp
  subst hm
  apply All2.of_get
  · simp [repK, zerosK]
  · intro j a b ha hb
    have e1 : (zerosK ks).length = ks.length := by simp [zerosK]
    rw [repK, rep_get, e1] at ha
    split at ha
    · rename_i hj
      have hpos : 0 < ks.length := by
        rcases Nat.eq_zero_or_pos ks.length with h | h
        · rw [h] at hj; omega
        · exact h
      have hlt : j % ks.length < ks.length := Nat.mod_lt _ hpos
      simp [hj] at hb
      obtain ⟨x, hx, hax⟩ := (zeros_is φ ks).get ha
      have hx' : zc[j % zc.size]? = some x := by rw [hsz, ← Array.getElem?_toList, hz]; exact hx
      rw [← hb]
      simpa [Array.getElem!_eq_getD, hx'] using hax
    · cases ha


/-! ## blocks -/
/-- a slice's literal -/
theorem run_buildSlice (hT : TysOK P cx.tys) (I : Inv φ0 H0 w0 φ H lam fr tmps w) (df : List Deferred) {t n : Nat} {parts : Array (Nat × Operand)} {K : List GV → Prop} (ht : cx.isSl t = true) (hz : 1 ≤ (cx.ty (cx.ty t).el).lv.length)
    (hn : n * (cx.ty (cx.ty t).el).lv.length ≤ 16777216) (h : blsK (ev fr) (cx.ty (cx.ty t).el).lv.length (repK n (zerosK (cx.ty (cx.ty t).el).lv)) parts.toList K) :
    ∃ cs cells, K cs ∧ cs.length = n * (cx.ty (cx.ty t).el).lv.length ∧ cs.length = cells.size ∧ Is2 φ cs cells.toList ∧ (Instr.buildSlice t n (parts.map fun (i, x) => (i, Act.eval ⟨tmps, df⟩ x))).run P w = .ok (.slice (some ⟨w.heap.size, 0, none⟩) n n) (w.alloc (.cells cells (cx.ty t).el)) := by
  have ht := isSl_iff ht
  have hd := desc_slice hT ht.1
  have hs := run_sizeOf hT ht.2 w
  obtain ⟨i, z, hi, hs', hz', hzc, _⟩ := run_info hT ht.2
  obtain ⟨cs, cells, h1, h2, h3, h4⟩ := blsK_ok I df hz (cells := (Array.range (n * (cx.ty (cx.ty t).el).lv.length)).map (z.cells[· % z.cells.size]!)) h (rep_is φ _ z.cells hzc n _ rfl)
  have h5 := h4.length
  refine ⟨cs, cells, h1, by rw [h2]; simp [repK, zerosK], by simpa using h5, h4, ?_⟩
  have hn' : ¬ (16777216 < n * (cx.ty (cx.ty t).el).lv.length) := by omega
  by_cases h0 : n * (cx.ty (cx.ty t).el).lv.length = 0
  · rw [h0] at h3
    simp [Array.range_zero'] at h3
    simp [Instr.buildSlice, run_underlying hd, hs, h0, Array.range_zero', h3, newRow]
  · simp [Instr.buildSlice, run_underlying hd, hs, hn', h0, zeroValue, typeInfo, hi, hz', h3, newRow]

/-- a box -/
theorem run_box (t : TypeId) (v : Value) : (Instr.box t v).run P w = .ok (.pointer (some ⟨w.heap.size, 0, none⟩)) (w.alloc (.cells v.cells t)) := by simp [Instr.box, newVar, newRow]
theorem run_alloc (hT : TysOK P cx.tys) {t : TypeId} (ht : cx.okT t = true) : ∃ z : Value, z.cells.toList = (cx.ty t).lv.map zV ∧ (Instr.alloc t true (.tuple #[])).run P w = .ok (.pointer (some ⟨w.heap.size, 0, none⟩)) (w.alloc (.cells z.cells t)) := by
  obtain ⟨i, z, hi, hs', hz', hzc, _⟩ := run_info hT ht
  exact ⟨z, hzc, by simp [Instr.alloc, zeroValue, typeInfo, hi, hz', newVar, newRow]⟩

/-- a block that no row lies in is new -/
theorem Inv.alloc (I : Inv φ0 H0 w0 φ H lam fr tmps w) (o : Go.Obj) : Inv φ0 H0 w0 φ H lam fr tmps (w.alloc o) :=
  I.go (List.prefix_refl _) ⟨I.rep.len, fun l o' hl hv => by
    obtain ⟨i, hi, hr⟩ := I.rep.obj l o' hl hv
    exact ⟨i, hi, hr.keep (heap_alloc_old w _ _ (I.rep.blockLt ⟨l, o', i, hl, hv, hi, rfl⟩)) (by simp)⟩, I.rep.apart⟩ (keeps_alloc _ _ _) (fun _ h => .inl h) (fun _ h => .inl h)

end
end Go.Am
namespace Go.Am

section
variable {P : Program} {cx : Cx} {φ : List LI} {H : Hp} {lam : Nat → Nat} {fr : List FV} {w : World} {φ0 : List LI} {H0 : Hp} {w0 : World} {tmps : Array Value}

/-- what stands behind an operation -/
def Res (φ0 : List LI) (H0 : Hp) (w0 : World) (dst : Option Tmp) (v : FV) (fr : List FV) (H : Hp) (tmps : Array Value) (u : Value) (w : World) : Prop :=
  ∃ φ lam, match dst with
    | some d => Inv φ0 H0 w0 φ H lam (fr.set d v) (tmps.setIfInBounds d u) w
    | none => Inv φ0 H0 w0 φ H lam fr tmps w
theorem Res.of (I : Inv φ0 H0 w0 φ H lam fr tmps w) {v : FV} {u : Value} (hv : VOK w0.heap.size φ H lam fr w v u) (dst : Option Tmp) : Res φ0 H0 w0 dst v fr H tmps u w := by
  refine ⟨φ, lam, ?_⟩
  cases dst with
  | none => exact I
  | some d => exact I.put hv

/-! ### boxes -/
theorem newRow_is (I : Inv φ0 H0 w0 φ H lam fr tmps w) {t : TypeId} {cs : List GV} {c : Array Value} (his : Is2 φ cs c.toList) (dst : Option Tmp) :
    Res φ0 H0 w0 dst (.g (.ptr (some (ln H, 0)))) fr (pu H (.row true t cs)) tmps (.pointer (some ⟨w.heap.size, 0, none⟩)) (w.alloc (.cells c t)) := by
  have hl := his.length
  have B := Back.new I.rep t cs c (0, 0) (by simpa using Nat.le_of_eq hl) (by rw [List.take_of_length_le (by omega)]; exact his) (fun j _ h => by omega)
  refine Res.of (I.back B) ?_ dst
  exact ⟨⟨w.heap.size, 0, true, cs.length, c.size⟩, by simp [ln, ← I.rep.len], rfl⟩

theorem mkK_ok (I : Inv φ0 H0 w0 φ H lam fr tmps w) {o : Oper} {t : TypeId} {cs : List GV} {c : Array Value} {K : FV → List FV → Hp → Prop} (his : Is2 φ cs c.toList) (h : mkK cx o fr H t cs K) :
    ∃ v fr' H', K v fr' H' ∧ Res φ0 H0 w0 o.dst v fr' H' tmps (.pointer (some ⟨w.heap.size, 0, none⟩)) (w.alloc (.cells c t)) := by
  unfold mkK at h
  split at h
  · exact ⟨_, _, _, h, newRow_is I his o.dst⟩
  · split at h
    · rename_i d hd
      obtain ⟨h1, h⟩ := ck_iff.1 h
      obtain ⟨h2, h⟩ := ck_iff.1 h
      have h2 : d + 1 ≤ fr.length := by simpa [Nat.blt] using h2
      refine ⟨_, _, _, h, φ, (fun s => if s = d then w.heap.size else lam s), ?_⟩
      rw [hd]
      exact I.box h1 h2 his
    · exact h.elim

theorem storeVar_run (hT : TysOK P cx.tys) {t : TypeId} (ht : cx.okT t = true) {a : Addr} {x : Value} (hl : x.cells.size = (cx.ty t).lv.length) : (storeVar t a x).run P w = (storeCells a x.cells.toList).run P w := by
  simp [storeVar, run_sizeOf hT ht, hl]

theorem keeps_setRow (w : World) (b : Nat) (c : Array Value) : Keeps (fun b' => b' = b) w (w.setRow b c) :=
  ⟨rfl, rfl, rfl, by simp, fun b' _ hn => setRow_other w b b' c hn⟩

theorem storeK_ok (hT : TysOK P cx.tys) (I : Inv φ0 H0 w0 φ H lam fr tmps w) {t : TypeId} {x : FV} {ux u : Value} {ns : List GV} {K : List FV → Hp → Prop} (ht : cx.okT t = true) (hl : ns.length = (cx.ty t).lv.length) (h : storeK x ns fr H K)
    (hx : VOK w0.heap.size φ H lam fr w x ux) (his : Is2 φ ns u.cells.toList) : ∃ fr' H' w', K fr' H' ∧ (Instr.storeAt t ux u).run P w = .ok () w' ∧ Inv φ0 H0 w0 φ H' lam fr' tmps w' := by
  have hsz : u.cells.size = (cx.ty t).lv.length := by rw [← hl, his.length]; simp
  unfold storeK at h
  split at h
  · rename_i s p
    split at h
    · rename_i cs hcs
      have hs := getD_of hcs (by simp)
      obtain ⟨e, h2, h3, c, t', hb, hc⟩ := I.slot s _ hs
      cases hx
      obtain ⟨cs', hk, hlen, hle, rfl⟩ := fillK_ok h
      rw [setK_eq] at hk
      rw [run_storeAt, storeVar_run hT ht hsz]
      by_cases hn : ns = []
      · subst hn
        have : u.cells.toList = [] := by have := his.length; simpa using this.symm
        refine ⟨_, _, w, hk, by simp [this, storeCells], ?_⟩
        exact I.boxTurn hs (Keeps.refl _ _) hb (by simpa using hc)
      · have hle : p + ns.length ≤ cs.length := by simpa [hn] using hle
        have hcl := hc.length
        have hnl := his.length
        refine ⟨_, _, w.setRow (lam s) (c.toList.take (p + 0) ++ u.cells.toList ++ c.toList.drop (p + 0 + u.cells.toList.length)).toArray, hk, run_storeCells_at P (lam s) p t' u.cells.toList 0 c w hb (by simp at hcl hnl ⊢; omega) his.one, ?_⟩
        refine I.boxTurn hs (keeps_setRow _ _ _) (setRow_heap w _ _ _ _ _ hb) ?_
        have := Is2.fill hc his p (p + ns.length)
        simpa [hnl] using this
    · exact h.elim
  · rename_i l p
    obtain ⟨i, hi, rfl⟩ := hx
    obtain ⟨H', w', hk, hr, B⟩ := stCells_ok (P := P) ns u.cells.toList 0 (p0 := p) h I.rep hi his
    refine ⟨fr, H', w', hk, ?_, I.back B⟩
    rw [run_storeAt, storeVar_run hT ht hsz]
    exact hr
  · exact h.elim

theorem mkslK_ok (hT : TysOK P cx.tys) (I : Inv φ0 H0 w0 φ H lam fr tmps w) {t : TypeId} {l c : FV} {ul uc : Value} {K : FV → Hp → Prop} (h : mkslK cx t l c H K) (hl : VOK w0.heap.size φ H lam fr w l ul) (hc : VOK w0.heap.size φ H lam fr w c uc) (dst : Option Tmp) :
    ∃ v H' u w', K v H' ∧ (Instr.makeSlice t ul uc).run P w = .ok u w' ∧ Res φ0 H0 w0 dst v fr H' tmps u w' := by
  unfold mkslK at h
  split at h
  · rename_i k1 l k2 c
    cases hl; cases hc
    obtain ⟨ht, h⟩ := ck_iff.1 h
    obtain ⟨hf, h⟩ := ck_iff.1 h
    obtain ⟨hb, hK⟩ := chk_iff.1 h
    simp only [Bool.and_eq_true] at hb
    obtain ⟨⟨e, h0⟩, hL⟩ := hb
    have e := eqI_iff.1 e
    have h0 := leI_iff.1 h0
    have hL : l * ((cx.ty (cx.ty t).el).by_ : Int) ≤ 140737488355328 := leI_iff.1 hL
    subst e
    have ht := isSl_iff ht
    have hd := desc_slice hT ht.1
    obtain ⟨i, z, hi, hs', hz', hzc, hby⟩ := run_info hT ht.2
    have hf1 : 1 ≤ (cx.ty (cx.ty t).el).by_ := by
      unfold Cx.full at hf; split at hf
      · rename_i q; exact Nat.le_of_ble_eq_true q
      · cases hf
    have hb1 : (i.bytes : Int) * l ≤ 281474976710656 := by
      rw [hby, Int.mul_comm]; omega
    have hl63 : l ≤ 9223372036854775807 := by
      have : l * 1 ≤ l * ((cx.ty (cx.ty t).el).by_ : Int) := Int.mul_le_mul_of_nonneg_left (by omega) h0
      omega
    have hr := run_make (P := P) w t _ i z hd hi hz' k1 k2 l l h0 (Int.le_refl _) hb1 hl63
    have hsz : (madeCells z.cells (l.toNat * i.size)).size = l.toNat * (cx.ty (cx.ty t).el).lv.length := by rw [size_madeCells, hs']
    have his : Is2 φ (repN (tN l) (zerosK (cx.ty (cx.ty t).el).lv)) (madeCells z.cells (l.toNat * i.size)).toList := rep_is φ _ z.cells hzc (tN l) _ (by rw [hs']; rfl)
    have hlen := his.length
    have B := Back.new I.rep (cx.ty t).el _ _ (0, 0) (Nat.le_of_eq (by simpa using hlen)) (by rw [List.take_of_length_le (by omega)]; exact his) (fun j _ h => by omega)
    refine ⟨_, _, _, _, hK, hr, Res.of (I.back B) ?_ dst⟩
    refine ⟨_, _, l.toNat, by simp only [ln, ← I.rep.len]; exact List.getElem?_concat_length, rfl, .inl rfl, Nat.le_refl _, ?_, fun _ => ⟨rfl, ?_, by omega⟩⟩
    · show (repN (tN l) (zerosK (cx.ty (cx.ty t).el).lv)).length ≤ _
      rw [hlen, Array.length_toList, hsz]; omega
    · show 0 + _ ≤ (madeCells z.cells (l.toNat * i.size)).size
      rw [hsz]; omega
  · exact h.elim

theorem mkslB_ok (hT : TysOK P cx.tys) (I : Inv φ0 H0 w0 φ H lam fr tmps w) {t : TypeId} {l c : FV} {ul uc : Value} {K : FV → Prop} (h : mkslB cx t l c K) (hl : VOK w0.heap.size φ H lam fr w l ul) (hc : VOK w0.heap.size φ H lam fr w c uc) (dst : Option Tmp) :
    ∃ v u w', K v ∧ (Instr.makeSlice t ul uc).run P w = .ok u w' ∧ Res φ0 H0 w0 dst v fr H tmps u w' := by
  unfold mkslB at h
  split at h
  · rename_i k1 l k2 c
    cases hl; cases hc
    obtain ⟨ht, h⟩ := ck_iff.1 h
    obtain ⟨hf, h⟩ := ck_iff.1 h
    obtain ⟨hb, hK⟩ := chk_iff.1 h
    simp only [Bool.and_eq_true] at hb
    obtain ⟨⟨e, h0⟩, hL⟩ := hb
    have e := eqI_iff.1 e
    have h0 := leI_iff.1 h0
    have hL : l * ((cx.ty (cx.ty t).el).by_ : Int) ≤ 140737488355328 := leI_iff.1 hL
    subst e
    have ht := isSl_iff ht
    have hd := desc_slice hT ht.1
    obtain ⟨i, z, hi, hs', hz', hzc, hby⟩ := run_info hT ht.2
    have hf1 : 1 ≤ (cx.ty (cx.ty t).el).by_ := by
      unfold Cx.full at hf; split at hf
      · rename_i q; exact Nat.le_of_ble_eq_true q
      · cases hf
    have hb1 : (i.bytes : Int) * l ≤ 281474976710656 := by
      rw [hby, Int.mul_comm]; omega
    have hl63 : l ≤ 9223372036854775807 := by
      have : l * 1 ≤ l * ((cx.ty (cx.ty t).el).by_ : Int) := Int.mul_le_mul_of_nonneg_left (by omega) h0
      omega
    have hr := run_make (P := P) w t _ i z hd hi hz' k1 k2 l l h0 (Int.le_refl _) hb1 hl63
    have hsz : (madeCells z.cells (l.toNat * i.size)).size = l.toNat * (cx.ty (cx.ty t).el).lv.length := by rw [size_madeCells, hs']
    have his : Is2 φ (repK l.toNat (zerosK (cx.ty (cx.ty t).el).lv)) (madeCells z.cells (l.toNat * i.size)).toList := rep_is φ _ z.cells hzc l.toNat _ (by rw [hs'])
    have hlen := his.length
    refine ⟨_, _, _, hK, hr, Res.of (I.alloc _) ?_ dst⟩
    refine ⟨w.heap.size, _, (cx.ty t).el, (0, 0), ?_, I.keeps.size, heap_alloc_new w _, his, ⟨?_, rfl⟩, fun q => ?_, fun q => ?_⟩
    · rfl
    · rw [hlen, Array.length_toList, hsz]
    · have := I.rep.blockLt q.row; omega
    · have := (I.boxLt q).1; omega
  · exact h.elim

theorem bytesK_ok : ∀ {cs : List GV} {xs : List Value} {K : List UInt8 → Prop}, bytesK cs K → Is2 φ cs xs → ∃ ns : List Int, xs = ns.map (Value.int .u8) ∧ K (ns.map bof)
  | [], xs, K, h, his => ⟨[], by cases his.nil_inv; rfl, h⟩
  | c :: cs, xs, K, h, his => by
    obtain ⟨x, xs, rfl, hx, his'⟩ := his.cons_inv
    have h' : dI .u8 c fun n => bytesK cs fun r => K (bof n :: r) := h
    unfold dI at h'
    split at h'
    · rename_i k n
      obtain ⟨e, h'⟩ := h'
      subst e
      obtain ⟨ns, rfl, hk⟩ := bytesK_ok h' his'
      cases hx
      exact ⟨n :: ns, rfl, hk⟩
    · exact h'.elim

theorem foldl_push : ∀ (ns : List Int) (s : ByteArray), ns.foldl (fun r n => r.push (UInt8.ofNat n.toNat)) s = ⟨s.data ++ (ns.map bof).toArray⟩
  | [], s => by simp
  | n :: ns, s => by
    rw [List.foldl_cons, foldl_push ns]
    congr 1
    show (s.data.push _) ++ _ = _
    apply Array.ext'
    simp [bof]

/-- a slice that is read: where its cells stand -/
theorem slice_cells (hr : RepH φ H w) {a : Pl} {n z m : Nat} {cs : List GV} {x : Value} (hx : (GV.sl a n z).is φ x) (hc : cells? H a m = some cs) (hm : n = 0 → m = 0) :
    ∃ xs, Is2 φ cs xs ∧ cs.length = m ∧ ((a = none ∧ n = 0 ∧ x = .slice none 0 0 ∧ cs = []) ∨ ∃ ad c, x = .slice (some ad) n c ∧ ∀ j y, xs[j]? = some y → w.cell? (ad.add j) = some y) := by
  cases a with
  | none =>
    obtain ⟨rfl, rfl⟩ := hx
    have : m = 0 := hm rfl
    subst this
    simp [cells?] at hc
    subst hc
    exact ⟨[], .nil, rfl, .inl ⟨rfl, rfl, rfl, rfl⟩⟩
  | some p =>
    obtain ⟨l, o⟩ := p
    obtain ⟨i, ad, c, hi, rfl, hq, hnc, _⟩ := hx
    obtain ⟨i', hi', hlen, xs, his, hxs⟩ := hr.cells hc
    rw [hi] at hi'; cases hi'
    refine ⟨xs, his, hlen, .inr ⟨_, _, rfl, fun j y hj => ?_⟩⟩
    rcases hq with hq | hq
    · rw [hq, add_at]; exact hxs j y hj
    · have : m = 0 := hm (by omega)
      have := his.length
      have : xs = [] := by apply List.eq_nil_of_length_eq_zero; omega
      subst this; simp at hj

theorem txt_ok {cs : List GV} {xs : List Value} {K : ByteArray → Prop} (h : txt cs K) (his : Is2 φ cs xs) {ad : Addr} {n c : Nat} (hl : cs.length = n) (hx : ∀ j y, xs[j]? = some y → w.cell? (ad.add j) = some y) :
    ∃ s, K s ∧ (Conv.bytesToString (.slice (some ad) n c)).run P w = .ok (.string s) w := by
  obtain ⟨ns, rfl, hk⟩ := bytesK_ok h his
  have hlen := his.length
  simp at hlen
  refine ⟨_, hk, ?_⟩
  have h1 := run_loadCells_list (P := P) w ad _ (fun j v hv => hx j v hv)
  rw [List.length_map, ← hlen, hl] at h1
  rw [run_bytesToString w _ n c ns h1, foldl_push]
  simp [mkS, ByteArray.empty, ByteArray.emptyWithCapacity]
  rfl

end
end Go.Am
