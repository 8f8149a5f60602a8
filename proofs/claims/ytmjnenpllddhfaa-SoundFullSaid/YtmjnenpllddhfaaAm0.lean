import GoSem.Dispatch
import GoSem.Step
import Derived.Orders
set_option linter.unusedVariables false
set_option linter.unusedSimpArgs false
namespace Go.Am

/-- a place: row (object) number, cell -/
abbrev Pl := Option (Nat × Nat)

/-- global values: what may stand in a cell. A slice: where it begins, how many elements, cells of an element -/
inductive GV where
  | bool (b : Bool) | int (k : IntKind) (n : Int) | str (s : ByteArray)
  | ptr (a : Pl) | sl (a : Pl) (n z : Nat)
  | map (m : Option Nat) | fn (f : Nat) (caps : List (Nat × Nat)) | nilfn
  | iface (t : Nat) (v : GV) | nilif
  deriving Inhabited

/-- a part of a tuple: one value, or a struct's cells -/
inductive RV where
  | s (v : GV) | a (cs : List GV)
  deriving Inhabited

/-- what a temporary holds (bad: nothing is known; und: nothing was put there): a value, a struct, a tuple, a local box (its cells), a place in the box of a temporary, an immutable row of n elements -/
inductive FV where
  | g (v : GV) | agg (cs : List GV) | tup (vs : List RV) | bx (cs : List GV) | lp (s o : Nat) | bs (cs : List GV) (n z : Nat) | bad | und
  deriving Inhabited

inductive Obj where
  | row (own : Bool) (t : TypeId) (cs : List GV)
  | dead
  deriving Inhabited

abbrev Hp := List Obj
abbrev Post := FV → Hp → Prop
/-- what a function does, as a transformer of what is wanted behind it -/
abbrev Sm := List FV → Hp → Post → Prop

/-- kinds of cells -/
inductive LK where
  | bool | int (k : IntKind) | str | ptr | sl (z : Nat) | map | fn | iface
  deriving Inhabited, DecidableEq

/-- what is known of a type: is it a struct (or array), its cells' kinds, an element's type, a struct's fields (where they begin, their types), bytes, a word (1: slice, 2: pointer, 3: string, 4: tuple (fs: its types), 5: map) -/
structure TI where
  agg : Bool
  lv : List LK
  el : Nat
  fs : List (Nat × Nat)
  by_ : Nat
  k : Nat
  deriving Inhabited

structure Cx where
  tys : List TI
  esc : List Nat
  keep : List (Nat × List Nat)
  cut : List (Nat × List Nat)
  env : List (Nat × Sm)
  dyn : Nat → Sm
  res : List ResultVar

/-! the words in which functions are told -/
def bite (b : Bool) (x y : Prop) : Prop := match b with | true => x | false => y
def dB (v : GV) (K : Bool → Prop) : Prop := match v with | .bool b => K b | _ => False
def dI (k : IntKind) (v : GV) (K : Int → Prop) : Prop := match v with | .int k' n => k' = k ∧ K n | _ => False
def dS (v : GV) (K : ByteArray → Prop) : Prop := match v with | .str s => K s | _ => False
def dP (v : GV) (K : Pl → Prop) : Prop := match v with | .ptr a => K a | _ => False
def dL (z : Nat) (v : GV) (K : Pl → Nat → Prop) : Prop := match v with | .sl a n z' => (a = none ∨ z' = z) ∧ K a n | _ => False
def dM (v : GV) (K : Option Nat → Prop) : Prop := match v with | .map m => K m | _ => False
def dF (v : GV) (K : Nat → List (Nat × Nat) → Prop) : Prop := match v with | .fn f caps => K f caps | _ => False
def pS (a : Pl) (K : Nat → Nat → Prop) : Prop := match a with | some (l, o) => K l o | none => False
def uC (cs : List GV) (K : GV → List GV → Prop) : Prop := match cs with | c :: cs => K c cs | [] => False
def uN (cs : List GV) (x : Prop) : Prop := match cs with | [] => x | _ => False
def rG (r : FV) (K : GV → Prop) : Prop := match r with | .g v => K v | _ => False
def rA (r : FV) (K : List GV → Prop) : Prop := match r with | .agg cs => K cs | _ => False
def rT (r : FV) (K : List RV → Prop) : Prop := match r with | .tup vs => K vs | _ => False
def uR (vs : List RV) (K : RV → List RV → Prop) : Prop := match vs with | v :: vs => K v vs | [] => False
def uE (vs : List RV) (x : Prop) : Prop := match vs with | [] => x | _ => False
def rS (r : RV) (K : GV → Prop) : Prop := match r with | .s v => K v | _ => False
def rC (r : RV) (K : List GV → Prop) : Prop := match r with | .a cs => K cs | _ => False
def chk (b : Bool) (x : Prop) : Prop := match b with | true => x | false => False
/-- a call -/
def cl (s : Sm) (as : List FV) (H : Hp) (K : FV → Hp → Prop) : Prop := s as H K

/-- a check of what is written in the code -/
def ck (b : Bool) (x : Prop) : Prop := match b with | true => x | false => False
/-- a cell -/
def gt (H : Hp) (l o : Nat) : Option GV := match H[l]? with | some (.row _ _ cs) => cs[o]? | _ => none
def rd (H : Hp) (l o : Nat) (K : GV → Prop) : Prop := match gt H l o with | some v => K v | none => False
def st? (H : Hp) (l o : Nat) (v : GV) : Option Hp := match H[l]? with
  | some (.row true t cs) => if o < cs.length then some (H.set l (.row true t (cs.set o v))) else none
  | _ => none
def wr (H : Hp) (l o : Nat) (v : GV) (K : Hp → Prop) : Prop := match st? H l o v with | some H' => K H' | none => False
def ln (H : Hp) : Nat := H.length
def pu (H : Hp) (x : Obj) : Hp := H ++ [x]
/-- are these cells as they were? -/
def same (H H' : Hp) (l o n : Nat) : Prop := ∀ i, i < n → gt H' l (o + i) = gt H l (o + i)

/-- cells one behind the other -/
def cells? (H : Hp) (a : Pl) (n : Nat) : Option (List GV) := match a with
  | none => if n = 0 then some [] else none
  | some (l, o) => match H[l]? with
    | some (.row _ _ cs) => if o + n ≤ cs.length then some ((cs.drop o).take n) else none
    | _ => none
def rdN (H : Hp) (a : Pl) (n : Nat) (K : List GV → Prop) : Prop := match cells? H a n with | some cs => K cs | none => False

/-- elements set to nothing (zs: an element's cells) -/
def clr (H : Hp) (a : Pl) (n : Nat) (zs : List GV) (K : Hp → Prop) : Prop := match n with
  | 0 => K H
  | n' + 1 => match a with
    | none => False
    | some (l, o) => match H[l]? with
      | some (.row true t cs) => o + (n' + 1) * zs.length ≤ cs.length ∧ K (H.set l (.row true t (cs.take o ++ (List.replicate (n' + 1) zs).flatten ++ cs.drop (o + (n' + 1) * zs.length))))
      | _ => False

def Lim : Nat := 140737488355328

/-- cells (m elements of z cells, b bytes each) put behind a slice of n: a new row; the old one is dead -/
def app? (H : Hp) (t z b : Nat) (a : Pl) (n : Nat) (cs : List GV) (m : Nat) : Option (Pl × Nat × Hp) :=
  if (n + m) * b ≤ Lim ∧ cs.length = m * z then match a with
    | none => if n = 0 then (if m = 0 then some (none, 0, H) else some (some (H.length, 0), m, H ++ [.row true t cs])) else none
    | some (l, o) => match H[l]? with
      | some (.row true t' cs') => if o = 0 ∧ t' = t ∧ cs'.length = n * z then some (some (H.length, 0), n + m, (H.set l .dead) ++ [.row true t (cs' ++ cs)]) else none
      | _ => none
  else none
def ap (H : Hp) (t z b : Nat) (a : Pl) (n : Nat) (cs : List GV) (m : Nat) (K : Pl → Nat → Hp → Prop) : Prop :=
  match app? H t z b a n cs m with | some (a', n', H') => K a' n' H' | none => False
/-- cells put behind an empty row that is not nil -/
def ap0 (H : Hp) (t z b : Nat) (cs : List GV) (m : Nat) (K : Hp → Prop) : Prop := (m * b ≤ Lim ∧ cs.length = m * z) ∧ K (H ++ [.row true t cs])

/-! the machine -/
def zeroLK : LK → GV
  | .bool => .bool false | .int k => .int k 0 | .str => .str ⟨#[]⟩ | .ptr => .ptr none | .sl z => .sl none 0 z | .map => .map none | .fn => .nilfn | .iface => .nilif

def setK {R : Type} : List FV → Nat → FV → (List FV → R) → R
  | [], _, _, K => K []
  | _ :: xs, 0, v, K => K (v :: xs)
  | x :: xs, d + 1, v, K => setK xs d v fun ys => K (x :: ys)

def FV.isLp (s : Nat) : FV → Bool
  | .lp s' _ => s == s'
  | _ => false
def noLp (s : Nat) (fr : List FV) : Bool := match fr with
  | [] => true
  | x :: xs => match x.isLp s with | true => false | false => noLp s xs

def Cx.ty (cx : Cx) (t : Nat) : TI := cx.tys.getD t default
/-- is it a type of values? -/
def TI.ok (x : TI) : Bool := match x.agg with
  | true => true
  | false => match x.lv with | [] => false | _ => true
def Cx.okT (cx : Cx) (t : Nat) : Bool := (cx.ty t).ok
def Cx.okFs (cx : Cx) (n : Nat) : List (Nat × Nat) → Bool
  | [] => true
  | (p, t) :: l => match cx.okT t, Nat.ble (p + (cx.ty t).lv.length) n with | true, true => cx.okFs n l | _, _ => false
def TI.isA (x : TI) (k : Nat) : Bool := match x.ok with | true => Nat.beq x.k k | false => false
def TI.isBool (x : TI) : Bool := match x.agg, x.lv with | false, [.bool] => true | _, _ => false
def TI.isIface (x : TI) : Bool := match x.agg, x.lv with | false, [.iface] => true | _, _ => false
def TI.isU8 (x : TI) : Bool := match x.agg, x.lv with | false, [.int .u8] => true | _, _ => false
/-- a slice's type, whose elements have cells and bytes -/
def Cx.isSl (cx : Cx) (t : Nat) : Bool := match (cx.ty t).isA 1, cx.okT (cx.ty t).el with | true, true => true | _, _ => false
def Cx.full (cx : Cx) (e : Nat) : Bool := match Nat.ble 1 (cx.ty e).lv.length, Nat.ble 1 (cx.ty e).by_ with | true, true => true | _, _ => false

def ofValue : Value → FV
  | .bool b => .g (.bool b) | .int k n => .g (.int k n) | .string s => .g (.str s) | .pointer none => .g (.ptr none)
  | .slice none 0 0 => .g (.sl none 0 0) | .map none => .g (.map none) | .nilFunc => .g .nilfn | .nilIface => .g .nilif
  | _ => .bad

def atFr (fr : List FV) (t : Nat) : FV := match fr.getD t .bad with
  | .bx _ => .lp t 0
  | x => x

def ev (fr : List FV) : Operand → FV
  | .tmp t => atFr fr t
  | .const v => ofValue v
  | .global _ => .bad
  | .func f => .g (.fn f [])

/-- a value by its kind -/
def dLeaf (k : LK) (v : GV) (K : GV → Prop) : Prop := match k with
  | .bool => dB v fun b => K (.bool b)
  | .int k => dI k v fun n => K (.int k n)
  | .str => dS v fun s => K (.str s)
  | .ptr => dP v fun a => K (.ptr a)
  | .sl z => dL z v fun a n => K (.sl a n z)
  | .map => dM v fun m => K (.map m)
  | .fn => K v
  | .iface => K v

def dLeaves : List LK → List GV → (List GV → Prop) → Prop
  | [], cs, K => uN cs (K [])
  | k :: ks, cs, K => uC cs fun c cs => dLeaf k c fun c => dLeaves ks cs fun r => K (c :: r)

/-- the parts of a tuple -/
def dParts (cx : Cx) : List (Nat × Nat) → List RV → (List RV → Prop) → Prop
  | [], vs, K => uE vs (K [])
  | (_, t) :: ts, vs, K => uR vs fun v vs => match (cx.ty t).agg with
    | true => rC v fun cs => dLeaves (cx.ty t).lv cs fun cs => dParts cx ts vs fun vs => K (.a cs :: vs)
    | false => rS v fun v => match (cx.ty t).lv with | [k] => dLeaf k v fun v => dParts cx ts vs fun vs => K (.s v :: vs) | _ => False

/-- a result of a type -/
def dRes (cx : Cx) (t : Nat) (r : FV) (K : FV → Prop) : Prop :=
  match (cx.ty t).k with
  | 4 => match (cx.ty t).fs with
    | [] => K .bad
    | _ => rT r fun vs => dParts cx (cx.ty t).fs vs fun vs => K (.tup vs)
  | _ => match (cx.ty t).agg with
    | true => rA r fun cs => dLeaves (cx.ty t).lv cs fun cs => K (.agg cs)
    | false => rG r fun v => match (cx.ty t).lv with | [k] => dLeaf k v fun v => K (.g v) | _ => False

/-- cells l, o, l, o + 1, .. by their kinds -/
def ldLeaves (H : Hp) (l : Nat) : Nat → List LK → (List GV → Prop) → Prop
  | _, [], K => K []
  | o, k :: ks, K => rd H l o fun c => dLeaf k c fun c => ldLeaves H l (o + 1) ks fun r => K (c :: r)

def stCells (l : Nat) : Hp → Nat → List GV → (Hp → Prop) → Prop
  | H, _, [], K => K H
  | H, o, c :: cs, K => wr H l o c fun H => stCells l H (o + 1) cs K

def cellsK (x : FV) (K : List GV → Prop) : Prop := match x with
  | .g v => K [v]
  | .agg cs => K cs
  | _ => False

/-- a list with cells in their places -/
def fillK : List GV → Nat → List GV → (List GV → Prop) → Prop
  | zs, _, [], K => K zs
  | [], _, _ :: _, _ => False
  | z :: zs, o + 1, cs, K => fillK zs o cs fun r => K (z :: r)
  | _ :: zs, 0, c :: cs, K => fillK zs 0 cs fun r => K (c :: r)

def wrapI (k : IntKind) (n : Int) : Int := k.wrap n
def strLt (a b : ByteArray) : Bool := Op.bytesLess a.toList b.toList
def strEq (a b : ByteArray) : Bool := a.toList == b.toList
def bitsI (op : BinOp) (k : IntKind) (x y : Int) : Int :=
  let a := BitVec.ofInt k.bits x
  let b := BitVec.ofInt k.bits y
  k.wrap (match op with | .and => a &&& b | .or => a ||| b | .xor => a ^^^ b | _ => a &&& ~~~b).toNat
def shlI (k : IntKind) (x y : Int) : Int := k.wrap (x * 2 ^ (min y.toNat k.bits))
def shrI (k : IntKind) (x y : Int) : Int := x.fdiv (2 ^ (min y.toNat k.bits))
def eqI (x y : Int) : Bool := x == y
def ltI (x y : Int) : Bool := decide (x < y)
def leI (x y : Int) : Bool := decide (x ≤ y)
def mnI (a b : Int) : Int := if b < a then b else a
def mxI (a b : Int) : Int := if b > a then b else a
def leN (x y : Nat) : Bool := decide (x ≤ y)
def shf (a : Pl) (m : Nat) : Pl := match a with | none => none | some (l, o) => some (l, o + m)
/-- are there so many cells in the row? -/
def room (H : Hp) (a : Pl) (m : Nat) : Bool := match a with
  | none => leN m 0
  | some (l, o) => match H[l]? with | some (.row _ _ cs) => leN (o + m) cs.length | _ => false
def nI (n : Nat) : Int := n
def tN (n : Int) : Nat := n.toNat
def byt (s : ByteArray) (j : Nat) : Int := (s.data.toList.getD j 0).toNat
def bof (n : Int) : UInt8 := UInt8.ofNat n.toNat
def sz (s : ByteArray) : Int := s.size
def szN (s : ByteArray) : Nat := s.size
def sub (s : ByteArray) (l h : Nat) : ByteArray := s.extract l h
def mkS (l : List UInt8) : ByteArray := ⟨l.toArray⟩
def bytesOf (s : ByteArray) : List GV := s.data.toList.map fun b => .int .u8 b.toNat
def eqB (x y : Bool) : Bool := x == y
def catS (a b : ByteArray) (K : ByteArray → Prop) : Prop := a.size + b.size ≤ 9223372036854775807 ∧ K (a ++ b)
def isNone {α : Type} : Option α → Bool | none => true | some _ => false

/-- '==' of two cells -/
def eqC : GV → GV → Option Bool
  | .bool a, .bool b => some (eqB a b)
  | .int _ a, .int _ b => some (eqI a b)
  | .str a, .str b => some (strEq a b)
  | _, _ => none
def eqCs : List GV → List GV → (Bool → Prop) → Prop
  | [], [], K => K true
  | a :: as, b :: bs, K => match eqC a b with | some e => bite e (eqCs as bs K) (K false) | none => False
  | _, _, _ => False

def gb (b : Bool) : FV := .g (.bool b)
def gi (k : IntKind) (n : Int) : FV := .g (.int k n)

def binK (cx : Cx) (t : Nat) (op : BinOp) (x y : FV) (K : FV → Prop) : Prop :=
  match x, y with
  | .g (.int k a), .g (.int k' b) =>
    match op with
    | .shl => chk (leI 0 b) (K (gi k (shlI k a b)))
    | .shr => chk (leI 0 b) (K (gi k (shrI k a b)))
    | op => if k = k' then match op with
      | .add => K (gi k (wrapI k (a + b))) | .sub => K (gi k (wrapI k (a - b))) | .mul => K (gi k (wrapI k (a * b)))
      | .quo => chk (!(eqI b 0)) (K (gi k (wrapI k (a.tdiv b)))) | .rem => chk (!(eqI b 0)) (K (gi k (a.tmod b)))
      | .and => K (gi k (bitsI .and k a b)) | .or => K (gi k (bitsI .or k a b)) | .xor => K (gi k (bitsI .xor k a b)) | .andNot => K (gi k (bitsI .andNot k a b))
      | .eql => K (gb (eqI a b)) | .neq => K (gb (!(eqI a b))) | .lss => K (gb (ltI a b)) | .leq => K (gb (leI a b)) | .gtr => K (gb (ltI b a)) | .geq => K (gb (leI b a))
      | _ => False
      else False
  | .g (.str a), .g (.str b) =>
    match op with
    | .add => catS a b fun s => K (.g (.str s))
    | .eql => K (gb (strEq a b)) | .neq => K (gb (!(strEq a b))) | .lss => K (gb (strLt a b)) | .leq => K (gb (strLt a b || strEq a b))
    | .gtr => K (gb (!(strLt a b || strEq a b))) | .geq => K (gb (!(strLt a b)))
    | _ => False
  | .g (.bool a), .g (.bool b) => ck (cx.ty t).isBool <| match op with | .eql => K (gb (eqB a b)) | .neq => K (gb (!(eqB a b))) | _ => False
  | .g (.ptr a), .g (.ptr none) => ck ((cx.ty t).isA 2) <| match op with | .eql => K (gb (isNone a)) | .neq => K (gb (!(isNone a))) | _ => False
  | .g (.sl a _ _), .g (.sl none _ _) => ck ((cx.ty t).isA 1) <| match op with | .eql => K (gb (isNone a)) | .neq => K (gb (!(isNone a))) | _ => False
  | _, _ => False

/-- a bound of a slice expression, as a number -/
def bndK (E : Operand → FV) (x : Option Operand) (d : Nat) (K : Nat → Prop) : Prop := match x with
  | none => K d
  | some x => match E x with | .g (.int _ n) => chk (leI 0 n) (K (tN n)) | _ => False

/-- is the size of an element the slice's? -/
def okz (a : Pl) (z' z : Nat) : Bool := match z' == z with | true => true | false => match a with | none => true | some _ => false

def argsK (E : Operand → FV) : List Operand → Hp → (List FV → Hp → Prop) → Prop
  | [], H, K => K [] H
  | x :: xs, H, K => match E x with
    | .g v => argsK E xs H fun r H => K (.g v :: r) H
    | .agg cs => argsK E xs H fun r H => K (.agg cs :: r) H
    | .bs cs n z => argsK E xs (pu H (.row false 0 cs)) fun r H' => K (.g (.sl (some (ln H, 0)) n z) :: r) H'
    | _ => False

def bldK (cx : Cx) (E : Operand → FV) (t : Nat) : List GV → List (Nat × Operand) → (List GV → Prop) → Prop
  | zs, [], K => K zs
  | zs, (i, x) :: ps, K => match (cx.ty t).fs[i]? with
    | some (p, e) => cellsK (E x) fun cs => ck (cx.okT e) (ck (Nat.beq cs.length (cx.ty e).lv.length) (fillK zs p cs fun zs => bldK cx E t zs ps K))
    | none => False
def blsK (E : Operand → FV) (z : Nat) : List GV → List (Nat × Operand) → (List GV → Prop) → Prop
  | zs, [], K => K zs
  | zs, (i, x) :: ps, K => cellsK (E x) fun cs => ck (Nat.beq cs.length z) (fillK zs (i * z) cs fun zs => blsK E z zs ps K)
def bytesK : List GV → (List UInt8 → Prop) → Prop
  | [], K => K []
  | c :: cs, K => dI .u8 c fun n => bytesK cs fun r => K (bof n :: r)
/-- the bytes of a row, as a text -/
def txt (cs : List GV) (K : ByteArray → Prop) : Prop := bytesK cs fun s => K (mkS s)
def capsK (E : Operand → FV) : List Operand → (List (Nat × Nat) → Prop) → Prop
  | [], K => K []
  | x :: xs, K => match E x with | .g (.ptr (some p)) => capsK E xs fun r => K (p :: r) | _ => False
def srcK (H : Hp) (z : Nat) (y : FV) (K : List GV → Nat → Prop) : Prop := match y with
  | .g (.sl a m z') => chk (okz a z' z) (rdN H a (m * z) fun cs => K cs m)
  | .bs cs m z' => ck (Nat.beq z' z) (K cs m)
  | .g (.str s) => K (bytesOf s) (szN s)
  | _ => False
def zerosK (ks : List LK) : List GV := ks.map zeroLK
def repN (n : Nat) (cs : List GV) : List GV := (List.replicate n cs).flatten
def repK (n : Nat) (cs : List GV) : List GV := (List.replicate n cs).flatten
def Cx.isEsc (cx : Cx) (d : Option Nat) : Bool := cx.esc.contains (d.getD 0)
/-- a box -/
def mkK (cx : Cx) (o : Oper) (fr : List FV) (H : Hp) (t : Nat) (cs : List GV) (K : FV → List FV → Hp → Prop) : Prop := match cx.isEsc o.dst with
  | true => K (.g (.ptr (some (ln H, 0)))) fr (pu H (.row true t cs))
  | false => match o.dst with | some d => ck (noLp d fr) (ck (Nat.blt d fr.length) (K (.bx cs) fr H)) | none => False
def oneK (cs : List GV) (agg : Bool) (K : FV → Prop) : Prop := match agg with
  | true => K (.agg cs)
  | false => match cs with | [v] => K (.g v) | _ => False
/-- cells out of a list -/
def cutK (cs : List GV) (p n : Nat) (agg : Bool) (K : FV → Prop) : Prop := match agg with
  | true => ck (Nat.ble (p + n) cs.length) (K (.agg ((cs.drop p).take n)))
  | false => match cs[p]? with | some v => K (.g v) | none => False

def loadK (cx : Cx) (t : Nat) (x : FV) (B : Nat → FV) (H : Hp) (K : FV → Prop) : Prop := match x with
  | .lp s p => match B s with
    | .bx cs => cutK cs p (cx.ty t).lv.length (cx.ty t).agg K
    | _ => False
  | .g (.ptr (some (l, p))) => ldLeaves H l p (cx.ty t).lv fun cs => oneK cs (cx.ty t).agg K
  | _ => False
def storeK (x : FV) (ns : List GV) (fr : List FV) (H : Hp) (K : List FV → Hp → Prop) : Prop := match x with
  | .lp s p => match fr.getD s .bad with
    | .bx cs => fillK cs p ns fun cs => setK fr s (.bx cs) fun fr => K fr H
    | _ => False
  | .g (.ptr (some (l, p))) => stCells l H p ns fun H => K fr H
  | _ => False
def unK (op : UnOp) (x : FV) (K : FV → Prop) : Prop := match op, x with
  | .not, .g (.bool b) => K (gb (!b))
  | .neg, .g (.int k n) => K (gi k (wrapI k (0 - n)))
  | .xor, .g (.int k n) => K (gi k (bitsI .xor k (if k.signed then -1 else k.max) n))
  | _, _ => False
def convK (cx : Cx) (s d : Nat) (x : FV) (H : Hp) (K : FV → Hp → Prop) : Prop := ck (cx.okT s) <| ck (cx.okT d) <| match (cx.ty d).k, (cx.ty d).lv, x with
  | 0, [.int k], .g (.int _ n) => ck (!(cx.ty d).agg) (K (gi k (wrapI k n)) H)
  | 3, _, .g (.str s) => K (.g (.str s)) H
  | 3, _, .g (.sl a n _) => ck (cx.isSl s) <| ck (cx.ty (cx.ty s).el).isU8 <| rdN H a n fun cs => txt cs fun s => K (.g (.str s)) H
  | 3, _, .bs cs n _ => ck (cx.isSl s) <| ck (cx.ty (cx.ty s).el).isU8 <| ck (Nat.beq cs.length n) <| txt cs fun s => K (.g (.str s)) H
  | 1, _, .g (.str s) => ck (cx.ty (cx.ty d).el).isU8 <| chk (leN (szN s) Lim) (K (.g (.sl (some (ln H, 0)) (szN s) 1)) (pu H (.row true (cx.ty d).el (bytesOf s))))
  | _, _, _ => False
def mkslK (cx : Cx) (t : Nat) (l c : FV) (H : Hp) (K : FV → Hp → Prop) : Prop := match l, c with
  | .g (.int _ l), .g (.int _ c) => ck (cx.isSl t) <| ck (cx.full (cx.ty t).el) <| chk (eqI l c && leI 0 l && leI (l * (cx.ty (cx.ty t).el).by_) (nI Lim))
      (K (.g (.sl (some (ln H, 0)) (tN l) (cx.ty (cx.ty t).el).lv.length)) (pu H (.row true (cx.ty t).el (repN (tN l) (zerosK (cx.ty (cx.ty t).el).lv)))))
  | _, _ => False
def sliceK (cx : Cx) (t : Nat) (x : FV) (lo hi : Option Operand) (E : Operand → FV) (H : Hp) (K : FV → Prop) : Prop := match x with
  | .g (.str s) => ck ((cx.ty t).isA 3) <| bndK E hi (szN s) fun h => bndK E lo 0 fun l => chk (leN l h && leN h (szN s)) (K (.g (.str (sub s l h))))
  | .g (.sl a n z') => ck (cx.isSl t) <| ck (Nat.ble 1 (cx.ty (cx.ty t).el).lv.length) <| chk (okz a z' (cx.ty (cx.ty t).el).lv.length) <| match hi with
    | none => bndK E lo 0 fun l => chk (leN l n) (K (.g (.sl (shf a (l * (cx.ty (cx.ty t).el).lv.length)) (n - l) (cx.ty (cx.ty t).el).lv.length)))
    | some _ => bndK E hi n fun h => bndK E lo 0 fun l => chk (leN l h && (leN h n || room H a (h * (cx.ty (cx.ty t).el).lv.length))) (K (.g (.sl (shf a (l * (cx.ty (cx.ty t).el).lv.length)) (h - l) (cx.ty (cx.ty t).el).lv.length)))
  | _ => False
/-- do a row's told cells end here? -/
def ends (H : Hp) (a : Pl) (k : Nat) : Bool := match a with
  | none => true
  | some (l, o) => match H[l]? with | some (.row _ _ cs) => leN cs.length (o + k) | _ => false
/-- a slice with a bound for its cap -/
def slice3K (cx : Cx) (t : Nat) (x : FV) (lo hi : Option Operand) (mx : Operand) (E : Operand → FV) (H : Hp) (K : FV → Prop) : Prop := match x, hi with
  | .g (.sl a n z'), some hi => ck (cx.isSl t) <| ck (Nat.ble 1 (cx.ty (cx.ty t).el).lv.length) <| chk (okz a z' (cx.ty (cx.ty t).el).lv.length) <|
      bndK E (some mx) n fun m => bndK E (some hi) n fun h => bndK E lo 0 fun l => chk (leN l h && (leN h m && (leN m n && ends H a (m * (cx.ty (cx.ty t).el).lv.length))))
        (K (.g (.sl (shf a (l * (cx.ty (cx.ty t).el).lv.length)) (h - l) (cx.ty (cx.ty t).el).lv.length)))
  | _, _ => False
def fldK (x : FV) (p : Nat) (K : FV → Prop) : Prop := match x with
  | .lp s q => K (.lp s (q + p))
  | .g (.ptr (some (l, q))) => K (.g (.ptr (some (l, q + p))))
  | _ => False
def idxK (cx : Cx) (t : Nat) (x i : FV) (K : FV → Prop) : Prop := match x, i with
  | .g (.sl a n z'), .g (.int _ j) => ck (cx.isSl t) <| chk (okz a z' (cx.ty (cx.ty t).el).lv.length) (chk (leI 0 j && ltI j (nI n)) (pS a fun l q => K (.g (.ptr (some (l, q + tN j * (cx.ty (cx.ty t).el).lv.length))))))
  | _, _ => False
def lenK (cx : Cx) (t : Nat) (x : FV) (K : FV → Prop) : Prop := match x with
  | .g (.str s) => ck ((cx.ty t).isA 3) <| K (gi .i64 (sz s))
  | .g (.sl _ n _) => ck ((cx.ty t).isA 1) <| K (gi .i64 (nI n))
  | .bs _ n _ => ck ((cx.ty t).isA 1) <| K (gi .i64 (nI n))
  | _ => False
def min2K (mx : Bool) (x y : FV) (K : FV → Prop) : Prop := match x, y with
  | .g (.int k a), .g (.int _ b) => K (gi k (match mx with | true => mxI a b | false => mnI a b))
  | _, _ => False
def appK (cx : Cx) (e : Nat) (x y : FV) (H : Hp) (K : FV → Hp → Prop) : Prop := srcK H (cx.ty e).lv.length y fun cs m => match x with
  | .g (.sl a n z') => chk (okz a z' (cx.ty e).lv.length) (ap H e (cx.ty e).lv.length (cx.ty e).by_ a n cs m fun a n H => K (.g (.sl a n (cx.ty e).lv.length)) H)
  | .bs [] 0 _ => ap0 H e (cx.ty e).lv.length (cx.ty e).by_ cs m fun H' => K (.g (.sl (some (ln H, 0)) m (cx.ty e).lv.length)) H'
  | _ => False

def clrK (cx : Cx) (t : Nat) (x : FV) (H : Hp) (K : FV → Hp → Prop) : Prop := match x with
  | .g (.sl a n z') => ck (cx.isSl t) <| ck (cx.full (cx.ty t).el) <| chk (okz a z' (cx.ty (cx.ty t).el).lv.length) <| clr H a n (zerosK (cx.ty (cx.ty t).el).lv) fun H => K .bad H
  | _ => False

/-- a value of a type (nil slices: how many cells an element has) -/
def evT (cx : Cx) (t : Nat) (E : Operand → FV) (x : Operand) : FV := match x with
  | .const (.slice none 0 0) => .g (.sl none 0 (cx.ty (cx.ty t).el).lv.length)
  | x => E x

def capV (p : Nat × Nat) : FV := .g (.ptr (some p))
/-- arguments, what was captured behind them -/
def cpl (as : List FV) (caps : List (Nat × Nat)) : List FV := as ++ caps.map capV

/-- an operation that leaves the frame alone: what stands in its temporary then, the heap -/
def opE (cx : Cx) (o : Oper) (E : Operand → FV) (B : Nat → FV) (H : Hp) (K : FV → Hp → Prop) : Prop :=
  match o.op with
  | .move x | .assign x => K (evT cx o.type E x) H
  | .pick c a b => match E c with | .g (.bool t) => bite t (K (E a) H) (K (E b) H) | _ => False
  | .build t parts => ck (cx.ty t).agg <| ck (Nat.beq (cx.ty t).k 0) <| ck (cx.okFs (cx.ty t).lv.length (cx.ty t).fs) <| bldK cx E t (zerosK (cx.ty t).lv) parts.toList fun cs => K (.agg cs) H
  | .buildSlice t n parts => ck (cx.isSl t) <| ck (Nat.ble 1 (cx.ty (cx.ty t).el).lv.length) <| ck (Nat.ble (n * (cx.ty (cx.ty t).el).lv.length) 16777216) <| blsK E (cx.ty (cx.ty t).el).lv.length (repK n (zerosK (cx.ty (cx.ty t).el).lv)) parts.toList fun cs => match cx.isEsc o.dst with
      | true => K (.g (.sl (some (ln H, 0)) n (cx.ty (cx.ty t).el).lv.length)) (pu H (.row true (cx.ty t).el cs))
      | false => K (.bs cs n (cx.ty (cx.ty t).el).lv.length) H
  | .load t a => ck (cx.okT t) <| loadK cx t (E a) B H fun v => K v H
  | .nilCheck x => match E x with
    | .lp s p => K (.lp s p) H
    | .g (.ptr a) => pS a fun l p => K (.g (.ptr (some (l, p)))) H
    | _ => False
  | .binOp op t x y _ => binK cx t op (E x) (E y) fun v => K v H
  | .unOp op _ x => unK op (E x) fun v => K v H
  | .convert s d x => convK cx s d (E x) H fun v H => K v H
  | .makeInterface t x => ck (cx.okT t) <| ck (!(cx.ty t).isIface) <| match E x with | .g v => K (.g (.iface t v)) H | _ => False
  | .makeFunc fn first caps => match fn, first.toList with
    | .func f, [] => capsK E caps.toList fun cs => K (.g (.fn f cs)) H
    | _, _ => False
  | .makeSlice t l c => mkslK cx t (E l) (E c) H fun v H => K v H
  | .slice t x lo hi mx => match mx with
    | some m => slice3K cx t (E x) lo hi m E H fun v => K v H
    | none => sliceK cx t (E x) lo hi E H fun v => K v H
  | .fieldAddr t x f => match (cx.ty t).fs[f]? with
    | some (p, e) => ck (cx.ty t).agg <| ck (cx.okT e) <| ck (Nat.ble 1 (cx.ty e).lv.length) <| fldK (E x) p fun v => K v H
    | none => False
  | .field t x f => match (cx.ty t).fs[f]?, E x with
    | some (p, t'), .agg cs => ck (cx.ty t).agg <| ck (cx.okT t') <| cutK cs p (cx.ty t').lv.length (cx.ty t').agg fun v => K v H
    | _, _ => False
  | .indexAddr t x i => idxK cx t (E x) (E i) fun v => K v H
  | .index t x i => match E x, E i with
    | .g (.str s), .g (.int _ j) => ck ((cx.ty t).isA 3) <| chk (leI 0 j && ltI j (sz s)) (K (gi .u8 (byt s (tN j))) H)
    | _, _ => False
  | .extract x i => match E x with
    | .tup vs => match vs[i]? with | some (.s v) => K (.g v) H | some (.a cs) => K (.agg cs) H | none => False
    | _ => False
  | .call c => match c.callee with
    | .value (.func f) => match cx.env.lookup f with
      | some sem => argsK E c.args.toList H fun as H => cl sem as H fun r H => dRes cx o.type r fun r => K r H
      | none => False
    | .value f => match E f with
      | .g v => dF v fun f caps => argsK E c.args.toList H fun as H => cl (cx.dyn f) (cpl as caps) H fun r H => dRes cx o.type r fun r => K r H
      | _ => False
    | .builtin b => match b, c.args.toList with
      | .len, [x] => match c.argTypes.toList with
        | [t] => lenK cx t (E x) fun v => K v H
        | _ => False
      | .clear, [x] => match c.argTypes.toList with
        | [t] => clrK cx t (E x) H fun v H => K v H
        | _ => False
      | .min, [x, y] => min2K false (E x) (E y) fun v => K v H
      | .max, [x, y] => min2K true (E x) (E y) fun v => K v H
      | .append, [x, y] => match c.argTypes.toList with
        | [t, t'] => ck (cx.isSl t) <| ck (cx.full (cx.ty t).el) <| ck ((cx.ty t').isA 1 || (cx.ty t').isA 3) <| appK cx (cx.ty t).el (E x) (E y) H fun v H => K v H
        | _ => False
      | _, _ => False
    | _ => False
  | _ => False

/-- an operation: what stands in its temporary then, the frame, the heap -/
def opK (cx : Cx) (o : Oper) (fr : List FV) (H : Hp) (K : FV → List FV → Hp → Prop) : Prop :=
  match o.op with
  | .alloc t => ck (cx.okT t) <| mkK cx o fr H t (zerosK (cx.ty t).lv) K
  | .box t v => cellsK (ev fr v) fun cs => mkK cx o fr H t cs K
  | .store t a x => cellsK (ev fr x) fun ns => ck (cx.okT t) <| ck (Nat.beq ns.length (cx.ty t).lv.length) <| storeK (ev fr a) ns fr H fun fr H => K .bad fr H
  | _ => opE cx o (ev fr) (fun s => fr.getD s .bad) H fun v H => K v fr H

def wantK (ops : Array Oper) (fr : List FV) (g : Option (Nat × Bool)) (yes no : List FV → Prop) : Prop := match g with
  | none => yes fr
  | some (j, w) => match (ops[j]?).bind (·.dst) with
    | some d => match fr.getD d .bad with
      | .g (.bool b) => bite b (setK fr d (.g (.bool true)) (match w with | true => yes | false => no)) (setK fr d (.g (.bool false)) (match w with | true => no | false => yes))
      | .und => no fr
      | _ => False
    | none => False

/-- a value in its constructor -/
def frc {R : Type} (v : FV) (K : FV → R) : R := match v with
  | .g v => K (.g v) | .agg cs => K (.agg cs) | .tup vs => K (.tup vs) | .bx cs => K (.bx cs) | .lp s o => K (.lp s o) | .bs cs n z => K (.bs cs n z) | .bad => K .bad | .und => K .und

def putK {R : Type} (fr : List FV) (d : Option Nat) (v : FV) (K : List FV → R) : R := match d with
  | some d => frc v fun v => setK fr d v K
  | none => K fr

def opsK (cx : Cx) (ops : Array Oper) : List Oper → List FV → Hp → (List FV → Hp → Prop) → Prop
  | [], fr, H, K => K fr H
  | o :: os, fr, H, K => wantK ops fr o.guard
      (fun fr => opK cx o fr H fun v fr H => putK fr o.dst v fun fr => opsK cx ops os fr H K)
      (fun fr => putK fr o.dst .und fun fr => opsK cx ops os fr H K)

/-- all but some are forgotten -/
def keepK {R : Type} : List FV → Nat → List Nat → (List FV → R) → R
  | [], _, _, K => K []
  | x :: xs, i, l, K => match l.contains i with
    | true => keepK xs (i + 1) l fun ys => K (x :: ys)
    | false => keepK xs (i + 1) l fun ys => K (.bad :: ys)

/-- a condition, known from here on -/
def knowK {R : Type} (fr : List FV) (c : Operand) (b : Bool) (K : List FV → R) : R := match c with
  | .tmp d => setK fr d (.g (.bool b)) K
  | _ => K fr

def firstReg : Code → Nat
  | .region id _ _ => id
  | .seq a _ => firstReg a
  | .block _ b | .loop b | .scope b => firstReg b
  | .cond _ a _ => firstReg a
  | _ => 0

def popTo (id : Nat) : List Item → Option (List Item)
  | .inBlock id' :: k => if id' == id then some k else popTo id k
  | .inScope _ :: k | .code _ :: k | .inLoop _ :: k => popTo id k
  | _ => none

/-- the stack at the head of the loop that begins with region 'id' -/
def findIn (id : Nat) : Code → List Item → Option (List Item)
  | .seq a b, k => match findIn id a (.code b :: k) with | some r => some r | none => findIn id b k
  | .cond _ a b, k => match findIn id a k with | some r => some r | none => findIn id b k
  | .block i b, k => findIn id b (.inBlock i :: k)
  | .scope b, k => findIn id b (.inScope b :: k)
  | .loop b, k => if firstReg b = id then some (.inLoop b :: k) else findIn id b (.inLoop b :: k)
  | .region i os d, k => if i = id then some (.code (.region i os d) :: k) else none
  | _, _ => none

/-- the results, read -/
def resK (cx : Cx) (fr : List FV) : List ResultVar → (List RV → Prop) → Prop
  | [], K => K []
  | .tmp t :: rs, K => match atFr fr t with
    | .g v => resK cx fr rs fun vs => K (.s v :: vs)
    | .agg cs => resK cx fr rs fun vs => K (.a cs :: vs)
    | _ => False
  | .cell a t :: rs, K => match atFr fr a with
    | .lp s p => match fr.getD s .bad with
      | .bx cs => ck (cx.okT t) <| cutK cs p (cx.ty t).lv.length (cx.ty t).agg fun v => match v with
        | .g v => resK cx fr rs fun vs => K (.s v :: vs)
        | .agg cs => resK cx fr rs fun vs => K (.a cs :: vs)
        | _ => False
      | _ => False
    | _ => False
def finK (cx : Cx) (fr : List FV) (H : Hp) (Q : Post) : Prop := resK cx fr cx.res fun vs => match vs with
    | [.s v] => Q (.g v) H
    | [.a cs] => Q (.agg cs) H
    | vs => Q (.tup vs) H

/-! a region whose order is open: the operations ahead of its tail in an order in which those that turn the heap come as late as they can; behind each of these what was read, and may be read behind it, reads as it did -/
def has (m i : Nat) : Bool := m.testBit i
/-- which operations one waits for, as bits -/
def bitsOf (acc : List Nat) (es : List Edge) (s : Nat) : Nat := match es with
  | [] => s
  | e :: es => bitsOf acc es (match Region.binds .any e with | true => s ||| 2 ^ e.on ||| acc.getD e.on 0 | false => s)
def waitsGo (acc : List Nat) : List Oper → List Nat
  | [] => acc
  | o :: os => waitsGo (acc ++ [bitsOf acc o.after.toList 0]) os
def waits (ops : Array Oper) : List Nat := waitsGo [] ops.toList
/-- does it turn the heap? -/
def isEff (cx : Cx) (o : Oper) : Bool := match o.op with
  | .store .. => true
  | .alloc _ | .box _ _ | .buildSlice _ _ _ => cx.isEsc o.dst
  | .makeSlice .. => true
  | .convert _ d _ => Nat.beq (cx.ty d).k 1
  | .call c => match c.callee with
    | .builtin .len | .builtin .min | .builtin .max => false
    | _ => true
  | _ => false
def readsH (o : Oper) (E : Operand → FV) : Bool := match o.op with
  | .load _ a => match E a with | .g _ => true | _ => false
  | .convert _ _ x => match E x with | .g (.sl _ _ _) => true | _ => false
  | .slice _ x _ (some _) _ => match E x with | .g (.sl _ _ _) => true | _ => false
  | _ => false
/-- into which box does it store? does one look into that box? -/
def stBox (o : Oper) (E : Operand → FV) : Option Nat := match o.op with | .store _ a _ => (match E a with | .lp s _ => some s | _ => none) | _ => none
def inBox (o : Oper) (E : Operand → FV) (s : Nat) : Bool := match o.op with | .load _ a => (match E a with | .lp s' _ => Nat.beq s' s | _ => false) | _ => false
/-- must it be read again behind that one? -/
def again (oi : Option Oper) (o : Oper) (E : Operand → FV) : Bool := match oi with
  | some oi => (match stBox oi E with | some s => inBox o E s | none => readsH o E)
  | none => readsH o E
/-- where the tail begins: each operation from there on waits for all ahead of it -/
def tailFrom (W : List Nat) : Nat → Nat
  | 0 => 0
  | j + 1 => match (List.range j).all fun i => has (W.getD j 0) i with | true => tailFrom W j | false => j + 1
def opAt (ops : Array Oper) (i : Nat) (d : Bool) (f : Oper → Bool) : Bool := match ops[i]? with | some o => f o | none => d
def firstOf (p : Nat → Bool) : List Nat → Option Nat
  | [] => none
  | i :: l => match p i with | true => some i | false => firstOf p l
def without (i : Nat) : List Nat → List Nat
  | [] => []
  | j :: l => match Nat.beq i j with | true => l | false => j :: without i l
def ordG (cx : Cx) (ops : Array Oper) (W : List Nat) : Nat → Nat → List Nat → List Nat
  | 0, _, _ => []
  | n + 1, done, rem => match firstOf (fun i => Nat.beq (W.getD i 0 &&& done) (W.getD i 0) && opAt ops i false fun o => !isEff cx o) rem with
    | some i => i :: ordG cx ops W n (done ||| 2 ^ i) (without i rem)
    | none => match firstOf (fun i => Nat.beq (W.getD i 0 &&& done) (W.getD i 0)) rem with
      | some i => i :: ordG cx ops W n (done ||| 2 ^ i) (without i rem)
      | none => []
def mem (i : Nat) : List Nat → Bool
  | [] => false
  | j :: l => match Nat.beq i j with | true => true | false => mem i l
def nodupB : List Nat → Bool
  | [] => true
  | i :: l => match mem i l with | true => false | false => nodupB l
/-- behind each that turns the heap stand those alone that wait for it -/
def effOK (cx : Cx) (ops : Array Oper) (W : List Nat) : List Nat → Bool
  | [] => true
  | i :: l => (match opAt ops i false (isEff cx) with | true => l.all fun j => has (W.getD j 0) i | false => true) && !has (W.getD i 0) i && l.all (fun j => !has (W.getD i 0) j) && effOK cx ops W l
def dstAt (ops : Array Oper) (i : Nat) : List Nat := match ops[i]? with | some o => (match o.dst with | some d => [d] | none => []) | none => []
def isAl (cx : Cx) (o : Oper) : Bool := match o.op with | .alloc _ | .box _ _ => !cx.isEsc o.dst | _ => false
def allocs (cx : Cx) (ops : Array Oper) : List Nat → List Nat
  | [] => []
  | i :: l => match opAt ops i false (isAl cx) with | true => dstAt ops i ++ allocs cx ops l | false => allocs cx ops l
def isStore (o : Oper) : Bool := match o.op with | .store .. => true | _ => false
def noDst (o : Oper) : Bool := match o.dst with | none => true | some _ => false
/-- what an operation looks at waits for those that write it; no local box of the region's is looked at (but that one stores into it) -/
def looksOK (ops : Array Oper) (W : List Nat) (m : Nat) (al : List Nat) (i : Nat) : Bool := opAt ops i false fun o =>
  (o.looksAt ops).all fun t => (isStore o || !mem t al) && (List.range m).all fun j => match mem t (dstAt ops j) with | true => has (W.getD i 0) j | false => true
def guardOK (W : List Nat) (i : Nat) (o : Oper) : Bool := match o.guard with | some (g, _) => has (W.getD i 0) g | none => true
def edgesOK (i : Nat) (o : Oper) : Bool := o.after.toList.all fun e => match Region.binds .any e with | true => Nat.blt e.on i | false => true
def drOKs (cx : Cx) (ops : Array Oper) (W : List Nat) (m : Nat) (σ al : List Nat) : Bool :=
  (List.range m).all (fun i => mem i σ) && σ.all (fun i => Nat.blt i m) && Nat.ble m ops.size && nodupB σ && effOK cx ops W σ && nodupB ((List.range m).flatMap (dstAt ops)) &&
  (List.range m).all (fun i => looksOK ops W m al i && opAt ops i false fun o => (!isStore o || noDst o) && guardOK W i o && match isAl cx o with | true => (dstAt ops i).all fun d => mem d al | false => true) &&
  (List.range ops.size).all (fun i => opAt ops i false (edgesOK i) && (Nat.blt i m || (List.range i).all fun j => has (W.getD i 0) j))
def notBx : FV → Bool | .bx _ => false | _ => true
def bxIn (al : List Nat) (d : Nat) : FV → Bool | .bx _ => mem d al | _ => true
def noLps (fr : List FV) : List Nat → Bool
  | [] => true
  | d :: al => match noLp d fr with | true => noLps fr al | false => false
def putG (al : List Nat) (dst : Option Nat) (v : FV) (fr : List FV) (K : List FV → Prop) : Prop := match dst with
  | none => K fr
  | some d => ck (notBx (fr.getD d .bad)) <| ck (bxIn al d v) <| frc v fun v => setK fr d v fun fr => ck (noLps fr al) (K fr)
def wantF (ops : Array Oper) (fr : List FV) (g : Option (Nat × Bool)) : Option Bool := match g with
  | none => some true
  | some (j, w) => match (ops[j]?).bind (·.dst) with
    | some d => match fr.getD d .bad with | .g (.bool b) => some (b == w) | .und => some false | _ => none
    | none => none
/-- the same value again -/
def eqv (v v' : FV) (x : Prop) : Prop := v = v' ∧ x
def dstV (fr : List FV) : Option Nat → FV
  | some d => fr.getD d .bad
  | none => .bad
def reK (cx : Cx) (ops : Array Oper) (W : List Nat) (i : Nat) (H : Hp) (fr : List FV) : List Nat → Prop → Prop
  | [], x => x
  | j :: js, x => match ops[j]? with
    | some o => match isEff cx o || has (W.getD i 0) j || !(again ops[i]? o (ev fr)) with
      | true => reK cx ops W i H fr js x
      | false => match wantF ops fr o.guard with
        | some true => opE cx o (ev fr) (fun s => fr.getD s .bad) H fun v' _ => frc v' fun v' => eqv (dstV fr o.dst) v' (reK cx ops W i H fr js x)
        | _ => reK cx ops W i H fr js x
    | none => reK cx ops W i H fr js x
def goK (cx : Cx) (ops : Array Oper) (W : List Nat) (al : List Nat) : List Nat → List Nat → List FV → Hp → (List FV → Hp → Prop) → Prop
  | [], _, fr, H, K => K fr H
  | i :: σ, seen, fr, H, K => match ops[i]? with
    | none => False
    | some o => wantK ops fr o.guard
      (fun fr => opK cx o fr H fun v fr H' => putG al o.dst v fr fun fr => reK cx ops W i H' fr (match isEff cx o with | true => seen | false => []) (goK cx ops W al σ (i :: seen) fr H' K))
      (fun fr => putG al o.dst .und fr fun fr => goK cx ops W al σ (i :: seen) fr H K)
def drGo (cx : Cx) (ops : Array Oper) (W : List Nat) (m : Nat) (σ al : List Nat) (fr : List FV) (H : Hp) (K : List FV → Hp → Prop) : Prop :=
  ck (drOKs cx ops W m σ al) <| ck (noLps fr al) <| goK cx ops W al σ [] fr H fun fr H => opsK cx ops (ops.toList.drop m) fr H K
/-- a region whose order is open -/
def drK (cx : Cx) (ops : Array Oper) (fr : List FV) (H : Hp) (K : List FV → Hp → Prop) : Prop :=
  drGo cx ops (waits ops) (tailFrom (waits ops) ops.size) (ordG cx ops (waits ops) ops.size 0 (List.range (tailFrom (waits ops) ops.size)))
    (allocs cx ops (List.range (tailFrom (waits ops) ops.size))) fr H K

def regK (cx : Cx) (dr : Array Oper → List FV → Hp → (List FV → Hp → Prop) → Prop) (ops : Array Oper) (d : Bool) (fr : List FV) (H : Hp) (K : List FV → Hp → Prop) : Prop := match d with
  | false => opsK cx ops ops.toList fr H K
  | true => dr ops fr H K

def step (cx : Cx) (Q : Post) (dr : Array Oper → List FV → Hp → (List FV → Hp → Prop) → Prop) (rec : List Item → List FV → Hp → Prop) (go : List Item → List FV → Hp → Prop) (k : List Item) (fr : List FV) (H : Hp) : Prop :=
  match k with
  | [] | .code .ret :: _ => finK cx fr H Q
  | .code .skip :: k | .code (.label _) :: k | .inBlock _ :: k | .inScope _ :: k => go k fr H
  | .code (.seq a b) :: k => go (.code a :: .code b :: k) fr H
  | .code (.cond c a b) :: k => match ev fr c with
    | .g (.bool t) => bite t (knowK fr c true fun fr => go (.code a :: k) fr H) (knowK fr c false fun fr => go (.code b :: k) fr H)
    | _ => False
  | .code (.block id b) :: k => go (.code b :: .inBlock id :: k) fr H
  | .code (.loop b) :: k | .inLoop b :: k => keepK fr 0 ((cx.keep.lookup (firstReg b)).getD []) fun fr => rec (.inLoop b :: k) fr H
  | .code (.scope b) :: k => go (.code b :: .inScope b :: k) fr H
  | .code (.exit id) :: k => match popTo id k with | some k => go k fr H | none => False
  | .code (.region i ops d) :: k => match cx.cut.lookup i with
    | some l => keepK fr 0 l fun fr => rec (.code (.region i ops d) :: k) fr H
    | none => regK cx dr ops d fr H fun fr H => go k fr H
  | _ => False

def gas : Nat := 100000
def walk (cx : Cx) (Q : Post) (rec : List Item → List FV → Hp → Prop) : Nat → List Item → List FV → Hp → Prop :=
  fun g => Nat.rec (motive := fun _ => List Item → List FV → Hp → Prop) (fun _ _ _ => False) (fun _ ih => step cx Q (drK cx) rec ih) g

def runF (cx : Cx) (Q : Post) (ih : List Item → List FV → Hp → Prop) (k : List Item) (fr : List FV) (H : Hp) : Prop := match k with
  | .inLoop b :: k => walk cx Q ih gas (.code b :: .inLoop b :: k) fr H
  | .code (.region _ ops d) :: k => regK cx (drK cx) ops d fr H fun fr H => walk cx Q ih gas k fr H
  | k => walk cx Q ih gas k fr H
def runK (cx : Cx) (Q : Post) : Nat → List Item → List FV → Hp → Prop :=
  fun n => Nat.rec (motive := fun _ => List Item → List FV → Hp → Prop) (fun _ _ _ => False) (fun _ ih k fr H => runF cx Q ih k fr H) n

def callK (cx : Cx) (f : Func) (n : Nat) (as : List FV) (H : Hp) (Q : Post) : Prop :=
  match f.body with
  | some c => runK cx Q n [.code c] (as ++ List.replicate (f.ntmps - as.length) .bad) H
  | none => False

/-- the function from the head of a loop on -/
def loopK (cx : Cx) (f : Func) (id : Nat) (n : Nat) (fr : List FV) (H : Hp) (Q : Post) : Prop :=
  match f.body with
  | some c => match findIn id c [] with | some k => runK cx Q n k fr H | none => False
  | none => False
/-- so many temporaries that hold nothing -/
def dynOf (l : List (Nat × Sm)) : Nat → Sm := fun f => match l.lookup f with | some s => s | none => fun _ _ _ => False
def noDyn : Nat → Sm := fun _ _ _ _ => False
def B (n : Nat) (l : List FV) : List FV := List.replicate n .bad ++ l

end Go.Am
