import GoSem.Dispatch
import GoSem.Step
import Derived.Orders
import Derived.Calls
import Derived.Laws.Append
import Derived.Laws.CopyRow
import Derived.Laws.Rows
import Derived.Laws.Strings
import Derived.Laws.BytesString
import Derived.Laws.MakeOwn
import Derived.Laws.Small
import Derived.ChangeKeysEq
import Derived.Laws.Tables
import Derived.Laws.NewFold
set_option linter.unusedVariables false
set_option linter.unusedSimpArgs false
namespace Go.Am
abbrev Pl:=Option (Nat × Nat)
inductive GV where
 | bool (b:Bool) | int (k:IntKind) (n:Int) | str (s:ByteArray)
 | ptr (a:Pl) | sl (a:Pl) (n z:Nat)
 | map (m:Option Nat) | fn (f:Nat) (caps:List (Nat × Nat)) | nilfn
 | iface (t:Nat) (v:GV) | nilif
 deriving Inhabited
inductive RV where
 | s (v:GV) | a (cs:List GV)
 deriving Inhabited
inductive FV where
 | g (v:GV) | agg (cs:List GV) | tup (vs:List RV) | bx (cs:List GV) | lp (s o:Nat) | bs (cs:List GV) (n z:Nat) | bad | und
 deriving Inhabited
abbrev Ent:=Nat × RV × RV
inductive Obj where
 | row (own:Bool) (t:TypeId) (cs:List GV)
 | dead
 | map (es:List Ent) (clock:Nat)
 | iter (m:Option Nat) (since:Nat) (seen:List Nat) (last:Nat)
 deriving Inhabited
abbrev Hp:=List Obj
abbrev Post:=FV→Hp→Prop
abbrev Sm:=List FV→Hp→Post→Prop
inductive LK where
 | bool | int (k:IntKind) | str | ptr | sl (z:Nat) | map | fn | iface
 deriving Inhabited,DecidableEq
structure TI where
 agg:Bool
 lv:List LK
 el:Nat
 fs:List (Nat × Nat)
 by_:Nat
 k:Nat
 ms:List (String × Nat × Bool):=[]
 an:Nat:=0
 deriving Inhabited
structure Cx where
 tys:List TI
 esc:List Nat
 keep:List (Nat × List Nat)
 cut:List (Nat × List Nat)
 env:List (Nat × Sm)
 dyn:Nat→Sm
 res:List ResultVar
def af_ (b:Bool) (x y:Prop):Prop:=match b with | true=>x | false=>y
def dB (v:GV) (K:Bool→Prop):Prop:=match v with | .bool b=>K b | _=>False
def dI (k:IntKind) (v:GV) (K:Int→Prop):Prop:=match v with | .int k' n=>k'=k∧K n | _=>False
def dS (v:GV) (K:ByteArray→Prop):Prop:=match v with | .str s=>K s | _=>False
def dP (v:GV) (K:Pl→Prop):Prop:=match v with | .ptr a=>K a | _=>False
def dL (z:Nat) (v:GV) (K:Pl→Nat→Prop):Prop:=match v with | .sl a n z'=>(a=none∨z'=z)∧K a n | _=>False
def dM (v:GV) (K:Option Nat→Prop):Prop:=match v with | .map m=>K m | _=>False
def dX (t:Nat) (v:GV) (K:GV→Prop):Prop:=match v with | .iface t' w=>t'=t∧K w | _=>False
def dF (v:GV) (K:Nat→List (Nat × Nat)→Prop):Prop:=match v with | .fn f caps=>K f caps | _=>False
def pS (a:Pl) (K:Nat→Nat→Prop):Prop:=match a with | some (l,o)=>K l o | none=>False
def uC (cs:List GV) (K:GV→List GV→Prop):Prop:=match cs with | c::cs=>K c cs | []=>False
def uN (cs:List GV) (x:Prop):Prop:=match cs with | []=>x | _=>False
def rG (r:FV) (K:GV→Prop):Prop:=match r with | .g v=>K v | _=>False
def rA (r:FV) (K:List GV→Prop):Prop:=match r with | .agg cs=>K cs | _=>False
def rT (r:FV) (K:List RV→Prop):Prop:=match r with | .tup vs=>K vs | _=>False
def uR (vs:List RV) (K:RV→List RV→Prop):Prop:=match vs with | v::vs=>K v vs | []=>False
def uE (vs:List RV) (x:Prop):Prop:=match vs with | []=>x | _=>False
def rS (r:RV) (K:GV→Prop):Prop:=match r with | .s v=>K v | _=>False
def rC (r:RV) (K:List GV→Prop):Prop:=match r with | .a cs=>K cs | _=>False
def chk (b:Bool) (x:Prop):Prop:=match b with | true=>x | false=>False
def cl (s:Sm) (as:List FV) (H:Hp) (K:FV→Hp→Prop):Prop:=s as H K
def ck (b:Bool) (x:Prop):Prop:=match b with | true=>x | false=>False
def gt (H:Hp) (l o:Nat):Option GV:=match H[l]? with | some (.row _ _ cs)=>cs[o]? | _=>none
def rd (H:Hp) (l o:Nat) (K:GV→Prop):Prop:=match gt H l o with | some v=>K v | none=>False
def st? (H:Hp) (l o:Nat) (v:GV):Option Hp:=match H[l]? with
 | some (.row true t cs)=>if o < cs.length then some (H.set l (.row true t (cs.set o v))) else none
 | _=>none
def wr (H:Hp) (l o:Nat) (v:GV) (K:Hp→Prop):Prop:=match st? H l o v with | some H'=>K H' | none=>False
def ln (H:Hp):Nat:=H.length
def pu (H:Hp) (x:Obj):Hp:=H++[x]
def same (H H':Hp) (l o n:Nat):Prop:=∀ i,i < n→gt H' l (o+i)=gt H l (o+i)
def cells? (H:Hp) (a:Pl) (n:Nat):Option (List GV):=match a with
 | none=>if n=0 then some [] else none
 | some (l,o)=>match H[l]? with
  | some (.row _ _ cs)=>if o+n≤cs.length then some ((cs.drop o).take n) else none
  | _=>none
def rdN (H:Hp) (a:Pl) (n:Nat) (K:List GV→Prop):Prop:=match cells? H a n with | some cs=>K cs | none=>False
def clr (H:Hp) (a:Pl) (n:Nat) (zs:List GV) (K:Hp→Prop):Prop:=match n with
 | 0=>K H
 | n'+1=>match a with
  | none=>False
  | some (l,o)=>match H[l]? with
   | some (.row true t cs)=>o+(n'+1)*zs.length≤cs.length∧K (H.set l (.row true t (cs.take o++(List.replicate (n'+1) zs).flatten++cs.drop (o+(n'+1)*zs.length))))
   | _=>False
def Lim:Nat:=140737488355328
def app? (H:Hp) (t z b:Nat) (a:Pl) (n:Nat) (cs:List GV) (m:Nat):Option (Pl × Nat × Hp):=
 if (n+m)*b≤Lim∧cs.length=m*z then match a with
  | none=>if n=0 then (if m=0 then some (none,0,H) else some (some (H.length,0),m,H++[.row true t cs])) else none
  | some (l,o)=>match H[l]? with
   | some (.row true t' cs')=>if o=0∧t'=t∧cs'.length=n*z then some (some (H.length,0),n+m,(H.set l .dead)++[.row true t (cs'++cs)])
    else if o+(n+m)*z≤cs'.length then some (some (l,o),n+m,H.set l (.row true t' (cs'.take (o+n*z)++cs++cs'.drop (o+(n+m)*z)))) else none
   | _=>none
 else none
def ap (H:Hp) (t z b:Nat) (a:Pl) (n:Nat) (cs:List GV) (m:Nat) (K:Pl→Nat→Hp→Prop):Prop:=
 match app? H t z b a n cs m with | some (a',n',H')=>K a' n' H' | none=>False
def ap0 (H:Hp) (t z b:Nat) (cs:List GV) (m:Nat) (K:Hp→Prop):Prop:=(m*b≤Lim∧cs.length=m*z)∧K (H++[.row true t cs])
def vO_:LK→GV
 | .bool=> .bool false | .int k=> .int k 0 | .str=> .str ⟨#[]⟩ | .ptr=> .ptr none | .sl z=> .sl none 0 z | .map=> .map none | .fn=> .nilfn | .iface=> .nilif
def sH_ {R:Type}:List FV→Nat→FV→(List FV→R)→R
 | [],_,_,K=>K []
 | _::xs,0,v,K=>K (v::xs)
 | x::xs,d+1,v,K=>sH_ xs d v fun ys=>K (x::ys)
def FV.isLp (s:Nat):FV→Bool
 | .lp s' _=>s==s'
 | _=>false
def if_ (s:Nat) (fr:List FV):Bool:=match fr with
 | []=>true
 | x::xs=>match x.isLp s with | true=>false | false=>if_ s xs
def Cx.ty (cx:Cx) (t:Nat):TI:=cx.tys.getD t default
def TI.ok (x:TI):Bool:=match x.agg with
 | true=>true
 | false=>match x.lv with | []=>false | _=>true
def Cx.okT (cx:Cx) (t:Nat):Bool:=(cx.ty t).ok
def Cx.okFs (cx:Cx) (n:Nat):List (Nat × Nat)→Bool
 | []=>true
 | (p,t)::l=>match cx.okT t,Nat.ble (p+(cx.ty t).lv.length) n with | true,true=>cx.okFs n l | _,_=>false
def TI.isA (x:TI) (k:Nat):Bool:=match x.ok with | true=>Nat.beq x.k k | false=>false
def TI.isBool (x:TI):Bool:=match x.agg,x.lv with | false,[.bool]=>true | _,_=>false
def TI.isIface (x:TI):Bool:=match x.agg,x.lv with | false,[.iface]=>true | _,_=>false
def TI.isU8 (x:TI):Bool:=match x.agg,x.lv with | false,[.int .u8]=>true | _,_=>false
def Cx.isSl (cx:Cx) (t:Nat):Bool:=match (cx.ty t).isA 1,cx.okT (cx.ty t).el with | true,true=>true | _,_=>false
def Cx.full (cx:Cx) (e:Nat):Bool:=match Nat.ble 1 (cx.ty e).lv.length,Nat.ble 1 (cx.ty e).by_ with | true,true=>true | _,_=>false
def ofValue:Value→FV
 | .bool b=> .g (.bool b) | .int k n=> .g (.int k n) | .string s=> .g (.str s) | .pointer none=> .g (.ptr none)
 | .slice none 0 0=> .g (.sl none 0 0) | .map none=> .g (.map none) | .nilFunc=> .g .nilfn | .nilIface=> .g .nilif
 | _=> .bad
def oT_ (fr:List FV) (t:Nat):FV:=match fr.getD t .bad with
 | .bx _=> .lp t 0
 | x=>x
def ev (fr:List FV):Operand→FV
 | .tmp t=>oT_ fr t
 | .const v=>ofValue v
 | .global _=> .bad
 | .func f=> .g (.fn f [])
def fO_ (k:LK) (v:GV) (K:GV→Prop):Prop:=match k with
 | .bool=>dB v fun b=>K (.bool b)
 | .int k=>dI k v fun n=>K (.int k n)
 | .str=>dS v fun s=>K (.str s)
 | .ptr=>dP v fun a=>K (.ptr a)
 | .sl z=>dL z v fun a n=>K (.sl a n z)
 | .map=>dM v fun m=>K (.map m)
 | .fn=>K v
 | .iface=>K v
def gn_:List LK→List GV→(List GV→Prop)→Prop
 | [],cs,K=>uN cs (K [])
 | k::ks,cs,K=>uC cs fun c cs=>fO_ k c fun c=>gn_ ks cs fun r=>K (c::r)
def nm_ (cx:Cx):List (Nat × Nat)→List RV→(List RV→Prop)→Prop
 | [],vs,K=>uE vs (K [])
 | (_,t)::ts,vs,K=>uR vs fun v vs=>match (cx.ty t).agg with
  | true=>rC v fun cs=>gn_ (cx.ty t).lv cs fun cs=>nm_ cx ts vs fun vs=>K (.a cs::vs)
  | false=>rS v fun v=>match (cx.ty t).lv with | [k]=>fO_ k v fun v=>nm_ cx ts vs fun vs=>K (.s v::vs) | _=>False
def pV_ (cx:Cx) (t:Nat) (r:FV) (K:FV→Prop):Prop:=
 match (cx.ty t).k with
 | 4=>match (cx.ty t).fs with
  | []=>K .bad
  | _=>rT r fun vs=>nm_ cx (cx.ty t).fs vs fun vs=>K (.tup vs)
 | _=>match (cx.ty t).agg with
  | true=>rA r fun cs=>gn_ (cx.ty t).lv cs fun cs=>K (.agg cs)
  | false=>rG r fun v=>match (cx.ty t).lv with | [k]=>fO_ k v fun v=>K (.g v) | _=>False
def he_ (H:Hp) (l:Nat):Nat→List LK→(List GV→Prop)→Prop
 | _,[],K=>K []
 | o,k::ks,K=>rd H l o fun c=>fO_ k c fun c=>he_ H l (o+1) ks fun r=>K (c::r)
def it_ (l:Nat):Hp→Nat→List GV→(Hp→Prop)→Prop
 | H,_,[],K=>K H
 | H,o,c::cs,K=>wr H l o c fun H=>it_ l H (o+1) cs K
def gN_ (x:FV) (K:List GV→Prop):Prop:=match x with
 | .g v=>K [v]
 | .agg cs=>K cs
 | _=>False
def hl_:List GV→Nat→List GV→(List GV→Prop)→Prop
 | zs,_,[],K=>K zs
 | [],_,_::_,_=>False
 | z::zs,o+1,cs,K=>hl_ zs o cs fun r=>K (z::r)
 | _::zs,0,c::cs,K=>hl_ zs 0 cs fun r=>K (c::r)
def ad_ (k:IntKind) (n:Int):Int:=k.wrap n
def cS_ (a b:ByteArray):Bool:=Op.bytesLess a.toList b.toList
def co_ (a b:ByteArray):Bool:=a.toList==b.toList
def tA_ (op:BinOp) (k:IntKind) (x y:Int):Int:=
 let a:=BitVec.ofInt k.bits x
 let b:=BitVec.ofInt k.bits y
 k.wrap (match op with | .and=>a&&&b | .or=>a|||b | .xor=>a ^^^ b | _=>a&&& ~~~b).toNat
def DB_ (k:IntKind) (x y:Int):Int:=k.wrap (x*2 ^ (min y.toNat k.bits))
def i4_ (k:IntKind) (x y:Int):Int:=x.fdiv (2 ^ (min y.toNat k.bits))
def eqI (x y:Int):Bool:=x==y
def ltI (x y:Int):Bool:=decide (x < y)
def leI (x y:Int):Bool:=decide (x≤y)
def mnI (a b:Int):Int:=if b < a then b else a
def mxI (a b:Int):Int:=if b>a then b else a
def leN (x y:Nat):Bool:=decide (x≤y)
def shf (a:Pl) (m:Nat):Pl:=match a with | none=>none | some (l,o)=>some (l,o+m)
def uW_ (H:Hp) (a:Pl) (m:Nat):Bool:=match a with
 | none=>leN m 0
 | some (l,o)=>match H[l]? with | some (.row _ _ cs)=>leN (o+m) cs.length | _=>false
def nI (n:Nat):Int:=n
def tN (n:Int):Nat:=n.toNat
def byt (s:ByteArray) (j:Nat):Int:=(s.data.toList.getD j 0).toNat
def bof (n:Int):UInt8:=UInt8.ofNat n.toNat
def sz (s:ByteArray):Int:=s.size
def szN (s:ByteArray):Nat:=s.size
def sub (s:ByteArray) (l h:Nat):ByteArray:=s.extract l h
def mkS (l:List UInt8):ByteArray:=⟨l.toArray⟩
def bytesOf (s:ByteArray):List GV:=s.data.toList.map fun b=> .int .u8 b.toNat
def eqB (x y:Bool):Bool:=x==y
def zx_ (a b:ByteArray) (K:ByteArray→Prop):Prop:=a.size+b.size≤9223372036854775807∧K (a++b)
def isNone {α:Type}:Option α→Bool | none=>true | some _=>false
def eqC:GV→GV→Option Bool
 | .bool a,.bool b=>some (eqB a b)
 | .int _ a,.int _ b=>some (eqI a b)
 | .str a,.str b=>some (co_ a b)
 | _,_=>none
def jh_:List GV→List GV→Option Bool
 | [],[]=>some true
 | a::as,b::bs=>match eqC a b,jh_ as bs with | some e,some r=>some (e&&r) | _,_=>none
 | _,_=>none
def hz_ (k:LK) (v:GV):Bool:=match k,v with
 | .bool,.bool _=>true
 | .int k,.int k' _=>decide (k=k')
 | .str,.str _=>true
 | _,_=>false
def in_:List LK→List GV→Bool
 | [],[]=>true
 | k::ks,v::vs=>match hz_ k v with | true=>in_ ks vs | false=>false
 | _,_=>false
def TI.cmp (x:TI):Bool:=match x.agg with | true=>(match Nat.beq x.k 0 with | true=>Nat.beq x.el 1 | false=>false) | false=>false
def un_ (ti:TI):RV:=match ti.agg with
 | true=> .a (ti.lv.map vO_)
 | false=>match ti.lv with
  | [k]=> .s (vO_ k)
  | _=> .a []
def RV.cells:RV→List GV | .s v=>[v] | .a cs=>cs
def RV.isA:RV→Bool | .s _=>false | .a _=>true
def kD_ (ag:Bool) (lv:List LK) (r:RV):Bool:=match ag,r with
 | false,.s v=>in_ lv [v]
 | true,.a cs=>in_ lv cs
 | _,_=>false
def me_ (ag:Bool) (lv:List LK) (k:RV):List Ent→Nat→Option (Option Nat)
 | [],_=>some none
 | e::es,i=>match kD_ ag lv e.2.1 with
  | true=>(match jh_ k.cells e.2.1.cells with | some true=>some (some i) | some false=>me_ ag lv k es (i+1) | none=>none)
  | false=>none
def nB_ (H:Hp) (m:Option Nat) (ag:Bool) (lv:List LK) (k z:RV) (K:RV→Bool→Prop):Prop:=match m with
 | none=>K z false
 | some l=>match H[l]? with
  | some (.map es _)=>(match me_ ag lv k es 0 with
   | some (some i)=>(match es[i]? with | some e=>K e.2.2 true | none=>False)
   | some none=>K z false
   | none=>False)
  | _=>False
def sf_ (H:Hp) (m:Option Nat) (ag:Bool) (lv:List LK) (k v:RV) (K:Hp→Prop):Prop:=match m with
 | none=>False
 | some l=>match H[l]? with
  | some (.map es c)=>(match me_ ag lv k es 0 with
   | some (some i)=>(match es[i]? with | some e=>K (H.set l (.map (es.set i (e.1,e.2.1,v)) c)) | none=>False)
   | some none=>K (H.set l (.map (es++[(c,k,v)]) (c+1)))
   | none=>False)
  | _=>False
def CI_ (H:Hp) (m:Option Nat) (ag:Bool) (lv:List LK) (k z:RV) (K:RV→Nat→Hp→Prop):Prop:=match m with
 | none=>False
 | some l=>match H[l]? with
  | some (.map es c)=>(match me_ ag lv k es 0 with
   | some (some i)=>(match es[i]? with | some e=>K e.2.2 e.1 H | none=>False)
   | some none=>K z c (H.set l (.map (es++[(c,k,z)]) (c+1)))
   | none=>False)
  | _=>False
def Cf_ (n:Int):List Ent→Nat→Option Nat
 | [],_=>none
 | e::es,i=>match (e.1:Int)==n with | true=>some i | false=>Cf_ n es (i+1)
def CW_ (H:Hp) (m:Option Nat) (n:Int) (v:RV) (K:Hp→Prop):Prop:=match m with
 | none=>False
 | some l=>match H[l]? with
  | some (.map es c)=>(match Cf_ n es 0 with
   | some i=>(match es[i]? with | some e=>K (H.set l (.map (es.set i (e.1,e.2.1,v)) c)) | none=>False)
   | none=>False)
  | _=>False
def CT_ (H:Hp) (m:Option Nat) (ag:Bool) (lv:List LK) (k:RV) (K:Hp→Prop):Prop:=match m with
 | none=>K H
 | some l=>match H[l]? with
  | some (.map es c)=>(match me_ ag lv k es 0 with
   | some (some i)=>K (H.set l (.map (es.eraseIdx i) c))
   | some none=>K H
   | none=>False)
  | _=>False
def pW_ (H:Hp) (m:Option Nat) (K:Nat→Prop):Prop:=match m with
 | none=>K 0
 | some l=>match H[l]? with | some (.map es _)=>K es.length | _=>False
def rng (H:Hp) (m:Option Nat) (K:Hp→Prop):Prop:=match m with
 | none=>K (H++[.iter none 0 [] 0])
 | some l=>match H[l]? with | some (.map _ c)=>K (H++[.iter (some l) c [] c]) | _=>False
def nxt (H:Hp) (l o:Nat) (K1:RV→RV→Hp→Prop) (K2:Hp→Prop):Prop:=o=0∧match H[l]? with
 | some (.iter none _ _ _)=>K2 H
 | some (.iter (some m) since seen last)=>(match H[m]? with
  | some (.map es c)=>(seen=[]∨es=[]∨∃ e,e∈es∧e.1 < last)∧
   (∀ e,e∈es→e.1∉seen→K1 e.2.1 e.2.2 (H.set l (.iter (some m) since (seen++[e.1]) c)))∧
   ((∀ e,e∈es→e.1∉seen→since≤e.1)→K2 H)
  | _=>False)
 | _=>False
def gb (b:Bool):FV:= .g (.bool b)
def gi (k:IntKind) (n:Int):FV:= .g (.int k n)
def xm_ (cx:Cx) (t:Nat) (op:BinOp) (x y:FV) (K:FV→Prop):Prop:=
 match x,y with
 | .g (.int k a),.g (.int k' b)=>
  match op with
  | .shl=>chk (leI 0 b) (K (gi k (DB_ k a b)))
  | .shr=>chk (leI 0 b) (K (gi k (i4_ k a b)))
  | op=>if k=k' then match op with
   | .add=>K (gi k (ad_ k (a+b))) | .sub=>K (gi k (ad_ k (a - b))) | .mul=>K (gi k (ad_ k (a*b)))
   | .quo=>chk (!(eqI b 0)) (K (gi k (ad_ k (a.tdiv b)))) | .rem=>chk (!(eqI b 0)) (K (gi k (a.tmod b)))
   | .and=>K (gi k (tA_ .and k a b)) | .or=>K (gi k (tA_ .or k a b)) | .xor=>K (gi k (tA_ .xor k a b)) | .andNot=>K (gi k (tA_ .andNot k a b))
   | .eql=>K (gb (eqI a b)) | .neq=>K (gb (!(eqI a b))) | .lss=>K (gb (ltI a b)) | .leq=>K (gb (leI a b)) | .gtr=>K (gb (ltI b a)) | .geq=>K (gb (leI b a))
   | _=>False
   else False
 | .g (.str a),.g (.str b)=>
  match op with
  | .add=>zx_ a b fun s=>K (.g (.str s))
  | .eql=>K (gb (co_ a b)) | .neq=>K (gb (!(co_ a b))) | .lss=>K (gb (cS_ a b)) | .leq=>K (gb (cS_ a b||co_ a b))
  | .gtr=>K (gb (!(cS_ a b||co_ a b))) | .geq=>K (gb (!(cS_ a b)))
  | _=>False
 | .g (.bool a),.g (.bool b)=>ck (cx.ty t).isBool <| match op with | .eql=>K (gb (eqB a b)) | .neq=>K (gb (!(eqB a b))) | _=>False
 | .g (.ptr a),.g (.ptr none)=>ck ((cx.ty t).isA 2) <| match op with | .eql=>K (gb (isNone a)) | .neq=>K (gb (!(isNone a))) | _=>False
 | .g (.sl a _ _),.g (.sl none _ _)=>ck ((cx.ty t).isA 1) <| match op with | .eql=>K (gb (isNone a)) | .neq=>K (gb (!(isNone a))) | _=>False
 | .agg xs,.agg ys=>ck (cx.ty t).cmp <| ck (in_ (cx.ty t).lv xs) <| ck (in_ (cx.ty t).lv ys) <| match jh_ xs ys with
  | some e=>(match op with | .eql=>K (gb e) | .neq=>K (gb (!e)) | _=>False)
  | none=>False
 | _,_=>False
def l2_ (E:Operand→FV) (x:Option Operand) (d:Nat) (K:Nat→Prop):Prop:=match x with
 | none=>K d
 | some x=>match E x with | .g (.int _ n)=>chk (leI 0 n) (K (tN n)) | _=>False
def okz (a:Pl) (z' z:Nat):Bool:=match z'==z with | true=>true | false=>match a with | none=>true | some _=>false
def evT (cx:Cx) (t:Nat) (E:Operand→FV) (x:Operand):FV:=match x with
 | .const (.slice none 0 0)=> .g (.sl none 0 (cx.ty (cx.ty t).el).lv.length)
 | x=>E x
def hdN (ts:List Nat):Nat:=match ts with | []=>0 | t::_=>t
def tlN (ts:List Nat):List Nat:=match ts with | []=>[] | _::ts=>ts
abbrev mo_:TypeId:=1000003
def g3_ (cx:Cx) (E:Operand→FV):List Operand→List Nat→Hp→(List FV→Hp→Prop)→Prop
 | [],_,H,K=>K [] H
 | x::xs,ts,H,K=>match evT cx (hdN ts) E x with
  | .g v=>g3_ cx E xs (tlN ts) H fun r H=>K (.g v::r) H
  | .agg cs=>g3_ cx E xs (tlN ts) H fun r H=>K (.agg cs::r) H
  | .bs cs n z=>g3_ cx E xs (tlN ts) (pu H (.row false mo_ cs)) fun r H'=>K (.g (.sl (some (ln H,0)) n z)::r) H'
  | _=>False
def q8_ (cx:Cx) (E:Operand→FV) (t:Nat):List GV→List (Nat × Operand)→(List GV→Prop)→Prop
 | zs,[],K=>K zs
 | zs,(i,x)::ps,K=>match (cx.ty t).fs[i]? with
  | some (p,e)=>gN_ (E x) fun cs=>ck (cx.okT e) (ck (Nat.beq cs.length (cx.ty e).lv.length) (hl_ zs p cs fun zs=>q8_ cx E t zs ps K))
  | none=>False
def sr_ (E:Operand→FV) (z:Nat):List GV→List (Nat × Operand)→(List GV→Prop)→Prop
 | zs,[],K=>K zs
 | zs,(i,x)::ps,K=>gN_ (E x) fun cs=>ck (Nat.beq cs.length z) (hl_ zs (i*z) cs fun zs=>sr_ E z zs ps K)
def jM_:List GV→(List UInt8→Prop)→Prop
 | [],K=>K []
 | c::cs,K=>dI .u8 c fun n=>jM_ cs fun r=>K (bof n::r)
def txt (cs:List GV) (K:ByteArray→Prop):Prop:=jM_ cs fun s=>K (mkS s)
def la_ (E:Operand→FV):List Operand→(List (Nat × Nat)→Prop)→Prop
 | [],K=>K []
 | x::xs,K=>match E x with | .g (.ptr (some p))=>la_ E xs fun r=>K (p::r) | _=>False
def C3_ (H:Hp) (z:Nat) (y:FV) (K:List GV→Nat→Prop):Prop:=match y with
 | .g (.sl a m z')=>chk (okz a z' z) (rdN H a (m*z) fun cs=>K cs m)
 | .bs cs m z'=>ck (Nat.beq z' z) (K cs m)
 | .g (.str s)=>K (bytesOf s) (szN s)
 | _=>False
def dB_ (ks:List LK):List GV:=ks.map vO_
def iS_ (n:Nat) (cs:List GV):List GV:=(List.replicate n cs).flatten
def w5_ (n:Nat) (cs:List GV):List GV:=(List.replicate n cs).flatten
def Cx.isEsc (cx:Cx) (d:Option Nat):Bool:=cx.esc.contains (d.getD 0)
def mkK (cx:Cx) (o:Oper) (fr:List FV) (H:Hp) (t:Nat) (cs:List GV) (K:FV→List FV→Hp→Prop):Prop:=match cx.isEsc o.dst with
 | true=>K (.g (.ptr (some (ln H,0)))) fr (pu H (.row true t cs))
 | false=>match o.dst with | some d=>ck (if_ d fr) (ck (Nat.blt d fr.length) (K (.bx cs) fr H)) | none=>False
def BI_ (cs:List GV) (agg:Bool) (K:FV→Prop):Prop:=match agg with
 | true=>K (.agg cs)
 | false=>match cs with | [v]=>K (.g v) | _=>False
def sY_ (cs:List GV) (p n:Nat) (agg:Bool) (K:FV→Prop):Prop:=match agg with
 | true=>ck (Nat.ble (p+n) cs.length) (K (.agg ((cs.drop p).take n)))
 | false=>match cs[p]? with | some v=>K (.g v) | none=>False
def i0_ (cx:Cx) (t:Nat) (x:FV) (B:Nat→FV) (H:Hp) (K:FV→Prop):Prop:=match x with
 | .lp s p=>match B s with
  | .bx cs=>sY_ cs p (cx.ty t).lv.length (cx.ty t).agg K
  | _=>False
 | .g (.ptr (some (l,p)))=>he_ H l p (cx.ty t).lv fun cs=>BI_ cs (cx.ty t).agg K
 | _=>False
def vC_ (x:FV) (ns:List GV) (fr:List FV) (H:Hp) (K:List FV→Hp→Prop):Prop:=match x with
 | .lp s p=>match fr.getD s .bad with
  | .bx cs=>hl_ cs p ns fun cs=>sH_ fr s (.bx cs) fun fr=>K fr H
  | _=>False
 | .g (.ptr (some (l,p)))=>it_ l H p ns fun H=>K fr H
 | _=>False
def unK (op:UnOp) (x:FV) (K:FV→Prop):Prop:=match op,x with
 | .not,.g (.bool b)=>K (gb (!b))
 | .neg,.g (.int k n)=>K (gi k (ad_ k (0 - n)))
 | .xor,.g (.int k n)=>K (gi k (tA_ .xor k (if k.signed then -1 else k.max) n))
 | _,_=>False
def yW_ (t:TypeId):Bool:=Nat.beq t 5||Nat.beq t 6
def qF_ (cx:Cx) (s d:Nat) (x:FV) (H:Hp) (K:FV→Hp→Prop):Prop:=ck (cx.okT s) <| ck (cx.okT d) <| match (cx.ty d).k,(cx.ty d).lv,x with
 | 0,[.int k],.g (.int _ n)=>ck (!(cx.ty d).agg) (K (gi k (ad_ k n)) H)
 | 3,_,.g (.str s)=>K (.g (.str s)) H
 | 3,_,.g (.sl a n _)=>ck (cx.isSl s) <| ck (cx.ty (cx.ty s).el).isU8 <| rdN H a n fun cs=>txt cs fun s=>K (.g (.str s)) H
 | 3,_,.bs cs n _=>ck (cx.isSl s) <| ck (cx.ty (cx.ty s).el).isU8 <| ck (Nat.beq cs.length n) <| txt cs fun s=>K (.g (.str s)) H
 | 1,_,.g (.str s)=>ck (cx.ty (cx.ty d).el).isU8 <| ck (yW_ (cx.ty d).el) <| chk (leN (szN s) Lim) (K (.g (.sl (some (ln H,0)) (szN s) 1)) (pu H (.row true (cx.ty d).el (bytesOf s))))
 | _,_,_=>False
def Am_ (cx:Cx) (t:Nat) (l c:FV) (H:Hp) (K:FV→Hp→Prop):Prop:=match l,c with
 | .g (.int _ l),.g (.int _ c)=>ck (cx.isSl t) <| ck (cx.full (cx.ty t).el) <| chk (eqI l c&&leI 0 l&&leI (l*(cx.ty (cx.ty t).el).by_) (nI Lim))
  (K (.g (.sl (some (ln H,0)) (tN l) (cx.ty (cx.ty t).el).lv.length)) (pu H (.row true (cx.ty t).el (iS_ (tN l) (dB_ (cx.ty (cx.ty t).el).lv)))))
 | _,_=>False
def uC_ (cx:Cx) (t:Nat) (l c:FV) (K:FV→Prop):Prop:=match l,c with
 | .g (.int _ l),.g (.int _ c)=>ck (cx.isSl t) <| ck (cx.full (cx.ty t).el) <| chk (eqI l c&&leI 0 l&&leI (l*(cx.ty (cx.ty t).el).by_) (nI Lim))
  (K (.bs (w5_ l.toNat (dB_ (cx.ty (cx.ty t).el).lv)) l.toNat (cx.ty (cx.ty t).el).lv.length))
 | _,_=>False
def zs_ (H:Hp) (a:Pl) (k:Nat):Bool:=match a with
 | none=>true
 | some (l,o)=>match H[l]? with | some (.row _ _ cs)=>leN cs.length (o+k) | _=>false
def nn_ (cx:Cx) (t:Nat) (x:FV) (lo hi:Option Operand) (E:Operand→FV) (H:Hp) (K:FV→Prop):Prop:=match x with
 | .g (.str s)=>ck ((cx.ty t).isA 3) <| l2_ E hi (szN s) fun h=>l2_ E lo 0 fun l=>chk (leN l h&&leN h (szN s)) (K (.g (.str (sub s l h))))
 | .g (.sl a n z')=>ck (cx.isSl t) <| ck (Nat.ble 1 (cx.ty (cx.ty t).el).lv.length) <| chk (okz a z' (cx.ty (cx.ty t).el).lv.length) <| match hi with
  | none=>l2_ E lo 0 fun l=>chk (leN l n) (K (.g (.sl (shf a (l*(cx.ty (cx.ty t).el).lv.length)) (n - l) (cx.ty (cx.ty t).el).lv.length)))
  | some _=>l2_ E hi n fun h=>l2_ E lo 0 fun l=>chk (leN l h&&(leN h n||uW_ H a (h*(cx.ty (cx.ty t).el).lv.length))) (K (.g (.sl (shf a (l*(cx.ty (cx.ty t).el).lv.length)) (h - l) (cx.ty (cx.ty t).el).lv.length)))
 | .g (.ptr (some (r,o)))=>ck ((cx.ty t).isA 6) <| ck (cx.okT (cx.ty t).el) <| ck (Nat.ble 1 (cx.ty (cx.ty t).el).lv.length) <| ck (Nat.ble (cx.ty t).an 16777216) <| l2_ E hi (cx.ty t).an fun h=>l2_ E lo 0 fun l=>
  chk (leN l h&&(leN h (cx.ty t).an&&(uW_ H (some (r,o)) ((cx.ty t).an*(cx.ty (cx.ty t).el).lv.length)&&zs_ H (some (r,o)) ((cx.ty t).an*(cx.ty (cx.ty t).el).lv.length))))
   (K (.g (.sl (some (r,o+l*(cx.ty (cx.ty t).el).lv.length)) (h - l) (cx.ty (cx.ty t).el).lv.length)))
 | _=>False
def jo_ (cx:Cx) (t:Nat) (x:FV) (lo hi:Option Operand) (mx:Operand) (E:Operand→FV) (H:Hp) (K:FV→Prop):Prop:=match x,hi with
 | .g (.sl a n z'),some hi=>ck (cx.isSl t) <| ck (Nat.ble 1 (cx.ty (cx.ty t).el).lv.length) <| chk (okz a z' (cx.ty (cx.ty t).el).lv.length) <|
  l2_ E (some mx) n fun m=>l2_ E (some hi) n fun h=>l2_ E lo 0 fun l=>chk (leN l h&&(leN h m&&(leN m n&&zs_ H a (m*(cx.ty (cx.ty t).el).lv.length))))
   (K (.g (.sl (shf a (l*(cx.ty (cx.ty t).el).lv.length)) (h - l) (cx.ty (cx.ty t).el).lv.length)))
 | _,_=>False
def xW_ (x:FV) (p:Nat) (K:FV→Prop):Prop:=match x with
 | .lp s q=>K (.lp s (q+p))
 | .g (.ptr (some (l,q)))=>K (.g (.ptr (some (l,q+p))))
 | _=>False
def zB_ (cx:Cx) (t:Nat) (x i:FV) (K:FV→Prop):Prop:=match x,i with
 | .g (.sl a n z'),.g (.int _ j)=>ck (cx.isSl t) <| chk (okz a z' (cx.ty (cx.ty t).el).lv.length) (chk (leI 0 j&&ltI j (nI n)) (pS a fun l q=>K (.g (.ptr (some (l,q+tN j*(cx.ty (cx.ty t).el).lv.length))))))
 | .g (.ptr (some (l,q))),.g (.int _ j)=>ck ((cx.ty t).isA 6) <| ck (cx.okT (cx.ty t).el) <| chk (leI 0 j&&ltI j (nI (cx.ty t).an)) (K (.g (.ptr (some (l,q+tN j*(cx.ty (cx.ty t).el).lv.length)))))
 | _,_=>False
def zT_ (cx:Cx) (t:Nat) (x:FV) (K:FV→Prop):Prop:=match x with
 | .g (.str s)=>ck ((cx.ty t).isA 3) <| K (gi .i64 (sz s))
 | .g (.sl _ n _)=>ck ((cx.ty t).isA 1) <| K (gi .i64 (nI n))
 | .bs _ n _=>ck ((cx.ty t).isA 1) <| K (gi .i64 (nI n))
 | _=>False
def sL_ (mx:Bool) (x y:FV) (K:FV→Prop):Prop:=match x,y with
 | .g (.int k a),.g (.int _ b)=>K (gi k (match mx with | true=>mxI a b | false=>mnI a b))
 | _,_=>False
def C7_ (cx:Cx) (e:Nat) (x y:FV) (H:Hp) (K:FV→Hp→Prop):Prop:=C3_ H (cx.ty e).lv.length y fun cs m=>match x with
 | .g (.sl a n z')=>chk (okz a z' (cx.ty e).lv.length) (ap H e (cx.ty e).lv.length (cx.ty e).by_ a n cs m fun a n H=>K (.g (.sl a n (cx.ty e).lv.length)) H)
 | .bs [] 0 _=>ap0 H e (cx.ty e).lv.length (cx.ty e).by_ cs m fun H'=>K (.g (.sl (some (ln H,0)) m (cx.ty e).lv.length)) H'
 | _=>False
def CD_ (cx:Cx) (t:Nat) (x:FV) (H:Hp) (K:FV→Hp→Prop):Prop:=match x with
 | .g (.sl a n z')=>ck (cx.isSl t) <| ck (cx.full (cx.ty t).el) <| chk (okz a z' (cx.ty (cx.ty t).el).lv.length) <| clr H a n (dB_ (cx.ty (cx.ty t).el).lv) fun H=>K .bad H
 | _=>False
def DR_ (p:Nat × Nat):FV:= .g (.ptr (some p))
def cpl (as:List FV) (caps:List (Nat × Nat)):List FV:=as++caps.map DR_
def mth:List (String × Nat × Bool)→String→Option (Nat × Bool)
 | [],_=>none
 | (n,f,b)::l,x=>match n==x with | true=>some (f,b) | false=>mth l x
def ur_ (cx:Cx) (t:Nat) (b:Bool) (w:GV) (B:Nat→FV) (H:Hp) (K:FV→Prop):Prop:=match (cx.ty t).isA 2 with
 | true=>match b with
  | true=>K (.g w)
  | false=>ck (cx.okT (cx.ty t).el) <| match w with
   | .ptr a=>pS a fun l o=>i0_ cx (cx.ty t).el (.g (.ptr (some (l,o)))) B H fun x=>match x with
    | .g v=>K (.g v)
    | .agg cs=>K (.agg cs)
    | _=>False
   | _=>False
 | false=>False
def lvR (ti:TI) (r:RV) (K:RV→Prop):Prop:=match ti.ok with
 | false=>K r
 | true=>match ti.agg with
  | true=>rC r fun cs=>gn_ ti.lv cs fun cs=>K (.a cs)
  | false=>rS r fun v=>match ti.lv with | [k]=>fO_ k v fun v=>K (.s v) | _=>False
def rvK (x:FV) (K:RV→Prop):Prop:=match x with | .g v=>K (.s v) | .agg cs=>K (.a cs) | _=>False
def fvR (r:RV):FV:=match r with | .s v=> .g v | .a cs=> .agg cs
def Cx.isMap (cx:Cx) (t:Nat):Bool:=match (cx.ty t).isA 5,cx.okT (cx.ty t).el,cx.okT (cx.ty t).an,(cx.ty (cx.ty t).an).agg with
 | true,true,true,false=>(match (cx.ty (cx.ty t).an).lv with | [.bool]=>true | [.int _]=>true | [.str]=>true | _=>false)
 | true,true,true,true=>(cx.ty (cx.ty t).an).cmp
 | _,_,_,_=>false
def s2_ (cx:Cx) (t:Nat) (x:FV) (K:RV→Prop):Prop:=rvK x fun k=>ck (kD_ (cx.ty (cx.ty t).an).agg (cx.ty (cx.ty t).an).lv k) (K k)
def Cq_ (r:Option FV) (x:Prop):Prop:=match r with | none=>x | some (.g (.int _ _))=>x | some _=>False
def A3_ (cx:Cx) (t:Nat) (x i:FV) (ok:Bool) (H:Hp) (K:FV→Prop):Prop:=ck (cx.isMap t) <| match x with
 | .g (.map m)=>s2_ cx t i fun k=>nB_ H m (cx.ty (cx.ty t).an).agg (cx.ty (cx.ty t).an).lv k (un_ (cx.ty (cx.ty t).el)) fun v b=>lvR (cx.ty (cx.ty t).el) v fun v=>match ok with
  | true=>K (.tup [v,.s (.bool b)])
  | false=>K (fvR v)
 | _=>False
def DT_ (cx:Cx) (t:Nat) (m k v:FV) (H:Hp) (K:Hp→Prop):Prop:=ck (cx.isMap t) <| match m with
 | .g (.map m)=>s2_ cx t k fun k=>rvK v fun v=>sf_ H m (cx.ty (cx.ty t).an).agg (cx.ty (cx.ty t).an).lv k v K
 | _=>False
def Du_ (cx:Cx) (t:Nat) (m k:FV) (H:Hp) (K:FV→Hp→Prop):Prop:=ck (cx.isMap t) <| match m with
 | .g (.map m)=>s2_ cx t k fun k=>CI_ H m (cx.ty (cx.ty t).an).agg (cx.ty (cx.ty t).an).lv k (un_ (cx.ty (cx.ty t).el)) fun v n H=>lvR (cx.ty (cx.ty t).el) v fun v=>K (.tup [v,.s (.int .i64 (nI n))]) H
 | _=>False
def DH_ (cx:Cx) (t:Nat) (m s v:FV) (H:Hp) (K:Hp→Prop):Prop:=match m,s with
 | .g (.map m),.g (.int _ n)=>rvK v fun v=>CW_ H m n v K
 | _,_=>False
def DK_ (cx:Cx) (t:Nat) (m k:FV) (H:Hp) (K:Hp→Prop):Prop:=ck (cx.isMap t) <| match m with
 | .g (.map m)=>s2_ cx t k fun k=>CT_ H m (cx.ty (cx.ty t).an).agg (cx.ty (cx.ty t).an).lv k K
 | _=>False
def Dp_ (cx:Cx) (t:Nat) (x:FV) (H:Hp) (K:FV→Hp→Prop):Prop:=ck ((cx.ty t).isA 5) <| match x with
 | .g (.map m)=>rng H m fun H'=>K (.g (.ptr (some (ln H,0)))) H'
 | _=>False
def Dv_ (x:FV) (isS:Bool) (H:Hp) (K:FV→Hp→Prop):Prop:=match isS,x with
 | false,.g (.ptr (some (l,p)))=>nxt H l p (fun k v H'=>K (.tup [.s (.bool true),k,v]) H') (fun H'=>K (.tup [.s (.bool false)]) H')
 | _,_=>False
def vi_ (H:Hp) (l o:Nat) (K:RV→RV→Prop):Prop:=o=0∧match H[l]? with
 | some (.iter (some m) since seen last)=>(match seen.getLast?,H[m]? with
  | some b,some (.map es c)=>c=last∧(match es.find? (fun e=>e.1==b) with | some e=>K e.2.1 e.2.2 | none=>False)
  | _,_=>False)
 | _=>False
def u5_ (cx:Cx) (d:Option Nat) (k v:RV) (K:FV→Prop):Prop:=match cx.keep.lookup (1000000+d.getD 0) with
 | some [t]=>lvR (cx.ty (cx.ty t).an) k fun k=>lvR (cx.ty (cx.ty t).el) v fun v=>K (.tup [k,v])
 | _=>K (.tup [k,v])
def vZ_ (cx:Cx) (d:Option Nat) (x:FV) (H:Hp) (K:FV→Prop):Prop:=match x with
 | .g (.ptr (some (l,p)))=>vi_ H l p fun k v=>u5_ cx d k v K
 | _=>False
def u8_ (cx:Cx) (t:Nat) (x:FV) (H:Hp) (K:FV→Prop):Prop:=match x with
 | .g (.map m)=>ck ((cx.ty t).isA 5) (pW_ H m fun n=>K (gi .i64 (nI n)))
 | x=>zT_ cx t x K
def opE (cx:Cx) (o:Oper) (E:Operand→FV) (B:Nat→FV) (H:Hp) (K:FV→Hp→Prop):Prop:=
 match o.op with
 | .move x | .assign x=>K (evT cx o.type E x) H
 | .pick c a b=>match E c with | .g (.bool t)=>af_ t (K (E a) H) (K (E b) H) | _=>False
 | .build t parts=>ck (cx.ty t).agg <| ck (Nat.beq (cx.ty t).k 0) <| ck (cx.okFs (cx.ty t).lv.length (cx.ty t).fs) <| q8_ cx E t (dB_ (cx.ty t).lv) parts.toList fun cs=>K (.agg cs) H
 | .buildSlice t n parts=>ck (cx.isSl t) <| ck (Nat.ble 1 (cx.ty (cx.ty t).el).lv.length) <| ck (Nat.ble (n*(cx.ty (cx.ty t).el).lv.length) 16777216) <| sr_ E (cx.ty (cx.ty t).el).lv.length (w5_ n (dB_ (cx.ty (cx.ty t).el).lv)) parts.toList fun cs=>match cx.isEsc o.dst with
  | true=>K (.g (.sl (some (ln H,0)) n (cx.ty (cx.ty t).el).lv.length)) (pu H (.row true (cx.ty t).el cs))
  | false=>K (.bs cs n (cx.ty (cx.ty t).el).lv.length) H
 | .load t a=>ck (cx.okT t) <| i0_ cx t (E a) B H fun v=>K v H
 | .nilCheck x=>match E x with
  | .lp s p=>K (.lp s p) H
  | .g (.ptr a)=>pS a fun l p=>K (.g (.ptr (some (l,p)))) H
  | _=>False
 | .binOp op t x y _=>xm_ cx t op (E x) (E y) fun v=>K v H
 | .unOp op _ x=>unK op (E x) fun v=>K v H
 | .convert s d x=>qF_ cx s d (E x) H fun v H=>K v H
 | .makeInterface t x=>ck (cx.okT t) <| ck (!(cx.ty t).isIface) <| match E x with | .g v=>K (.g (.iface t v)) H | _=>False
 | .makeFunc fn first caps=>match fn,first.toList with
  | .func f,[]=>la_ E caps.toList fun cs=>K (.g (.fn f cs)) H
  | _,_=>False
 | .makeSlice t l c=>match cx.isEsc o.dst with
  | true=>Am_ cx t (E l) (E c) H fun v H=>K v H
  | false=>uC_ cx t (E l) (E c) fun v=>K v H
 | .slice t x lo hi mx=>match mx with
  | some m=>jo_ cx t (E x) lo hi m E H fun v=>K v H
  | none=>nn_ cx t (E x) lo hi E H fun v=>K v H
 | .fieldAddr t x f=>match (cx.ty t).fs[f]? with
  | some (p,e)=>ck (cx.ty t).agg <| ck (cx.okT e) <| ck (Nat.ble 1 (cx.ty e).lv.length) <| xW_ (E x) p fun v=>K v H
  | none=>False
 | .field t x f=>match (cx.ty t).fs[f]?,E x with
  | some (p,t'),.agg cs=>ck (cx.ty t).agg <| ck (cx.okT t') <| sY_ cs p (cx.ty t').lv.length (cx.ty t').agg fun v=>K v H
  | _,_=>False
 | .indexAddr t x i=>zB_ cx t (E x) (E i) fun v=>K v H
 | .index t x i=>match E x,E i with
  | .g (.str s),.g (.int _ j)=>ck ((cx.ty t).isA 3) <| chk (leI 0 j&&ltI j (sz s)) (K (gi .u8 (byt s (tN j))) H)
  | _,_=>False
 | .extract x i=>match E x with
  | .tup vs=>match vs[i]? with | some (.s v)=>K (.g v) H | some (.a cs)=>K (.agg cs) H | none=>False
  | _=>False
 | .typeAssert x _ a ok=>match ok with
  | true=>False
  | false=>ck (cx.okT a) <| ck (!(cx.ty a).isIface) <| match E x with | .g v=>dX a v fun w=>(match (cx.ty a).lv with | [k]=>fO_ k w fun w=>K (.g w) H | _=>False) | _=>False
 | .call c=>match c.callee with
  | .value (.func f)=>match cx.env.lookup f with
   | some sem=>g3_ cx E c.args.toList c.argTypes.toList H fun as H=>cl sem as H fun r H=>pV_ cx o.type r fun r=>K r H
   | none=>False
  | .value f=>match E f with
   | .g v=>dF v fun f caps=>g3_ cx E c.args.toList c.argTypes.toList H fun as H=>cl (cx.dyn f) (cpl as caps) H fun r H=>pV_ cx o.type r fun r=>K r H
   | _=>False
  | .builtin b=>match b,c.args.toList with
   | .len,[x]=>match c.argTypes.toList with
    | [t]=>u8_ cx t (E x) H fun v=>K v H
    | _=>False
   | .delete,[x,y]=>match c.argTypes.toList with
    | [t,_]=>DK_ cx t (E x) (E y) H fun H=>K .bad H
    | _=>False
   | .clear,[x]=>match c.argTypes.toList with
    | [t]=>CD_ cx t (E x) H fun v H=>K v H
    | _=>False
   | .min,[x,y]=>sL_ false (E x) (E y) fun v=>K v H
   | .max,[x,y]=>sL_ true (E x) (E y) fun v=>K v H
   | .append,[x,y]=>match c.argTypes.toList with
    | [t,t']=>ck (cx.isSl t) <| ck (cx.full (cx.ty t).el) <| ck ((cx.ty t').isA 1||(cx.ty t').isA 3) <| C7_ cx (cx.ty t).el (E x) (E y) H fun v H=>K v H
    | _=>False
   | _,_=>False
  | .invoke r n=>match E r with
   | .g (.iface t w)=>match mth (cx.ty t).ms n with
    | some (f,b)=>match cx.env.lookup f with
     | some sem=>g3_ cx E c.args.toList c.argTypes.toList H fun as H'=>ur_ cx t b w B H fun x=>cl sem (x::as) H' fun r H=>pV_ cx o.type r fun r=>K r H
     | none=>False
    | none=>False
   | _=>False
 | .makeMap t r=>ck ((cx.ty t).isA 5) <| Cq_ (match r with | none=>none | some x=>some (E x)) (K (.g (.map (some (ln H)))) (pu H (.map [] 0)))
 | .lookup t x i ok=>A3_ cx t (E x) (E i) ok H fun v=>K v H
 | .mapUpdate t m k v=>DT_ cx t (E m) (E k) (evT cx (cx.ty t).el E v) H fun H=>K .bad H
 | .mapEntry t m k=>Du_ cx t (E m) (E k) H fun v H=>K v H
 | .entryStore t m s v=>DH_ cx t (E m) (E s) (evT cx (cx.ty t).el E v) H fun H=>K .bad H
 | .range t x=>Dp_ cx t (E x) H fun v H=>K v H
 | .next x isS=>Dv_ (E x) isS H fun v H=>K v H
 | .entry x=>vZ_ cx o.dst (E x) H fun v=>K v H
 | _=>False
def opK (cx:Cx) (o:Oper) (fr:List FV) (H:Hp) (K:FV→List FV→Hp→Prop):Prop:=
 match o.op with
 | .alloc t=>ck (cx.okT t) <| mkK cx o fr H t (dB_ (cx.ty t).lv) K
 | .box t v=>gN_ (ev fr v) fun cs=>mkK cx o fr H t cs K
 | .store t a x=>gN_ (ev fr x) fun ns=>ck (cx.okT t) <| ck (Nat.beq ns.length (cx.ty t).lv.length) <| vC_ (ev fr a) ns fr H fun fr H=>K .bad fr H
 | _=>opE cx o (ev fr) (fun s=>fr.getD s .bad) H fun v H=>K v fr H
def ms_ (ops:Array Oper) (fr:List FV) (g:Option (Nat × Bool)) (yes no:List FV→Prop):Prop:=match g with
 | none=>yes fr
 | some (j,w)=>match (ops[j]?).bind (·.dst) with
  | some d=>match fr.getD d .bad with
   | .g (.bool b)=>af_ b (sH_ fr d (.g (.bool true)) (match w with | true=>yes | false=>no)) (sH_ fr d (.g (.bool false)) (match w with | true=>no | false=>yes))
   | .und=>no fr
   | _=>False
  | none=>False
def frc {R:Type} (v:FV) (K:FV→R):R:=match v with
 | .g v=>K (.g v) | .agg cs=>K (.agg cs) | .tup vs=>K (.tup vs) | .bx cs=>K (.bx cs) | .lp s o=>K (.lp s o) | .bs cs n z=>K (.bs cs n z) | .bad=>K .bad | .und=>K .und
def v2_ {R:Type} (fr:List FV) (d:Option Nat) (v:FV) (K:List FV→R):R:=match d with
 | some d=>frc v fun v=>sH_ fr d v K
 | none=>K fr
def kr_ (cx:Cx) (ops:Array Oper):List Oper→List FV→Hp→(List FV→Hp→Prop)→Prop
 | [],fr,H,K=>K fr H
 | o::os,fr,H,K=>ms_ ops fr o.guard
  (fun fr=>opK cx o fr H fun v fr H=>v2_ fr o.dst v fun fr=>kr_ cx ops os fr H K)
  (fun fr=>v2_ fr o.dst .und fun fr=>kr_ cx ops os fr H K)
def r6_ {R:Type}:List FV→Nat→List Nat→(List FV→R)→R
 | [],_,_,K=>K []
 | x::xs,i,l,K=>match l.contains i with
  | true=>r6_ xs (i+1) l fun ys=>K (x::ys)
  | false=>r6_ xs (i+1) l fun ys=>K (.bad::ys)
def ys_ {R:Type} (fr:List FV) (c:Operand) (b:Bool) (K:List FV→R):R:=match c with
 | .tmp d=>sH_ fr d (.g (.bool b)) K
 | _=>K fr
def kO_:Code→Nat
 | .region id _ _=>id
 | .seq a _=>kO_ a
 | .block _ b | .loop b | .scope b=>kO_ b
 | .cond _ a _=>kO_ a
 | _=>0
def uJ_ (id:Nat):List Item→Option (List Item)
 | .inBlock id'::k=>if id'==id then some k else uJ_ id k
 | .inScope _::k | .code _::k | .inLoop _::k=>uJ_ id k
 | _=>none
def le_ (id:Nat):Code→List Item→Option (List Item)
 | .seq a b,k=>match le_ id a (.code b::k) with | some r=>some r | none=>le_ id b k
 | .cond _ a b,k=>match le_ id a k with | some r=>some r | none=>le_ id b k
 | .block i b,k=>le_ id b (.inBlock i::k)
 | .scope b,k=>le_ id b (.inScope b::k)
 | .loop b,k=>if kO_ b=id then some (.inLoop b::k) else le_ id b (.inLoop b::k)
 | .region i os d,k=>if i=id then some (.code (.region i os d)::k) else none
 | _,_=>none
def ua_ (cx:Cx) (fr:List FV):List ResultVar→(List RV→Prop)→Prop
 | [],K=>K []
 | .tmp t::rs,K=>match oT_ fr t with
  | .g v=>ua_ cx fr rs fun vs=>K (.s v::vs)
  | .agg cs=>ua_ cx fr rs fun vs=>K (.a cs::vs)
  | _=>False
 | .cell a t::rs,K=>match oT_ fr a with
  | .lp s p=>match fr.getD s .bad with
   | .bx cs=>ck (cx.okT t) <| sY_ cs p (cx.ty t).lv.length (cx.ty t).agg fun v=>match v with
    | .g v=>ua_ cx fr rs fun vs=>K (.s v::vs)
    | .agg cs=>ua_ cx fr rs fun vs=>K (.a cs::vs)
    | _=>False
   | _=>False
  | _=>False
def CN_ (cx:Cx) (fr:List FV) (H:Hp) (Q:Post):Prop:=ua_ cx fr cx.res fun vs=>match vs with
 | [.s v]=>Q (.g v) H
 | [.a cs]=>Q (.agg cs) H
 | vs=>Q (.tup vs) H
def has (m i:Nat):Bool:=m.testBit i
def tB_ (acc:List Nat) (es:List Edge) (s:Nat):Nat:=match es with
 | []=>s
 | e::es=>tB_ acc es (match Region.binds .any e with | true=>s|||2 ^ e.on|||acc.getD e.on 0 | false=>s)
def rw_ (acc:List Nat):List Oper→List Nat
 | []=>acc
 | o::os=>rw_ (acc++[tB_ acc o.after.toList 0]) os
def ds_ (ops:Array Oper):List Nat:=rw_ [] ops.toList
def DY_ (cx:Cx) (d:Option Nat):Bool:=match cx.keep.lookup 2000000,d with | some l,some d=>l.contains d | _,_=>false
def cL_ (cx:Cx) (o:Oper):Bool:=match o.op with
 | .store .. =>true
 | .alloc _ | .box _ _ | .buildSlice _ _ _ | .makeSlice _ _ _=>cx.isEsc o.dst
 | .makeMap .. | .mapUpdate .. | .mapEntry .. | .entryStore .. | .range .. | .next .. =>true
 | .assign _=>DY_ cx o.dst
 | .convert _ d _=>Nat.beq (cx.ty d).k 1
 | .call c=>match c.callee with
  | .builtin .len | .builtin .min | .builtin .max=>false
  | _=>true
 | _=>false
def nr_ (o:Oper) (E:Operand→FV):Bool:=match o.op with
 | .load _ a=>match E a with | .g _=>true | _=>false
 | .convert _ _ x=>match E x with | .g (.sl _ _ _)=>true | _=>false
 | .lookup .. =>true
 | .entry _=>true
 | .call c=>match c.callee,c.args.toList with | .builtin .len,[x]=>(match E x with | .g (.map _)=>true | _=>false) | _,_=>false
 | .slice _ x _ hi _=>match E x with | .g (.sl _ _ _)=>(match hi with | some _=>true | none=>false) | .g (.ptr _)=>true | _=>false
 | _=>false
def f6_ (o:Oper) (E:Operand→FV):Option Nat:=match o.op with | .store _ a _=>(match E a with | .lp s _=>some s | _=>none) | _=>none
def yU_ (o:Oper) (E:Operand→FV) (s:Nat):Bool:=match o.op with | .load _ a=>(match E a with | .lp s' _=>Nat.beq s' s | _=>false) | _=>false
def qr_ (oi:Option Oper) (o:Oper) (E:Operand→FV):Bool:=match oi with
 | some oi=>(match f6_ oi E with | some s=>yU_ o E s | none=>nr_ o E)
 | none=>nr_ o E
def k0_ (W:List Nat):Nat→Nat
 | 0=>0
 | j+1=>match (List.range j).all fun i=>has (W.getD j 0) i with | true=>k0_ W j | false=>j+1
def hP_ (ops:Array Oper) (i:Nat) (d:Bool) (f:Oper→Bool):Bool:=match ops[i]? with | some o=>f o | none=>d
def vT_ (p:Nat→Bool):List Nat→Option Nat
 | []=>none
 | i::l=>match p i with | true=>some i | false=>vT_ p l
def uX_ (i:Nat):List Nat→List Nat
 | []=>[]
 | j::l=>match Nat.beq i j with | true=>l | false=>j::uX_ i l
def C1_ (cx:Cx) (ops:Array Oper) (W:List Nat):Nat→Nat→List Nat→List Nat
 | 0,_,_=>[]
 | n+1,done,rem=>match vT_ (fun i=>Nat.beq (W.getD i 0&&&done) (W.getD i 0)&&hP_ ops i false fun o=> !cL_ cx o) rem with
  | some i=>i::C1_ cx ops W n (done|||2 ^ i) (uX_ i rem)
  | none=>match vT_ (fun i=>Nat.beq (W.getD i 0&&&done) (W.getD i 0)) rem with
   | some i=>i::C1_ cx ops W n (done|||2 ^ i) (uX_ i rem)
   | none=>[]
def mem (i:Nat):List Nat→Bool
 | []=>false
 | j::l=>match Nat.beq i j with | true=>true | false=>mem i l
def tx_:List Nat→Bool
 | []=>true
 | i::l=>match mem i l with | true=>false | false=>tx_ l
def split (cx:Cx) (ops:Array Oper) (W:List Nat) (i j:Nat):Bool:=hP_ ops i false (cL_ cx)&&hP_ ops j false (cL_ cx)&& !has (W.getD i 0) j&& !has (W.getD j 0) i
def zK_ (cx:Cx) (ops:Array Oper) (W:List Nat) (i:Nat):List Nat→Bool
 | []=>false
 | j::l=>split cx ops W i j&&(l.all fun k=>has (W.getD k 0) i)&&l.all fun k=>has (W.getD k 0) j
def ls_ (cx:Cx) (ops:Array Oper) (W:List Nat):List Nat→Bool
 | []=>true
 | i::l=>(match hP_ ops i false (cL_ cx) with | true=>(l.all fun j=>has (W.getD j 0) i)||zK_ cx ops W i l | false=>true)&& !has (W.getD i 0) i&&l.all (fun j=> !has (W.getD i 0) j)&&ls_ cx ops W l
def iB_ (ops:Array Oper) (i:Nat):List Nat:=match ops[i]? with | some o=>(match o.dst with | some d=>[d] | none=>[]) | none=>[]
def m2_ (cx:Cx) (o:Oper):Bool:=match o.op with | .alloc _ | .box _ _=> !cx.isEsc o.dst | _=>false
def xS_ (cx:Cx) (ops:Array Oper):List Nat→List Nat
 | []=>[]
 | i::l=>match hP_ ops i false (m2_ cx) with | true=>iB_ ops i++xS_ cx ops l | false=>xS_ cx ops l
def fY_ (o:Oper):Bool:=match o.op with | .store .. =>true | _=>false
def CC_ (o:Oper):Bool:=match o.dst with | none=>true | some _=>false
def BO_ (cx:Cx) (ops:Array Oper) (W:List Nat) (m:Nat) (al:List Nat) (i:Nat):Bool:=hP_ ops i false fun o=>
 (o.looksAt ops).all fun t=>(fY_ o|| !mem t al)&&(List.range m).all fun j=>match mem t (iB_ ops j) with | true=>has (W.getD i 0) j||(hP_ ops j false (cL_ cx)&&has (W.getD j 0) i) | false=>true
def yO_ (W:List Nat) (i:Nat) (o:Oper):Bool:=match o.guard with | some (g,_)=>has (W.getD i 0) g | none=>true
def yA_ (i:Nat) (o:Oper):Bool:=o.after.toList.all fun e=>match Region.binds .any e with | true=>Nat.blt e.on i | false=>true
def Av_ (cx:Cx) (ops:Array Oper) (W:List Nat) (m:Nat) (σ al:List Nat):Bool:=
 (List.range m).all (fun i=>mem i σ)&&σ.all (fun i=>Nat.blt i m)&&Nat.ble m ops.size&&tx_ σ&&ls_ cx ops W σ&&tx_ ((List.range m).flatMap (iB_ ops))&&
 (List.range m).all (fun i=>BO_ cx ops W m al i&&hP_ ops i false fun o=>(!fY_ o||CC_ o)&&yO_ W i o&&match m2_ cx o with | true=>(iB_ ops i).all fun d=>mem d al | false=>true)&&
 (List.range ops.size).all (fun i=>hP_ ops i false (yA_ i)&&(Nat.blt i m||(List.range i).all fun j=>has (W.getD i 0) j))
def DD_:FV→Bool | .bx _=>false | _=>true
def D8_ (al:List Nat) (d:Nat):FV→Bool | .bx _=>mem d al | _=>true
def j8_ (fr:List FV):List Nat→Bool
 | []=>true
 | d::al=>match if_ d fr with | true=>j8_ fr al | false=>false
def x3_ (al:List Nat) (dst:Option Nat) (v:FV) (fr:List FV) (K:List FV→Prop):Prop:=match dst with
 | none=>K fr
 | some d=>ck (DD_ (fr.getD d .bad)) <| ck (D8_ al d v) <| frc v fun v=>sH_ fr d v fun fr=>ck (j8_ fr al) (K fr)
def gw_ (ops:Array Oper) (fr:List FV) (g:Option (Nat × Bool)):Option Bool:=match g with
 | none=>some true
 | some (j,w)=>match (ops[j]?).bind (·.dst) with
  | some d=>match fr.getD d .bad with | .g (.bool b)=>some (b==w) | .und=>some false | _=>none
  | none=>none
def eqv (v v':FV) (x:Prop):Prop:=v=v'∧x
def Bp_ (fr:List FV):Option Nat→FV
 | some d=>fr.getD d .bad
 | none=> .bad
def reK (cx:Cx) (ops:Array Oper) (W:List Nat) (i:Nat) (H:Hp) (fr:List FV):List Nat→Prop→Prop
 | [],x=>x
 | j::js,x=>match ops[j]? with
  | some o=>match cL_ cx o||has (W.getD i 0) j|| !(qr_ ops[i]? o (ev fr)) with
   | true=>reK cx ops W i H fr js x
   | false=>match gw_ ops fr o.guard with
    | some true=>opE cx o (ev fr) (fun s=>fr.getD s .bad) H fun v' _=>frc v' fun v'=>eqv (Bp_ fr o.dst) v' (reK cx ops W i H fr js x)
    | _=>reK cx ops W i H fr js x
  | none=>reK cx ops W i H fr js x
def Dc_ (a b:Prop):Prop:=a∧b
def stp (cx:Cx) (ops:Array Oper) (W:List Nat) (al:List Nat) (i:Nat) (seen:List Nat) (fr:List FV) (H:Hp) (next:List FV→Hp→Prop):Prop:=match ops[i]? with
 | none=>False
 | some o=>ms_ ops fr o.guard
  (fun fr=>opK cx o fr H fun v fr H'=>x3_ al o.dst v fr fun fr=>reK cx ops W i H' fr (match cL_ cx o with | true=>seen | false=>[]) (next fr H'))
  (fun fr=>x3_ al o.dst .und fr fun fr=>next fr H)
def goK (cx:Cx) (ops:Array Oper) (W:List Nat) (al:List Nat):List Nat→List Nat→List FV→Hp→(List FV→Hp→Prop)→Prop
 | [],_,fr,H,K=>K fr H
 | [i],seen,fr,H,K=>stp cx ops W al i seen fr H K
 | i::j::σ,seen,fr,H,K=>match split cx ops W i j with
  | true=>Dc_ (stp cx ops W al i seen fr H fun fr H=>stp cx ops W al j (i::seen) fr H fun fr H=>goK cx ops W al σ (j::i::seen) fr H K)
   (stp cx ops W al j seen fr H fun fr H=>stp cx ops W al i (j::seen) fr H fun fr H=>goK cx ops W al σ (i::j::seen) fr H K)
  | false=>stp cx ops W al i seen fr H fun fr H=>goK cx ops W al (j::σ) (i::seen) fr H K
def Dx_ (cx:Cx) (ops:Array Oper) (W:List Nat) (m:Nat) (σ al:List Nat) (fr:List FV) (H:Hp) (K:List FV→Hp→Prop):Prop:=
 ck (Av_ cx ops W m σ al) <| ck (j8_ fr al) <| goK cx ops W al σ [] fr H fun fr H=>kr_ cx ops (ops.toList.drop m) fr H K
def drK (cx:Cx) (ops:Array Oper) (fr:List FV) (H:Hp) (K:List FV→Hp→Prop):Prop:=
 Dx_ cx ops (ds_ ops) (k0_ (ds_ ops) ops.size) (C1_ cx ops (ds_ ops) ops.size 0 (List.range (k0_ (ds_ ops) ops.size)))
  (xS_ cx ops (List.range (k0_ (ds_ ops) ops.size))) fr H K
def C2_ (cx:Cx) (dr:Array Oper→List FV→Hp→(List FV→Hp→Prop)→Prop) (ops:Array Oper) (d:Bool) (fr:List FV) (H:Hp) (K:List FV→Hp→Prop):Prop:=match d with
 | false=>kr_ cx ops ops.toList fr H K
 | true=>dr ops fr H K
def step (cx:Cx) (Q:Post) (dr:Array Oper→List FV→Hp→(List FV→Hp→Prop)→Prop) (rec:List Item→List FV→Hp→Prop) (go:List Item→List FV→Hp→Prop) (k:List Item) (fr:List FV) (H:Hp):Prop:=
 match k with
 | [] | .code .ret::_=>CN_ cx fr H Q
 | .code .skip::k | .code (.label _)::k | .inBlock _::k | .inScope _::k=>go k fr H
 | .code (.seq a b)::k=>go (.code a:: .code b::k) fr H
 | .code (.cond c a b)::k=>match ev fr c with
  | .g (.bool t)=>af_ t (ys_ fr c true fun fr=>go (.code a::k) fr H) (ys_ fr c false fun fr=>go (.code b::k) fr H)
  | _=>False
 | .code (.block id b)::k=>go (.code b:: .inBlock id::k) fr H
 | .code (.loop b)::k | .inLoop b::k=>r6_ fr 0 ((cx.keep.lookup (kO_ b)).getD []) fun fr=>rec (.inLoop b::k) fr H
 | .code (.scope b)::k=>go (.code b:: .inScope b::k) fr H
 | .code (.exit id)::k=>match uJ_ id k with | some k=>go k fr H | none=>False
 | .code (.region i ops d)::k=>match cx.cut.lookup i with
  | some l=>r6_ fr 0 l fun fr=>rec (.code (.region i ops d)::k) fr H
  | none=>C2_ cx dr ops d fr H fun fr H=>go k fr H
 | _=>False
def gas:Nat:=100000
def walk (cx:Cx) (Q:Post) (rec:List Item→List FV→Hp→Prop):Nat→List Item→List FV→Hp→Prop:=
 fun g=>Nat.rec (motive:=fun _=>List Item→List FV→Hp→Prop) (fun _ _ _=>False) (fun _ ih=>step cx Q (drK cx) rec ih) g
def CY_ (cx:Cx) (Q:Post) (ih:List Item→List FV→Hp→Prop) (k:List Item) (fr:List FV) (H:Hp):Prop:=match k with
 | .inLoop b::k=>walk cx Q ih gas (.code b:: .inLoop b::k) fr H
 | .code (.region _ ops d)::k=>C2_ cx (drK cx) ops d fr H fun fr H=>walk cx Q ih gas k fr H
 | k=>walk cx Q ih gas k fr H
def Bi_ (cx:Cx) (Q:Post):Nat→List Item→List FV→Hp→Prop:=
 fun n=>Nat.rec (motive:=fun _=>List Item→List FV→Hp→Prop) (fun _ _ _=>False) (fun _ ih k fr H=>CY_ cx Q ih k fr H) n
def ai_ (cx:Cx) (f:Func) (n:Nat) (as:List FV) (H:Hp) (Q:Post):Prop:=
 match f.body with
 | some c=>Bi_ cx Q n [.code c] (as++List.replicate (f.ntmps - as.length) .bad) H
 | none=>False
def a7_ (cx:Cx) (f:Func) (id:Nat) (n:Nat) (fr:List FV) (H:Hp) (Q:Post):Prop:=
 match f.body with
 | some c=>match le_ id c [] with | some k=>Bi_ cx Q n k fr H | none=>False
 | none=>False
def cN_ (l:List (Nat × Sm)):Nat→Sm:=fun f=>match l.lookup f with | some s=>s | none=>fun _ _ _=>False
def aI_:Nat→Sm:=fun _ _ _ _=>False
def B (n:Nat) (l:List FV):List FV:=List.replicate n .bad++l
end Go.Am
namespace Go.Am
structure LI where
 b:Nat
 p:Nat
 own:Bool
 u:Nat
 s:Nat
def mw_ (φ:List LI) (p:Nat × Nat) (x:Value):Prop:=∃ i,φ[p.1]? =some i∧x= .pointer (some ⟨i.b,i.p+p.2,none⟩)
inductive b6_ {α β:Type} (R:α→β→Prop):List α→List β→Prop
 | nil:b6_ R [] []
 | cons {a b as bs}:R a b→b6_ R as bs→b6_ R (a::as) (b::bs)
def GV.is (φ:List LI):GV→Value→Prop
 | .bool b,x=>x= .bool b
 | .int k n,x=>x= .int k n
 | .str s,x=>x= .string s
 | .ptr none,x=>x= .pointer none
 | .ptr (some p),x=>mw_ φ p x
 | .sl none n _,x=>n=0∧x= .slice none 0 0
 | .sl (some (l,o)) n z,x=>∃ i ad c,φ[l]? =some i∧x= .slice (some ad) n c∧(ad=⟨i.b,i.p+o,none⟩∨c=0)∧n≤c∧i.u≤o+c*z∧(i.own=true→i.p=0∧o+c*z≤i.s∧c≤9223372036854775807)
 | .map none,x=>x= .map none
 | .map (some l),x=>∃ i,φ[l]? =some i∧x= .map (some i.b)
 | .fn f caps,x=>∃ xs:List Value,x= .func (.func f) #[] xs.toArray∧b6_ (mw_ φ) caps xs
 | .nilfn,x=>x= .nilFunc
 | .iface t v,x=>∃ y,x= .iface t y∧v.is φ y
 | .nilif,x=>x= .nilIface
abbrev Is2 (φ:List LI):=b6_ (GV.is φ)
def RV.is (φ:List LI):RV→Value→Prop
 | .s v,x=>v.is φ x
 | .a cs,x=>∃ us:Array Value,x= .agg us∧Is2 φ cs us.toList
def FV.is (φ:List LI):FV→Value→Prop
 | .g v,x=>v.is φ x
 | .agg cs,x=>∃ us:Array Value,x= .agg us∧Is2 φ cs us.toList
 | .tup vs,x=>∃ us:Array Value,x= .tuple us∧b6_ (RV.is φ) vs us.toList
 | _,_=>False
section b6_
variable {α β:Type} {R S:α→β→Prop}
theorem b6_.length {as:List α} {bs:List β} (h:b6_ R as bs):as.length=bs.length:=by
 induction h with
 | nil=>rfl
 | cons _ _ ih=>simp [ih]
theorem b6_.imp (hRS:∀ a b,R a b→S a b) {as:List α} {bs:List β} (h:b6_ R as bs):b6_ S as bs:=by
 induction h with
 | nil=>exact .nil
 | cons h _ ih=>exact .cons (hRS _ _ h) ih
theorem b6_.get {as:List α} {bs:List β} (h:b6_ R as bs):∀ {j:Nat} {a:α},as[j]? =some a→∃ b,bs[j]? =some b∧R a b:=by
 induction h with
 | nil=>intro j a h; simp at h
 | cons h _ ih=>
  intro j a hj;cases j with
  | zero=>simp at hj; subst hj; exact⟨_,by simp,h⟩
  | succ j=>simp at hj ⊢; exact ih hj
theorem b6_.append {as as':List α} {bs bs':List β} (h:b6_ R as bs) (h':b6_ R as' bs'):b6_ R (as++as') (bs++bs'):=by
 induction h with
 | nil=>exact h'
 | cons h _ ih=>exact .cons h ih
theorem b6_.take {as:List α} {bs:List β} (h:b6_ R as bs):∀ n,b6_ R (as.take n) (bs.take n):=by
 induction h with
 | nil=>intro n; simp; exact .nil
 | cons h _ ih=>intro n; cases n with
  | zero=>exact .nil
  | succ n=>exact .cons h (ih n)
theorem b6_.drop {as:List α} {bs:List β} (h:b6_ R as bs):∀ n,b6_ R (as.drop n) (bs.drop n):=by
 induction h with
 | nil=>intro n; simp; exact .nil
 | cons h h' ih=>intro n; cases n with
  | zero=>exact .cons h h'
  | succ n=>exact ih n
theorem b6_.set {as:List α} {bs:List β} (h:b6_ R as bs) {a:α} {b:β} (hab:R a b):∀ n,b6_ R (as.set n a) (bs.set n b):=by
 induction h with
 | nil=>intro n; simp; exact .nil
 | cons h h' ih=>intro n; cases n with
  | zero=>exact .cons hab h'
  | succ n=>exact .cons h (ih n)
theorem b6_.replicate {a:α} {b:β} (h:R a b):∀ n,b6_ R (List.replicate n a) (List.replicate n b)
 | 0=> .nil
 | n+1=> .cons h (b6_.replicate h n)
theorem b6_.cons_inv {a:α} {as:List α} {bs:List β} (h:b6_ R (a::as) bs):∃ b bs',bs=b::bs'∧R a b∧b6_ R as bs':=by
 cases h with
 | cons h h'=>exact⟨_,_,rfl,h,h'⟩
theorem b6_.nil_inv {bs:List β} (h:b6_ R [] bs):bs=[]:=by cases h; rfl
theorem b6_.of_get {as:List α}:∀ {bs:List β},as.length=bs.length→(∀ (j:Nat) (a:α) (b:β),as[j]? =some a→bs[j]? =some b→R a b)→b6_ R as bs:=by
 induction as with
 | nil=>intro bs h _; cases bs with
  | nil=>exact .nil
  | cons=>simp at h
 | cons a as ih=>intro bs h hh; cases bs with
  | nil=>simp at h
  | cons b bs=>exact .cons (hh 0 a b (by simp) (by simp)) (ih (by simpa using h) (fun j a b h1 h2=>hh (j+1) a b (by simpa using h1) (by simpa using h2)))
end b6_
theorem iz_ {φ φ':List LI} (h:φ<+:φ') {l:Nat} {i:LI} (hl:φ[l]? =some i):φ'[l]? =some i:=by
 obtain⟨r,rfl⟩:=h;rw[List.getElem?_append_left (by
  rcases Nat.lt_or_ge l φ.length with h | h
  ·exact h
  ·simp [List.getElem?_eq_none h] at hl)]
 exact hl
theorem mw_.mono {φ φ':List LI} (h:φ<+:φ') {p:Nat × Nat} {x:Value}:mw_ φ p x→mw_ φ' p x
 | ⟨i,hi,hx⟩=>⟨i,iz_ h hi,hx⟩
theorem GV.is.mono {φ φ':List LI} (h:φ<+:φ'):∀ {v:GV} {x:Value},v.is φ x→v.is φ' x
 | .bool _,_,hv | .int _ _,_,hv | .str _,_,hv | .ptr none,_,hv | .sl none _ _,_,hv | .nilfn,_,hv | .nilif,_,hv | .map none,_,hv=>hv
 | .ptr (some _),_,hv=>mw_.mono h hv
 | .sl (some (_,_)) _ _,_,⟨i,q,c,hi,r⟩=>⟨i,q,c,iz_ h hi,r⟩
 | .map (some _),_,⟨i,hi,hx⟩=>⟨i,iz_ h hi,hx⟩
 | .fn _ _,_,⟨xs,hx,hc⟩=>⟨xs,hx,hc.imp fun _ _=>mw_.mono h⟩
 | .iface _ _,_,⟨y,hx,hy⟩=>⟨y,hx,GV.is.mono h hy⟩
theorem Is2.mono {φ φ':List LI} (h:φ<+:φ') {cs:List GV} {xs:List Value} (hh:Is2 φ cs xs):Is2 φ' cs xs:=hh.imp fun _ _=>GV.is.mono h
theorem RV.is.mono {φ φ':List LI} (h:φ<+:φ') {v:RV} {x:Value} (hv:v.is φ x):v.is φ' x:=by
 cases v with
 | s v=>exact GV.is.mono h hv
 | a cs=>obtain⟨us,hx,hc⟩:=hv; exact⟨us,hx,Is2.mono h hc⟩
def h8_ (φ:List LI) (w:World) (own:Bool) (t:TypeId) (cs:List GV) (i:LI):Prop:=
 i.own=own∧i.u=cs.length∧i.b < w.heap.size∧
 match own with
 | true=>i.p=0∧∃ c t' fz,w.heap[i.b]? =some (.cells c t' fz)∧(0 < i.s→t'=t)∧c.size=i.s∧(∀ j,fz.1≤j→j < fz.2→i.s≤j∧(yW_ t'=false→i.s < j))∧cs.length≤c.size∧Is2 φ cs (c.toList.take cs.length)
 | false=>(∀ j v,cs[j]? =some v→∃ x,w.cell? ⟨i.b,i.p+j,none⟩=some x∧v.is φ x)∧(t=mo_→i.p=0∧∃ c e,w.heap[i.b]? =some (.cells c e (0,0)))
def fj_ (φ:List LI) (e:Ent) (x:MapEntry):Prop:=x.born=e.1∧RV.is φ e.2.1 x.key∧RV.is φ e.2.2 x.val
def CA_ (φ:List LI) (w:World) (es:List Ent) (clock:Nat) (i:LI):Prop:=
 i.b < w.heap.size∧∃ xs:Array MapEntry,w.heap[i.b]? =some (.map xs clock)∧b6_ (fj_ φ) es xs.toList
def C4_ (φ:List LI) (w:World) (m:Option Nat) (since:Nat) (seen:List Nat) (last:Nat) (i:LI):Prop:=
 i.b < w.heap.size∧i.p=0∧match m with
 | none=>w.heap[i.b]? =some (.mapIter none since seen.toArray last)
 | some l=>∃ j,φ[l]? =some j∧w.heap[i.b]? =some (.mapIter (some j.b) since seen.toArray last)
def kd_ (φ:List LI) (w:World) (i:LI):Obj→Prop
 | .row own t cs=>h8_ φ w own t cs i
 | .map es clock=>CA_ φ w es clock i
 | .iter m since seen last=>C4_ φ w m since seen last i
 | .dead=>True
def Obj.live:Obj→Bool
 | .dead=>false
 | _=>true
def Obj.mut (i:LI):Obj→Prop
 | .row own _ _=>own=true∧0 < i.s
 | .dead=>False
 | _=>True
theorem Obj.mut.live {i:LI} {o:Obj} (h:o.mut i):o.live=true:=by cases o<;>first | rfl | exact h.elim
structure cq_ (φ:List LI) (H:Hp) (w:World):Prop where
 len:φ.length=H.length
 obj:∀ (l:Nat) (o:Obj),H[l]? =some o→o.live=true→∃ i,φ[l]? =some i∧kd_ φ w i o
 apart:∀ (l l':Nat) (o o':Obj) (i i':LI),H[l]? =some o→H[l']? =some o'→o'.live=true→l≠l'→φ[l]? =some i→φ[l']? =some i'→o.mut i→i.b≠i'.b
theorem cq_.row {φ:List LI} {H:Hp} {w:World} (h:cq_ φ H w) (l:Nat) (own:Bool) (t:TypeId) (cs:List GV) (hl:H[l]? =some (Obj.row own t cs)):∃ i,φ[l]? =some i∧h8_ φ w own t cs i:=h.obj l _ hl rfl
theorem cq_.rows {φ:List LI} {H:Hp} {w:World} (h:cq_ φ H w) (l l':Nat) (t:TypeId) (cs:List GV) (own':Bool) (t':TypeId) (cs':List GV) (i i':LI) (h1:H[l]? =some (Obj.row true t cs)) (h2:H[l']? =some (Obj.row own' t' cs')) (h3:l≠l') (h4:φ[l]? =some i) (h5:φ[l']? =some i') (h6:0 < i.s):i.b≠i'.b:=
 h.apart l l' _ _ i i' h1 h2 rfl h3 h4 h5 ⟨rfl,h6⟩
def gg_ (φ:List LI) (H:Hp) (b:Nat):Prop:=∃ (l:Nat) (o:Obj) (i:LI),H[l]? =some o∧φ[l]? =some i∧i.b=b∧o.mut i
def gJ_ (φ:List LI) (H:Hp) (b:Nat):Prop:=∃ (l:Nat) (o:Obj) (i:LI),H[l]? =some o∧o.live=true∧φ[l]? =some i∧i.b=b
theorem gg_.row {φ:List LI} {H:Hp} {b:Nat}:gg_ φ H b→gJ_ φ H b | ⟨l,o,i,h1,h2,h3,h4⟩=>⟨l,o,i,h1,h4.live,h2,h3⟩
theorem gg_.of {φ:List LI} {H:Hp} {l:Nat} {t:TypeId} {cs:List GV} {i:LI} (h1:H[l]? =some (Obj.row true t cs)) (h2:φ[l]? =some i) (h3:0 < i.s):gg_ φ H i.b:=⟨l,_,i,h1,h2,rfl,rfl,h3⟩
theorem gJ_.of {φ:List LI} {H:Hp} {l:Nat} {own:Bool} {t:TypeId} {cs:List GV} {i:LI} (h1:H[l]? =some (Obj.row own t cs)) (h2:φ[l]? =some i):gJ_ φ H i.b:=⟨l,_,i,h1,rfl,h2,rfl⟩
structure c9_ (own:Nat→Prop) (w w':World):Prop where
 os:w'.os=w.os
 tape:w'.tape=w.tape
 output:w'.output=w.output
 size:w.heap.size≤w'.heap.size
 block:∀ b,b < w.heap.size→ ¬ own b→w'.heap[b]? =w.heap[b]?
theorem c9_.refl (own:Nat→Prop) (w:World):c9_ own w w:=⟨rfl,rfl,rfl,Nat.le_refl _,fun _ _ _=>rfl⟩
theorem c9_.trans {own own':Nat→Prop} {w w' w'':World} (h:c9_ own w w') (h':c9_ own' w' w'') (ho:∀ b,own' b→own b∨w.heap.size≤b):c9_ own w w'':=
 ⟨h'.os.trans h.os,h'.tape.trans h.tape,h'.output.trans h.output,Nat.le_trans h.size h'.size,fun b hb hn=>by
  refine (h'.block b (Nat.lt_of_lt_of_le hb h.size) fun hb'=> ?_).trans (h.block b hb hn);rcases ho b hb' with h1 | h1
  ·exact hn h1
  ·omega⟩
structure bH_ (φ:List LI) (H:Hp) (w:World) (φ':List LI) (H':Hp) (w':World):Prop where
 pre:φ<+:φ'
 rep:cq_ φ' H' w'
 keeps:c9_ (gg_ φ H) w w'
 own:∀ b,gg_ φ' H' b→gg_ φ H b∨w.heap.size≤b
 row:∀ b,gJ_ φ' H' b→gJ_ φ H b∨w.heap.size≤b
theorem bH_.refl {φ:List LI} {H:Hp} {w:World} (h:cq_ φ H w):bH_ φ H w φ H w:=⟨List.prefix_refl _,h,c9_.refl _ _,fun _ h=> .inl h,fun _ h=> .inl h⟩
theorem bH_.trans {φ φ' φ'':List LI} {H H' H'':Hp} {w w' w'':World} (h:bH_ φ H w φ' H' w') (h':bH_ φ' H' w' φ'' H'' w''):bH_ φ H w φ'' H'' w'' where
 pre:=h.pre.trans h'.pre
 rep:=h'.rep
 keeps:=h.keeps.trans h'.keeps h.own
 own b hb:=by
  rcases h'.own b hb with h1 | h1
  ·exact h.own b h1
  ·exact .inr (Nat.le_trans h.keeps.size h1)
 row b hb:=by
  rcases h'.row b hb with h1 | h1
  ·exact h.row b h1
  ·exact .inr (Nat.le_trans h.keeps.size h1)
def ay_ (P:Program) (f:FuncId) (s:Sm):Prop:=
 ∀ as H Q,s as H Q→∀ φ w vs,cq_ φ H w→b6_ (FV.is φ) as vs→
  Calls P f vs.toArray w fun e w'=>∃ r H' φ' x,Q r H'∧e= .returned x∧r.is φ' x∧bH_ φ H w φ' H' w'
end Go.Am
namespace Go.Am
variable {φ:List LI} {H:Hp} {w:World}
theorem fa_ {w:World} {b j:Nat} {c:Array Value} {t:TypeId} {fz:Nat × Nat} (h:w.heap[b]? =some (.cells c t fz)):w.cell? ⟨b,j,none⟩=c[j]? :=cell_of_row w b j c t fz h
theorem cq_.lt (h:cq_ φ H w) {l:Nat} {own:Bool} {t:TypeId} {cs:List GV} (hl:H[l]? =some (.row own t cs)):l < φ.length:=by
 rw[h.len];rcases Nat.lt_or_ge l H.length with h1 | h1
 ·exact h1
 ·simp [List.getElem?_eq_none h1] at hl
theorem cq_.get (h:cq_ φ H w) {l o:Nat} {v:GV} (hv:gt H l o=some v):∃ i x,φ[l]? =some i∧w.cell? ⟨i.b,i.p+o,none⟩=some x∧v.is φ x:=by
 unfold gt at hv;split at hv
 ·rename_i own t cs hl;obtain⟨i,hi,h1,h2,h3,h4⟩:=h.row l own t cs hl;cases own with
  | false=>obtain⟨x,hx,hvx⟩:=h4.1 o v hv; exact⟨i,x,hi,hx,hvx⟩
  | true=>
   obtain⟨hp,c,t',fz,hb,_,hs,hf,hle,his⟩:=h4;obtain⟨x,hx,hvx⟩:=his.get hv;refine⟨i,x,hi,?_,hvx⟩;rw[hp,Nat.zero_add,fa_ hb];rw[List.getElem?_take] at hx;split at hx
   ·simpa using hx
   ·simp at hx
 ·simp at hv
theorem cq_.cells (h:cq_ φ H w) {l o n:Nat} {cs:List GV} (hv:cells? H (some (l,o)) n=some cs):
 ∃ i,φ[l]? =some i∧cs.length=n∧∃ xs:List Value,Is2 φ cs xs∧∀ j x,xs[j]? =some x→w.cell? ⟨i.b,i.p+o+j,none⟩=some x:=by
 unfold cells? at hv;simp only at hv;split at hv
 ·rename_i own t ds hl;split at hv
  ·rename_i hle;simp only[Option.some.injEq] at hv;have hlen:cs.length=n:=by rw[←hv]; simp; omega
   obtain⟨i,hi,_⟩:=h.row l own t ds hl;refine⟨i,hi,hlen,?_⟩;have key:∀ j v,cs[j]? =some v→∃ x,w.cell? ⟨i.b,i.p+o+j,none⟩=some x∧v.is φ x:=by
    intro j v hj;have:gt H l (o+j)=some v:=by
     unfold gt; rw[hl]; simp only;rw[←hv,List.getElem?_take] at hj;split at hj
     ·simpa using hj
     ·simp at hj
    obtain⟨i',x,hi',hx,hvx⟩:=h.get this;rw[hi] at hi'; cases hi';exact⟨x,by rw[Nat.add_assoc]; exact hx,hvx⟩
   clear hv hlen;have:∀ (cs:List GV) (d:Nat),(∀ j v,cs[j]? =some v→∃ x,w.cell? ⟨i.b,i.p+o+(d+j),none⟩=some x∧v.is φ x)→
    ∃ xs:List Value,Is2 φ cs xs∧∀ j x,xs[j]? =some x→w.cell? ⟨i.b,i.p+o+(d+j),none⟩=some x:=by
    intro cs;induction cs with
    | nil=>intro d _; exact⟨[],.nil,by simp⟩
    | cons c cs ih=>
     intro d hd;obtain⟨x,hx,hcx⟩:=hd 0 c (by simp);obtain⟨xs,h1,h2⟩:=ih (d+1) (fun j v hj=>by have:=hd (j+1) v (by simpa using hj); rwa [show d+1+j=d+(j+1) by omega]);refine⟨x::xs,.cons hcx h1,?_⟩;intro j y hy;cases j with
     | zero=>simp at hy; subst hy; exact hx
     | succ j=>have:=h2 j y (by simpa using hy); rwa [show d+(j+1)=d+1+j by omega]
   obtain⟨xs,h1,h2⟩:=this cs 0 (by simpa using key);exact⟨xs,h1,by simpa using h2⟩
  ·simp at hv
 ·simp at hv
theorem h8_.keep {w':World} {own:Bool} {t:TypeId} {cs:List GV} {i:LI} (h:h8_ φ w own t cs i) (hb:w'.heap[i.b]? =w.heap[i.b]?) (hs:w.heap.size≤w'.heap.size):h8_ φ w' own t cs i:=by
 obtain⟨h1,h2,h3,h4⟩:=h;refine⟨h1,h2,by omega,?_⟩;cases own with
 | true=>
  obtain⟨hp,c,t',fz,hc,r⟩:=h4;exact⟨hp,c,t',fz,by rw[hb]; exact hc,r⟩
 | false=>
  refine⟨fun j v hj=> ?_,fun q=>⟨(h4.2 q).1,by rw[hb]; exact (h4.2 q).2⟩⟩;obtain⟨x,hx,hv⟩:=h4.1 j v hj;exact⟨x,by rw[World.cell?_of_block (w:=w) (w':=w') hb]; exact hx,hv⟩
theorem h8_.mono {φ':List LI} (hp:φ<+:φ') {own:Bool} {t:TypeId} {cs:List GV} {i:LI} (h:h8_ φ w own t cs i):h8_ φ' w own t cs i:=by
 obtain⟨h1,h2,h3,h4⟩:=h;refine⟨h1,h2,h3,?_⟩;cases own with
 | true=>
  obtain⟨hp',c,t',fz,hc,ht',hs,hf,hle,his⟩:=h4;exact⟨hp',c,t',fz,hc,ht',hs,hf,hle,Is2.mono hp his⟩
 | false=>
  refine⟨fun j v hj=> ?_,h4.2⟩;obtain⟨x,hx,hv⟩:=h4.1 j v hj;exact⟨x,hx,GV.is.mono hp hv⟩
theorem fj_.mono {φ':List LI} (hp:φ<+:φ') {e:Ent} {x:MapEntry} (h:fj_ φ e x):fj_ φ' e x:=⟨h.1,RV.is.mono hp h.2.1,RV.is.mono hp h.2.2⟩
theorem kd_.keep {w':World} {o:Obj} {i:LI} (h:kd_ φ w i o) (hb:w'.heap[i.b]? =w.heap[i.b]?) (hs:w.heap.size≤w'.heap.size):kd_ φ w' i o:=by
 cases o with
 | row own t cs=>exact h8_.keep h hb hs
 | map es clock=>obtain⟨h1,xs,h2,h3⟩:=h; exact⟨by omega,xs,by rw[hb]; exact h2,h3⟩
 | iter m since seen last=>
  obtain⟨h1,h2,h3⟩:=h;refine⟨by omega,h2,?_⟩;cases m with
  | none=>rw[←h3,hb]
  | some l=>obtain⟨j,q1,q2⟩:=h3; exact⟨j,q1,by rw[hb]; exact q2⟩
 | dead=>trivial
theorem kd_.mono {φ':List LI} (hp:φ<+:φ') {o:Obj} {i:LI} (h:kd_ φ w i o):kd_ φ' w i o:=by
 cases o with
 | row own t cs=>exact h8_.mono hp h
 | map es clock=>obtain⟨h1,xs,h2,h3⟩:=h; exact⟨h1,xs,h2,h3.imp fun _ _=>fj_.mono hp⟩
 | iter m since seen last=>
  obtain⟨h1,h2,h3⟩:=h;refine⟨h1,h2,?_⟩;cases m with
  | none=>exact h3
  | some l=>obtain⟨j,q1,q2⟩:=h3; exact⟨j,iz_ hp q1,q2⟩
 | dead=>trivial
theorem kd_.lt {o:Obj} {i:LI} (h:kd_ φ w i o) (hl:o.live=true):i.b < w.heap.size:=by
 cases o with
 | row own t cs=>exact h.2.2.1
 | map es clock=>exact h.1
 | iter m since seen last=>exact h.1
 | dead=>cases hl
theorem cq_.blockLt (h:cq_ φ H w) {b:Nat} (hb:gJ_ φ H b):b < w.heap.size:=by
 obtain⟨l,o,i,hl,ho,hi,rfl⟩:=hb;obtain⟨i',hi',hk⟩:=h.obj l o hl ho;rw[hi] at hi'; cases hi'; exact hk.lt ho
theorem ew_ {α:Type} {xs:List α} {x y:α} {l:Nat} (h:(xs++[x])[l]? =some y):(l < xs.length∧xs[l]? =some y)∨(l=xs.length∧x=y):=by
 rcases Nat.lt_trichotomy l xs.length with h1 | h1 | h1
 ·rw[List.getElem?_append_left h1] at h; exact .inl ⟨h1,h⟩
 ·subst h1; simp at h; exact .inr ⟨rfl,h⟩
 ·rw[List.getElem?_append_right (by omega)] at h;have:l - xs.length=(l - xs.length - 1)+1:=by omega
  rw[this] at h; simp at h
theorem cq_.snocO (h:cq_ φ H w) {w':World} (hs:w.heap.size≤w'.heap.size) (hkb:∀ b,gJ_ φ H b→w'.heap[b]? =w.heap[b]?) {o:Obj} {i:LI} (hi:kd_ (φ++[i]) w' i o)
 (ha:o.mut i→ ¬ gJ_ φ H i.b) (ha': ¬ gg_ φ H i.b):
 cq_ (φ++[i]) (H++[o]) w'∧(∀ b,gg_ (φ++[i]) (H++[o]) b→gg_ φ H b∨(o.mut i∧b=i.b))∧(∀ b,gJ_ (φ++[i]) (H++[o]) b→gJ_ φ H b∨b=i.b):=by
 have hpre:φ<+:φ++[i]:=List.prefix_append _ _;have hφ:∀ {l:Nat} {j:LI},(φ++[i])[l]? =some j→(l < φ.length∧φ[l]? =some j)∨(l=φ.length∧i=j):=fun h=>ew_ h;have hlen:=h.len;refine⟨⟨by simp [hlen],?_,?_⟩,?_,?_⟩
 ·intro l o' hl ho;rcases ew_ hl with⟨h1,h2⟩ | ⟨rfl,h2⟩
  ·obtain⟨i',hi',hr⟩:=h.obj l o' h2 ho;refine⟨i',iz_ hpre hi',(hr.keep (hkb _ ⟨l,o',i',h2,ho,hi',rfl⟩) hs).mono hpre⟩
  ·cases h2;exact⟨i,by rw[←hlen]; simp,hi⟩
 ·intro l l' o1 o2 i1 i2 hl hl' hv hne hi1 hi2 hpos;rcases ew_ hl with⟨h1,h2⟩ | ⟨e1,h2⟩<;>rcases ew_ hl' with⟨h1',h2'⟩ | ⟨e1',h2'⟩
  ·have a1:φ[l]? =some i1:=by rcases hφ hi1 with⟨_,q⟩ | ⟨q,_⟩; exact q; omega
   have a2:φ[l']? =some i2:=by rcases hφ hi2 with⟨_,q⟩ | ⟨q,_⟩; exact q; omega
   exact h.apart l l' o1 o2 i1 i2 h2 h2' hv hne a1 a2 hpos
  ·have a1:φ[l]? =some i1:=by rcases hφ hi1 with⟨_,q⟩ | ⟨q,_⟩; exact q; omega
   have a2:i=i2:=by rcases hφ hi2 with⟨q,_⟩ | ⟨_,q⟩; omega; exact q
   subst a2;intro e;exact ha' ⟨l,o1,i1,h2,a1,e,hpos⟩
  ·have a1:i=i1:=by rcases hφ hi1 with⟨q,_⟩ | ⟨_,q⟩; omega; exact q
   have a2:φ[l']? =some i2:=by rcases hφ hi2 with⟨_,q⟩ | ⟨q,_⟩; exact q; omega
   subst a1;cases h2;intro e;exact ha hpos ⟨l',o2,i2,h2',hv,a2,e.symm⟩
  ·omega
 ·intro b ⟨l,o1,j,hl,hj,hb,hpos⟩;rcases ew_ hl with⟨h1,h2⟩ | ⟨e1,h2⟩
  ·rcases hφ hj with⟨_,q⟩ | ⟨q,_⟩
   ·exact .inl ⟨l,o1,j,h2,q,hb,hpos⟩
   ·omega
  ·cases h2;rcases hφ hj with⟨q,_⟩ | ⟨_,q⟩
   ·omega
   ·subst q; exact .inr ⟨hpos,hb.symm⟩
 ·intro b ⟨l,o1,j,hl,hv,hj,hb⟩;rcases ew_ hl with⟨h1,h2⟩ | ⟨e1,h2⟩
  ·rcases hφ hj with⟨_,q⟩ | ⟨q,_⟩
   ·exact .inl ⟨l,o1,j,h2,hv,q,hb⟩
   ·omega
  ·cases h2;rcases hφ hj with⟨q,_⟩ | ⟨_,q⟩
   ·omega
   ·subst q; exact .inr hb.symm
theorem cq_.snoc (h:cq_ φ H w) {w':World} (hs:w.heap.size≤w'.heap.size) (hkb:∀ b,gJ_ φ H b→w'.heap[b]? =w.heap[b]?) {own:Bool} {t:TypeId} {cs:List GV} {i:LI} (hi:h8_ (φ++[i]) w' own t cs i)
 (ha:own=true→0 < i.s→ ¬ gJ_ φ H i.b) (ha': ¬ gg_ φ H i.b):
 cq_ (φ++[i]) (H++[.row own t cs]) w'∧(∀ b,gg_ (φ++[i]) (H++[.row own t cs]) b→gg_ φ H b∨(own=true∧b=i.b∧0 < i.s))∧(∀ b,gJ_ (φ++[i]) (H++[.row own t cs]) b→gJ_ φ H b∨b=i.b):=by
 obtain⟨h1,h2,h3⟩:=h.snocO (o:= .row own t cs) hs hkb hi (fun q=>ha q.1 q.2) ha';exact⟨h1,fun b q=>(h2 b q).imp_right fun z=>⟨z.1.1,z.2,z.1.2⟩,h3⟩
theorem bH_.snocO (h:cq_ φ H w) {w':World} (hk:c9_ (gg_ φ H) w w') (hkb:∀ b,gJ_ φ H b→w'.heap[b]? =w.heap[b]?) {o:Obj} {i:LI} (hi:kd_ (φ++[i]) w' i o)
 (hnew:w.heap.size≤i.b):bH_ φ H w (φ++[i]) (H++[o]) w':=by
 have hb: ¬ gJ_ φ H i.b:=fun q=>by have:=h.blockLt q; omega
 obtain⟨h1,h2,h3⟩:=h.snocO hk.size hkb hi (fun _=>hb) (fun q=>hb q.row);exact⟨List.prefix_append _ _,h1,hk,fun b q=>(h2 b q).imp_right fun q=>by rw[q.2]; exact hnew,fun b q=>(h3 b q).imp_right fun q=>by rw[q]; exact hnew⟩
theorem bH_.snoc (h:cq_ φ H w) {w':World} (hk:c9_ (gg_ φ H) w w') (hkb:∀ b,gJ_ φ H b→w'.heap[b]? =w.heap[b]?) {own:Bool} {t:TypeId} {cs:List GV} {i:LI} (hi:h8_ (φ++[i]) w' own t cs i)
 (hnew:w.heap.size≤i.b):bH_ φ H w (φ++[i]) (H++[.row own t cs]) w':=bH_.snocO h hk hkb (o:= .row own t cs) hi hnew
theorem fo_ (own:Nat→Prop) (w:World) (o:Go.Obj):c9_ own w (w.alloc o):=
 ⟨rfl,rfl,rfl,by simp,fun b hb _=>heap_alloc_old w o b hb⟩
theorem jG_ (own:Nat→Prop) (w:World):c9_ own w w.drew:=⟨rfl,rfl,rfl,Nat.le_refl _,fun _ _ _=>rfl⟩
theorem bH_.new (h:cq_ φ H w) (t:TypeId) (cs:List GV) (c:Array Value) (fz:Nat × Nat) (hle:cs.length≤c.size) (his:Is2 φ cs (c.toList.take cs.length)) (hf:∀ j,fz.1≤j→j < fz.2→c.size≤j∧(yW_ t=false→c.size < j)):
 bH_ φ H w (φ++[⟨w.heap.size,0,true,cs.length,c.size⟩]) (H++[.row true t cs]) (w.alloc (.cells c t fz)):=
 bH_.snoc h (fo_ _ _ _) (fun b hb=>heap_alloc_old w _ b (h.blockLt hb))
  ⟨rfl,rfl,by simp,rfl,c,t,fz,heap_alloc_new w _,fun _=>rfl,rfl,hf,hle,Is2.mono (List.prefix_append _ _) his⟩ (Nat.le_refl _)
theorem bH_.drew (h:cq_ φ H w):bH_ φ H w φ H w.drew:=
 ⟨List.prefix_refl _,⟨h.len,fun l o hl hv=>by obtain⟨i,hi,hr⟩:=h.obj l o hl hv; exact⟨i,hi,hr.keep rfl (Nat.le_refl _)⟩,h.apart⟩,jG_ _ _,fun _ h=> .inl h,fun _ h=> .inl h⟩
theorem cZ_ {α:Type} {xs:List α} {l l':Nat} {x y:α} (h:(xs.set l x)[l']? =some y):(l'=l∧y=x)∨(l'≠l∧xs[l']? =some y):=by
 rw[List.getElem?_set] at h;split at h
 ·split at h
  ·rename_i e _; simp at h; exact .inl ⟨e.symm,h.symm⟩
  ·simp at h
 ·rename_i e; exact .inr ⟨fun q=>e q.symm,h⟩
theorem bH_.turnO (h:cq_ φ H w) {w':World} {l:Nat} {o o':Obj} {i:LI} (hl:H[l]? =some o) (hv:o.live=true) (hv':o'.live=true) (hi:φ[l]? =some i) (hm:o.mut i) (hm':o'.mut i)
 (hk:c9_ (fun b=>b=i.b) w w') (hr:kd_ φ w' i o'):bH_ φ H w φ (H.set l o') w':=by
 have hown:gg_ φ H i.b:=⟨l,o,i,hl,hi,rfl,hm⟩;refine⟨List.prefix_refl _,⟨by simp [h.len],?_,?_⟩,⟨hk.os,hk.tape,hk.output,hk.size,fun b hb hn=>hk.block b hb (fun e=>hn (e▸hown))⟩,?_,?_⟩
 ·intro l' o1 hl' hv1;rcases cZ_ hl' with⟨rfl,e⟩ | ⟨hne,hl'⟩
  ·cases e; exact⟨i,hi,hr⟩
  ·obtain⟨i',hi',hr'⟩:=h.obj l' o1 hl' hv1;refine⟨i',hi',hr'.keep (hk.block _ (h.blockLt ⟨l',o1,i',hl',hv1,hi',rfl⟩) (fun e=> ?_)) hk.size⟩;exact h.apart l l' o o1 i i' hl hl' hv1 (fun q=>hne q.symm) hi hi' hm e.symm
 ·intro l1 l2 o1 o2 i1 i2 hl1 hl2 hv2 hne hi1 hi2 hp1;have q1:∃ o,H[l1]? =some o∧o.mut i1:=by
   rcases cZ_ hl1 with⟨rfl,e⟩ | ⟨_,q⟩
   ·cases e; rw[hi] at hi1; cases hi1; exact⟨o,hl,hm⟩
   ·exact⟨_,q,hp1⟩
  have q2:∃ o,H[l2]? =some o∧o.live=true:=by
   rcases cZ_ hl2 with⟨rfl,e⟩ | ⟨_,q⟩
   ·cases e; exact⟨o,hl,hv⟩
   ·exact⟨_,q,hv2⟩
  obtain⟨_,q1,m1⟩:=q1;obtain⟨_,q2,v2⟩:=q2;exact h.apart l1 l2 _ _ i1 i2 q1 q2 v2 hne hi1 hi2 m1
 ·intro b ⟨l',o1,j,hl',hj,hb,hp1⟩;rcases cZ_ hl' with⟨rfl,e⟩ | ⟨_,q⟩
  ·cases e; rw[hi] at hj; cases hj; exact .inl (hb▸hown)
  ·exact .inl ⟨l',o1,j,q,hj,hb,hp1⟩
 ·intro b ⟨l',o1,j,hl',hv1,hj,hb⟩;rcases cZ_ hl' with⟨rfl,e⟩ | ⟨_,q⟩
  ·cases e; rw[hi] at hj; cases hj; exact .inl (hb▸hown.row)
  ·exact .inl ⟨l',o1,j,q,hv1,hj,hb⟩
theorem bH_.turn (h:cq_ φ H w) {w':World} {l:Nat} {t:TypeId} {cs cs':List GV} {i:LI} (hl:H[l]? =some (.row true t cs)) (hi:φ[l]? =some i) (hpos:0 < i.s)
 (hk:c9_ (fun b=>b=i.b) w w') (hr:h8_ φ w' true t cs' i):bH_ φ H w φ (H.set l (.row true t cs')) w':=
 bH_.turnO h hl rfl rfl hi ⟨rfl,hpos⟩ ⟨rfl,hpos⟩ hk hr
theorem bH_.drop (h:cq_ φ H w) (l:Nat):bH_ φ H w φ (H.set l .dead) w:=by
 have o:∀ {l':Nat} {o:Obj},(H.set l .dead)[l']? =some o→o.live=true→H[l']? =some o:=by
  intro l' o hl' hv;rcases cZ_ hl' with⟨_,e⟩ | ⟨_,q⟩
  ·cases e; cases hv
  ·exact q
 exact⟨List.prefix_refl _,⟨by simp [h.len],fun l' o' hl' hv=>h.obj l' o' (o hl' hv) hv,fun l1 l2 o1 o2 i1 i2 a b hv c d e f=>h.apart l1 l2 o1 o2 i1 i2 (o a f.live) (o b hv) hv c d e f⟩,
  c9_.refl _ _,fun b ⟨l',o',j,a,c,d,e⟩=> .inl ⟨l',o',j,o a e.live,c,d,e⟩,fun b ⟨l',o',j,a,v,c⟩=> .inl ⟨l',o',j,o a v,v,c⟩⟩
theorem bH_.pass (h:cq_ φ H w) {w':World} {l:Nat} {t t':TypeId} {cs cs':List GV} {i i':LI} (hl:H[l]? =some (.row true t cs)) (hi:φ[l]? =some i) (hpos:0 < i.s) (hb:i'.b=i.b)
 (hk:c9_ (fun b=>b=i.b) w w') (hr:h8_ (φ++[i']) w' true t' cs' i'):bH_ φ H w (φ++[i']) (H.set l .dead++[.row true t' cs']) w':=by
 have hown:gg_ φ H i.b:= .of hl hi hpos;have hpre:φ<+:φ++[i']:=List.prefix_append _ _;have hlen:=h.len;have hφ:∀ {l:Nat} {j:LI},(φ++[i'])[l]? =some j→(l < φ.length∧φ[l]? =some j)∨(l=φ.length∧i'=j):=fun h=>ew_ h;have o:∀ {l':Nat} {o:Obj},(H.set l .dead)[l']? =some o→o.live=true→l'≠l∧H[l']? =some o:=by
  intro l' o hl' hv;rcases cZ_ hl' with⟨_,e⟩ | ⟨n,q⟩
  ·cases e; cases hv
  ·exact⟨n,q⟩
 have hsl:(H.set l .dead).length=φ.length:=by simp [hlen]
 refine⟨hpre,⟨by simp [hlen],?_,?_⟩,⟨hk.os,hk.tape,hk.output,hk.size,fun b hb hn=>hk.block b hb (fun e=>hn (e▸hown))⟩,?_,?_⟩
 ·intro l' o1 hl' hv;rcases ew_ hl' with⟨h1,h2⟩ | ⟨e1,h2⟩
  ·obtain⟨hne,h3⟩:=o h2 hv;obtain⟨j,hj,hr'⟩:=h.obj l' o1 h3 hv;refine⟨j,iz_ hpre hj,(hr'.keep (hk.block _ (h.blockLt ⟨l',o1,j,h3,hv,hj,rfl⟩) (fun e=> ?_)) hk.size).mono hpre⟩;exact h.apart l l' _ o1 i j hl h3 hv (fun q=>hne q.symm) hi hj ⟨rfl,hpos⟩ e.symm
  ·cases h2;exact⟨i',by rw[e1,hsl]; simp,hr⟩
 ·intro l1 l2 o1 o2 i1 i2 hl1 hl2 hv2 hne hi1 hi2 hp1;rcases ew_ hl1 with⟨h1,h2⟩ | ⟨e1,h2⟩<;>rcases ew_ hl2 with⟨h1',h2'⟩ | ⟨e1',h2'⟩
  ·obtain⟨n1,q1⟩:=o h2 hp1.live;obtain⟨n2,q2⟩:=o h2' hv2;have a1:φ[l1]? =some i1:=by rcases hφ hi1 with⟨_,q⟩ | ⟨q,_⟩; exact q; omega
   have a2:φ[l2]? =some i2:=by rcases hφ hi2 with⟨_,q⟩ | ⟨q,_⟩; exact q; omega
   exact h.apart l1 l2 o1 o2 i1 i2 q1 q2 hv2 hne a1 a2 hp1
  ·obtain⟨n1,q1⟩:=o h2 hp1.live;have a1:φ[l1]? =some i1:=by rcases hφ hi1 with⟨_,q⟩ | ⟨q,_⟩; exact q; omega
   have a2:i'=i2:=by rcases hφ hi2 with⟨q,_⟩ | ⟨_,q⟩; omega; exact q
   subst a2;rw[hb];intro e;exact h.apart l1 l o1 _ i1 i q1 hl rfl n1 a1 hi hp1 e
  ·obtain⟨n2,q2⟩:=o h2' hv2;have a2:φ[l2]? =some i2:=by rcases hφ hi2 with⟨_,q⟩ | ⟨q,_⟩; exact q; omega
   have a1:i'=i1:=by rcases hφ hi1 with⟨q,_⟩ | ⟨_,q⟩; omega; exact q
   subst a1;rw[hb];exact h.apart l l2 _ o2 i i2 hl q2 hv2 (fun q=>n2 q.symm) hi a2 ⟨rfl,hpos⟩
  ·omega
 ·intro b ⟨l',o1,j,hl',hj,hb',hp1⟩;rcases ew_ hl' with⟨h1,h2⟩ | ⟨e1,h2⟩
  ·rcases hφ hj with⟨_,q⟩ | ⟨q,_⟩
   ·exact .inl ⟨l',o1,j,(o h2 hp1.live).2,q,hb',hp1⟩
   ·omega
  ·rcases hφ hj with⟨q,_⟩ | ⟨_,q⟩
   ·omega
   ·subst q; exact .inl (hb'▸hb▸hown)
 ·intro b ⟨l',o1,j,hl',hv,hj,hb'⟩;rcases ew_ hl' with⟨h1,h2⟩ | ⟨e1,h2⟩
  ·rcases hφ hj with⟨_,q⟩ | ⟨q,_⟩
   ·exact .inl ⟨l',o1,j,(o h2 hv).2,hv,q,hb'⟩
   ·omega
  ·rcases hφ hj with⟨q,_⟩ | ⟨_,q⟩
   ·omega
   ·subst q; exact .inl (hb'▸hb▸hown.row)
end Go.Am
namespace Go.Am
def p8_ (fr:List FV) (lam:Nat→Nat) (b:Nat):Prop:=∃ s cs,fr[s]? =some (.bx cs)∧lam s=b
def VOK (n0:Nat) (φ:List LI) (H:Hp) (lam:Nat→Nat) (fr:List FV) (w:World):FV→Value→Prop
 | .g v,u=>v.is φ u
 | .agg cs,u=>∃ us:Array Value,u= .agg us∧Is2 φ cs us.toList
 | .tup vs,u=>∃ us:Array Value,u= .tuple us∧b6_ (RV.is φ) vs us.toList
 | .lp s o,u=>u= .pointer (some ⟨lam s,o,none⟩)
 | .bs cs n z,u=>∃ b c t fz,u= .slice (some ⟨b,0,none⟩) n n∧n0≤b∧w.heap[b]? =some (.cells c t fz)∧Is2 φ cs c.toList∧(cs.length=n*z∧fz=(0,0))∧ ¬ gg_ φ H b∧ ¬ p8_ fr lam b
 | .bx _,_=>False
 | .bad,_=>True
 | .und,u=>u=undef
def FOK (n0:Nat) (φ:List LI) (H:Hp) (lam:Nat→Nat) (fr:List FV) (w:World) (d:Nat):FV→Value→Prop
 | .bx cs,u=>u= .pointer (some ⟨lam d,0,none⟩)∧n0≤lam d∧ ¬ gJ_ φ H (lam d)∧∃ c t,w.heap[lam d]? =some (.cells c t (0,0))∧Is2 φ cs c.toList
 | v,u=>VOK n0 φ H lam fr w v u
theorem FOK.of {n0:Nat} {φ:List LI} {H:Hp} {lam:Nat→Nat} {fr:List FV} {w:World} {d:Nat} {v:FV} {u:Value} (h:VOK n0 φ H lam fr w v u):FOK n0 φ H lam fr w d v u:=by
 cases v<;>first | exact h | exact h.elim
structure Inv (φ0:List LI) (H0:Hp) (w0:World) (φ:List LI) (H:Hp) (lam:Nat→Nat) (fr:List FV) (tmps:Array Value) (w:World):Prop where
 pre:φ0<+:φ
 rep:cq_ φ H w
 keeps:c9_ (gg_ φ0 H0) w0 w
 own:∀ b,gg_ φ H b→gg_ φ0 H0 b∨w0.heap.size≤b
 row:∀ b,gJ_ φ H b→gJ_ φ0 H0 b∨w0.heap.size≤b
 size:fr.length=tmps.size
 slot:∀ (d:Nat) (v:FV),fr[d]? =some v→FOK w0.heap.size φ H lam fr w d v (tmps.getD d undef)
 apart:∀ (s s':Nat) (cs cs':List GV),fr[s]? =some (.bx cs)→fr[s']? =some (.bx cs')→s≠s'→lam s≠lam s'
variable {φ0:List LI} {H0:Hp} {w0:World} {φ:List LI} {H:Hp} {lam:Nat→Nat} {fr:List FV} {tmps:Array Value} {w:World}
theorem Inv.boxLt (I:Inv φ0 H0 w0 φ H lam fr tmps w) {b:Nat} (hb:p8_ fr lam b):b < w.heap.size∧w0.heap.size≤b∧ ¬ gJ_ φ H b:=by
 obtain⟨s,cs,hs,rfl⟩:=hb;obtain⟨_,h1,h2,c,t,hc,_⟩:=I.slot s _ hs;exact⟨(Array.getElem?_eq_some_iff.1 hc).1,h1,h2⟩
theorem gS_ {fr:List FV} {d:Nat} {v:FV} (h:fr.getD d .bad=v) (hv:v≠ .bad):fr[d]? =some v:=by
 rw[List.getD_eq_getElem?_getD] at h;cases hx:fr[d]? with
 | none=>rw[hx] at h; exact (hv h.symm).elim
 | some x=>rw[hx] at h; simpa using h
theorem fA_ {α:Type} {l:List α} {d:Nat} {v:α} (h:l[d]? =some v):d < l.length:=by
 rcases Nat.lt_or_ge d l.length with h1 | h1
 ·exact h1
 ·simp [List.getElem?_eq_none h1] at h
theorem Inv.at (I:Inv φ0 H0 w0 φ H lam fr tmps w) (t:Nat):VOK w0.heap.size φ H lam fr w (oT_ fr t) (tmps.getD t undef):=by
 unfold oT_;cases hx:fr[t]? with
 | none=>
  rw[List.getD_eq_getElem?_getD,hx];simp [VOK]
 | some v=>
  have hs:=I.slot t v hx;rw[List.getD_eq_getElem?_getD,hx];simp only[Option.getD_some];cases v with
  | bx cs=>exact hs.1
  | _=>exact hs
theorem xM_ (n0:Nat) (φ:List LI) (H:Hp) (lam:Nat→Nat) (fr:List FV) (w:World) (v:Value):VOK n0 φ H lam fr w (ofValue v) v:=by
 unfold ofValue;split<;>simp [VOK,GV.is]
theorem Inv.ev (I:Inv φ0 H0 w0 φ H lam fr tmps w) (df:List Deferred) (x:Operand):VOK w0.heap.size φ H lam fr w (Am.ev fr x) (Act.eval ⟨tmps,df⟩ x):=by
 cases x with
 | tmp t=>exact I.at t
 | const v=>exact xM_ _ _ _ _ _ _ v
 | global g=>simp [Am.ev,VOK]
 | func f=>simp only[Am.ev,VOK,Act.eval,GV.is]; exact⟨[],by simp,.nil⟩
theorem VOK.step {n0:Nat} {φ':List LI} {H':Hp} {lam':Nat→Nat} {fr':List FV} {w':World} {v:FV} {u:Value} (hp:φ<+:φ')
 (hlp:∀ s o,v= .lp s o→lam' s=lam s) (hbs:∀ b,n0≤b→b < w.heap.size→ ¬ gg_ φ H b→ ¬ p8_ fr lam b→w'.heap[b]? =w.heap[b]? ∧ ¬ gg_ φ' H' b∧ ¬ p8_ fr' lam' b)
 (h:VOK n0 φ H lam fr w v u):VOK n0 φ' H' lam' fr' w' v u:=by
 cases v with
 | g v=>exact GV.is.mono hp h
 | agg cs=>obtain⟨us,h1,h2⟩:=h; exact⟨us,h1,Is2.mono hp h2⟩
 | tup vs=>obtain⟨us,h1,h2⟩:=h; exact⟨us,h1,h2.imp fun _ _=>RV.is.mono hp⟩
 | lp s o=>
  have h':u= .pointer (some ⟨lam s,o,none⟩):=h;show u= .pointer (some ⟨lam' s,o,none⟩);rw[hlp s o rfl]; exact h'
 | bs cs n z=>
  obtain⟨b,c,t,fz,h1,h2,h3,h4,h6,h7,h8⟩:=h;obtain⟨k1,k2,k3⟩:=hbs b h2 (Array.getElem?_eq_some_iff.1 h3).1 h7 h8;exact⟨b,c,t,fz,h1,h2,by rw[k1]; exact h3,Is2.mono hp h4,h6,k2,k3⟩
 | bx cs=>exact h.elim
 | bad=>trivial
 | und=>exact h
theorem Inv.go (I:Inv φ0 H0 w0 φ H lam fr tmps w) {φ':List LI} {H':Hp} {w':World} (hp:φ<+:φ') (hr:cq_ φ' H' w') (hk:c9_ (gg_ φ H) w w')
 (ho:∀ b,gg_ φ' H' b→gg_ φ H b∨w.heap.size≤b) (hrow:∀ b,gJ_ φ' H' b→gJ_ φ H b∨(w0.heap.size≤b∧ ¬ p8_ fr lam b)):Inv φ0 H0 w0 φ' H' lam fr tmps w' where
 pre:=I.pre.trans hp
 rep:=hr
 keeps:=I.keeps.trans hk I.own
 own b hb:=by
  rcases ho b hb with h1 | h1
  ·exact I.own b h1
  ·exact .inr (Nat.le_trans I.keeps.size h1)
 row b hb:=by
  rcases hrow b hb with h1 | h1
  ·exact I.row b h1
  ·exact .inr h1.1
 size:=I.size
 slot d v hd:=by
  have hs:=I.slot d v hd;cases v with
  | bx cs=>
   obtain⟨h1,h2,h3,c,t,h4,h5⟩:=hs;have hlt:=(Array.getElem?_eq_some_iff.1 h4).1;refine⟨h1,h2,fun h=> ?_,c,t,?_,Is2.mono hp h5⟩
   ·rcases hrow _ h with q | q
    ·exact h3 q
    ·exact q.2 ⟨d,cs,hd,rfl⟩
   ·rw[hk.block _ hlt (fun q=>h3 q.row)]; exact h4
  | _=>
   refine FOK.of (VOK.step hp (fun _ _ _=>rfl) (fun b hb hlt h1 h2=>⟨hk.block b hlt h1,fun q=> ?_,h2⟩) hs);rcases ho b q with r | r
   ·exact h1 r
   ·omega
 apart:=I.apart
theorem Inv.back (I:Inv φ0 H0 w0 φ H lam fr tmps w) {φ':List LI} {H':Hp} {w':World} (B:bH_ φ H w φ' H' w'):Inv φ0 H0 w0 φ' H' lam fr tmps w':=
 I.go B.pre B.rep B.keeps B.own fun b hb=>by
  rcases B.row b hb with h | h
  ·exact .inl h
  ·exact .inr ⟨Nat.le_trans I.keeps.size h,fun q=>by have:=(I.boxLt q).1; omega⟩
theorem xs_ {d:Nat} {v:FV} (hv:∀ cs,v≠ .bx cs) {b:Nat}:p8_ (fr.set d v) lam b→p8_ fr lam b:=by
 intro⟨s,cs,hs,hb⟩;rcases cZ_ hs with⟨_,e⟩ | ⟨_,q⟩
 ·exact (hv _ e.symm).elim
 ·exact⟨s,cs,q,hb⟩
theorem lq_ {tmps:Array Value} {d:Nat} {u:Value} (h:d < tmps.size):(tmps.setIfInBounds d u).getD d undef=u:=by simp [h]
theorem ka_ {tmps:Array Value} {d d':Nat} {u:Value} (h:d'≠d):(tmps.setIfInBounds d u).getD d' undef=tmps.getD d' undef:=by
 simp [Array.getElem?_setIfInBounds,Ne.symm h]
theorem Inv.put (I:Inv φ0 H0 w0 φ H lam fr tmps w) {d:Nat} {v:FV} {u:Value} (hv:VOK w0.heap.size φ H lam fr w v u):Inv φ0 H0 w0 φ H lam (fr.set d v) (tmps.setIfInBounds d u) w where
 pre:=I.pre
 rep:=I.rep
 keeps:=I.keeps
 own:=I.own
 row:=I.row
 size:=by simp [I.size]
 slot d' v' hd':=by
  have hnb:∀ cs,v≠ .bx cs:=fun cs e=>by subst e; exact hv
  have key:∀ v u,VOK w0.heap.size φ H lam fr w v u→VOK w0.heap.size φ H lam (fr.set d _) w v u:=fun v u h=>
   VOK.step (List.prefix_refl _) (fun _ _ _=>rfl) (fun b _ _ h1 h2=>⟨rfl,h1,fun q=>h2 (xs_ hnb q)⟩) h
  have hlt:=fA_ hd';rcases cZ_ hd' with⟨rfl,e⟩ | ⟨hne,q⟩
  ·subst e;rw[lq_ (by rw[←I.size]; simpa using hlt)];exact FOK.of (key _ _ hv)
  ·rw[ka_ hne];have hs:=I.slot d' v' q;cases v' with
   | bx cs=>exact hs
   | _=>exact FOK.of (key _ _ hs)
 apart s s' cs cs' hs hs' hne:=by
  have hnb:∀ cs,v≠ .bx cs:=fun cs e=>by subst e; exact hv
  rcases cZ_ hs with⟨_,e⟩ | ⟨_,q⟩
  ·exact (hnb _ e.symm).elim
  rcases cZ_ hs' with⟨_,e⟩ | ⟨_,q'⟩
  ·exact (hnb _ e.symm).elim
  exact I.apart s s' cs cs' q q' hne
theorem Inv.forget (I:Inv φ0 H0 w0 φ H lam fr tmps w) (d:Nat):Inv φ0 H0 w0 φ H lam (fr.set d .bad) tmps w where
 pre:=I.pre
 rep:=I.rep
 keeps:=I.keeps
 own:=I.own
 row:=I.row
 size:=by simp [I.size]
 slot d' v' hd':=by
  have key:∀ v u,VOK w0.heap.size φ H lam fr w v u→VOK w0.heap.size φ H lam (fr.set d .bad) w v u:=fun v u h=>
   VOK.step (List.prefix_refl _) (fun _ _ _=>rfl) (fun b _ _ h1 h2=>⟨rfl,h1,fun q=>h2 (xs_ (fun cs e=>by cases e) q)⟩) h
  rcases cZ_ hd' with⟨rfl,e⟩ | ⟨_,q⟩
  ·subst e; trivial
  ·have hs:=I.slot d' v' q;cases v' with
   | bx cs=>exact hs
   | _=>exact FOK.of (key _ _ hs)
 apart s s' cs cs' hs hs' hne:=by
  rcases cZ_ hs with⟨_,e⟩ | ⟨_,q⟩
  ·cases e
  rcases cZ_ hs' with⟨_,e⟩ | ⟨_,q'⟩
  ·cases e
  exact I.apart s s' cs cs' q q' hne
theorem nM_ {s:Nat}:∀ {fr:List FV},if_ s fr=true→∀ (d o:Nat),fr[d]? ≠some (.lp s o)
 | [],_,d,o,h=>by simp at h
 | x::xs,hn,d,o,h=>by
  unfold if_ at hn;split at hn
  ·simp at hn
  ·rename_i hx;cases d with
   | zero=>simp at h; subst h; simp [FV.isLp] at hx
   | succ d=>simp at h; exact nM_ hn d o h
theorem Inv.box (I:Inv φ0 H0 w0 φ H lam fr tmps w) {d:Nat} {cs:List GV} {c:Array Value} {t:TypeId} (hn:if_ d fr=true) (hd:d < fr.length) (hcs:Is2 φ cs c.toList):
 Inv φ0 H0 w0 φ H (fun s=>if s=d then w.heap.size else lam s) (fr.set d (.bx cs)) (tmps.setIfInBounds d (.pointer (some ⟨w.heap.size,0,none⟩))) (w.alloc (.cells c t)):=by
 have hk:c9_ (gg_ φ H) w (w.alloc (.cells c t)):=fo_ _ _ _;have I1:Inv φ0 H0 w0 φ H lam fr tmps (w.alloc (.cells c t)):=I.go (List.prefix_refl _)
  ⟨I.rep.len,fun l o hl hv=>by obtain⟨i,hi,hr⟩:=I.rep.obj l o hl hv; exact⟨i,hi,hr.keep (heap_alloc_old w _ _ (I.rep.blockLt ⟨l,o,i,hl,hv,hi,rfl⟩)) hk.size⟩,I.rep.apart⟩ hk (fun _ h=> .inl h) (fun _ h=> .inl h)
 have hbox:∀ b,p8_ (fr.set d (.bx cs)) (fun s=>if s=d then w.heap.size else lam s) b→p8_ fr lam b∨b=w.heap.size:=by
  intro b ⟨s,cs',hs,hb⟩;rcases cZ_ hs with⟨rfl,e⟩ | ⟨hne,q⟩
  ·right; simpa using hb.symm
  ·left; exact⟨s,cs',q,by simpa [hne] using hb⟩
 have hrowlt:∀ b,gJ_ φ H b→b < w.heap.size:=fun b h=>I.rep.blockLt h;refine⟨I1.pre,I1.rep,I1.keeps,I1.own,I1.row,by simp [I.size],?_,?_⟩
 ·intro d' v' hd';rcases cZ_ hd' with⟨rfl,e⟩ | ⟨hne,q⟩
  ·subst e;rw[lq_ (by rw[←I.size]; exact hd)];refine⟨by simp,by simpa using I.keeps.size,fun h=>by have:=hrowlt _ h; simp at this,c,t,?_,hcs⟩;simpa using heap_alloc_new w (.cells c t)
  ·rw[ka_ hne];have hs:=I1.slot d' v' q;have hs0:=I.slot d' v' q;cases v' with
   | bx cs'=>
    obtain⟨h1,h2,h3,c',t',h4,h5⟩:=hs;exact⟨by simpa [hne] using h1,by simpa [hne] using h2,by simpa [hne] using h3,c',t',by simpa [hne] using h4,h5⟩
   | _=>
    refine FOK.of (VOK.step (w:=w) (fr:=fr) (lam:=lam) (H:=H) (List.prefix_refl _) (fun s o e=> ?_) (fun b hb hlt h1 h2=>⟨heap_alloc_old w _ b hlt,h1,fun h=> ?_⟩) hs0)
    ·have:s≠d:=fun e'=>by subst e'; rw[e] at q; exact nM_ hn d' o q
     simp [this]
    ·rcases hbox b h with r | r
     ·exact h2 r
     ·omega
 ·intro s s' cs1 cs2 hs hs' hne;rcases cZ_ hs with⟨rfl,e⟩ | ⟨n1,q⟩<;>rcases cZ_ hs' with⟨rfl,e'⟩ | ⟨n2,q'⟩
  ·exact (hne rfl).elim
  ·have:=(I.boxLt ⟨s',cs2,q',rfl⟩).1; simp [n2]; omega
  ·have:=(I.boxLt ⟨s,cs1,q,rfl⟩).1; simp [n1]; omega
  ·simp [n1,n2]; exact I.apart s s' cs1 cs2 q q' hne
theorem Inv.boxTurn (I:Inv φ0 H0 w0 φ H lam fr tmps w) {s:Nat} {cs cs':List GV} {c:Array Value} {t:TypeId} {w':World} (hs:fr[s]? =some (.bx cs))
 (hk:c9_ (fun b=>b=lam s) w w') (hb:w'.heap[lam s]? =some (.cells c t (0,0))) (hcs:Is2 φ cs' c.toList):Inv φ0 H0 w0 φ H lam (fr.set s (.bx cs')) tmps w':=by
 obtain⟨h1,h2,h3,c0,t0,h4,h5⟩:=I.slot s _ hs;have hlt:=(Array.getElem?_eq_some_iff.1 h4).1;have hbox:∀ b,p8_ (fr.set s (.bx cs')) lam b→p8_ fr lam b:=by
  intro b ⟨s',cs1,hs',hb'⟩;rcases cZ_ hs' with⟨rfl,e⟩ | ⟨_,q⟩
  ·exact⟨s',cs,hs,hb'⟩
  ·exact⟨s',cs1,q,hb'⟩
 refine⟨I.pre,⟨I.rep.len,fun l o1 hl hv=> ?_,I.rep.apart⟩,?_,I.own,I.row,by simp [I.size],?_,?_⟩
 ·obtain⟨i,hi,hr⟩:=I.rep.obj l o1 hl hv;have hrb:gJ_ φ H i.b:=⟨l,o1,i,hl,hv,hi,rfl⟩;exact⟨i,hi,hr.keep (hk.block _ (I.rep.blockLt hrb) (fun e=>h3 (e▸hrb))) hk.size⟩
 ·exact I.keeps.trans hk (fun b hb=> .inr (hb▸h2))
 ·intro d v hd;rcases cZ_ hd with⟨rfl,e⟩ | ⟨hne,q⟩
  ·subst e; exact⟨h1,h2,h3,c,t,hb,hcs⟩
  ·have hsd:=I.slot d v q;cases v with
   | bx cs1=>
    obtain⟨k1,k2,k3,c1,t1,k4,k5⟩:=hsd;exact⟨k1,k2,k3,c1,t1,by rw[hk.block _ (Array.getElem?_eq_some_iff.1 k4).1 (fun e=>I.apart d s cs1 cs q hs hne e)]; exact k4,k5⟩
   | _=>exact FOK.of (VOK.step (List.prefix_refl _) (fun _ _ _=>rfl) (fun b _ hlt' g1 g2=>⟨hk.block b hlt' (fun e=>g2 ⟨s,cs,hs,e.symm⟩),g1,fun h=>g2 (hbox b h)⟩) hsd)
 ·intro s1 s2 cs1 cs2 hs1 hs2 hne;have o:∀ {s':Nat} {cs1:List GV},(fr.set s (.bx cs'))[s']? =some (.bx cs1)→∃ cs,fr[s']? =some (.bx cs):=by
   intro s' cs1 hs';rcases cZ_ hs' with⟨rfl,e⟩ | ⟨_,q⟩
   ·exact⟨cs,hs⟩
   ·exact⟨cs1,q⟩
  obtain⟨_,q1⟩:=o hs1;obtain⟨_,q2⟩:=o hs2;exact I.apart s1 s2 _ _ q1 q2 hne
end Go.Am
namespace Go.Am
def zV:LK→Value
 | .bool=> .bool false | .int k=> .int k 0 | .str=> .string ⟨#[]⟩ | .ptr=> .pointer none | .sl _=> .slice none 0 0 | .map=> .map none | .fn=> .nilFunc | .iface=> .nilIface
def mG_ (x:TI) (k:LK):Bool:=match x.lv with | [k']=>decide (k'=k) | _=>false
def rK_ (x:TI):Bool:=match x.lv with | [.sl _]=>true | _=>false
def u6_:List (Nat × Nat)→List Field→Bool
 | [],[]=>true
 | (a,b)::l,f::fs=>Nat.beq a f.offset&&Nat.beq b f.type&&u6_ l fs
 | _,_=>false
def c8_ (x:TI):TypeDesc→Bool
 | .bool=>Nat.beq x.k 0&& !x.agg&&mG_ x .bool
 | .int k=>Nat.beq x.k 0&& !x.agg&&mG_ x (.int k)
 | .string=>Nat.beq x.k 3&& !x.agg&&mG_ x .str
 | .pointer e=>Nat.beq x.k 2&& !x.agg&&mG_ x .ptr&&Nat.beq x.el e
 | .slice e=>Nat.beq x.k 1&& !x.agg&&rK_ x&&Nat.beq x.el e
 | .map k e=>Nat.beq x.k 5&& !x.agg&&mG_ x .map&&Nat.beq x.el e&&Nat.beq x.an k
 | .struct fs=>Nat.beq x.k 0&&x.agg&&u6_ x.fs fs.toList
 | .array n e=>Nat.beq x.k 6&&x.agg&&(match x.fs with | []=>true | _=>false)&&Nat.beq x.el e&&Nat.beq x.an n
 | .func _ _ _=>Nat.beq x.k 0&& !x.agg&&mG_ x .fn
 | .interface _=>Nat.beq x.k 0&& !x.agg&&mG_ x .iface
 | _=>false
def Dh_ (P:Program) (x:TI) (t:Nat):Prop:=
 x.ok=true→∃ i z d,P.info? t=some i∧i.size=x.lv.length∧i.zero=some z∧z.cells.toList=x.lv.map zV∧i.bytes=x.by_∧P.underlying t=some d∧c8_ x d=true
def uE_ (P:Program) (lv:List LK) (f:Field):Bool:=match lv[f.offset]?,P.underlying f.type with
 | some .bool,some .bool=>true
 | some (.int k),some (.int k')=>decide (k=k')
 | some .str,some .string=>true
 | _,_=>false
def kI_ (P:Program) (lv:List LK):Nat→List Field→Bool
 | n,[]=>Nat.beq n lv.length
 | n,f::fs=>f.name != "_" &&Nat.beq f.offset n&&uE_ P lv f&&kI_ P lv (n+1) fs
def Ak_ (P:Program) (x:TI) (t:Nat):Prop:=
 x.cmp=true→∃ fs,P.underlying t=some (.struct fs)∧kI_ P x.lv 0 fs.toList=true∧P.stoodInHeld t=false∧P.eqGuardType P.depth t=false
def CM_ (P:Program) (x:TI) (t:Nat):Prop:=
 ∀ n f b,mth x.ms n=some (f,b)→∃ i m,P.info? t=some i∧i.methods.find? (·.name==n)=some m∧m.path= #[]∧m.func=some (f,b)
def sk_:Value→Bool | .agg _=>true | _=>false
def ZOK (P:Program) (x:TI) (t:Nat):Prop:=x.ok=true→∀ i z,P.info? t=some i→i.zero=some z→sk_ z=x.agg
def b8_ (P:Program) (tys:List TI):Prop:=(∀ t,Dh_ P (tys.getD t default) t)∧(∀ t,Ak_ P (tys.getD t default) t)∧(∀ t,CM_ P (tys.getD t default) t)∧∀ t,ZOK P (tys.getD t default) t
theorem fk_ {a b:Nat} (h:Nat.beq a b=true):a=b:=Nat.eq_of_beq_eq_true h
theorem vn_ {x:TI} {k:LK} (h:mG_ x k=true):x.lv=[k]:=by
 unfold mG_ at h;split at h
 ·rename_i k' e; rw[e]; simpa using h
 ·cases h
theorem nP_ {x:TI} {k:Nat} (h:x.isA k=true):x.ok=true∧x.k=k:=by
 unfold TI.isA at h;split at h
 ·rename_i e; exact⟨e,fk_ h⟩
 ·cases h
section ty
variable {P:Program} {cx:Cx}
theorem cI_ (hT:b8_ P cx.tys) {t:Nat} (h:(cx.ty t).isA 1=true):P.underlying t=some (.slice (cx.ty t).el):=by
 obtain⟨h0,hk⟩:=nP_ h;obtain⟨i,z,d,_,_,_,_,_,hd,hok⟩:=hT.1 t h0;rw[hd];change c8_ (cx.ty t) d=true at hok;generalize cx.ty t=x at*;cases d<;>simp [c8_,hk] at hok
 ·rw[hok.2]
theorem oe_ (hT:b8_ P cx.tys) {t:Nat} (h:(cx.ty t).isA 2=true):P.underlying t=some (.pointer (cx.ty t).el):=by
 obtain⟨h0,hk⟩:=nP_ h;obtain⟨i,z,d,_,_,_,_,_,hd,hok⟩:=hT.1 t h0;rw[hd];change c8_ (cx.ty t) d=true at hok;generalize cx.ty t=x at*;cases d<;>simp [c8_,hk] at hok
 ·rw[hok.2]
theorem fg_ (hT:b8_ P cx.tys) {t:Nat} (h:(cx.ty t).isA 3=true):P.underlying t=some .string:=by
 obtain⟨h0,hk⟩:=nP_ h;obtain⟨i,z,d,_,_,_,_,_,hd,hok⟩:=hT.1 t h0;rw[hd];change c8_ (cx.ty t) d=true at hok;generalize cx.ty t=x at*;cases d<;>simp [c8_,hk] at hok;rfl
theorem sc_ (hT:b8_ P cx.tys) {t:Nat} (h:(cx.ty t).isA 6=true):P.underlying t=some (.array (cx.ty t).an (cx.ty t).el):=by
 obtain⟨h0,hk⟩:=nP_ h;obtain⟨i,z,d,_,_,_,_,_,hd,hok⟩:=hT.1 t h0;rw[hd];change c8_ (cx.ty t) d=true at hok;generalize cx.ty t=x at*;cases d<;>simp [c8_,hk] at hok
 ·rw[hok.1.2,hok.2]
theorem h9_ (hT:b8_ P cx.tys) {t:Nat} (h:(cx.ty t).isA 5=true):P.underlying t=some (.map (cx.ty t).an (cx.ty t).el):=by
 obtain⟨h0,hk⟩:=nP_ h;obtain⟨i,z,d,_,_,_,_,_,hd,hok⟩:=hT.1 t h0;rw[hd];change c8_ (cx.ty t) d=true at hok;generalize cx.ty t=x at*;cases d<;>simp [c8_,hk] at hok
 ·rw[hok.1.2,hok.2]
theorem eq_ (hT:b8_ P cx.tys) {t:Nat} (h:cx.okT t=true) (w:World):(sizeOf t).run P w= .ok (cx.ty t).lv.length w:=by
 obtain⟨i,z,d,hi,hs,_⟩:=hT.1 t h;simp [sizeOf,typeInfo,hi,hs]; rfl
theorem ez_ (hT:b8_ P cx.tys) {t:Nat} (h:cx.okT t=true):∃ i z,P.info? t=some i∧i.size=(cx.ty t).lv.length∧i.zero=some z∧z.cells.toList=(cx.ty t).lv.map zV∧i.bytes=(cx.ty t).by_:=by
 obtain⟨i,z,d,h1,h2,h3,h4,h5,_⟩:=hT.1 t h;exact⟨i,z,h1,h2,h3,h4,h5⟩
theorem pu_ (hT:b8_ P cx.tys) {t:Nat} (h:cx.okT t=true) (w:World):(isAgg t).run P w= .ok (cx.ty t).agg w:=by
 obtain⟨i,z,d,_,_,_,_,_,hd,hok⟩:=hT.1 t h;change c8_ (cx.ty t) d=true at hok;cases d<;>simp [c8_] at hok<;>simp [isAgg,run_underlying hd,hok]
theorem fK_ (hT:b8_ P cx.tys) {t:Nat} (h:cx.okT t=true):∃ d,P.underlying t=some d∧c8_ (cx.ty t) d=true:=by
 obtain⟨i,z,d,_,_,_,_,_,hd,hok⟩:=hT.1 t h;exact⟨d,hd,hok⟩
end ty
theorem yK_ (φ:List LI):∀ k,(vO_ k).is φ (zV k)
 | .bool | .int _ | .str | .ptr | .map | .fn | .iface=>rfl
 | .sl _=>⟨rfl,rfl⟩
theorem kN_ (φ:List LI):∀ ks:List LK,Is2 φ (dB_ ks) (ks.map zV)
 | []=> .nil
 | k::ks=> .cons (yK_ φ k) (kN_ φ ks)
theorem GV.is.one {φ:List LI} {v:GV} {x:Value} (h:v.is φ x):x.cells= #[x]∧x.oneCell'=true:=by
 cases v with
 | bool b=>cases h; exact⟨rfl,rfl⟩
 | int k n=>cases h; exact⟨rfl,rfl⟩
 | str s=>cases h; exact⟨rfl,rfl⟩
 | ptr a=>cases a with
  | none=>cases h; exact⟨rfl,rfl⟩
  | some p=>obtain⟨_,_,rfl⟩:=h; exact⟨rfl,rfl⟩
 | sl a n z=>cases a with
  | none=>obtain⟨_,rfl⟩:=h; exact⟨rfl,rfl⟩
  | some p=>obtain⟨l,o⟩:=p; obtain⟨_,_,_,_,rfl,_⟩:=h; exact⟨rfl,rfl⟩
 | map m=>cases m with
  | none=>cases h; exact⟨rfl,rfl⟩
  | some p=>obtain⟨_,_,rfl⟩:=h; exact⟨rfl,rfl⟩
 | fn f caps=>obtain⟨_,rfl,_⟩:=h; exact⟨rfl,rfl⟩
 | nilfn=>cases h; exact⟨rfl,rfl⟩
 | iface t v=>obtain⟨_,rfl,_⟩:=h; exact⟨rfl,rfl⟩
 | nilif=>cases h; exact⟨rfl,rfl⟩
theorem Is2.one {φ:List LI} {cs:List GV} {xs:List Value} (h:Is2 φ cs xs):∀ x∈xs,x.oneCell'=true:=by
 induction h with
 | nil=>intro x hx; cases hx
 | cons h _ ih=>
  intro x hx;cases hx with
  | head=>exact h.one.2
  | tail _ hx=>exact ih x hx
section vals
variable {n0:Nat} {φ:List LI} {H:Hp} {lam:Nat→Nat} {fr:List FV} {w:World}
theorem lE_ {x:FV} {K:List GV→Prop} {u:Value} (h:gN_ x K) (hv:VOK n0 φ H lam fr w x u):∃ cs,K cs∧Is2 φ cs u.cells.toList:=by
 cases x with
 | g v=>exact⟨[v],h,by rw[(GV.is.one hv).1]; exact .cons hv .nil⟩
 | agg cs=>obtain⟨us,rfl,hu⟩:=hv; exact⟨cs,h,hu⟩
 | _=>exact h.elim
end vals
theorem aj_ {b:Bool} {x:Prop}:ck b x↔b=true∧x:=by cases b<;>simp [ck]
theorem bf_ {b:Bool} {x:Prop}:chk b x↔b=true∧x:=by cases b<;>simp [chk]
theorem n3_ {b:Bool} {x y:Prop}:af_ b x y↔if b=true then x else y:=by cases b<;>simp [af_]
theorem gl_ {R:Type}:∀ (fr:List FV) (d:Nat) (v:FV) (K:List FV→R),sH_ fr d v K=K (fr.set d v)
 | [],d,v,K=>by simp [sH_]
 | x::xs,0,v,K=>by simp [sH_]
 | x::xs,d+1,v,K=>by simp [sH_,gl_ xs d v]
theorem xL_ {R:Type} (v:FV) (K:FV→R):frc v K=K v:=by cases v<;>rfl
theorem fd_ {a b:Nat}:leN a b=true↔a≤b:=by simp [leN]
theorem gY_ {a b:Int}:leI a b=true↔a≤b:=by simp [leI]
theorem vz_ {a b:Int}:ltI a b=true↔a < b:=by simp [ltI]
theorem yN_ {a b:Int}:eqI a b=true↔a=b:=by simp [eqI]
theorem li_:∀ {zs:List GV} {p:Nat} {cs:List GV} {K:List GV→Prop},hl_ zs p cs K→∃ zs',K zs'∧zs'.length=zs.length∧p+cs.length≤zs.length+(if cs=[] then p else 0)∧zs'=zs.take p++cs++zs.drop (p+cs.length)
 | zs,p,[],K,h=>by
  refine⟨zs,?_,rfl,by simp,by simp⟩;cases zs<;>cases p<;>exact h
 | [],p,c::cs,K,h=>by cases p<;>exact h.elim
 | z::zs,p+1,c::cs,K,h=>by
  have h':hl_ zs p (c::cs) fun r=>K (z::r):=h;obtain⟨zs',hk,hl,hle,e⟩:=li_ h';refine⟨z::zs',hk,by simp [hl],by simp at hle ⊢; omega,?_⟩;rw[e]; simp;rw[show p+1+(cs.length+1)=(p+(cs.length+1))+1 by omega,List.drop_succ_cons]
 | _::zs,0,c::cs,K,h=>by
  have h':hl_ zs 0 cs fun r=>K (c::r):=h;obtain⟨zs',hk,hl,hle,e⟩:=li_ h';refine⟨c::zs',hk,by simp [hl],?_,?_⟩
  ·cases cs<;>simp at hle ⊢; omega
  ·rw[e]; simp
theorem hw_ {α:Type} (l:List α) (p:Nat) (c:α) (cs:List α) (h:p+(cs.length+1)≤l.length):
 l.take p++(c::cs)++l.drop (p+(cs.length+1))=(l.set p c).take (p+1)++cs++(l.set p c).drop (p+1+cs.length):=by
 have h1:(l.set p c).take (p+1)=l.take p++[c]:=by
  apply List.ext_getElem?;intro j;by_cases h1:j < p
  ·rw[List.getElem?_take_of_lt (by omega),List.getElem?_set_ne (by omega),List.getElem?_append_left (by simp; omega),List.getElem?_take_of_lt h1]
  ·by_cases h2:j=p
   ·subst h2;rw[List.getElem?_take_of_lt (by omega),List.getElem?_set_self (by omega),List.getElem?_append_right (by simp; omega)];simp [Nat.min_eq_left (show j≤l.length by omega)]
   ·rw[List.getElem?_eq_none (by simp; omega),List.getElem?_eq_none (by simp; omega)]
 have h2:(l.set p c).drop (p+1+cs.length)=l.drop (p+(cs.length+1)):=by
  apply List.ext_getElem?;intro j;rw[List.getElem?_drop,List.getElem?_drop,List.getElem?_set_ne (by omega)];congr 1; omega
 rw[h1,h2]; simp
end Go.Am
namespace Go.Am
theorem fS_ (b o j:Nat):(⟨b,o,none⟩:Addr).add j=⟨b,o+j,none⟩:=by unfold Addr.add; split<;>simp_all
theorem jf_ {k:LK} {v:GV} {K:GV→Prop} (h:fO_ k v K):∃ v',K v'∧∀ φ x,v.is φ x→v'.is φ x:=by
 cases k with
 | bool=>cases v<;>first | exact⟨_,h,fun _ _ q=>q⟩ | exact h.elim
 | int k=>cases v<;>first | exact h.elim | (obtain⟨e,h⟩:=h; subst e; exact⟨_,h,fun _ _ q=>q⟩)
 | str=>cases v<;>first | exact⟨_,h,fun _ _ q=>q⟩ | exact h.elim
 | ptr=>cases v<;>first | exact⟨_,h,fun _ _ q=>q⟩ | exact h.elim
 | map=>cases v<;>first | exact⟨_,h,fun _ _ q=>q⟩ | exact h.elim
 | fn=>exact⟨_,h,fun _ _ q=>q⟩
 | iface=>exact⟨_,h,fun _ _ q=>q⟩
 | sl z=>
  cases v<;>first | exact h.elim | skip
  rename_i a n z';obtain⟨e,h⟩:=h;refine⟨_,h,fun φ x q=> ?_⟩;rcases e with e | e
  ·subst e; exact q
  ·subst e; exact q
theorem jz_:∀ {ks:List LK} {cs:List GV} {K:List GV→Prop},gn_ ks cs K→∃ cs',K cs'∧∀ φ xs,Is2 φ cs xs→Is2 φ cs' xs
 | [],[],K,h=>⟨[],h,fun _ _ q=>q⟩
 | [],c::cs,K,h=>h.elim
 | k::ks,[],K,h=>h.elim
 | k::ks,c::cs,K,h=>by
  have h':fO_ k c fun c=>gn_ ks cs fun r=>K (c::r):=h;obtain⟨c',h1,hc⟩:=jf_ h';obtain⟨cs',h2,hcs⟩:=jz_ h1;refine⟨c'::cs',h2,fun φ xs q=> ?_⟩;cases q with
  | cons q q'=>exact .cons (hc _ _ q) (hcs _ _ q')
theorem p1_ (cx:Cx):∀ {ts:List (Nat × Nat)} {vs:List RV} {K:List RV→Prop},nm_ cx ts vs K→∃ vs',K vs'∧∀ φ xs,b6_ (RV.is φ) vs xs→b6_ (RV.is φ) vs' xs
 | [],[],K,h=>⟨[],h,fun _ _ q=>q⟩
 | [],v::vs,K,h=>h.elim
 | t::ts,[],K,h=>h.elim
 | t::ts,v::vs,K,h=>by
  obtain⟨t0,t⟩:=t;have h':(match (cx.ty t).agg with
   | true=>rC v fun cs=>gn_ (cx.ty t).lv cs fun cs=>nm_ cx ts vs fun vs=>K (.a cs::vs)
   | false=>rS v fun v=>match (cx.ty t).lv with | [k]=>fO_ k v fun v=>nm_ cx ts vs fun vs=>K (.s v::vs) | _=>False):=h
  cases v with
  | a cs=>
   split at h'
   ·obtain⟨cs',h1,hc⟩:=jz_ h';obtain⟨vs',h2,hvs⟩:=p1_ cx h1;refine⟨.a cs'::vs',h2,fun φ xs q=> ?_⟩;cases q with
    | cons q q'=>obtain⟨us,e,q⟩:=q; exact .cons ⟨us,e,hc _ _ q⟩ (hvs _ _ q')
   ·exact h'.elim
  | s v=>
   split at h'
   ·exact h'.elim
   ·have h'':(match (cx.ty t).lv with | [k]=>fO_ k v fun v=>nm_ cx ts vs fun vs=>K (.s v::vs) | _=>False):=h';split at h''
    ·obtain⟨v',h1,hc⟩:=jf_ h'';obtain⟨vs',h2,hvs⟩:=p1_ cx h1;refine⟨.s v'::vs',h2,fun φ xs q=> ?_⟩;cases q with
     | cons q q'=>exact .cons (hc _ _ q) (hvs _ _ q')
    ·exact h''.elim
theorem BG_ (cx:Cx) {t:Nat} {r:FV} {K:FV→Prop} (h:pV_ cx t r K):∃ r',K r'∧∀ n0 φ H lam fr w x,r.is φ x→VOK n0 φ H lam fr w r' x:=by
 unfold pV_ at h;split at h
 ·split at h
  ·exact⟨_,h,fun _ _ _ _ _ _ _ _=>trivial⟩
  ·cases r<;>first | exact h.elim | skip
   obtain⟨vs',h1,hvs⟩:=p1_ cx h;refine⟨.tup vs',h1,fun n0 φ H lam fr w x q=> ?_⟩;obtain⟨us,e,q⟩:=q;exact⟨us,e,hvs _ _ q⟩
 ·split at h
  ·cases r<;>first | exact h.elim | skip
   obtain⟨cs',h1,hc⟩:=jz_ h;refine⟨.agg cs',h1,fun n0 φ H lam fr w x q=> ?_⟩;obtain⟨us,e,q⟩:=q;exact⟨us,e,hc _ _ q⟩
  ·cases r<;>first | exact h.elim | skip
   rename_i v;have h'':(match (cx.ty t).lv with | [k]=>fO_ k v fun v=>K (.g v) | _=>False):=h;split at h''
   ·obtain⟨v',h1,hc⟩:=jf_ h'';exact⟨.g v',h1,fun n0 φ H lam fr w x q=>hc _ _ q⟩
   ·exact h''.elim
variable {P:Program} {cx:Cx} {φ:List LI} {H:Hp} {w:World}
theorem qz_ (hr:cq_ φ H w) {l:Nat} {i:LI} (hi:φ[l]? =some i):∀ {ks:List LK} {p:Nat} {K:List GV→Prop},he_ H l p ks K→
 ∃ cs xs,K cs∧Is2 φ cs xs∧xs.length=ks.length∧∀ j x,xs[j]? =some x→w.cell? ⟨i.b,i.p+p+j,none⟩=some x
 | [],p,K,h=>⟨[],[],h,.nil,rfl,by simp⟩
 | k::ks,p,K,h=>by
  have h':rd H l p fun c=>fO_ k c fun c=>he_ H l (p+1) ks fun r=>K (c::r):=h;unfold rd at h';split at h'
  ·rename_i v hv;obtain⟨i',x,hi',hx,hvx⟩:=hr.get hv;rw[hi] at hi'; cases hi';obtain⟨v',h1,hv'⟩:=jf_ h';obtain⟨cs,xs,h2,his,hl,hc⟩:=qz_ hr hi h1;refine⟨v'::cs,x::xs,h2,.cons (hv' _ _ hvx) his,by simp [hl],?_⟩;intro j y hy;cases j with
   | zero=>simp at hy; subst hy; exact hx
   | succ j=>have:=hc j y (by simpa using hy); rwa [show i.p+p+(j+1)=i.p+(p+1)+j by omega]
  ·exact h'.elim
section
theorem jX_ (hT:b8_ P cx.tys) {t:Nat} (ht:cx.okT t=true) (ha:(cx.ty t).agg=true) {b o:Nat} {xs:List Value} (hx:∀ j x,xs[j]? =some x→w.cell? ⟨b,o+j,none⟩=some x) (hl:xs.length=(cx.ty t).lv.length):
 (loadVar t ⟨b,o,none⟩).run P w= .ok (.agg xs.toArray) w:=by
 have h:=run_loadCells_list (P:=P) w ⟨b,o,none⟩ xs (fun j v hv=>by rw[fS_]; exact hx j v hv);rw[hl] at h;simp [loadVar,pu_ hT ht,ha,eq_ hT ht,h]
theorem jZ_ (hT:b8_ P cx.tys) {t:Nat} (ht:cx.okT t=true) (ha:(cx.ty t).agg=false) {b o:Nat} {x:Value} (hx:w.cell? ⟨b,o,none⟩=some x):
 (loadVar t ⟨b,o,none⟩).run P w= .ok x w:=by
 simp [loadVar,pu_ hT ht,ha,hx]
end
theorem B3_ {cs:List GV} {agg:Bool} {K:FV→Prop} (h:BI_ cs agg K):(agg=true∧K (.agg cs))∨(agg=false∧∃ v,cs=[v]∧K (.g v)):=by
 cases agg with
 | true=>exact .inl ⟨rfl,h⟩
 | false=>match cs,h with
  | [v],h=>exact .inr ⟨rfl,v,rfl,h⟩
theorem u0_ {cs:List GV} {p n:Nat} {agg:Bool} {K:FV→Prop} (h:sY_ cs p n agg K):(agg=true∧p+n≤cs.length∧K (.agg ((cs.drop p).take n)))∨(agg=false∧∃ v,cs[p]? =some v∧K (.g v)):=by
 cases agg with
 | true=>obtain⟨h1,h2⟩:=aj_.1 h; exact .inl ⟨rfl,Nat.le_of_ble_eq_true h1,h2⟩
 | false=>
  have h':(match cs[p]? with | some v=>K (.g v) | none=>False):=h;split at h'
  ·rename_i v e; exact .inr ⟨rfl,v,e,h'⟩
  ·exact h'.elim
theorem xq_ (hT:b8_ P cx.tys) {t:Nat} (ht:cx.okT t=true) {b o:Nat} {cs:List GV} {ys:List Value} (his:Is2 φ cs ys) (hy:∀ j y,ys[j]? =some y→w.cell? ⟨b,j,none⟩=some y) {K:FV→Prop}
 (h:sY_ cs o (cx.ty t).lv.length (cx.ty t).agg K):∃ v u,K v∧(loadVar t ⟨b,o,none⟩).run P w= .ok u w∧∀ n0 lam fr w',VOK n0 φ H lam fr w' v u:=by
 rcases u0_ h with⟨ha,hle,hk⟩ | ⟨ha,v,hv,hk⟩
 ·have h1:=(his.drop o).take (cx.ty t).lv.length;refine⟨_,.agg ((ys.drop o).take (cx.ty t).lv.length).toArray,hk,jX_ hT ht ha ?_ ?_,fun n0 lam fr w'=>⟨_,rfl,by simpa using h1⟩⟩
  ·intro j x hx;rw[List.getElem?_take] at hx;split at hx
   ·exact hy _ _ (by simpa using hx)
   ·simp at hx
  ·have:=his.length; simp; omega
 ·obtain⟨x,hx,hvx⟩:=his.get hv;exact⟨_,x,hk,jZ_ hT ht ha (hy _ _ hx),fun n0 lam fr w'=>hvx⟩
theorem hD_ {w:World} {b o:Nat} {c:Array Value} {t:TypeId} {fz:Nat × Nat} {v:Value} (h:w.heap[b]? =some (.cells c t fz)):(w.setCell ⟨b,o,none⟩ v).heap[b]? =some (.cells (c.setIfInBounds o v) t fz):=by
 simp [World.setCell,Array.getElem?_modify,h]
theorem iM_ (w:World) (b o:Nat) (v:Value):c9_ (fun b'=>b'=b) w (w.setCell ⟨b,o,none⟩ v):=
 ⟨rfl,rfl,rfl,by simp,fun b' _ hn=>heap_setCell_other w ⟨b,o,none⟩ b' v hn⟩
theorem CL_ (hr:cq_ φ H w) {l o:Nat} {i:LI} (hi:φ[l]? =some i) {v:GV} {x:Value} (hv:v.is φ x) {H':Hp} (h:st? H l o v=some H'):
 ∃ w',(store ⟨i.b,i.p+o,none⟩ x).run P w= .ok () w'∧bH_ φ H w φ H' w':=by
 unfold st? at h;split at h
 ·rename_i t cs hl;split at h
  ·rename_i ho;cases h;obtain⟨i',hi',h1,h2,h3,hp,c,t',fz,hb,ht',hs,hf,hle,his⟩:=hr.row l true t cs hl;rw[hi] at hi'; cases hi';have hpos:0 < i.s:=by omega
   have hcell:w.cell? ⟨i.b,i.p+o,none⟩=some c[o]:=by
    rw[hp,Nat.zero_add,fa_ hb,Array.getElem?_eq_getElem (by omega)]
   have hfr:w.frozen? ⟨i.b,i.p+o,none⟩=false:=by
    obtain⟨f1,f2⟩:=fz;simp only[World.frozen?,hb];by_cases q:f1≤i.p+o∧i.p+o < f2
    ·have:=hf _ q.1 q.2; omega
    ·simp; omega
   refine⟨w.setCell ⟨i.b,i.p+o,none⟩ x,?_,?_⟩
   ·rw[run_store P w _ x _ hv.one.2,hcell];simp [hfr]
   ·refine bH_.turn hr hl hi hpos (iM_ w i.b _ x) ⟨h1,by simp [h2],by simp [h3],hp,c.setIfInBounds o x,t',fz,?_,ht',by simp [hs],hf,by simp; omega,?_⟩
    ·rw[hp,Nat.zero_add]; exact hD_ hb
    ·have:=his.set hv o;rw[List.length_set,Array.toList_setIfInBounds];rwa [show (c.toList.take cs.length).set o x=(c.toList.set o x).take cs.length from by rw[List.take_set]] at this
  ·cases h
 ·cases h
theorem sX_:∀ (ns:List GV) (xs:List Value) (k:Nat) {H:Hp} {w:World} {l p0:Nat} {i:LI} {K:Hp→Prop},it_ l H (p0+k) ns K→cq_ φ H w→φ[l]? =some i→Is2 φ ns xs→
 ∃ H' w',K H'∧(storeCells ⟨i.b,i.p+p0,none⟩ xs k).run P w= .ok () w'∧bH_ φ H w φ H' w'
 | [],xs,k,H,w,l,p0,i,K,h,hr,hi,his=>by
  cases his.nil_inv;exact⟨H,w,h,by simp [storeCells],bH_.refl hr⟩
 | n::ns,xs,k,H,w,l,p0,i,K,h,hr,hi,his=>by
  obtain⟨x,xs,rfl,hx,his⟩:=his.cons_inv;have h':wr H l (p0+k) n fun H=>it_ l H (p0+k+1) ns K:=h;unfold wr at h';split at h'
  ·rename_i H1 he;obtain⟨w1,hw1,B⟩:=CL_ (P:=P) hr hi hx he;obtain⟨H',w',hk,hrun,B'⟩:=sX_ ns xs (k+1) (p0:=p0) h' B.rep hi his;refine⟨H',w',hk,?_,B.trans B'⟩;rw[Nat.add_comm] at hw1;simp only[storeCells,Sem.run_bind,fS_];rw[show i.p+p0+k=i.p+(p0+k) by omega,show i.p+(p0+k)=p0+k+i.p by omega,hw1];simp only[Result.andThen_ok,hrun]
  ·exact h'.elim
end Go.Am
namespace Go.Am
section
variable {P:Program} {cx:Cx} {n0:Nat} {φ:List LI} {H:Hp} {lam:Nat→Nat} {fr:List FV} {w:World}
theorem h4_ (op:BinOp) (t:TypeId) (x y:Operand) (a b:Value) (h1:a≠ .nilIface) (h2:∀ cs,a≠ .agg cs):(eqGuard op t x y a b).run P w= .ok () w:=by
 cases a<;>first | exact (h1 rfl).elim | exact (h2 _ rfl).elim | simp [eqGuard]
theorem Dg_ (d:Nat) {t e:TypeId} (hd:P.underlying t=some (.pointer e)) (p:Option Addr):(Op.equalIn (d+1) t (.pointer p) (.pointer none)).run P w= .ok p.isNone w:=by
 cases p<;>simp [Op.equalIn,run_underlying hd]
theorem Dz_ (d:Nat) {t e:TypeId} (hd:P.underlying t=some (.slice e)) (p:Option Addr) (l c:Nat):(Op.equalIn (d+1) t (.slice p l c) (.slice none 0 0)).run P w= .ok p.isNone w:=by
 cases p<;>simp [Op.equalIn,run_underlying hd]
theorem lR_:∀ {lv:List LK} {xs:List GV},in_ lv xs=true→xs.length=lv.length∧∀ (n:Nat) k,lv[n]? =some k→∃ v,xs[n]? =some v∧hz_ k v=true
 | [],[],_=>⟨rfl,fun n k h=>by simp at h⟩
 | [],_::_,h=>by cases h
 | _::_,[],h=>by cases h
 | k::lv,v::xs,h=>by
  unfold in_ at h;split at h
  ·rename_i e;obtain⟨h1,h2⟩:=lR_ h;refine⟨by simp [h1],fun n k' hk=> ?_⟩;cases n with
   | zero=>simp at hk; subst hk; exact⟨v,rfl,e⟩
   | succ n=>exact h2 n k' (by simpa using hk)
  ·cases h
theorem xF_ {a b:GV} {xs ys:List GV} {e:Bool} (h:jh_ (a::xs) (b::ys)=some e):∃ e1 e2,eqC a b=some e1∧jh_ xs ys=some e2∧e=(e1&&e2):=by
 have h':(match eqC a b,jh_ xs ys with | some e,some r=>some (e&&r) | _,_=>none)=some e:=h;split at h'
 ·rename_i e1 e2 q1 q2; cases h'; exact⟨e1,e2,q1,q2,rfl⟩
 ·cases h'
theorem Ay_ {f:Field} {lv:List LK} {d:Nat} {n:Nat} {a b:GV} {e:Bool} {us vs:Array Value} {u v:Value} (hf:uE_ P lv f=true) (hn:f.offset=n) {k:LK} (hk:lv[n]? =some k) (ha:hz_ k a=true) (hb:hz_ k b=true) (he:eqC a b=some e)
 (h1:us[n]? =some u) (h2:vs[n]? =some v) (h3:a.is φ u) (h4:b.is φ v):
 (part f.type us f.offset).run P w= .ok u w∧(part f.type vs f.offset).run P w= .ok v w∧(Op.equalIn (d+1) f.type u v).run P w= .ok e w:=by
 unfold uE_ at hf;rw[hn,hk] at hf;rw[hn];split at hf
 ·rename_i q1 q2;cases q1;cases a<;>simp [hz_] at ha;cases b<;>simp [hz_] at hb;cases h3; cases h4; cases he;have hp:P.plainKey f.type=true:=by simp [Program.plainKey,q2]
  exact⟨run_part_plain w hp h1,run_part_plain w hp h2,run_equalIn_bool w d f.type _ _ q2⟩
 ·rename_i k1 k2 q1 q2;cases q1;cases a<;>simp [hz_] at ha;cases b<;>simp [hz_] at hb;cases h3; cases h4; cases he;subst ha; subst hb;have hp:P.plainKey f.type=true:=by simp [Program.plainKey,q2]
  exact⟨run_part_plain w hp h1,run_part_plain w hp h2,run_equalIn_int w d f.type _ _ _ _ q2⟩
 ·rename_i q1 q2;cases q1;cases a<;>simp [hz_] at ha;cases b<;>simp [hz_] at hb;cases h3; cases h4; cases he;have hp:P.plainKey f.type=true:=by simp [Program.plainKey,q2]
  exact⟨run_part_plain w hp h1,run_part_plain w hp h2,run_equalIn_string w d f.type _ _ q2⟩
 ·cases hf
theorem ll_ {lv:List LK} {d:Nat} {us vs:Array Value} {xs ys:List GV} (hx:in_ lv xs=true) (hy:in_ lv ys=true) (ix:Is2 φ xs us.toList) (iy:Is2 φ ys vs.toList):
 ∀ (fs:List Field) (n:Nat) (e:Bool),kI_ P lv n fs=true→jh_ (xs.drop n) (ys.drop n)=some e→(Op.eqFields (d+1) us vs fs).run P w= .ok e w
 | [],n,e,hf,he=>by
  unfold kI_ at hf;have hn:=fk_ hf;rw[List.drop_of_length_le (by rw[(lR_ hx).1]; omega),List.drop_of_length_le (by rw[(lR_ hy).1]; omega)] at he;cases he;rfl
 | f::fs,n,e,hf,he=>by
  unfold kI_ at hf;simp only[Bool.and_eq_true,bne_iff_ne,ne_eq] at hf;obtain⟨⟨⟨hname,hoff⟩,hfl⟩,hrest⟩:=hf;have hoff:=fk_ hoff;have hk:∃ k,lv[n]? =some k:=by
   unfold uE_ at hfl;rw[hoff] at hfl;cases hq:lv[n]? with
   | none=>rw[hq] at hfl; simp at hfl
   | some k=>exact⟨k,rfl⟩
  obtain⟨k,hk⟩:=hk;obtain⟨a,ha,fa⟩:=(lR_ hx).2 n k hk;obtain⟨b,hb,fb⟩:=(lR_ hy).2 n k hk;obtain⟨hal,hae⟩:=List.getElem?_eq_some_iff.1 ha;obtain⟨hbl,hbe⟩:=List.getElem?_eq_some_iff.1 hb;rw[List.drop_eq_getElem_cons hal,List.drop_eq_getElem_cons hbl,hae,hbe] at he;obtain⟨e1,e2,q1,q2,rfl⟩:=xF_ he;obtain⟨u,hu,hu2⟩:=b6_.get ix ha;obtain⟨v,hv,hv2⟩:=b6_.get iy hb;obtain⟨p1,p2,p3⟩:=Ay_ (P:=P) (w:=w) (d:=d) hfl hoff hk fa fb q1 (by simpa using hu) (by simpa using hv) hu2 hv2;have ih:=ll_ (d:=d) hx hy ix iy fs (n+1) e2 hrest q2;simp only[Op.eqFields,hname,ne_eq,not_false_eq_true,if_true,Sem.run_bind,p1,p2,p3,Result.andThen_ok];cases e1
  ·simp
  ·simpa using ih
theorem BX_ (hT:b8_ P cx.tys) {t:TypeId} {op:BinOp} {x y:FV} {K:FV→Prop} {ox oy:Operand} {ux uy:Value} (h:xm_ cx t op x y K) (hx:VOK n0 φ H lam fr w x ux) (hy:VOK n0 φ H lam fr w y uy):
 ∃ v u,K v∧(do eqGuard op t ox oy ux uy; binOp op t ux uy:Sem Value).run P w= .ok u w∧VOK n0 φ H lam fr w v u:=by
 unfold xm_ at h;split at h
 ·rename_i k a k' b;cases hx; cases hy;have hg:=h4_ (P:=P) (w:=w) op t ox oy (.int k a) (.int k' b) (by simp) (by simp);split at h
  ·obtain⟨h1,h⟩:=bf_.1 h;have h1:=gY_.1 h1;refine⟨_,_,h,?_,rfl⟩;simp [hg,binOp,Op.shift,show ¬ b < 0 by omega,DB_]
  ·obtain⟨h1,h⟩:=bf_.1 h;have h1:=gY_.1 h1;refine⟨_,_,h,?_,rfl⟩;simp [hg,binOp,Op.shift,show ¬ b < 0 by omega,i4_]
  ·rename_i n1 n2;split at h
   ·rename_i e;subst e;have hb:∀ {u:Value},(binOp op t (.int k a) (.int k b)).run P w= .ok u w→(do eqGuard op t ox oy (.int k a) (.int k b); binOp op t (.int k a) (.int k b):Sem Value).run P w= .ok u w:=by
     intro u q; simp [hg,q]
    cases op<;>dsimp only at h<;>first
     | exact h.elim
     | (obtain⟨h1,h⟩:=bf_.1 h
        have hne:b≠0:=by simpa [eqI] using h1
        refine⟨_,_,h,hb ?_,rfl⟩;simp [binOp,Op.intDiv,hne,ad_]; done)
     | (refine⟨_,_,h,hb ?_,rfl⟩
        simp [binOp,Op.intArith,Op.intBits,Op.intCmp,ad_,tA_,eqI,ltI,leI,bne]; done)
     | (refine⟨_,_,h,hb ?_,rfl⟩
        rfl)
   ·exact h.elim
 ·rename_i a b;cases hx; cases hy;have hg:=h4_ (P:=P) (w:=w) op t ox oy (.string a) (.string b) (by simp) (by simp);cases op<;>first
   | exact h.elim
   | (refine⟨_,_,h,?_,rfl⟩
      simp [hg,binOp,Op.stringOp,co_,cS_]; done)
   | (obtain⟨h1,h⟩:=h
      refine⟨_,_,h,?_,rfl⟩;simp [hg,binOp,Op.stringOp,IntKind.max,IntKind.bits,IntKind.signed];omega)
 ·rename_i a b;cases hx; cases hy;have hg:=h4_ (P:=P) (w:=w) op t ox oy (.bool a) (.bool b) (by simp) (by simp);obtain⟨ht,h⟩:=aj_.1 h;have hd:P.underlying t=some .bool:=by
   have h0:(cx.ty t).ok=true∧mG_ (cx.ty t) .bool=true∧(cx.ty t).agg=false:=by
    unfold TI.isBool at ht;split at ht
    ·rename_i e1 e2; simp [TI.ok,mG_,e1,e2]
    ·cases ht
   obtain⟨d,hd,hok⟩:=fK_ hT h0.1;rw[hd];have e:=vn_ h0.2.1;cases d<;>simp [c8_,mG_,e,h0.2.2,rK_] at hok ⊢
  cases op<;>first
   | exact h.elim
   | (refine⟨_,_,h,?_,rfl⟩
      simp [hg,binOp,run_equal_bool w t a b hd,eqB]; done)
 ·rename_i a;cases hy;obtain⟨ht,h⟩:=aj_.1 h;have hd:=oe_ hT ht;have hux:∃ p:Option Addr,ux= .pointer p∧p.isNone=isNone a:=by
   cases a with
   | none=>cases hx; exact⟨none,rfl,rfl⟩
   | some q=>obtain⟨i,_,rfl⟩:=hx; exact⟨_,rfl,rfl⟩
  obtain⟨p,rfl,hp⟩:=hux;have hg:=h4_ (P:=P) (w:=w) op t ox oy (.pointer p) (.pointer none) (by simp) (by simp);have he:(Op.equal t (.pointer p) (.pointer none)).run P w= .ok (isNone a) w:=by
   rw[←hp];exact Dg_ 9999 hd p
  cases op<;>first
   | exact h.elim
   | (refine⟨_,_,h,?_,rfl⟩
      simp [hg,binOp,he]; done)
 ·rename_i a n z n' z';obtain⟨_,rfl⟩:=hy;obtain⟨ht,h⟩:=aj_.1 h;have hd:=cI_ hT ht;have hux:∃ (p:Option Addr) (l c:Nat),ux= .slice p l c∧p.isNone=isNone a:=by
   cases a with
   | none=>obtain⟨_,rfl⟩:=hx; exact⟨none,0,0,rfl,rfl⟩
   | some q=>obtain⟨i,_⟩:=q; obtain⟨_,_,_,_,rfl,_⟩:=hx; exact⟨_,_,_,rfl,rfl⟩
  obtain⟨p,l,c,rfl,hp⟩:=hux;have hg:=h4_ (P:=P) (w:=w) op t ox oy (.slice p l c) (.slice none 0 0) (by simp) (by simp);have he:(Op.equal t (.slice p l c) (.slice none 0 0)).run P w= .ok (isNone a) w:=by
   rw[←hp];exact Dz_ 9999 hd p l c
  cases op<;>first
   | exact h.elim
   | (refine⟨_,_,h,?_,rfl⟩
      simp [hg,binOp,he]; done)
 ·rename_i xs ys;obtain⟨us,rfl,ix⟩:=hx;obtain⟨vs,rfl,iy⟩:=hy;obtain⟨hc,h⟩:=aj_.1 h;obtain⟨hfx,h⟩:=aj_.1 h;obtain⟨hfy,h⟩:=aj_.1 h;obtain⟨fs,hd,hfl,hst,hgd⟩:=hT.2.1 t hc;have hfo:P.fieldsOf t=fs:=by simp [Program.fieldsOf,hd]
  have hg:=run_eqGuard_agg (P:=P) w op t ox oy us vs hgd;split at h
  ·rename_i e he;have heq:(Op.equalIn 10000 t (.agg us) (.agg vs)).run P w= .ok e w:=by
    rw[run_equalIn_struct w 9999 t us vs (by rw[hfo]; exact hd) hst,hfo];exact ll_ (d:=9998) hfx hfy ix iy fs.toList 0 e hfl (by simpa using he)
   cases op<;>first
    | exact h.elim
    | (refine⟨_,_,h,?_,rfl⟩
       rw[Sem.run_bind,hg,Result.andThen_ok]
       first | rw[run_eql_struct,heq] | rw[run_neq_struct,heq]
       simp [gb]; done)
  ·exact h.elim
 ·exact h.elim
theorem CR_ {op:UnOp} {x:FV} {K:FV→Prop} {ux:Value} (h:unK op x K) (hx:VOK n0 φ H lam fr w x ux):∃ v u,K v∧(Op.unary op ux).run P w= .ok u w∧VOK n0 φ H lam fr w v u:=by
 unfold unK at h;split at h
 ·cases hx; exact⟨_,_,h,by simp [Op.unary],rfl⟩
 ·cases hx; exact⟨_,_,h,by simp [Op.unary,Op.intArith,ad_],rfl⟩
 ·cases hx; exact⟨_,_,h,by simp [Op.unary,Op.intBits,tA_],rfl⟩
 ·exact h.elim
end
end Go.Am
namespace Go.Am
section
variable {P:Program} {cx:Cx} {n0:Nat} {φ:List LI} {H:Hp} {lam:Nat→Nat} {fr:List FV} {w:World}
theorem v4_ {mx:Bool} {x y:FV} {K:FV→Prop} {ux uy:Value} (h:sL_ mx x y K) (hx:VOK n0 φ H lam fr w x ux) (hy:VOK n0 φ H lam fr w y uy):
 ∃ v u,K v∧(match mx with | true=>Builtin.max2 ux uy | false=>Builtin.min2 ux uy).run P w= .ok u w∧VOK n0 φ H lam fr w v u:=by
 unfold sL_ at h;split at h
 ·cases hx; cases hy;cases mx with
  | true=>exact⟨_,_,h,by simp [Builtin.max2,mxI],rfl⟩
  | false=>exact⟨_,_,h,by simp [Builtin.min2,mnI],rfl⟩
 ·exact h.elim
theorem B1_ (hT:b8_ P cx.tys) {t ty:TypeId} {x:FV} {K:FV→Prop} {ux:Value} (h:zT_ cx t x K) (hx:VOK n0 φ H lam fr w x ux):
 ∃ v u,K v∧(Builtin.len_ #[t] ty #[ux]).run P w= .ok u w∧VOK n0 φ H lam fr w v u:=by
 unfold zT_ at h;split at h
 ·obtain⟨ht,h⟩:=aj_.1 h;cases hx;exact⟨_,_,h,by simp [Builtin.len_,run_underlying (fg_ hT ht),goInt,sz],rfl⟩
 ·rename_i a n z;obtain⟨ht,h⟩:=aj_.1 h;have hd:=cI_ hT ht;have hux:∃ (p:Option Addr) (c:Nat),ux= .slice p n c:=by
   cases a with
   | none=>obtain⟨e,rfl⟩:=hx; subst e; exact⟨none,0,rfl⟩
   | some q=>obtain⟨i,_⟩:=q; obtain⟨_,_,_,_,rfl,_⟩:=hx; exact⟨_,_,rfl⟩
  obtain⟨p,c,rfl⟩:=hux;exact⟨_,_,h,by simp [Builtin.len_,run_underlying hd,goInt,nI],rfl⟩
 ·rename_i cs n z;obtain⟨ht,h⟩:=aj_.1 h;have hd:=cI_ hT ht;obtain⟨b,c,t',fz,rfl,_⟩:=hx;exact⟨_,_,h,by simp [Builtin.len_,run_underlying hd,goInt,nI],rfl⟩
 ·exact h.elim
theorem ju_ (t:TypeId) (a:Addr):(Instr.loadAt t (.pointer (some a))).run P w=(loadVar t a).run P w:=by simp [Instr.loadAt,Instr.sureAddr]
theorem ql_ (t:TypeId) (a:Addr) (x:Value):(Instr.storeAt t (.pointer (some a)) x).run P w=(storeVar t a x).run P w:=by simp [Instr.storeAt,Instr.sureAddr]
theorem vY_ (hT:b8_ P cx.tys) {φ0:List LI} {H0:Hp} {w0:World} {tmps:Array Value} (I:Inv φ0 H0 w0 φ H lam fr tmps w) {t:TypeId} {x:FV} {K:FV→Prop} {ux:Value} (ht:cx.okT t=true) (h:i0_ cx t x (fun s=>fr.getD s .bad) H K) (hx:VOK w0.heap.size φ H lam fr w x ux):
 ∃ v u,K v∧(Instr.loadAt t ux).run P w= .ok u w∧VOK w0.heap.size φ H lam fr w v u:=by
 unfold i0_ at h;split at h
 ·rename_i s p;dsimp only at h;split at h
  ·rename_i cs hcs;obtain⟨e,_,_,c,t',hb,his⟩:=I.slot s _ (gS_ hcs (by simp));cases hx;obtain⟨v,u,hk,hr,hv⟩:=xq_ (P:=P) (H:=H) hT ht his (w:=w) (b:=lam s) (o:=p) (fun j y hy=>by rw[fa_ hb]; simpa using hy) h;exact⟨v,u,hk,(ju_ _ _).trans hr,hv _ _ _ _⟩
  ·exact h.elim
 ·rename_i l p;obtain⟨i,hi,rfl⟩:=hx;obtain⟨cs,xs,h1,his,hl,hc⟩:=qz_ I.rep hi h;rcases B3_ h1 with⟨ha,hk⟩ | ⟨ha,v,rfl,hk⟩
  ·exact⟨_,_,hk,(ju_ _ _).trans (jX_ hT ht ha hc hl),⟨_,rfl,by simpa using his⟩⟩
  ·obtain⟨x,xs,rfl,hvx,_⟩:=his.cons_inv;exact⟨_,_,hk,(ju_ _ _).trans (jZ_ hT ht ha (hc 0 x (by simp))),hvx⟩
 ·exact h.elim
theorem qG_ (k:IntKind) (n:Int):(asIntOf (.int k n)).run P w= .ok (k,n) w:=rfl
def mq_ (a:Act) (d:Nat):Option Operand→Nat→Prop
 | none,m=>m=d
 | some x,m=>∃ k,a.eval x= .int k m
theorem gV_ {φ0:List LI} {H0:Hp} {w0:World} {tmps:Array Value} (I:Inv φ0 H0 w0 φ H lam fr tmps w) (df:List Deferred) {x:Option Operand} {d:Nat} {K:Nat→Prop} (h:l2_ (ev fr) x d K):
 ∃ m:Nat,K m∧mq_ ⟨tmps,df⟩ d x m:=by
 cases x with
 | none=>exact⟨d,h,rfl⟩
 | some x=>
  have hv:=I.ev df x;have h':(match ev fr x with | .g (.int _ n)=>chk (leI 0 n) (K (tN n)) | _=>False):=h;split at h'
  ·rename_i k n e;rw[e] at hv;obtain⟨h1,h⟩:=bf_.1 h';have h1:=gY_.1 h1;refine⟨_,h,k,?_⟩;rw[hv]; simp [tN]; omega
  ·exact h'.elim
theorem fD_ {k:IntKind} {m y:Nat} {code:BoundsCode} (h:m≤y):(Instr.sliceBound (.int k m) y code).run P w= .ok m w:=by
 simp [Instr.sliceBound,asIntOf,h]
theorem jS_ {tmps:Array Value} (df:List Deferred) {lo hi:Option Operand} {isS:Bool} {len cap l h:Nat}
 (hlo:mq_ ⟨tmps,df⟩ 0 lo l) (hhi:mq_ ⟨tmps,df⟩ len hi h) (h1:l≤h) (h2:h≤cap):
 (Instr.sliceBounds isS len cap (lo.map (Act.eval ⟨tmps,df⟩)) (hi.map (Act.eval ⟨tmps,df⟩)) none).run P w= .ok (l,h,cap) w:=by
 cases lo<;>cases hi<;>simp only[mq_] at hlo hhi
 ·subst hlo; subst hhi; simp [Instr.sliceBounds]
 ·subst hlo; obtain⟨k,e⟩:=hhi; simp [Instr.sliceBounds,e,fD_ h2]
 ·subst hhi; obtain⟨k,e⟩:=hlo; simp [Instr.sliceBounds,e,fD_ h1]
 ·obtain⟨k,e⟩:=hhi; obtain⟨k',e'⟩:=hlo; simp [Instr.sliceBounds,e,e',fD_ h1,fD_ h2]
theorem ho_ {t:TypeId} {d:TypeDesc} (hd:P.underlying t=some d) (hn:∀ n e,d≠ .array n e) (x:Value) (lo hi mx:Option Value):(Instr.sliceAt t x lo hi mx).run P w=(Instr.slice t x lo hi mx).run P w:=by
 unfold Instr.sliceAt;rw[Sem.run_bind,run_underlying hd];cases d<;>first | rfl | exact (hn _ _ rfl).elim
theorem sR_ {a:Pl} {z' z:Nat} (h:okz a z' z=true):z'=z∨a=none:=by
 unfold okz at h;split at h
 ·rename_i e; exact .inl (by simpa using e)
 ·split at h
  ·exact .inr rfl
  ·cases h
theorem yt_ (hr:cq_ φ H w) {l o m:Nat} {i:LI} (hi:φ[l]? =some i) (h:uW_ H (some (l,o)) m=true):o+m≤i.u:=by
 unfold uW_ at h;simp only at h;split at h
 ·rename_i own t cs hl;obtain⟨i',hi',_,h2,_⟩:=hr.row l own t cs hl;rw[hi] at hi'; cases hi';have:=fd_.1 h; omega
 ·cases h
theorem y5_ (hr:cq_ φ H w) {l o k:Nat} {i:LI} (hi:φ[l]? =some i) (h:zs_ H (some (l,o)) k=true):i.u≤o+k:=by
 unfold zs_ at h;simp only at h;split at h
 ·rename_i own t cs hl;obtain⟨i',hi',_,h2,_⟩:=hr.row l own t cs hl;rw[hi] at hi'; cases hi';have:=fd_.1 h; omega
 ·cases h
theorem AY_ (hr:cq_ φ H w) {l o k:Nat} {i:LI} (hi:φ[l]? =some i) (h:zs_ H (some (l,o)) k=true) (hw:i.own=true):i.p=0∧i.u≤i.s:=by
 unfold zs_ at h;dsimp only at h;split at h
 ·rename_i own t cs hl;obtain⟨i',hi',hrow⟩:=hr.row l own t cs hl;rw[hi] at hi'; cases hi';obtain⟨r1,r2,r3,r4⟩:=hrow;rw[hw] at r1;subst r1;obtain⟨p0,c,t',fz,_,_,hs,_,hle,_⟩:=r4;exact⟨p0,by omega⟩
 ·cases h
theorem z1_ (hT:b8_ P cx.tys) {φ0:List LI} {H0:Hp} {w0:World} {tmps:Array Value} (I:Inv φ0 H0 w0 φ H lam fr tmps w) (df:List Deferred) {t:TypeId} {x:FV} {lo hi:Option Operand} {K:FV→Prop} {ux:Value}
 (h:nn_ cx t x lo hi (ev fr) H K) (hx:VOK w0.heap.size φ H lam fr w x ux):
 ∃ v u,K v∧(Instr.sliceAt t ux (lo.map (Act.eval ⟨tmps,df⟩)) (hi.map (Act.eval ⟨tmps,df⟩)) none).run P w= .ok u w∧VOK w0.heap.size φ H lam fr w v u:=by
 unfold nn_ at h;split at h
 ·rename_i s;cases hx;obtain⟨ht,h⟩:=aj_.1 h;have hd:=fg_ hT ht;obtain⟨hh,h,hhi⟩:=gV_ I df h;obtain⟨l,h,hlo⟩:=gV_ I df h;obtain⟨hc,h⟩:=bf_.1 h;rw[Bool.and_eq_true] at hc;have h1:=fd_.1 hc.1;have h2:hh≤s.size:=fd_.1 hc.2;refine⟨_,_,h,?_,rfl⟩;rw[ho_ hd (by simp)];have hb:=jS_ (P:=P) (w:=w) df (isS:=false) (len:=s.size) hlo hhi h1 h2;simp [Instr.slice,run_underlying hd,hb,sub]
 ·rename_i a n z';obtain⟨ht,h⟩:=aj_.1 h;obtain⟨hz0,h⟩:=aj_.1 h;obtain⟨hz,h⟩:=bf_.1 h;have hz0:=Nat.le_of_ble_eq_true hz0;have hsl:(cx.ty t).isA 1=true∧cx.okT (cx.ty t).el=true:=by
   unfold Cx.isSl at ht; split at ht
   ·rename_i e1 e2; exact⟨e1,e2⟩
   ·cases ht
  have hd:=cI_ hT hsl.1;have hsz:=eq_ hT hsl.2 w;generalize (cx.ty (cx.ty t).el).lv.length=z at*;generalize (cx.ty t).el=e at*;have hB:∃ l hh:Nat,K (.g (.sl (shf a (l*z)) (hh - l) z))∧mq_ ⟨tmps,df⟩ 0 lo l∧mq_ ⟨tmps,df⟩ n hi hh∧l≤hh∧(hh≤n∨uW_ H a (hh*z)=true):=by
   split at h
   ·obtain⟨l,h,hlo⟩:=gV_ I df h;obtain⟨hc,h⟩:=bf_.1 h;exact⟨l,n,h,hlo,rfl,fd_.1 hc,.inl (Nat.le_refl _)⟩
   ·rename_i y;obtain⟨hh,h,hhi⟩:=gV_ I df h;obtain⟨l,h,hlo⟩:=gV_ I df h;obtain⟨hc,h⟩:=bf_.1 h;rw[Bool.and_eq_true,Bool.or_eq_true] at hc;exact⟨l,hh,h,hlo,hhi,fd_.1 hc.1,hc.2.imp fd_.1 id⟩
  obtain⟨l,hh,hk,hlo,hhi,h1,h2⟩:=hB;cases a with
  | none=>
   obtain⟨rfl,rfl⟩:=hx;have h2':hh≤0:=by
    rcases h2 with q | q
    ·exact q
    ·have q:=fd_.1 (show leN (hh*z) 0=true from q);have:=Nat.le_of_mul_le_mul_right (by omega:hh*z≤0*z) hz0; omega
   have hb:=jS_ (P:=P) (w:=w) df (isS:=true) (len:=0) hlo hhi h1 h2';have e1:hh=0:=by omega
   have e2:l=0:=by omega
   subst e1; subst e2;refine⟨_,_,hk,?_,⟨rfl,rfl⟩⟩;rw[ho_ hd (by simp)];simp [Instr.slice,run_underlying hd,hb,hsz]
  | some p=>
   obtain⟨r,o⟩:=p;obtain⟨i,ad,c,hi',rfl,hq,hnc,hu,hown⟩:=hx;have hz':z'=z:=by rcases sR_ hz with q | q; exact q; cases q
   subst hz';have h2':hh≤c:=by
    rcases h2 with q | q
    ·omega
    ·have:=yt_ I.rep hi' q;exact Nat.le_of_mul_le_mul_right (by omega:hh*z'≤c*z') hz0
   have hb:=jS_ (P:=P) (w:=w) df (isS:=true) (len:=n) hlo hhi h1 h2';have hle:l*z'≤c*z':=Nat.mul_le_mul_right _ (by omega);have hsub:(c - l)*z'=c*z' - l*z':=Nat.sub_mul _ _ _;refine⟨_,.slice (some (if c=l then ad else ad.add (l*z'))) (hh - l) (c - l),hk,?_,⟨i,_,_,hi',rfl,?_,by omega,?_,?_⟩⟩
   ·rw[ho_ hd (by simp)];simp only[Instr.slice,Sem.run_bind,run_underlying hd,Result.andThen_ok,hb,hsz,Sem.run_pure];split<;>simp
   ·by_cases e:c=l
    ·right; omega
    ·left;rw[if_neg e];rcases hq with q | q
     ·subst q; rw[fS_,Nat.add_assoc]
     ·omega
   ·show i.u≤o+l*z'+(c - l)*z';omega
   ·intro hw;obtain⟨g1,g2,g3⟩:=hown hw;refine⟨g1,?_,by omega⟩;show o+l*z'+(c - l)*z'≤i.s;omega
 ·rename_i r o;obtain⟨ht,h⟩:=aj_.1 h;obtain⟨he,h⟩:=aj_.1 h;obtain⟨hz0,h⟩:=aj_.1 h;obtain⟨hbig,h⟩:=aj_.1 h;have hz0:=Nat.le_of_ble_eq_true hz0;have hbig:=Nat.le_of_ble_eq_true hbig;obtain⟨hh,hA,hhi⟩:=gV_ I df h;clear h;obtain⟨l,hB,hlo⟩:=gV_ I df hA;clear hA;obtain⟨hc,hk⟩:=bf_.1 hB;clear hB;rw[Bool.and_eq_true,Bool.and_eq_true,Bool.and_eq_true] at hc;obtain⟨c1,c2,c3,c4⟩:=hc;have c1:=fd_.1 c1;have c2:=fd_.1 c2;have hd:=sc_ hT ht;have hsz:=eq_ hT he w;generalize (cx.ty (cx.ty t).el).lv.length=z at*;generalize (cx.ty t).an=n at*;obtain⟨i,hi',rfl⟩:=hx;have u1:=yt_ I.rep hi' c3;have u2:=y5_ I.rep hi' c4;have hb:=jS_ (P:=P) (w:=w) df (isS:=false) (len:=n) (cap:=n) hlo hhi c1 c2;have hle:l*z≤n*z:=Nat.mul_le_mul_right _ (by omega);have hsub:(n - l)*z=n*z - l*z:=Nat.sub_mul _ _ _;refine⟨_,.slice (some (if n=l then ⟨i.b,i.p+o,none⟩ else (⟨i.b,i.p+o,none⟩:Addr).add (l*z))) (hh - l) (n - l),hk,?_,⟨i,_,_,hi',rfl,?_,by omega,?_,?_⟩⟩
  ·simp only[Instr.sliceAt,Instr.sureAddr,Sem.run_bind,run_underlying hd,Result.andThen_ok,hb,hsz,Sem.run_pure,Option.map_none]
  ·by_cases e:n=l
   ·right; omega
   ·left;rw[if_neg e,fS_,Nat.add_assoc]
  ·show i.u≤o+l*z+(n - l)*z;omega
  ·intro hw;obtain⟨g1,g2⟩:=AY_ I.rep hi' c4 hw;refine⟨g1,?_,by omega⟩;show o+l*z+(n - l)*z≤i.s;omega
 ·exact h.elim
theorem qw_ {tmps:Array Value} (df:List Deferred) {lo:Option Operand} {hi mx:Operand} {len cap l h m d d':Nat}
 (hlo:mq_ ⟨tmps,df⟩ 0 lo l) (hhi:mq_ ⟨tmps,df⟩ d (some hi) h) (hmx:mq_ ⟨tmps,df⟩ d' (some mx) m) (h1:l≤h) (h2:h≤m) (h3:m≤cap):
 (Instr.sliceBounds true len cap (lo.map (Act.eval ⟨tmps,df⟩)) ((some hi).map (Act.eval ⟨tmps,df⟩)) ((some mx).map (Act.eval ⟨tmps,df⟩))).run P w= .ok (l,h,m) w:=by
 obtain⟨k1,e1⟩:=hhi;obtain⟨k2,e2⟩:=hmx;cases lo<;>simp only[mq_] at hlo
 ·subst hlo; simp [Instr.sliceBounds,e1,e2,fD_ h2,fD_ h3]
 ·obtain⟨k,e⟩:=hlo; simp [Instr.sliceBounds,e,e1,e2,fD_ h1,fD_ h2,fD_ h3]
theorem xE_ (hT:b8_ P cx.tys) {φ0:List LI} {H0:Hp} {w0:World} {tmps:Array Value} (I:Inv φ0 H0 w0 φ H lam fr tmps w) (df:List Deferred) {t:TypeId} {x:FV} {lo hi:Option Operand} {mx:Operand} {K:FV→Prop} {ux:Value}
 (h:jo_ cx t x lo hi mx (ev fr) H K) (hx:VOK w0.heap.size φ H lam fr w x ux):
 ∃ v u,K v∧(Instr.sliceAt t ux (lo.map (Act.eval ⟨tmps,df⟩)) (hi.map (Act.eval ⟨tmps,df⟩)) ((some mx).map (Act.eval ⟨tmps,df⟩))).run P w= .ok u w∧VOK w0.heap.size φ H lam fr w v u:=by
 unfold jo_ at h;split at h
 ·rename_i a n z' hi;obtain⟨ht,h⟩:=aj_.1 h;obtain⟨hz0,h⟩:=aj_.1 h;obtain⟨hz,h⟩:=bf_.1 h;have hz0:=Nat.le_of_ble_eq_true hz0;have hsl:(cx.ty t).isA 1=true∧cx.okT (cx.ty t).el=true:=by
   unfold Cx.isSl at ht; split at ht
   ·rename_i e1 e2; exact⟨e1,e2⟩
   ·cases ht
  have hd:=cI_ hT hsl.1;have hsz:=eq_ hT hsl.2 w;obtain⟨m,h,hmx⟩:=gV_ I df h;obtain⟨hh,h,hhi⟩:=gV_ I df h;obtain⟨l,h,hlo⟩:=gV_ I df h;obtain⟨hc,hk⟩:=bf_.1 h;simp only[Bool.and_eq_true] at hc;obtain⟨c1,c2,c3,c4⟩:=hc;have c1:=fd_.1 c1;have c2:=fd_.1 c2;have c3:=fd_.1 c3;generalize (cx.ty (cx.ty t).el).lv.length=z at*;generalize (cx.ty t).el=e at*;cases a with
  | none=>
   obtain⟨e0,rfl⟩:=hx;have e3:m=0:=by omega
   have e1:hh=0:=by omega
   have e2:l=0:=by omega
   subst e1; subst e2; subst e3;have hb:=qw_ (P:=P) (w:=w) df (len:=0) (cap:=0) hlo hhi hmx c1 c2 (by omega);simp only[Option.map_some] at hb;refine⟨_,_,hk,?_,⟨by omega,rfl⟩⟩;rw[ho_ hd (by simp)];simp [Instr.slice,run_underlying hd,hb,hsz]
  | some p=>
   obtain⟨r,o⟩:=p;obtain⟨i,ad,c,hi',rfl,hq,hnc,hu,hown⟩:=hx;have hz':z'=z:=by rcases sR_ hz with q | q; exact q; cases q
   subst hz';have hend:=y5_ I.rep hi' c4;have hb:=qw_ (P:=P) (w:=w) df (len:=n) (cap:=c) hlo hhi hmx c1 c2 (by omega);have hle:l*z'≤m*z':=Nat.mul_le_mul_right _ (by omega);have hle2:m*z'≤c*z':=Nat.mul_le_mul_right _ (by omega);have hsub:(m - l)*z'=m*z' - l*z':=Nat.sub_mul _ _ _;refine⟨_,.slice (some (if m=l then ad else ad.add (l*z'))) (hh - l) (m - l),hk,?_,⟨i,_,_,hi',rfl,?_,by omega,?_,?_⟩⟩
   ·rw[ho_ hd (by simp)];simp only[Instr.slice,Sem.run_bind,run_underlying hd,Result.andThen_ok,hb,hsz,Sem.run_pure];split<;>simp
   ·by_cases e:m=l
    ·right; omega
    ·left;rw[if_neg e];rcases hq with q | q
     ·subst q; rw[fS_,Nat.add_assoc]
     ·omega
   ·show i.u≤o+l*z'+(m - l)*z';omega
   ·intro hw;obtain⟨g1,g2,g3⟩:=hown hw;refine⟨g1,?_,by omega⟩;show o+l*z'+(m - l)*z'≤i.s;omega
 ·exact h.elim
end
end Go.Am
namespace Go.Am
section
variable {P:Program} {cx:Cx} {n0:Nat} {φ:List LI} {H:Hp} {lam:Nat→Nat} {fr:List FV} {w:World}
theorem wm_:∀ {l:List (Nat × Nat)} {fs:List Field} {f:Nat} {p t:Nat},u6_ l fs=true→l[f]? =some (p,t)→∃ g,fs[f]? =some g∧g.offset=p∧g.type=t
 | [],_,f,p,t,_,h=>by simp at h
 | (a,b)::l,[],f,p,t,h,_=>by simp [u6_] at h
 | (a,b)::l,g::fs,f,p,t,h,hf=>by
  simp only[u6_,Bool.and_eq_true] at h;cases f with
  | zero=>simp at hf; exact⟨g,by simp,by rw[←hf.1]; exact (fk_ h.1.1).symm,by rw[←hf.2]; exact (fk_ h.1.2).symm⟩
  | succ f=>simp at hf ⊢; exact wm_ h.2 hf
theorem m3_ {t:TypeId} (h:(cx.ty t).agg=true):cx.okT t=true:=by
 unfold Cx.okT TI.ok; rw[h]
theorem tf_ (hT:b8_ P cx.tys) {t:TypeId} (ht:(cx.ty t).agg=true) {f p e:Nat} (hf:(cx.ty t).fs[f]? =some (p,e)):
 ∃ fs g,P.underlying t=some (.struct fs)∧fs[f]? =some g∧g.offset=p∧g.type=e:=by
 obtain⟨d,hd,hok⟩:=fK_ hT (m3_ ht);have key:∀ fs,d= .struct fs→∃ g,fs[f]? =some g∧g.offset=p∧g.type=e:=by
  intro fs e'; subst e';simp only[c8_,Bool.and_eq_true] at hok;obtain⟨g,h1,h2⟩:=wm_ hok.2 hf;exact⟨g,by simpa using h1,h2⟩
 cases d with
 | struct fs=>obtain⟨g,h⟩:=key fs rfl; exact⟨fs,g,hd,h⟩
 | array n el=>
  simp only[c8_,Bool.and_eq_true] at hok;have:=hok.1.1.2;split at this
  ·rename_i e'; rw[e'] at hf; simp at hf
  ·cases this
 | _=>simp [c8_,ht] at hok
theorem Bz_ (hT:b8_ P cx.tys) {t e:TypeId} {x:FV} {f p:Nat} {K:FV→Prop} {ux:Value} (ht:(cx.ty t).agg=true) (he:cx.okT e=true) (hpos:1≤(cx.ty e).lv.length) (hf:(cx.ty t).fs[f]? =some (p,e)) (h:xW_ x p K) (hx:VOK n0 φ H lam fr w x ux):
 ∃ v u,K v∧(Instr.fieldAt t ux f).run P w= .ok u w∧VOK n0 φ H lam fr w v u:=by
 obtain⟨fs,g,hd,hg,rfl,rfl⟩:=tf_ hT ht hf;have hs:=eq_ hT he w;have hne:(cx.ty g.type).lv.length≠0:=by omega
 have run:∀ b o,(Instr.fieldAt t (.pointer (some ⟨b,o,none⟩)) f).run P w= .ok (.pointer (some ⟨b,o+g.offset,none⟩)) w:=by
  intro b o;simp [Instr.fieldAt,run_underlying hd,hg,Instr.sureAddr,fieldPlace,hs,hne,fS_]
 unfold xW_ at h;split at h
 ·cases hx; exact⟨_,_,h,run _ _,rfl⟩
 ·obtain⟨i,hi,rfl⟩:=hx;exact⟨_,_,h,run _ _,i,hi,by simp [Nat.add_assoc]⟩
 ·exact h.elim
theorem AK_ (hT:b8_ P cx.tys) {t e:TypeId} {cs:List GV} {f p:Nat} {K:FV→Prop} {ux:Value} (ht:(cx.ty t).agg=true) (he:cx.okT e=true) (hf:(cx.ty t).fs[f]? =some (p,e)) (h:sY_ cs p (cx.ty e).lv.length (cx.ty e).agg K) (hx:VOK n0 φ H lam fr w (.agg cs) ux):
 ∃ v u,K v∧(Instr.field t ux f).run P w= .ok u w∧VOK n0 φ H lam fr w v u:=by
 obtain⟨fs,g,hd,hg,rfl,rfl⟩:=tf_ hT ht hf;obtain⟨us,rfl,his⟩:=hx;have hs:=eq_ hT he w;have ha:=pu_ hT he w;rcases u0_ h with⟨h1,h2,h3⟩ | ⟨h1,v,h2,h3⟩
 ·rw[h1] at ha;refine⟨_,_,h3,?_,⟨us.extract g.offset (g.offset+(cx.ty g.type).lv.length),rfl,?_⟩⟩
  ·simp [Instr.field,run_underlying hd,hg,asAgg,part,ha,hs]
  ·have:=(his.drop g.offset).take (cx.ty g.type).lv.length;simpa [List.extract_eq_take_drop] using this
 ·rw[h1] at ha;obtain⟨x,hx,hvx⟩:=his.get h2;refine⟨_,x,h3,?_,hvx⟩;have:us[g.offset]? =some x:=by simpa using hx
  simp [Instr.field,run_underlying hd,hg,asAgg,part,ha,this]
theorem hc_ {t:TypeId} (h:cx.isSl t=true):(cx.ty t).isA 1=true∧cx.okT (cx.ty t).el=true:=by
 unfold Cx.isSl at h; split at h
 ·rename_i e1 e2; exact⟨e1,e2⟩
 ·cases h
theorem Bo_ (hT:b8_ P cx.tys) {t:TypeId} {x i:FV} {K:FV→Prop} {ux ui:Value} (h:zB_ cx t x i K) (hx:VOK n0 φ H lam fr w x ux) (hi:VOK n0 φ H lam fr w i ui):
 ∃ v u,K v∧(Instr.indexAt t ux ui).run P w= .ok u w∧VOK n0 φ H lam fr w v u:=by
 unfold zB_ at h;split at h
 ·rename_i a n z' k j;cases hi;obtain⟨ht,h⟩:=aj_.1 h;obtain⟨hz,h⟩:=bf_.1 h;obtain⟨hj,h⟩:=bf_.1 h;rw[Bool.and_eq_true] at hj;have h1:=gY_.1 hj.1;have h2:j < n:=vz_.1 hj.2;have ht:=hc_ ht;have hd:=cI_ hT ht.1;have hs:=eq_ hT ht.2 w;cases a with
  | none=>exact h.elim
  | some pl=>
   obtain⟨l,o⟩:=pl;obtain⟨i,ad,c,hi,rfl,hq,hnc,_⟩:=hx;obtain rfl:ad=⟨i.b,i.p+o,none⟩:=by rcases hq with q | q; exact q; omega
   refine⟨_,_,h,?_,i,hi,rfl⟩;simp only[Instr.indexAt,Sem.run_bind,qG_,Result.andThen_ok,run_underlying hd,Sem.run_pure,Sem.run_ite,h1,h2,and_self,if_true,hs,fS_];simp [tN,Nat.add_assoc]
 ·rename_i l o k j;cases hi;obtain⟨ht,h⟩:=aj_.1 h;obtain⟨he,h⟩:=aj_.1 h;obtain⟨hj,h⟩:=bf_.1 h;rw[Bool.and_eq_true] at hj;have h1:=gY_.1 hj.1;have h2:j < ((cx.ty t).an:Int):=vz_.1 hj.2;have hd:=sc_ hT ht;have hs:=eq_ hT he w;obtain⟨i,hi,rfl⟩:=hx;refine⟨_,_,h,?_,i,hi,rfl⟩;simp only[Instr.indexAt,Instr.sureAddr,Sem.run_bind,qG_,Result.andThen_ok,run_underlying hd,Sem.run_pure,Sem.run_ite,h1,h2,and_self,if_true,hs,fS_];simp [tN,Nat.add_assoc]
 ·exact h.elim
theorem Bf_ (hT:b8_ P cx.tys) {t:TypeId} {s:ByteArray} {k:IntKind} {j:Int} (ht:(cx.ty t).isA 3=true) (h1:0≤j) (h2:j < s.size):
 (Instr.index t (.string s) (.int k j)).run P w= .ok (.int .u8 (byt s (tN j))) w:=by
 have hd:=fg_ hT ht;have hlt:j.toNat < s.size:=by omega
 simp [Instr.index,asIntOf,run_underlying hd,h1,ByteArray.getElem?_lt' s j.toNat hlt,byt,tN];show (s.data[j.toNat].toNat:Int)=_;rw[Array.getElem?_eq_getElem (show j.toNat < s.data.size from hlt)];simp
theorem sj_ {vs:List RV} {i:Nat} {us:Array Value} (h:b6_ (RV.is φ) vs us.toList) {r:RV} (hr:vs[i]? =some r):∃ u,(Instr.extract (.tuple us) i).run P w= .ok u w∧r.is φ u:=by
 obtain⟨u,hu,hru⟩:=h.get hr;have hu':us[i]? =some u:=by simpa using hu
 exact⟨u,by simp [Instr.extract,hu'],hru⟩
theorem wX_ {φ0:List LI} {H0:Hp} {w0:World} {tmps:Array Value} (I:Inv φ0 H0 w0 φ H lam fr tmps w) (df:List Deferred):∀ {xs:List Operand} {K:List (Nat × Nat)→Prop},la_ (ev fr) xs K→
 ∃ caps,K caps∧b6_ (mw_ φ) caps (xs.map (Act.eval ⟨tmps,df⟩))
 | [],K,h=>⟨[],h,.nil⟩
 | x::xs,K,h=>by
  have hv:=I.ev df x;have h':(match ev fr x with | .g (.ptr (some p))=>la_ (ev fr) xs fun r=>K (p::r) | _=>False):=h;split at h'
  ·rename_i p e;rw[e] at hv;obtain⟨caps,h1,h2⟩:=wX_ I df h';exact⟨p::caps,h1,.cons hv h2⟩
  ·exact h'.elim
end
end Go.Am
namespace Go.Am
theorem su_ (off:Nat):∀ (vs:List Value) (k:Nat) (cells:Array Value),off+k+vs.length≤cells.size→
 ((vs.zipIdx k).foldl (fun (cs:Array Value) (c,j)=>cs.setIfInBounds (off+j) c) cells).toList=cells.toList.take (off+k)++vs++cells.toList.drop (off+k+vs.length)
 | [],k,cells,h=>by simp
 | v::vs,k,cells,h=>by
  simp only[List.zipIdx_cons,List.foldl_cons];rw[su_ off vs (k+1) _ (by simp at h ⊢; omega)];rw[Array.toList_setIfInBounds];have:=hw_ cells.toList (off+k) v vs (by simp at h ⊢; omega);rw[show off+(k+1)=off+k+1 by omega,←this];simp
theorem wI_ {place:Nat→Option (Nat × Nat)} {i off:Nat} {v:Value} {rest:List (Nat × Value)} {cells:Array Value} (hp:place i=some (off,v.cells.size)) (hle:off+v.cells.size≤cells.size):
 Instr.fill place cells ((i,v)::rest)=Instr.fill place (cells.toList.take off++v.cells.toList++cells.toList.drop (off+v.cells.size)).toArray rest:=by
 simp only[Instr.fill,hp];have h: ¬ (off+v.cells.size>cells.size):=by omega
 simp only[ne_eq,not_true_eq_false,decide_false,Bool.false_or,h,Bool.false_eq_true,if_false];congr 1;apply Array.ext';rw[←Array.foldl_toList,Array.toList_zipIdx];have:=su_ off v.cells.toList 0 cells (by simpa using hle);simpa using this
section
variable {P:Program} {cx:Cx} {φ:List LI} {H:Hp} {lam:Nat→Nat} {fr:List FV} {w:World} {φ0:List LI} {H0:Hp} {w0:World} {tmps:Array Value}
theorem Is2.fill {zs cs:List GV} {ys xs:List Value} (hz:Is2 φ zs ys) (hc:Is2 φ cs xs) (p n:Nat):Is2 φ (zs.take p++cs++zs.drop n) (ys.take p++xs++ys.drop n):=
 ((hz.take p).append hc).append (hz.drop n)
theorem yI_ (I:Inv φ0 H0 w0 φ H lam fr tmps w) (df:List Deferred) (t:Nat) (place:Nat→Option (Nat × Nat)) (hp:∀ i p e,(cx.ty t).fs[i]? =some (p,e)→place i=some (p,(cx.ty e).lv.length)):
 ∀ {parts:List (Nat × Operand)} {zs:List GV} {cells:Array Value} {K:List GV→Prop},q8_ cx (ev fr) t zs parts K→Is2 φ zs cells.toList→(∀ p:Nat,∀ e,(p,e)∈(cx.ty t).fs→p+(cx.ty e).lv.length≤zs.length)→
  ∃ zs' cells',K zs'∧Instr.fill place cells (parts.map fun (i,x)=>(i,Act.eval ⟨tmps,df⟩ x))=some cells'∧Is2 φ zs' cells'.toList
 | [],zs,cells,K,h,his,_=>⟨zs,cells,h,rfl,his⟩
 | (i,x)::ps,zs,cells,K,h,his,hb=>by
  have hv:=I.ev df x;have h':(match (cx.ty t).fs[i]? with
   | some (p,e)=>gN_ (ev fr x) fun cs=>ck (cx.okT e) (ck (Nat.beq cs.length (cx.ty e).lv.length) (hl_ zs p cs fun zs=>q8_ cx (ev fr) t zs ps K))
   | none=>False):=h
  split at h'
  ·rename_i p e hf;obtain⟨cs,h1,hcs⟩:=lE_ h' hv;obtain⟨_,h1⟩:=aj_.1 h1;obtain⟨hl,h1⟩:=aj_.1 h1;have hl:=fk_ hl;obtain⟨zs',h2,hzl,hle,rfl⟩:=li_ h1;have hcl:=hcs.length;have hsz:(Act.eval ⟨tmps,df⟩ x).cells.size=(cx.ty e).lv.length:=by rw[←hl,hcl]; simp
   have hbp:=hb p e (List.mem_of_getElem? hf);have hzlen:=his.length;have hf':=hp i p e hf;rw[←hsz] at hf';obtain⟨zs'',cells',h3,h4,h5⟩:=yI_ I df t place hp (cells:=((cells.toList.take p++(Act.eval ⟨tmps,df⟩ x).cells.toList++cells.toList.drop (p+(Act.eval ⟨tmps,df⟩ x).cells.size)).toArray)) h2
    (by simpa [hsz,hl] using Is2.fill his hcs p (p+cs.length)) (by rw[hzl]; exact hb)
   refine⟨zs'',cells',h3,?_,h5⟩;rw[List.map_cons,wI_ hf' (by simp at hzlen; omega)];exact h4
  ·exact h'.elim
theorem zc_ (I:Inv φ0 H0 w0 φ H lam fr tmps w) (df:List Deferred) {z:Nat} (hz1:1≤z):
 ∀ {parts:List (Nat × Operand)} {zs:List GV} {cells:Array Value} {K:List GV→Prop},sr_ (ev fr) z zs parts K→Is2 φ zs cells.toList→
  ∃ zs' cells',K zs'∧zs'.length=zs.length∧Instr.fill (fun i=>some (i*z,z)) cells (parts.map fun (i,x)=>(i,Act.eval ⟨tmps,df⟩ x))=some cells'∧Is2 φ zs' cells'.toList
 | [],zs,cells,K,h,his=>⟨zs,cells,h,rfl,rfl,his⟩
 | (i,x)::ps,zs,cells,K,h,his=>by
  have hv:=I.ev df x;have h':gN_ (ev fr x) fun cs=>ck (Nat.beq cs.length z) (hl_ zs (i*z) cs fun zs=>sr_ (ev fr) z zs ps K):=h;obtain⟨cs,h1,hcs⟩:=lE_ h' hv;obtain⟨hl,h1⟩:=aj_.1 h1;have hl:=fk_ hl;obtain⟨zs',h2,hzl,hle,rfl⟩:=li_ h1;have hcl:=hcs.length;have hsz:(Act.eval ⟨tmps,df⟩ x).cells.size=z:=by rw[←hl,hcl]; simp
  have hzlen:=his.length;have hbad:cs≠[]:=by intro e; subst e; simp at hl; omega
  have hle:i*z+cs.length≤zs.length:=by simpa [hbad] using hle
  obtain⟨zs'',cells',h3,h3',h4,h5⟩:=zc_ I df hz1 (cells:=((cells.toList.take (i*z)++(Act.eval ⟨tmps,df⟩ x).cells.toList++cells.toList.drop (i*z+(Act.eval ⟨tmps,df⟩ x).cells.size)).toArray)) h2
   (by simpa [hsz,hl] using Is2.fill his hcs (i*z) (i*z+cs.length))
  refine⟨zs'',cells',h3,by rw[h3',hzl],?_,h5⟩;rw[List.map_cons,wI_ (by rw[hsz]) (by simp at hzlen; omega)];exact h4
theorem wH_:∀ {l:List (Nat × Nat)} {n:Nat},cx.okFs n l=true→∀ p e,(p,e)∈l→cx.okT e=true∧p+(cx.ty e).lv.length≤n
 | [],n,_,p,e,h=>by cases h
 | (p0,t0)::l,n,h,p,e,hm=>by
  unfold Cx.okFs at h;split at h
  ·rename_i h1 h2;cases hm with
   | head=>exact⟨h1,Nat.le_of_ble_eq_true h2⟩
   | tail _ hm=>exact wH_ h p e hm
  ·cases h
theorem uj_ (hT:b8_ P cx.tys):∀ {l:List (Nat × Nat)} {fs:List Field},u6_ l fs=true→(∀ p e,(p,e)∈l→cx.okT e=true)→
 fs.mapM (fun f=>(P.info? f.type).map fun i=>(f.offset,i.size))=some (l.map fun pe=>(pe.1,(cx.ty pe.2).lv.length))
 | [],[],_,_=>rfl
 | [],_::_,h,_=>by simp [u6_] at h
 | (_,_)::_,[],h,_=>by simp [u6_] at h
 | (p,e)::l,f::fs,h,hok=>by
  simp only[u6_,Bool.and_eq_true] at h;have h1:=fk_ h.1.1;have h2:=fk_ h.1.2;subst h1; subst h2;obtain⟨i,z,hi,hs,_⟩:=ez_ hT (hok _ _ (.head _));have ih:=uj_ hT h.2 (fun p e hm=>hok p e (.tail _ hm));simp [List.mapM_cons,hi,hs,ih]
theorem AB_ (hT:b8_ P cx.tys) (I:Inv φ0 H0 w0 φ H lam fr tmps w) (df:List Deferred) {t:Nat} {parts:Array (Nat × Operand)} {K:List GV→Prop} (ht:(cx.ty t).agg=true) (hk0:(cx.ty t).k=0) (hfs:cx.okFs (cx.ty t).lv.length (cx.ty t).fs=true)
 (h:q8_ cx (ev fr) t (dB_ (cx.ty t).lv) parts.toList K):∃ cs u,K cs∧(Instr.build t (parts.map fun (i,x)=>(i,Act.eval ⟨tmps,df⟩ x))).run P w= .ok u w∧VOK w0.heap.size φ H lam fr w (.agg cs) u:=by
 obtain⟨i,z,hi,hs,hz,hzc,_⟩:=ez_ hT (m3_ ht);obtain⟨d,hd,hok⟩:=fK_ hT (m3_ ht);have hall:=wH_ hfs;have hzl:z.cells.toList.length=(cx.ty t).lv.length:=by rw[hzc]; simp
 have hzi:Is2 φ (dB_ (cx.ty t).lv) z.cells.toList:=by rw[hzc]; exact kN_ φ _
 have fin:∀ place,(∀ i p e,(cx.ty t).fs[i]? =some (p,e)→place i=some (p,(cx.ty e).lv.length))→(∀ cells',Instr.fill place z.cells (parts.toList.map fun (i,x)=>(i,Act.eval ⟨tmps,df⟩ x))=some cells'→P.built t (parts.map fun (i,x)=>(i,Act.eval ⟨tmps,df⟩ x)).toList=some cells')→
  ∃ cs u,K cs∧(Instr.build t (parts.map fun (i,x)=>(i,Act.eval ⟨tmps,df⟩ x))).run P w= .ok u w∧VOK w0.heap.size φ H lam fr w (.agg cs) u:=by
  intro place hp hb;obtain⟨zs',cells',h1,h2,h3⟩:=yI_ I df t place hp h hzi (fun p e hm=>by have:=(hall p e hm).2; simp [dB_]; exact this);exact⟨zs',_,h1,run_build w t _ cells' (hb _ h2),cells',rfl,h3⟩
 cases d with
 | struct fs=>
  simp only[c8_,Bool.and_eq_true] at hok;have hpl:=uj_ hT hok.2 (fun p e hm=>(hall p e hm).1);refine fin (((cx.ty t).fs.map fun pe=>(pe.1,(cx.ty pe.2).lv.length))[·]?) (fun i p e hf=>by simp [hf]) (fun cells' hc=> ?_);simp only[Program.built,hi,hd,hz,hpl,Array.toList_map];simpa using hc
 | array n e=>simp [c8_,hk0] at hok
 | _=>simp [c8_,ht,hk0] at hok
theorem y2_ {α:Type} (cs:List α):∀ (n j:Nat),(List.replicate n cs).flatten[j]? =if j < n*cs.length then cs[j % cs.length]? else none
 | 0,j=>by simp
 | n+1,j=>by
  rw[List.replicate_succ,List.flatten_cons];by_cases h:j < cs.length
  ·rw[List.getElem?_append_left h,Nat.mod_eq_of_lt h,if_pos];rw[Nat.succ_mul]; omega
  ·rw[List.getElem?_append_right (by omega),y2_ cs n];have h1:(j - cs.length) % cs.length=j % cs.length:=by rw[←Nat.mod_eq_sub_mod (by omega)]
   rw[h1,Nat.succ_mul];by_cases h2:j - cs.length < n*cs.length
   ·rw[if_pos h2,if_pos (by omega)]
   ·rw[if_neg h2,if_neg (by omega)]
theorem vH_ (φ:List LI) (ks:List LK) (zc:Array Value) (hz:zc.toList=ks.map zV) (n m:Nat) (hm:m=n*ks.length):Is2 φ (w5_ n (dB_ ks)) ((Array.range m).map (zc[· % zc.size]!)).toList:=by
 have hsz:zc.size=ks.length:=by rw[←Array.length_toList,hz]; simp
 subst hm;apply b6_.of_get
 ·simp [w5_,dB_]
 ·intro j a b ha hb;have e1:(dB_ ks).length=ks.length:=by simp [dB_]
  rw[w5_,y2_,e1] at ha;split at ha
  ·rename_i hj;have hpos:0 < ks.length:=by
    rcases Nat.eq_zero_or_pos ks.length with h | h
    ·rw[h] at hj; omega
    ·exact h
   have hlt:j % ks.length < ks.length:=Nat.mod_lt _ hpos;simp [hj] at hb;obtain⟨x,hx,hax⟩:=(kN_ φ ks).get ha;have hx':zc[j % zc.size]? =some x:=by rw[hsz,←Array.getElem?_toList,hz]; exact hx
   rw[←hb];simpa [Array.getElem!_eq_getD,hx'] using hax
  ·cases ha
theorem tm_ (hT:b8_ P cx.tys) (I:Inv φ0 H0 w0 φ H lam fr tmps w) (df:List Deferred) {t n:Nat} {parts:Array (Nat × Operand)} {K:List GV→Prop} (ht:cx.isSl t=true) (hz:1≤(cx.ty (cx.ty t).el).lv.length)
 (hn:n*(cx.ty (cx.ty t).el).lv.length≤16777216) (h:sr_ (ev fr) (cx.ty (cx.ty t).el).lv.length (w5_ n (dB_ (cx.ty (cx.ty t).el).lv)) parts.toList K):
 ∃ cs cells,K cs∧cs.length=n*(cx.ty (cx.ty t).el).lv.length∧cs.length=cells.size∧Is2 φ cs cells.toList∧(Instr.buildSlice t n (parts.map fun (i,x)=>(i,Act.eval ⟨tmps,df⟩ x))).run P w= .ok (.slice (some ⟨w.heap.size,0,none⟩) n n) (w.alloc (.cells cells (cx.ty t).el)):=by
 have ht:=hc_ ht;have hd:=cI_ hT ht.1;have hs:=eq_ hT ht.2 w;obtain⟨i,z,hi,hs',hz',hzc,_⟩:=ez_ hT ht.2;obtain⟨cs,cells,h1,h2,h3,h4⟩:=zc_ I df hz (cells:=(Array.range (n*(cx.ty (cx.ty t).el).lv.length)).map (z.cells[· % z.cells.size]!)) h (vH_ φ _ z.cells hzc n _ rfl);have h5:=h4.length;refine⟨cs,cells,h1,by rw[h2]; simp [w5_,dB_],by simpa using h5,h4,?_⟩;have hn': ¬ (16777216 < n*(cx.ty (cx.ty t).el).lv.length):=by omega
 by_cases h0:n*(cx.ty (cx.ty t).el).lv.length=0
 ·rw[h0] at h3;simp [Array.range_zero'] at h3;simp [Instr.buildSlice,run_underlying hd,hs,h0,Array.range_zero',h3,newRow]
 ·simp [Instr.buildSlice,run_underlying hd,hs,hn',h0,zeroValue,typeInfo,hi,hz',h3,newRow]
theorem Bh_ (t:TypeId) (v:Value):(Instr.box t v).run P w= .ok (.pointer (some ⟨w.heap.size,0,none⟩)) (w.alloc (.cells v.cells t)):=by simp [Instr.box,newVar,newRow]
theorem zI_ (hT:b8_ P cx.tys) {t:TypeId} (ht:cx.okT t=true):∃ z:Value,z.cells.toList=(cx.ty t).lv.map zV∧(Instr.alloc t true (.tuple #[])).run P w= .ok (.pointer (some ⟨w.heap.size,0,none⟩)) (w.alloc (.cells z.cells t)):=by
 obtain⟨i,z,hi,hs',hz',hzc,_⟩:=ez_ hT ht;exact⟨z,hzc,by simp [Instr.alloc,zeroValue,typeInfo,hi,hz',newVar,newRow]⟩
theorem Inv.alloc (I:Inv φ0 H0 w0 φ H lam fr tmps w) (o:Go.Obj):Inv φ0 H0 w0 φ H lam fr tmps (w.alloc o):=
 I.go (List.prefix_refl _) ⟨I.rep.len,fun l o' hl hv=>by
  obtain⟨i,hi,hr⟩:=I.rep.obj l o' hl hv;exact⟨i,hi,hr.keep (heap_alloc_old w _ _ (I.rep.blockLt ⟨l,o',i,hl,hv,hi,rfl⟩)) (by simp)⟩,I.rep.apart⟩ (fo_ _ _ _) (fun _ h=> .inl h) (fun _ h=> .inl h)
end
end Go.Am
namespace Go.Am
section
variable {P:Program} {cx:Cx} {φ:List LI} {H:Hp} {lam:Nat→Nat} {fr:List FV} {w:World} {φ0:List LI} {H0:Hp} {w0:World} {tmps:Array Value}
def Res (φ0:List LI) (H0:Hp) (w0:World) (dst:Option Tmp) (v:FV) (fr:List FV) (H:Hp) (tmps:Array Value) (u:Value) (w:World):Prop:=
 ∃ φ lam,match dst with
  | some d=>Inv φ0 H0 w0 φ H lam (fr.set d v) (tmps.setIfInBounds d u) w
  | none=>Inv φ0 H0 w0 φ H lam fr tmps w
theorem Res.of (I:Inv φ0 H0 w0 φ H lam fr tmps w) {v:FV} {u:Value} (hv:VOK w0.heap.size φ H lam fr w v u) (dst:Option Tmp):Res φ0 H0 w0 dst v fr H tmps u w:=by
 refine⟨φ,lam,?_⟩;cases dst with
 | none=>exact I
 | some d=>exact I.put hv
theorem zw_ (I:Inv φ0 H0 w0 φ H lam fr tmps w) {t:TypeId} {cs:List GV} {c:Array Value} (his:Is2 φ cs c.toList) (dst:Option Tmp):
 Res φ0 H0 w0 dst (.g (.ptr (some (ln H,0)))) fr (pu H (.row true t cs)) tmps (.pointer (some ⟨w.heap.size,0,none⟩)) (w.alloc (.cells c t)):=by
 have hl:=his.length;have B:=bH_.new I.rep t cs c (0,0) (by simpa using Nat.le_of_eq hl) (by rw[List.take_of_length_le (by omega)]; exact his) (fun j _ h=>by omega);refine Res.of (I.back B) ?_ dst;exact⟨⟨w.heap.size,0,true,cs.length,c.size⟩,by simp [ln,←I.rep.len],rfl⟩
theorem AQ_ (I:Inv φ0 H0 w0 φ H lam fr tmps w) {o:Oper} {t:TypeId} {cs:List GV} {c:Array Value} {K:FV→List FV→Hp→Prop} (his:Is2 φ cs c.toList) (h:mkK cx o fr H t cs K):
 ∃ v fr' H',K v fr' H'∧Res φ0 H0 w0 o.dst v fr' H' tmps (.pointer (some ⟨w.heap.size,0,none⟩)) (w.alloc (.cells c t)):=by
 unfold mkK at h;split at h
 ·exact⟨_,_,_,h,zw_ I his o.dst⟩
 ·split at h
  ·rename_i d hd;obtain⟨h1,h⟩:=aj_.1 h;obtain⟨h2,h⟩:=aj_.1 h;have h2:d+1≤fr.length:=by simpa [Nat.blt] using h2
   refine⟨_,_,_,h,φ,(fun s=>if s=d then w.heap.size else lam s),?_⟩;rw[hd];exact I.box h1 h2 his
  ·exact h.elim
theorem ov_ (hT:b8_ P cx.tys) {t:TypeId} (ht:cx.okT t=true) {a:Addr} {x:Value} (hl:x.cells.size=(cx.ty t).lv.length):(storeVar t a x).run P w=(storeCells a x.cells.toList).run P w:=by
 simp [storeVar,eq_ hT ht,hl]
theorem vk_ (w:World) (b:Nat) (c:Array Value):c9_ (fun b'=>b'=b) w (w.setRow b c):=
 ⟨rfl,rfl,rfl,by simp,fun b' _ hn=>setRow_other w b b' c hn⟩
theorem zM_ (hT:b8_ P cx.tys) (I:Inv φ0 H0 w0 φ H lam fr tmps w) {t:TypeId} {x:FV} {ux u:Value} {ns:List GV} {K:List FV→Hp→Prop} (ht:cx.okT t=true) (hl:ns.length=(cx.ty t).lv.length) (h:vC_ x ns fr H K)
 (hx:VOK w0.heap.size φ H lam fr w x ux) (his:Is2 φ ns u.cells.toList):∃ fr' H' w',K fr' H'∧(Instr.storeAt t ux u).run P w= .ok () w'∧Inv φ0 H0 w0 φ H' lam fr' tmps w':=by
 have hsz:u.cells.size=(cx.ty t).lv.length:=by rw[←hl,his.length]; simp
 unfold vC_ at h;split at h
 ·rename_i s p;split at h
  ·rename_i cs hcs;have hs:=gS_ hcs (by simp);obtain⟨e,h2,h3,c,t',hb,hc⟩:=I.slot s _ hs;cases hx;obtain⟨cs',hk,hlen,hle,rfl⟩:=li_ h;rw[gl_] at hk;rw[ql_,ov_ hT ht hsz];by_cases hn:ns=[]
   ·subst hn;have:u.cells.toList=[]:=by have:=his.length; simpa using this.symm
    refine⟨_,_,w,hk,by simp [this,storeCells],?_⟩;exact I.boxTurn hs (c9_.refl _ _) hb (by simpa using hc)
   ·have hle:p+ns.length≤cs.length:=by simpa [hn] using hle
    have hcl:=hc.length;have hnl:=his.length;refine⟨_,_,w.setRow (lam s) (c.toList.take (p+0)++u.cells.toList++c.toList.drop (p+0+u.cells.toList.length)).toArray,hk,run_storeCells_at P (lam s) p t' u.cells.toList 0 c w hb (by simp at hcl hnl ⊢; omega) his.one,?_⟩;refine I.boxTurn hs (vk_ _ _ _) (setRow_heap w _ _ _ _ _ hb) ?_;have:=Is2.fill hc his p (p+ns.length);simpa [hnl] using this
  ·exact h.elim
 ·rename_i l p;obtain⟨i,hi,rfl⟩:=hx;obtain⟨H',w',hk,hr,B⟩:=sX_ (P:=P) ns u.cells.toList 0 (p0:=p) h I.rep hi his;refine⟨fr,H',w',hk,?_,I.back B⟩;rw[ql_,ov_ hT ht hsz];exact hr
 ·exact h.elim
theorem A6_ (hT:b8_ P cx.tys) (I:Inv φ0 H0 w0 φ H lam fr tmps w) {t:TypeId} {l c:FV} {ul uc:Value} {K:FV→Hp→Prop} (h:Am_ cx t l c H K) (hl:VOK w0.heap.size φ H lam fr w l ul) (hc:VOK w0.heap.size φ H lam fr w c uc) (dst:Option Tmp):
 ∃ v H' u w',K v H'∧(Instr.makeSlice t ul uc).run P w= .ok u w'∧Res φ0 H0 w0 dst v fr H' tmps u w':=by
 unfold Am_ at h;split at h
 ·rename_i k1 l k2 c;cases hl; cases hc;obtain⟨ht,h⟩:=aj_.1 h;obtain⟨hf,h⟩:=aj_.1 h;obtain⟨hb,hK⟩:=bf_.1 h;simp only[Bool.and_eq_true] at hb;obtain⟨⟨e,h0⟩,hL⟩:=hb;have e:=yN_.1 e;have h0:=gY_.1 h0;have hL:l*((cx.ty (cx.ty t).el).by_:Int)≤140737488355328:=gY_.1 hL;subst e;have ht:=hc_ ht;have hd:=cI_ hT ht.1;obtain⟨i,z,hi,hs',hz',hzc,hby⟩:=ez_ hT ht.2;have hf1:1≤(cx.ty (cx.ty t).el).by_:=by
   unfold Cx.full at hf; split at hf
   ·rename_i q; exact Nat.le_of_ble_eq_true q
   ·cases hf
  have hb1:(i.bytes:Int)*l≤281474976710656:=by
   rw[hby,Int.mul_comm]; omega
  have hl63:l≤9223372036854775807:=by
   have:l*1≤l*((cx.ty (cx.ty t).el).by_:Int):=Int.mul_le_mul_of_nonneg_left (by omega) h0;omega
  have hr:=run_make (P:=P) w t _ i z hd hi hz' k1 k2 l l h0 (Int.le_refl _) hb1 hl63;have hsz:(madeCells z.cells (l.toNat*i.size)).size=l.toNat*(cx.ty (cx.ty t).el).lv.length:=by rw[size_madeCells,hs']
  have his:Is2 φ (iS_ (tN l) (dB_ (cx.ty (cx.ty t).el).lv)) (madeCells z.cells (l.toNat*i.size)).toList:=vH_ φ _ z.cells hzc (tN l) _ (by rw[hs']; rfl);have hlen:=his.length;have B:=bH_.new I.rep (cx.ty t).el _ _ (0,0) (Nat.le_of_eq (by simpa using hlen)) (by rw[List.take_of_length_le (by omega)]; exact his) (fun j _ h=>by omega);refine⟨_,_,_,_,hK,hr,Res.of (I.back B) ?_ dst⟩;refine⟨_,_,l.toNat,by simp only[ln,←I.rep.len]; exact List.getElem?_concat_length,rfl,.inl rfl,Nat.le_refl _,?_,fun _=>⟨rfl,?_,by omega⟩⟩
  ·show (iS_ (tN l) (dB_ (cx.ty (cx.ty t).el).lv)).length≤_;rw[hlen,Array.length_toList,hsz]; omega
  ·show 0+_≤(madeCells z.cells (l.toNat*i.size)).size;rw[hsz]; omega
 ·exact h.elim
theorem Aw_ (hT:b8_ P cx.tys) (I:Inv φ0 H0 w0 φ H lam fr tmps w) {t:TypeId} {l c:FV} {ul uc:Value} {K:FV→Prop} (h:uC_ cx t l c K) (hl:VOK w0.heap.size φ H lam fr w l ul) (hc:VOK w0.heap.size φ H lam fr w c uc) (dst:Option Tmp):
 ∃ v u w',K v∧(Instr.makeSlice t ul uc).run P w= .ok u w'∧Res φ0 H0 w0 dst v fr H tmps u w':=by
 unfold uC_ at h;split at h
 ·rename_i k1 l k2 c;cases hl; cases hc;obtain⟨ht,h⟩:=aj_.1 h;obtain⟨hf,h⟩:=aj_.1 h;obtain⟨hb,hK⟩:=bf_.1 h;simp only[Bool.and_eq_true] at hb;obtain⟨⟨e,h0⟩,hL⟩:=hb;have e:=yN_.1 e;have h0:=gY_.1 h0;have hL:l*((cx.ty (cx.ty t).el).by_:Int)≤140737488355328:=gY_.1 hL;subst e;have ht:=hc_ ht;have hd:=cI_ hT ht.1;obtain⟨i,z,hi,hs',hz',hzc,hby⟩:=ez_ hT ht.2;have hf1:1≤(cx.ty (cx.ty t).el).by_:=by
   unfold Cx.full at hf; split at hf
   ·rename_i q; exact Nat.le_of_ble_eq_true q
   ·cases hf
  have hb1:(i.bytes:Int)*l≤281474976710656:=by
   rw[hby,Int.mul_comm]; omega
  have hl63:l≤9223372036854775807:=by
   have:l*1≤l*((cx.ty (cx.ty t).el).by_:Int):=Int.mul_le_mul_of_nonneg_left (by omega) h0;omega
  have hr:=run_make (P:=P) w t _ i z hd hi hz' k1 k2 l l h0 (Int.le_refl _) hb1 hl63;have hsz:(madeCells z.cells (l.toNat*i.size)).size=l.toNat*(cx.ty (cx.ty t).el).lv.length:=by rw[size_madeCells,hs']
  have his:Is2 φ (w5_ l.toNat (dB_ (cx.ty (cx.ty t).el).lv)) (madeCells z.cells (l.toNat*i.size)).toList:=vH_ φ _ z.cells hzc l.toNat _ (by rw[hs']);have hlen:=his.length;refine⟨_,_,_,hK,hr,Res.of (I.alloc _) ?_ dst⟩;refine⟨w.heap.size,_,(cx.ty t).el,(0,0),?_,I.keeps.size,heap_alloc_new w _,his,⟨?_,rfl⟩,fun q=> ?_,fun q=> ?_⟩
  ·rfl
  ·rw[hlen,Array.length_toList,hsz]
  ·have:=I.rep.blockLt q.row; omega
  ·have:=(I.boxLt q).1; omega
 ·exact h.elim
theorem uM_:∀ {cs:List GV} {xs:List Value} {K:List UInt8→Prop},jM_ cs K→Is2 φ cs xs→∃ ns:List Int,xs=ns.map (Value.int .u8)∧K (ns.map bof)
 | [],xs,K,h,his=>⟨[],by cases his.nil_inv; rfl,h⟩
 | c::cs,xs,K,h,his=>by
  obtain⟨x,xs,rfl,hx,his'⟩:=his.cons_inv;have h':dI .u8 c fun n=>jM_ cs fun r=>K (bof n::r):=h;unfold dI at h';split at h'
  ·rename_i k n;obtain⟨e,h'⟩:=h';subst e;obtain⟨ns,rfl,hk⟩:=uM_ h' his';cases hx;exact⟨n::ns,rfl,hk⟩
  ·exact h'.elim
theorem sN_:∀ (ns:List Int) (s:ByteArray),ns.foldl (fun r n=>r.push (UInt8.ofNat n.toNat)) s=⟨s.data++(ns.map bof).toArray⟩
 | [],s=>by simp
 | n::ns,s=>by
  rw[List.foldl_cons,sN_ ns];congr 1;show (s.data.push _)++_=_;apply Array.ext';simp [bof]
theorem qp_ (hr:cq_ φ H w) {a:Pl} {n z m:Nat} {cs:List GV} {x:Value} (hx:(GV.sl a n z).is φ x) (hc:cells? H a m=some cs) (hm:n=0→m=0):
 ∃ xs,Is2 φ cs xs∧cs.length=m∧((a=none∧n=0∧x= .slice none 0 0∧cs=[])∨∃ ad c,x= .slice (some ad) n c∧∀ j y,xs[j]? =some y→w.cell? (ad.add j)=some y):=by
 cases a with
 | none=>
  obtain⟨rfl,rfl⟩:=hx;have:m=0:=hm rfl;subst this;simp [cells?] at hc;subst hc;exact⟨[],.nil,rfl,.inl ⟨rfl,rfl,rfl,rfl⟩⟩
 | some p=>
  obtain⟨l,o⟩:=p;obtain⟨i,ad,c,hi,rfl,hq,hnc,_⟩:=hx;obtain⟨i',hi',hlen,xs,his,hxs⟩:=hr.cells hc;rw[hi] at hi'; cases hi';refine⟨xs,his,hlen,.inr ⟨_,_,rfl,fun j y hj=> ?_⟩⟩;rcases hq with hq | hq
  ·rw[hq,fS_]; exact hxs j y hj
  ·have:m=0:=hm (by omega);have:=his.length;have:xs=[]:=by apply List.eq_nil_of_length_eq_zero; omega
   subst this; simp at hj
theorem Aq_ {cs:List GV} {xs:List Value} {K:ByteArray→Prop} (h:txt cs K) (his:Is2 φ cs xs) {ad:Addr} {n c:Nat} (hl:cs.length=n) (hx:∀ j y,xs[j]? =some y→w.cell? (ad.add j)=some y):
 ∃ s,K s∧(Conv.bytesToString (.slice (some ad) n c)).run P w= .ok (.string s) w:=by
 obtain⟨ns,rfl,hk⟩:=uM_ h his;have hlen:=his.length;simp at hlen;refine⟨_,hk,?_⟩;have h1:=run_loadCells_list (P:=P) w ad _ (fun j v hv=>hx j v hv);rw[List.length_map,←hlen,hl] at h1;rw[run_bytesToString w _ n c ns h1,sN_];simp [mkS,ByteArray.empty,ByteArray.emptyWithCapacity];rfl
end
end Go.Am
namespace Go.Am
section
variable {P:Program} {cx:Cx} {φ:List LI} {H:Hp} {lam:Nat→Nat} {fr:List FV} {w:World} {φ0:List LI} {H0:Hp} {w0:World} {tmps:Array Value}
theorem vo_ (hT:b8_ P cx.tys) {t:TypeId} (ht:(cx.ty t).isU8=true):P.underlying t=some (.int .u8):=by
 have h0:(cx.ty t).ok=true∧(cx.ty t).lv=[.int .u8]∧(cx.ty t).agg=false:=by
  unfold TI.isU8 at ht;split at ht
  ·rename_i e1 e2; simp [TI.ok,e1,e2]
  ·cases ht
 obtain⟨d,hd,hok⟩:=fK_ hT h0.1;rw[hd];cases d<;>simp [c8_,mG_,h0.2.1,h0.2.2,rK_] at hok ⊢;exact hok.2.symm
theorem zP_ {w:World} {b n:Nat} {c:Array Value} {t:TypeId} (h:w.heap[b]? =some (.cells c t (0,0))):(w.freeze ⟨b,n,none⟩ 1).heap[b]? =some (.cells c t (n,n+1)):=by
 simp [World.freeze,Array.getElem?_modify,h]
theorem nG_ {w:World} {b b' n:Nat} (h:b'≠b):(w.freeze ⟨b,n,none⟩ 1).heap[b']? =w.heap[b']? :=by
 simp [World.freeze,Array.getElem?_modify,Ne.symm h]
theorem sa_ (φ:List LI) (s:ByteArray):Is2 φ (bytesOf s) (s.data.map fun b=>Value.int .u8 b.toNat).toList:=by
 rw[Array.toList_map];unfold bytesOf;induction s.data.toList with
 | nil=>exact .nil
 | cons a l ih=>exact .cons rfl ih
theorem oK_ (I:Inv φ0 H0 w0 φ H lam fr tmps w) (e:TypeId) (hbyte:yW_ e=true) (s:ByteArray) (hsl:s.size≤Lim) (dst:Option Tmp):∃ u w',(Conv.stringToBytes e s).run P w= .ok u w'∧Res φ0 H0 w0 dst (.g (.sl (some (ln H,0)) s.size 1)) fr (pu H (.row true e (bytesOf s))) tmps u w':=by
 let cap:=grownCap w s.size 0 e
 have hcap:s.size≤cap:=by simp [cap,grownCap,Question.cut]
 let cells:Array Value:=(s.data.map fun b=>Value.int .u8 b.toNat)++Array.replicate (cap - s.size) (.int .u8 0)
 have hcells:cells.size=cap:=by
  have:s.data.size=s.size:=rfl;simp [cells,this]; omega
 let w1:=w.drew.alloc (.cells cells e)
 have hn:w1.heap[w.heap.size]? =some (.cells cells e (0,0)):=heap_alloc_new w.drew _
 let w2:=w1.freeze ⟨w.heap.size,cells.size,none⟩ 1
 have hrun:(Conv.stringToBytes e s).run P w= .ok (.slice (some ⟨w.heap.size,0,none⟩) s.size cap) w2:=by
  have hsh:w1.shape? w.heap.size=some (e,cells.size):=by simp [World.shape?,hn]
  have hm:(markStringish ⟨w.heap.size,0,none⟩).run P w1= .ok () w2:=by
   simp [markStringish,hsh,w2]
  simp only[Conv.stringToBytes,Sem.run_bind,run_choose_drew,Question.forced,if_false,Bool.false_eq_true,Result.andThen_ok,newRow,run_newObj_alloc,Sem.run_pure];show ((markStringish ⟨w.heap.size,0,none⟩).run P w1).andThen _=_;rw[hm];rfl
 have hb:(bytesOf s).length=s.size:=by simp [bytesOf]
 have hk:c9_ (gg_ φ H) w w2:=by
  have hs:w2.heap.size=w.heap.size+1:=by
   show (w1.freeze _ 1).heap.size=_;simp [World.freeze,w1]
  refine⟨rfl,rfl,rfl,by omega,fun b hb _=> ?_⟩;rw[show w2.heap[b]? =w1.heap[b]? from nG_ (by omega)];exact heap_alloc_old w.drew _ b hb
 have hrow:h8_ (φ++[⟨w.heap.size,0,true,(bytesOf s).length,cap⟩]) w2 true e (bytesOf s) ⟨w.heap.size,0,true,(bytesOf s).length,cap⟩:=by
  refine⟨rfl,rfl,?_,rfl,cells,e,(cells.size,cells.size+1),zP_ hn,fun _=>rfl,hcells,?_,by omega,?_⟩
  ·show w.heap.size < w2.heap.size;show _ < (w1.freeze _ 1).heap.size;simp [World.freeze,w1]
  ·intro j h1 h2;simp at h1;exact⟨(by omega:cap≤j),fun q=>by rw[hbyte] at q; cases q⟩
  ·rw[hb];have:(cells.toList.take s.size)=(s.data.map fun b=>Value.int .u8 b.toNat).toList:=by
    simp only[cells,Array.toList_append];rw[List.take_left' (by simp)]
   rw[this];exact sa_ _ s
 have B:=bH_.snoc I.rep hk (fun b hb'=>by
  have:=I.rep.blockLt hb';rw[show w2.heap[b]? =w1.heap[b]? from nG_ (by omega)];exact heap_alloc_old w.drew _ b this) hrow (Nat.le_refl _)
 refine⟨_,w2,hrun,Res.of (I.back B) ?_ dst⟩;refine⟨_,_,cap,by simp only[ln,←I.rep.len]; exact List.getElem?_concat_length,rfl,.inl rfl,hcap,?_,fun _=>⟨rfl,?_,?_⟩⟩
 ·show (bytesOf s).length≤_; omega
 ·show 0+cap*1≤cap; omega
 ·exact grownCap_le_maxLen w s.size 0 e (by unfold maxLen; unfold Lim at hsl; omega)
theorem AM_ (hT:b8_ P cx.tys) (I:Inv φ0 H0 w0 φ H lam fr tmps w) {s d:TypeId} {x:FV} {ux:Value} {K:FV→Hp→Prop} (h:qF_ cx s d x H K) (hx:VOK w0.heap.size φ H lam fr w x ux) (dst:Option Tmp):
 ∃ v H' u w',K v H'∧(convert s d ux).run P w= .ok u w'∧Res φ0 H0 w0 dst v fr H' tmps u w':=by
 unfold qF_ at h;rw[aj_,aj_] at h;obtain⟨hs,hd,h⟩:=h;obtain⟨ds,hds,_⟩:=fK_ hT hs;split at h
 ·rename_i k k' n e1 e2;cases hx;obtain⟨ha,h⟩:=aj_.1 h;obtain⟨dd,hdd,hok⟩:=fK_ hT hd;have hdd':dd= .int k:=by
   have ha:(cx.ty d).agg=false:=by simpa using ha
   cases dd<;>simp [c8_,mG_,e2,ha,rK_,e1] at hok;rw[hok]
  subst hdd';exact⟨_,_,_,w,h,by simp [convert,run_underlying hds,run_underlying hdd,Conv.intToInt]; rfl,Res.of I (v:= .g (.int _ _)) rfl dst⟩
 ·rename_i e1;cases hx;have hdd:=fg_ hT (show (cx.ty d).isA 3=true by unfold TI.isA; rw[show (cx.ty d).ok=true from hd]; simp [e1]);exact⟨_,_,_,w,h,by cases ds<;>simp [convert,run_underlying hds,run_underlying hdd]<;>rfl,Res.of I (v:= .g (.str _)) rfl dst⟩
 ·rename_i e1;have hdd:=fg_ hT (show (cx.ty d).isA 3=true by unfold TI.isA; rw[show (cx.ty d).ok=true from hd]; simp [e1]);obtain⟨ht,h⟩:=aj_.1 h;obtain⟨h8,h⟩:=aj_.1 h;have hsd:=cI_ hT (hc_ ht).1;have h8:=vo_ hT h8;unfold rdN at h;split at h
  ·rename_i cs hc;obtain⟨xs,his,hl,hcase⟩:=qp_ I.rep hx hc (fun q=>q);rcases hcase with⟨rfl,rfl,rfl,rfl⟩ | ⟨ad,c,rfl,hxs⟩
   ·refine⟨_,_,_,w,h,?_,Res.of I (v:= .g (.str _)) rfl dst⟩;rw[run_convert_bytes_string w s d _ none 0 0 hsd h8 hdd];simp [Conv.bytesToString]; rfl
   ·obtain⟨str,hk,hr⟩:=Aq_ (P:=P) (c:=c) h his hl hxs;refine⟨_,_,_,w,hk,?_,Res.of I (v:= .g (.str _)) rfl dst⟩;rw[run_convert_bytes_string w s d _ _ _ _ hsd h8 hdd,hr]
  ·exact h.elim
 ·rename_i cs n z e1;have hdd:=fg_ hT (show (cx.ty d).isA 3=true by unfold TI.isA; rw[show (cx.ty d).ok=true from hd]; simp [e1]);obtain⟨ht,h⟩:=aj_.1 h;obtain⟨h8,h⟩:=aj_.1 h;obtain⟨hn,h⟩:=aj_.1 h;have hsd:=cI_ hT (hc_ ht).1;have h8:=vo_ hT h8;obtain⟨b,c,t,fz,rfl,_,hb,his,_⟩:=hx;obtain⟨str,hk,hr⟩:=Aq_ (P:=P) (ad:=⟨b,0,none⟩) (c:=n) h his (fk_ hn) (fun j y hj=>by rw[fS_,Nat.zero_add,fa_ hb]; simpa using hj);refine⟨_,_,_,w,hk,?_,Res.of I (v:= .g (.str _)) rfl dst⟩;rw[run_convert_bytes_string w s d _ _ _ _ hsd h8 hdd,hr]
 ·rename_i str e1;cases hx;obtain⟨h8,h⟩:=aj_.1 h;have hdd:=cI_ hT (show (cx.ty d).isA 1=true by unfold TI.isA; rw[show (cx.ty d).ok=true from hd]; simp [e1]);have h8:=vo_ hT h8;obtain⟨hbt,h⟩:=aj_.1 h;obtain⟨hsl,hK⟩:=bf_.1 h;obtain⟨u,w',hr,hres⟩:=oK_ (P:=P) I (cx.ty d).el hbt str (fd_.1 hsl) dst;refine⟨_,_,u,w',hK,?_,hres⟩;cases ds<;>simp [convert,run_underlying hds,run_underlying hdd,run_underlying h8,hr]
 ·exact h.elim
def Src (P:Program) (w:World) (size:Nat) (ux:Value) (m:Nat) (xs:List Value):Prop:=
 (∀ w',(Builtin.lenOf ux).run P w'= .ok m w')∧∀ w',w'.heap=w.heap→(Builtin.firstCells size m ux).run P w'= .ok xs.toArray w'
theorem Bj_ (I:Inv φ0 H0 w0 φ H lam fr tmps w) {z:Nat} {y:FV} {uy:Value} {K:List GV→Nat→Prop} (h:C3_ H z y K) (hz:1≤z) (hy:VOK w0.heap.size φ H lam fr w y uy):
 ∃ cs m xs,K cs m∧Is2 φ cs xs∧(cs.length=m*z→Src P w z uy m xs):=by
 unfold C3_ at h;split at h
 ·rename_i a m z';rw[bf_] at h;obtain⟨hzz,h⟩:=h;unfold rdN at h;split at h
  ·rename_i cs hc;obtain⟨xs,his,hl,hcase⟩:=qp_ I.rep hy hc (fun q=>by rw[q]; simp);refine⟨cs,m,xs,h,his,fun hm=> ?_⟩;rcases hcase with⟨rfl,rfl,rfl,rfl⟩ | ⟨ad,c,rfl,hxs⟩
   ·cases his.nil_inv;exact⟨fun w'=>by simp [Builtin.lenOf],fun w' _=>by simp [Builtin.firstCells]⟩
   ·refine⟨fun w'=>by simp [Builtin.lenOf],fun w' hw=> ?_⟩;have h1:=run_loadCells_list (P:=P) w' ad xs (fun j v hv=>by
     rw[World.cell?_of_block (w:=w) (w':=w') (by rw[hw])]; exact hxs j v hv)
    rw[←his.length,hl] at h1;simpa [Builtin.firstCells] using h1
  ·exact h.elim
 ·rename_i cs m z';rw[aj_] at h;obtain⟨_,h⟩:=h;obtain⟨b,c,t,fz,rfl,_,hb,his,_⟩:=hy;refine⟨cs,m,c.toList,h,his,fun hm=>⟨fun w'=>by simp [Builtin.lenOf],fun w' hw=> ?_⟩⟩;have h1:=run_loadCells_list (P:=P) w' ⟨b,0,none⟩ c.toList (fun j v hv=>by
   rw[fS_,Nat.zero_add,fa_ (by rw[hw]; exact hb)]; simpa using hv)
  rw[←his.length,hm] at h1;simpa [Builtin.firstCells] using h1
 ·rename_i s;cases hy;have hb:(bytesOf s).length=s.size:=by simp [bytesOf]
  refine⟨_,_,_,h,sa_ φ s,fun hm=> ?_⟩;refine⟨fun w'=>by simp [Builtin.lenOf,szN],fun w' _=> ?_⟩;simp only[Builtin.firstCells,Sem.run_pure,szN,Array.toArray_toList];have:(s.extract 0 s.size).data=s.data:=by simp
  rw[this]
 ·exact h.elim
section run
variable {t t' ty e:TypeId} {d':TypeDesc} {i:TypeInfo} {zv:Value}
theorem run_append_in (ht:P.underlying t=some (.slice e)) (ht':P.underlying t'=some d') (hd':(∃ x,d'= .slice x)∨d'= .string) (hi:P.info? e=some i) (hz:i.zero=some zv) {b:Addr} {n c m:Nat} {ux:Value} {xs:List Value} (hs:Src P w i.size ux m xs) (hle:n+m≤c):
 (Builtin.append_ #[t,t'] ty #[.slice (some b) n c,ux]).run P w=((storeCells (b.add (n*i.size)) xs).run P w).andThen fun _ w'=> .ok (.slice (some b) (n+m) c) w':=by
 have h1:=hs.1 w;have h2:=hs.2 w rfl;rcases hd' with⟨x,rfl⟩ | rfl<;>simp [Builtin.append_,run_underlying ht,run_underlying ht',sizeOf,typeInfo,hi,h1,h2,hle]
theorem tM_ (ht:P.underlying t=some (.slice e)) (ht':P.underlying t'=some d') (hd':(∃ x,d'= .slice x)∨d'= .string) (hi:P.info? e=some i) (hz:i.zero=some zv) {m:Nat} {ux:Value} {xs:List Value} (hs:Src P w i.size ux m xs) (hm:m=0):
 (Builtin.append_ #[t,t'] ty #[.slice none 0 0,ux]).run P w= .ok (.slice none 0 0) w:=by
 subst hm;have h1:=hs.1 w;have h2:=hs.2 w rfl;rcases hd' with⟨x,rfl⟩ | rfl<;>simp [Builtin.append_,run_underlying ht,run_underlying ht',sizeOf,typeInfo,hi,h1,h2]
theorem run_append_up (ht:P.underlying t=some (.slice e)) (ht':P.underlying t'=some d') (hd':(∃ x,d'= .slice x)∨d'= .string) (hi:P.info? e=some i) (hz:i.zero=some zv) {base:Option Addr} {n c m:Nat} {ux:Value} {xs olds:List Value} (hs:Src P w i.size ux m xs) (ho:(Builtin.firstCells i.size n (.slice base n c)).run P w.drew= .ok olds.toArray w.drew) (hg:c < n+m)
 (h63:((n+m:Nat):Int)≤9223372036854775807) (hfit:Builtin.nextslicecap (n+m) c*i.bytes≤281474976710656):
 (Builtin.append_ #[t,t'] ty #[.slice base n c,ux]).run P w= .ok (.slice (some ⟨w.heap.size,0,none⟩) (n+m) (grownCap w (n+m) c e))
  (w.drew.alloc (.cells (olds.toArray++xs.toArray++Builtin.zeroCells zv.cells (grownCap w (n+m) c e - (n+m))) e)):=by
 have h1:=hs.1 w;have h2:=hs.2 w.drew rfl;have hn: ¬ (n+m≤c):=by omega
 have h63': ¬ (9223372036854775807 < ((n:Int)+(m:Int))):=by omega
 have h48': ¬ (281474976710656 < Builtin.nextslicecap (n+m) c*i.bytes):=by omega
 rcases hd' with⟨x,rfl⟩ | rfl<;>simp [Builtin.append_,run_underlying ht,run_underlying ht',sizeOf,typeInfo,zeroValue,hi,hz,h1,h2,hn,h63',h48',Question.forced,ho,newRow,grownCap]<;>
  (congr 2; apply Array.ext'; simp [List.append_assoc])
end run
theorem DA_ (I:Inv φ0 H0 w0 φ H lam fr tmps w) {e n cap z:Nat} {cs:List GV} {c:Array Value} (hl:cs.length=n*z) (hn:n≤cap) (hm:cap≤9223372036854775807) (hc:c.size=cap*z) (his:Is2 φ cs (c.toList.take cs.length)):
 ∃ φ',bH_ φ H w φ' (H++[.row true e cs]) (w.drew.alloc (.cells c e))∧(GV.sl (some (ln H,0)) n z).is φ' (.slice (some ⟨w.heap.size,0,none⟩) n cap):=by
 have hle:n*z≤cap*z:=Nat.mul_le_mul_right _ hn;have B:=(bH_.drew I.rep).trans (bH_.new (bH_.drew I.rep).rep e cs c (0,0) (by omega) his (fun j _ h=>by omega));refine⟨_,B,_,_,cap,by simp only[ln,←I.rep.len]; exact List.getElem?_concat_length,rfl,.inl rfl,hn,?_,fun _=>⟨rfl,?_,hm⟩⟩
 ·show cs.length≤_; omega
 ·show 0+cap*z≤c.size; omega
theorem gX_ (b o:Nat) (t:TypeId) (fz:Nat × Nat):∀ (vs:List Value) (k:Nat) (c:Array Value) (w:World),w.heap[b]? =some (.cells c t fz)→o+k+vs.length≤c.size→(∀ j,fz.1≤j→j < fz.2→c.size≤j)→(∀ v∈vs,v.oneCell'=true)→
 ∃ w' c',(storeCells ⟨b,o,none⟩ vs k).run P w= .ok () w'∧c9_ (fun b'=>b'=b) w w'∧w'.heap[b]? =some (.cells c' t fz)∧c'.toList=c.toList.take (o+k)++vs++c.toList.drop (o+k+vs.length)
 | [],k,c,w,hb,_,_,_=>⟨w,c,by simp [storeCells],c9_.refl _ _,hb,by simp⟩
 | v::vs,k,c,w,hb,hl,hf,h1=>by
  have hlt:o+k < c.size:=by simp at hl; omega
  have hcell:w.cell? ⟨b,o+k,none⟩=some c[o+k]:=by rw[fa_ hb,Array.getElem?_eq_getElem hlt]
  have hfr:w.frozen? ⟨b,o+k,none⟩=false:=by
   obtain⟨f1,f2⟩:=fz;simp only[World.frozen?,hb];by_cases q:f1≤o+k∧o+k < f2
   ·have:=hf _ q.1 q.2; omega
   ·simp; omega
  have hst:(store ((⟨b,o,none⟩:Addr).add k) v).run P w= .ok () (w.setCell ⟨b,o+k,none⟩ v):=by
   rw[fS_,run_store P w _ v _ (h1 v (by simp)),hcell];simp [hfr]
  obtain⟨w',c',hr,hk,hb',hc'⟩:=gX_ b o t fz vs (k+1) (c.setIfInBounds (o+k) v) (w.setCell ⟨b,o+k,none⟩ v) (hD_ hb) (by simp at hl ⊢; omega) (fun j a b=>by simpa using hf j a b) (fun x hx=>h1 x (by simp [hx]));refine⟨w',c',?_,(iM_ w b (o+k) v).trans hk (fun b h=> .inl h),hb',?_⟩
  ·simp only[storeCells,Sem.run_bind,hst,Result.andThen_ok,hr]
  ·rw[hc',Array.toList_setIfInBounds];have:=hw_ c.toList (o+k) v vs (by simp at hl ⊢; omega);rw[show o+(k+1)=o+k+1 by omega,←this];simp
theorem u1_ (hT:b8_ P cx.tys) (I:Inv φ0 H0 w0 φ H lam fr tmps w) {t t' ty e:TypeId} {d':TypeDesc} (ht:P.underlying t=some (.slice e)) (ht':P.underlying t'=some d') (hd':(∃ x,d'= .slice x)∨d'= .string)
 (he:cx.okT e=true) (hz:1≤(cx.ty e).lv.length) (hb:1≤(cx.ty e).by_) {base:Option Addr} {n c m:Nat} {ux:Value} {olds xs:List Value} {ocs cs:List GV}
 (hs:Src P w (cx.ty e).lv.length ux m xs) (ho:(Builtin.firstCells (cx.ty e).lv.length n (.slice base n c)).run P w.drew= .ok olds.toArray w.drew) (hg:c < n+m) (hlim:(n+m)*(cx.ty e).by_≤Lim)
 (hol:ocs.length=n*(cx.ty e).lv.length) (hcl:cs.length=m*(cx.ty e).lv.length) (hois:Is2 φ ocs olds) (his:Is2 φ cs xs):
 ∃ φ' u w',(Builtin.append_ #[t,t'] ty #[.slice base n c,ux]).run P w= .ok u w'∧bH_ φ H w φ' (H++[.row true e (ocs++cs)]) w'∧(GV.sl (some (ln H,0)) (n+m) (cx.ty e).lv.length).is φ' u:=by
 obtain⟨i,zv,hi,hsz,hzv,hzc,hby⟩:=ez_ hT he;have hlim':(n+m)*i.bytes≤140737488355328:=by rw[hby]; exact hlim
 have h63:((n+m:Nat):Int)≤9223372036854775807:=by
  have:(n+m)*1≤(n+m)*(cx.ty e).by_:=Nat.mul_le_mul_left _ hb;rw[hby] at hlim'; omega
 have hr:=run_append_up (P:=P) (w:=w) (ty:=ty) ht ht' hd' hi hzv (by rw[hsz]; exact hs) (by rw[hsz]; exact ho) hg h63 (growslice_fits hg hlim');have hcap:n+m≤grownCap w (n+m) c e:=by simp [grownCap,Question.cut]
 have l1:=hois.length;have l2:=his.length;have hzs:zv.cells.size=(cx.ty e).lv.length:=by rw[←Array.length_toList,hzc]; simp
 have hzsz:(Builtin.zeroCells zv.cells (grownCap w (n+m) c e - (n+m))).size=(grownCap w (n+m) c e - (n+m))*(cx.ty e).lv.length:=by simp [Builtin.zeroCells,hzs]
 have e1:(grownCap w (n+m) c e - (n+m))*(cx.ty e).lv.length=grownCap w (n+m) c e*(cx.ty e).lv.length - (n+m)*(cx.ty e).lv.length:=Nat.sub_mul _ _ _;have e2:(n+m)*(cx.ty e).lv.length≤grownCap w (n+m) c e*(cx.ty e).lv.length:=Nat.mul_le_mul_right _ hcap;have e3:(n+m)*(cx.ty e).lv.length=n*(cx.ty e).lv.length+m*(cx.ty e).lv.length:=Nat.add_mul _ _ _;obtain⟨φ',B,hv⟩:=DA_ I (e:=e) (n:=n+m) (cap:=grownCap w (n+m) c e) (z:=(cx.ty e).lv.length) (cs:=ocs++cs)
  (c:=olds.toArray++xs.toArray++Builtin.zeroCells zv.cells (grownCap w (n+m) c e - (n+m)))
  (by rw[List.length_append,hol,hcl,e3]) hcap (grownCap_le_maxLen w (n+m) c e (by unfold maxLen; omega)) (by simp only[Array.size_append,List.size_toArray,hzsz]; omega)
  (by
   simp only[Array.toList_append];rw[List.take_left' (by simp; omega)];exact hois.append his)
 exact⟨φ',_,_,hr,B,hv⟩
theorem v8_ {α:Type} (l zs:List α) (q n:Nat) (h:q+zs.length≤n) (hn:n≤l.length):(l.take q++zs++l.drop (q+zs.length)).take n=(l.take n).take q++zs++(l.take n).drop (q+zs.length):=by
 have h1:(l.take q++zs).length=q+zs.length:=by simp; omega
 rw[List.take_append,List.take_of_length_le (by omega),h1,List.drop_take,List.take_take,Nat.min_eq_left (by omega)]
theorem BT_ (hT:b8_ P cx.tys) (I:Inv φ0 H0 w0 φ H lam fr tmps w) {t t' ty:TypeId} {x y:FV} {ux uy:Value} {K:FV→Hp→Prop} (ht:cx.isSl t=true) (hf:cx.full (cx.ty t).el=true) (ht':((cx.ty t').isA 1||(cx.ty t').isA 3)=true)
 (h:C7_ cx (cx.ty t).el x y H K) (hx:VOK w0.heap.size φ H lam fr w x ux) (hy:VOK w0.heap.size φ H lam fr w y uy) (dst:Option Tmp):
 ∃ v H' u w',K v H'∧(Builtin.append_ #[t,t'] ty #[ux,uy]).run P w= .ok u w'∧Res φ0 H0 w0 dst v fr H' tmps u w':=by
 have ht:=hc_ ht;have hd:=cI_ hT ht.1;have hd':∃ d',P.underlying t'=some d'∧((∃ x,d'= .slice x)∨d'= .string):=by
  rw[Bool.or_eq_true] at ht';rcases ht' with q | q
  ·exact⟨_,cI_ hT q,.inl ⟨_,rfl⟩⟩
  ·exact⟨_,fg_ hT q,.inr rfl⟩
 obtain⟨d',hd1,hd2⟩:=hd';have hfull:1≤(cx.ty (cx.ty t).el).lv.length∧1≤(cx.ty (cx.ty t).el).by_:=by
  unfold Cx.full at hf; split at hf
  ·rename_i q1 q2; exact⟨Nat.le_of_ble_eq_true q1,Nat.le_of_ble_eq_true q2⟩
  ·cases hf
 obtain⟨hz,hb⟩:=hfull;unfold C7_ at h;obtain⟨cs,m,xs,hK,his,hsrc⟩:=Bj_ (P:=P) I h hz hy;replace h:=hK;clear hK;have hxl:=his.length;split at h
 ·rename_i a n z';rw[bf_] at h;obtain⟨hzz,h⟩:=h;unfold ap at h;split at h
  ·rename_i a' n' H' he;unfold app? at he;split at he
   ·rename_i hc;obtain⟨hlim,hcl⟩:=hc;have hS:=hsrc hcl;split at he
    ·split at he
     ·rename_i e0;subst e0;obtain⟨_,rfl⟩:=hx;split at he
      ·rename_i e0;cases he;obtain⟨i,zv,hi,hsz,hzv,_⟩:=ez_ hT ht.2;exact⟨_,_,_,w,h,tM_ hd hd1 hd2 hi hzv (by rw[hsz]; exact hS) e0,Res.of (v:= .g (.sl none 0 _)) I ⟨rfl,rfl⟩ dst⟩
      ·cases he;obtain⟨φ',u,w',hr,B,hv⟩:=u1_ (ty:=ty) hT I hd hd1 hd2 ht.2 hz hb (base:=none) (n:=0) (c:=0) (olds:=[]) (ocs:=[]) hS (by simp [Builtin.firstCells]) (by omega) hlim (by simp) hcl .nil his;rw[Nat.zero_add] at hv;exact⟨_,_,u,w',h,hr,Res.of (v:= .g (.sl (some (ln H,0)) _ (cx.ty (cx.ty t).el).lv.length)) (u:=u) (I.back B) hv dst⟩
     ·cases he
    ·rename_i l o;split at he
     ·rename_i t1 cs1 hl;split at he
      ·rename_i hc1;obtain⟨rfl,rfl,hl1⟩:=hc1;cases he;obtain⟨i,ad,c,hi,rfl,hq,hnc,hu,hown⟩:=hx;have hz':z'=(cx.ty (cx.ty t).el).lv.length:=by rcases sR_ hzz with q | q; exact q; cases q
       rw[hz'] at hu hown;obtain⟨i',hi',r1,r2,r3,hp,c0,t0,fz,hblk,ht0,hs0,hfz,hle,hisr⟩:=I.rep.row l true _ cs1 hl;rw[hi] at hi'; cases hi';obtain⟨_,hcap,hc63⟩:=hown r1;have hlt:l < φ.length:=I.rep.lt hl;by_cases hin:n+m≤c
       ·
        obtain⟨ii,zv,hii,hsz,hzv,_⟩:=ez_ hT ht.2;have hr:=run_append_in (P:=P) (w:=w) (ty:=ty) (b:=ad) (n:=n) (c:=c) hd hd1 hd2 hii hzv (by rw[hsz]; exact hS) hin;rw[hsz] at hr;have hnm:(n+m)*(cx.ty (cx.ty t).el).lv.length≤c*(cx.ty (cx.ty t).el).lv.length:=Nat.mul_le_mul_right _ hin;have e3:(n+m)*(cx.ty (cx.ty t).el).lv.length=n*(cx.ty (cx.ty t).el).lv.length+m*(cx.ty (cx.ty t).el).lv.length:=Nat.add_mul _ _ _;by_cases hs1:i.s=0
        ·have hc0:c=0:=by
          rcases Nat.eq_zero_or_pos c with q | q
          ·exact q
          ·have:1*1≤c*(cx.ty (cx.ty t).el).lv.length:=Nat.mul_le_mul q hz;omega
         have hm0:m=0:=by omega
         have hn0:n=0:=by omega
         subst hm0; subst hn0;have hcs:cs=[]:=by apply List.eq_nil_of_length_eq_zero; omega
         have hcs1:cs1=[]:=by apply List.eq_nil_of_length_eq_zero; omega
         subst hcs; subst hcs1;cases his.nil_inv;simp [storeCells] at hr;have Bd:=bH_.drop I.rep l;have hno: ¬ gg_ φ (H.set l .dead) i.b:=by
          intro⟨l2,o2,i2,g1,g2,g3,g4⟩;rcases cZ_ g1 with⟨_,e⟩ | ⟨ne,g1⟩
          ·cases e; exact g4
          ·exact I.rep.apart l2 l o2 _ i2 i g1 hl rfl ne g2 hi g4 g3
         obtain⟨R,o1,o2⟩:=Bd.rep.snoc (w':=w) (own:=true) (t:=(cx.ty t).el) (cs:=[]) (i:=⟨i.b,0,true,0,0⟩) (Nat.le_refl _) (fun _ _=>rfl)
          ⟨rfl,rfl,r3,rfl,c0,t0,fz,hblk,fun q=>by simp at q,by simp [hs0,hs1],fun j g1 g2=>⟨Nat.zero_le _,fun q=>by have:=(hfz j g1 g2).2 q; show 0 < j; omega⟩,Nat.zero_le _,.nil⟩ (fun _ q=>by simp at q) hno
         have hrow:gJ_ φ H i.b:= .of hl hi;refine⟨_,_,_,w,h,hr,Res.of (I.go (List.prefix_append _ _) R (c9_.refl _ _) (fun b q=> ?_) (fun b q=> ?_)) ?_ dst⟩
         ·rcases o1 b q with q | ⟨_,_,q⟩
          ·exact Bd.own b q
          ·simp at q
         ·rcases o2 b q with q | q
          ·rcases Bd.row b q with q | q
           ·exact .inl q
           ·obtain⟨l2,o2,i2,g1,gv,g2,g3⟩:= ‹gJ_ φ (H.set l .dead) b›;rcases cZ_ g1 with⟨_,e⟩ | ⟨_,g1⟩
            ·cases e; cases gv
            ·exact .inl ⟨l2,o2,i2,g1,gv,g2,g3⟩
          ·exact .inl (q▸hrow)
         ·refine⟨⟨i.b,0,true,0,0⟩,ad,c,by rw[←I.rep.len]; exact List.getElem?_concat_length,rfl,.inr hc0,by omega,by simp,fun _=>⟨rfl,by simp [hc0],hc63⟩⟩
        ·have hpos:0 < i.s:=by omega
         have hst:∃ w' c',(storeCells (ad.add (n*(cx.ty (cx.ty t).el).lv.length)) xs).run P w= .ok () w'∧c9_ (fun b'=>b'=i.b) w w'∧w'.heap[i.b]? =some (.cells c' t0 fz)∧c'.toList=c0.toList.take (n*(cx.ty (cx.ty t).el).lv.length)++xs++c0.toList.drop (n*(cx.ty (cx.ty t).el).lv.length+xs.length):=by
          rcases hq with hq | hq
          ·have:=gX_ (P:=P) i.b (n*(cx.ty (cx.ty t).el).lv.length) t0 fz xs 0 c0 w hblk (by rw[hs0]; omega) (by rw[hs0]; exact fun j g1 g2=>(hfz j g1 g2).1) his.one;rw[hq,fS_,hp];simpa using this
          ·have hm0:m=0:=by omega
           subst hm0;have:xs=[]:=by apply List.eq_nil_of_length_eq_zero; omega
           subst this;exact⟨w,c0,by simp [storeCells],c9_.refl _ _,hblk,by simp⟩
         obtain⟨w',c',hsr,hk,hb',hc'⟩:=hst;rw[hsr] at hr;have hc0l:c0.toList.length=i.s:=by simpa using hs0
         have hc's:c'.size=i.s:=by
          rw[←Array.length_toList,hc']; simp; omega
         have B:=bH_.pass (i':=⟨i.b,0,true,(cs1++cs).length,i.s⟩) (cs':=cs1++cs) (t':=(cx.ty t).el) I.rep hl hi hpos rfl hk
          ⟨rfl,rfl,by have:=hk.size; exact Nat.lt_of_lt_of_le r3 this,rfl,c',t0,fz,hb',ht0,hc's,hfz,by rw[hc's,List.length_append]; omega,by
           have e4:c'.toList.take (cs1++cs).length=c0.toList.take cs1.length++xs:=by
            rw[hc',List.take_left' (by simp; omega),hl1]
           rw[e4];exact (Is2.mono (List.prefix_append _ _) hisr).append (Is2.mono (List.prefix_append _ _) his)⟩
         refine⟨_,_,_,w',h,hr,Res.of (I.back B) ?_ dst⟩;refine⟨⟨i.b,0,true,(cs1++cs).length,i.s⟩,ad,c,by rw[←I.rep.len]; exact List.getElem?_concat_length,rfl,?_,hin,?_,fun _=>⟨rfl,?_,hc63⟩⟩
         ·rcases hq with hq | hq
          ·left; rw[hq,hp]
          ·exact .inr hq
         ·show (cs1++cs).length≤_; rw[List.length_append]; omega
         ·show 0+_≤i.s; omega
       ·
        have hfc:(Builtin.firstCells (cx.ty (cx.ty t).el).lv.length n (.slice (some ad) n c)).run P w.drew= .ok (c0.toList.take cs1.length).toArray w.drew:=by
         have hlen:(c0.toList.take cs1.length).length=n*(cx.ty (cx.ty t).el).lv.length:=by simp; omega
         have h1:=run_loadCells_list (P:=P) w.drew ad (c0.toList.take cs1.length) (fun j v hv=>by
          have hj:=fA_ hv;rcases hq with hq | hq
          ·rw[hq,fS_,hp,Nat.zero_add];rw[fa_ (w:=w.drew) (b:=i.b) hblk];rw[List.getElem?_take] at hv;split at hv
           ·simpa using hv
           ·cases hv
          ·rw[hlen] at hj;have:n=0:=by omega
           subst this; omega)
         rw[hlen] at h1;simpa [Builtin.firstCells] using h1
        obtain⟨φ',u,w',hr,B,hv⟩:=u1_ (ty:=ty) hT I hd hd1 hd2 ht.2 hz hb (base:=some ad) (n:=n) (c:=c) hS hfc (by omega) hlim hl1 hcl hisr his;have B2:=B.trans (bH_.drop B.rep l);rw[List.set_append_left _ _ (by rw[←I.rep.len]; exact hlt)] at B2;exact⟨_,_,u,w',h,hr,Res.of (v:= .g (.sl (some (ln H,0)) _ (cx.ty (cx.ty t).el).lv.length)) (u:=u) (I.back B2) hv dst⟩
      ·split at he
       ·rename_i hc1 hle1;cases he;obtain⟨i,ad,c,hi,rfl,hq,hnc,hu,hown⟩:=hx;have hz':z'=(cx.ty (cx.ty t).el).lv.length:=by rcases sR_ hzz with q | q; exact q; cases q
        rw[hz'] at hu hown;obtain⟨i',hi',r1,r2,r3,hp,c0,t0,fz,hblk,ht0,hs0,hfz,hle,hisr⟩:=I.rep.row l true _ cs1 hl;rw[hi] at hi'; cases hi';have e3:(n+m)*(cx.ty (cx.ty t).el).lv.length=n*(cx.ty (cx.ty t).el).lv.length+m*(cx.ty (cx.ty t).el).lv.length:=Nat.add_mul _ _ _;have hin:n+m≤c:=by
         have h1:(n+m)*(cx.ty (cx.ty t).el).lv.length≤c*(cx.ty (cx.ty t).el).lv.length:=by omega
         exact Nat.le_of_mul_le_mul_right h1 hz
        obtain⟨ii,zv,hii,hsz,hzv,_⟩:=ez_ hT ht.2;have hr:=run_append_in (P:=P) (w:=w) (ty:=ty) (b:=ad) (n:=n) (c:=c) hd hd1 hd2 hii hzv (by rw[hsz]; exact hS) hin;rw[hsz] at hr;have hus:i.u=cs1.length:=r2;by_cases hm0:m=0
        ·subst hm0;have hcs:cs=[]:=by apply List.eq_nil_of_length_eq_zero; omega
         subst hcs;cases his.nil_inv;simp [storeCells] at hr;have hsame:H.set l (.row true t1 (cs1.take (o+n*(cx.ty (cx.ty t).el).lv.length)++[]++cs1.drop (o+(n+0)*(cx.ty (cx.ty t).el).lv.length)))=H:=by
          rw[List.append_nil,Nat.add_zero,List.take_append_drop];apply List.ext_getElem?;intro j;by_cases e:l=j
          ·subst e; rw[List.getElem?_set_self (List.getElem?_eq_some_iff.1 hl).1,hl]
          ·rw[List.getElem?_set_ne e]
         rw[hsame] at h;exact⟨_,_,_,w,h,hr,Res.of (v:= .g (.sl (some (l,o)) _ (cx.ty (cx.ty t).el).lv.length)) I ⟨i,ad,c,hi,rfl,hq,by omega,hu,hown⟩ dst⟩
        ·have hm1:1*1≤m*(cx.ty (cx.ty t).el).lv.length:=Nat.mul_le_mul (by omega) hz;have hq:ad=⟨i.b,o,none⟩:=by
          rcases hq with q | q
          ·rw[q,hp,Nat.zero_add]
          ·omega
         subst hq;have hst:=gX_ (P:=P) i.b (o+n*(cx.ty (cx.ty t).el).lv.length) t0 fz xs 0 c0 w hblk (by omega) (by rw[hs0]; exact fun j g1 g2=>(hfz j g1 g2).1) his.one;obtain⟨w',c',hsr,hkp,hb',hc'⟩:=hst;rw[Nat.add_zero] at hc';rw[fS_,hsr] at hr;have hc's:c'.size=i.s:=by
          rw[←Array.length_toList,hc'];have:c0.toList.length=i.s:=by simpa using hs0
          simp only[List.length_append,List.length_take,List.length_drop];omega
         have hcl':(cs1.take (o+n*(cx.ty (cx.ty t).el).lv.length)++cs++cs1.drop (o+(n+m)*(cx.ty (cx.ty t).el).lv.length)).length=cs1.length:=by
          simp only[List.length_append,List.length_take,List.length_drop];omega
         have hxx:xs.length=m*(cx.ty (cx.ty t).el).lv.length:=by omega
         have hdr:o+(n+m)*(cx.ty (cx.ty t).el).lv.length=o+n*(cx.ty (cx.ty t).el).lv.length+xs.length:=by omega
         have B:=bH_.turn (cs':=cs1.take (o+n*(cx.ty (cx.ty t).el).lv.length)++cs++cs1.drop (o+(n+m)*(cx.ty (cx.ty t).el).lv.length)) I.rep hl hi (by omega) hkp
          ⟨r1,by rw[hcl']; exact r2,by have:=hkp.size; exact Nat.lt_of_lt_of_le r3 this,hp,c',t0,fz,hb',ht0,hc's,hfz,by rw[hcl']; omega,by
           have hc0l:cs1.length≤c0.toList.length:=by simpa using hle
           have e4:=v8_ c0.toList xs (o+n*(cx.ty (cx.ty t).el).lv.length) cs1.length (by omega) hc0l;rw[hcl',hc',e4,hdr];exact Is2.fill hisr his _ _⟩
         exact⟨_,_,_,w',h,hr,Res.of (v:= .g (.sl (some (l,o)) _ (cx.ty (cx.ty t).el).lv.length)) (I.back B) ⟨i,_,c,hi,rfl,.inl (by rw[hp,Nat.zero_add]),hin,hu,hown⟩ dst⟩
       ·cases he
     ·cases he
   ·cases he
  ·exact h.elim
 ·rename_i z0;obtain⟨⟨hlim,hcl⟩,h⟩:=h;obtain⟨b,c,t1,fz,rfl,hb0,hblk,hcis,⟨_,hfz0⟩,hno,hnb⟩:=hx;have hS:=hsrc hcl;by_cases hm:m=0
  ·subst hm;have hcs:cs=[]:=by apply List.eq_nil_of_length_eq_zero; omega
   subst hcs;cases his.nil_inv;have hc0:c.size=0:=by have:=hcis.nil_inv; rw[←Array.length_toList,this]; rfl
   obtain⟨ii,zv,hii,hsz,hzv,_⟩:=ez_ hT ht.2;have hr:=run_append_in (P:=P) (w:=w) (ty:=ty) (b:=⟨b,0,none⟩) (n:=0) (c:=0) hd hd1 hd2 hii hzv (by rw[hsz]; exact hS) (by omega);simp [storeCells] at hr;obtain⟨R,o1,o2⟩:=I.rep.snoc (w':=w) (own:=true) (t:=(cx.ty t).el) (cs:=[]) (i:=⟨b,0,true,0,0⟩) (Nat.le_refl _) (fun _ _=>rfl)
    ⟨rfl,rfl,(Array.getElem?_eq_some_iff.1 hblk).1,rfl,c,t1,fz,hblk,fun q=>by simp at q,by simp [hc0],fun j _ g2=>(by rw[hfz0] at g2; simp at g2),Nat.zero_le _,.nil⟩ (fun _ q=>by simp at q) hno
   refine⟨_,_,_,w,h,hr,Res.of (I.go (List.prefix_append _ _) R (c9_.refl _ _) (fun b' q=> ?_) (fun b' q=> ?_)) ?_ dst⟩
   ·rcases o1 b' q with q | ⟨_,_,q⟩
    ·exact .inl q
    ·simp at q
   ·rcases o2 b' q with q | q
    ·exact .inl q
    ·exact .inr (by rw[q]; exact⟨hb0,hnb⟩)
   ·exact⟨⟨b,0,true,0,0⟩,_,0,by simp only[ln,←I.rep.len]; exact List.getElem?_concat_length,rfl,.inl rfl,Nat.le_refl _,by simp,fun _=>⟨rfl,by simp,by omega⟩⟩
  ·obtain⟨φ',u,w',hr,B,hv⟩:=u1_ (ty:=ty) hT I hd hd1 hd2 ht.2 hz hb (base:=some ⟨b,0,none⟩) (n:=0) (c:=0) (olds:=[]) (ocs:=[]) hS (by simp [Builtin.firstCells,loadCells,loadCellsFrom]) (by omega) (by simpa using hlim) (by simp) hcl .nil his;rw[Nat.zero_add] at hv;exact⟨_,_,u,w',h,hr,Res.of (v:= .g (.sl (some (ln H,0)) _ (cx.ty (cx.ty t).el).lv.length)) (u:=u) (I.back B) hv dst⟩
 ·exact h.elim
theorem B6_ (hT:b8_ P cx.tys) (I:Inv φ0 H0 w0 φ H lam fr tmps w) {t ty:TypeId} {x:FV} {ux:Value} {K:FV→Hp→Prop} (h:CD_ cx t x H K) (hx:VOK w0.heap.size φ H lam fr w x ux) (dst:Option Tmp):
 ∃ v H' u w',K v H'∧(Builtin.clear_ #[t] ty #[ux]).run P w= .ok u w'∧Res φ0 H0 w0 dst v fr H' tmps u w':=by
 unfold CD_ at h;split at h
 ·rename_i a n z';obtain⟨ht,h⟩:=aj_.1 h;obtain⟨hf,h⟩:=aj_.1 h;obtain⟨hzz,h⟩:=bf_.1 h;have ht:=hc_ ht;have hd:=cI_ hT ht.1;obtain⟨i0,zv,hi0,hsz,hzv,hzc,_⟩:=ez_ hT ht.2;have hzs:zv.cells.size=(cx.ty (cx.ty t).el).lv.length:=by rw[←Array.length_toList,hzc]; simp
  cases n with
  | zero=>
   refine⟨_,_,.tuple #[],w,h,?_,Res.of (v:= .bad) I trivial dst⟩;cases a with
   | none=>obtain⟨_,rfl⟩:=hx; simp [Builtin.clear_,run_underlying hd]
   | some p=>obtain⟨l,o⟩:=p; obtain⟨_,q,c,_,rfl,_⟩:=hx; simp [Builtin.clear_,run_underlying hd]
  | succ n'=>
   unfold clr at h;dsimp only at h;cases a with
   | none=>exact h.elim
   | some p=>
    obtain⟨l,o⟩:=p;obtain⟨i,ad,c,hi,rfl,hq,hnc,hu,hown⟩:=hx;have hz':z'=(cx.ty (cx.ty t).el).lv.length:=by rcases sR_ hzz with q | q; exact q; cases q
    dsimp only at h;split at h
    ·rename_i t' cs hl;obtain⟨hle,hk⟩:=h;have hzl:(dB_ (cx.ty (cx.ty t).el).lv).length=(cx.ty (cx.ty t).el).lv.length:=by simp [dB_]
     rw[hzl] at hle hk;obtain⟨i',hi',r1,r2,r3,hp,c0,t0,fz,hblk,ht0,hs0,hfz,hle0,his⟩:=I.rep.row l true t' cs hl;rw[hi] at hi'; cases hi';have hfull:1≤(cx.ty (cx.ty t).el).lv.length:=by
      unfold Cx.full at hf; split at hf
      ·rename_i q1 q2; exact Nat.le_of_ble_eq_true q1
      ·cases hf
     have hq:ad=⟨i.b,o,none⟩:=by
      rcases hq with q | q
      ·rw[q,hp,Nat.zero_add]
      ·omega
     subst hq;obtain⟨q,hqo⟩:∃ q,q=o:=⟨_,rfl⟩;subst hqo;have hzis:Is2 φ ((List.replicate (n'+1) (dB_ (cx.ty (cx.ty t).el).lv)).flatten) (Builtin.zeroCells zv.cells (n'+1)).toList:=vH_ φ _ zv.cells hzc (n'+1) _ (by rw[hzs]);have hzlen:=hzis.length;have hzlen2:(Builtin.zeroCells zv.cells (n'+1)).toList.length=(n'+1)*(cx.ty (cx.ty t).el).lv.length:=by simp [Builtin.zeroCells,hzs]
     have hpos:1*1≤(n'+1)*(cx.ty (cx.ty t).el).lv.length:=Nat.mul_le_mul (by omega) hfull;obtain⟨w',c',hr,hkp,hb',hc'⟩:=gX_ (P:=P) i.b q t0 fz (Builtin.zeroCells zv.cells (n'+1)).toList 0 c0 w hblk (by omega) (by rw[hs0]; exact fun j g1 g2=>(hfz j g1 g2).1) hzis.one;have hc's:c'.size=i.s:=by
      rw[←Array.length_toList,hc'];have:c0.toList.length=i.s:=by simpa using hs0
      simp only[List.length_append,List.length_take,List.length_drop];omega
     have hcl:(cs.take q++(List.replicate (n'+1) (dB_ (cx.ty (cx.ty t).el).lv)).flatten++cs.drop (q+(n'+1)*(cx.ty (cx.ty t).el).lv.length)).length=cs.length:=by
      simp only[List.length_append,List.length_take,List.length_drop];omega
     have B:=bH_.turn (cs':=cs.take q++(List.replicate (n'+1) (dB_ (cx.ty (cx.ty t).el).lv)).flatten++cs.drop (q+(n'+1)*(cx.ty (cx.ty t).el).lv.length)) I.rep hl hi (by omega) hkp
      ⟨r1,by rw[hcl]; exact r2,by have:=hkp.size; exact Nat.lt_of_lt_of_le r3 this,hp,c',t0,fz,hb',ht0,hc's,hfz,by rw[hcl]; omega,by
       have e4:c'.toList.take cs.length=((c0.toList.take cs.length).take q)++(Builtin.zeroCells zv.cells (n'+1)).toList++((c0.toList.take cs.length).drop (q+(n'+1)*(cx.ty (cx.ty t).el).lv.length)):=by
        rw[hc',hzlen2];have hc0l:cs.length≤c0.toList.length:=by simpa using hle0
        have:=v8_ c0.toList (Builtin.zeroCells zv.cells (n'+1)).toList q cs.length (by omega) hc0l;rw[hzlen2] at this;exact this
       rw[hcl,e4];exact Is2.fill his hzis _ _⟩
     refine⟨_,_,.tuple #[],w',hk,?_,Res.of (v:= .bad) (I.back B) trivial dst⟩;have hrun:(storeCells ⟨i.b,q,none⟩ (Builtin.zeroCells zv.cells (n'+1)).toList).run P w= .ok () w':=hr;simp [Builtin.clear_,run_underlying hd,zeroValue,typeInfo,hi0,hzv,hrun]
    ·exact h.elim
 ·exact h.elim
end
end Go.Am
