import GoSem.Dispatch
import GoSem.Step
import Derived.Orders
import Derived.Calls
import Derived.Laws.Append
import Derived.Laws.CopyRow
import Derived.Laws.Rows
import Derived.Laws.Strings
import Derived.Laws.BytesString
import Derived.Laws.MakeOwn
import Derived.Laws.Small
import Derived.ChangeKeysEq
import Derived.Laws.Tables
import Derived.Laws.NewFold
import Derived.MapKept
import Derived.WideKeyRuns
import Derived.Lib.Strings
set_option linter.all false
set_option autoImplicit true
set_option relaxedAutoImplicit true
namespace Go.Am
abbrev Y_:=ByteArray
theorem o_{p:Prop}(h:p:=by omega):p:=h
theorem s_{p:Prop}(h:p:=by simp;omega):p:=h
theorem t_{p:Prop}(h:p:=by simp):p:=h
theorem d_{p:Prop}(h:p:=by decide):p:=h
theorem g_{p:Prop}(h:p:=by grind):p:=h
def q_{p:Prop}(h:p:=by decide +kernel):p:=h
def w_{p q:Prop}(h:p->q:=by intro e;simp at e<;>omega):p->q:=h
def m_{p q:Prop}(h:p->q:=by intro e;simp at e;omega):p->q:=h
def n_{p q:Prop}(h:p->q:=by intro e;simp at e):p->q:=h
def c_{p q:Prop}(h:p->q:=by intro e;cases e):p->q:=h
def l_{p q:Prop}(e:p)(h:p->q:=by intro e;simp at e<;>omega):q:=h e
def i_{p q:Prop}(e:p)(h:p->q:=by intro e;simp at e;omega):q:=h e
def j_{p q:Prop}(e:p)(h:p->q:=by intro e;simp at e):q:=h e
def k_{p q:Prop}(e:p)(h:p->q:=by intro e;cases e):q:=h e
theorem u_{p q:Prop}(e:p)(h:p->q:=by intro e;simpa using e):q:=h e
theorem h_{p q:Prop}(e:p)(h:p->q:=by intro e;omega):q:=h e
def z_{p q:Prop}(e:p)(h:p->q:=by intro e;simp at e ⊢;omega):q:=h e
theorem a_{p:Prop}(h:p:=by simp_all):p:=h
def kC{α}{l:List α}{i:Nat}{a:α}:l[i]?=some a↔∃h,l[i]=a:=List.getElem?_eq_some_iff
theorem kD{α}{a:α}{s t:List α}:a∈s++t↔a∈s\/a∈t:=List.mem_append
theorem kE{α}{l:List α}{n:Nat}(h:n<l.length):l[n]∈l:=List.getElem_mem h
theorem kF{α}{l:List α}{i j:Nat}(h:i≠j){a:α}:(l.set i a)[j]?=l[j]?:=List.getElem?_set_ne h
theorem kG{α}{l:List α}{i:Nat}(h:i<l.length):l[i]?=some l[i]:=List.getElem?_eq_getElem h
theorem kH{α}{l:List α}{i:Nat}{a:α}(h:i<l.length):(l.set i a)[i]?=some a:=List.getElem?_set_self h
theorem kI{α}{as bs:List α}:(as++bs).length=as.length+bs.length:=List.length_append
def kK{α}{a:α}{l:List α}(h:a∈l):∃i,∃h:i<l.length,l[i]=a:=List.getElem_of_mem h
theorem kL{α β}{f:α->β}{a b:List α}:(a++b).map f=a.map f++b.map f:=List.map_append
theorem kM{α}{a b:List α}{i:Nat}(h:i<a.length):(a++b)[i]?=a[i]?:=List.getElem?_append_left h
theorem kN(n:Nat):0+n=n:=Nat.zero_add n
theorem kO(n:Nat):n<=n:=Nat.le_refl n
def kP(n:Nat):0<=n:=Nat.zero_le n
theorem kQ(n:Nat):n+0=n:=Nat.add_zero n
theorem kR(a b:Bool):((a&&b)=true)=(a=true/\b=true):=Bool.and_eq_true a b
theorem kS{α}{R:α->α->Prop}{l:List α}:l.Pairwise R↔∀(i j)(a:i<l.length)(b:j<l.length)(_:i<j),R l[i] l[j]:=List.pairwise_iff_getElem
theorem kT{α}{a b:List α}:(a++b).Nodup↔a.Nodup/\b.Nodup/\∀x∈a,∀y∈b,x≠y:=List.nodup_append
theorem kU{α}{a b:α}{l:List α}:a∈b::l↔a=b\/a∈l:=List.mem_cons
theorem kV{α}(a b c:List α):a++b++c=a++(b++c):=List.append_assoc a b c
def kW{α}{R:α->α->Prop}{a:α}{l:List α}:(a::l).Pairwise R↔(∀x∈l,R a x)/\l.Pairwise R:=List.pairwise_cons
theorem kZ{α}{R:α->α->Prop}{a b:List α}:(a++b).Pairwise R↔a.Pairwise R/\b.Pairwise R/\∀x∈a,∀y∈b,R x y:=List.pairwise_append
theorem k7{α}{i:Nat}{l:List α}(h:l.length<=i):l.take i=l:=List.take_of_length_le h
def k8{α}(l:List α):l<+:l:=List.prefix_refl l
theorem k9{α β}{l:List α}(f:α->β):(l.map f).length=l.length:=List.length_map f
theorem lA{α β}{b:β}{f:α->β}{l:List α}:b∈l.map f↔∃a,a∈l/\f a=b:=List.mem_map
theorem lB{α}{i:Nat}{l:List α}(h:i<l.length):l.drop i=l[i]::l.drop (i+1):=List.drop_eq_getElem_cons h
theorem lC{α}{i:Nat}{l:List α}:(l.take i).length=min i l.length:=List.length_take
theorem lD{α}(i:Nat)(l:List α):l.take i++l.drop i=l:=List.take_append_drop i l
theorem lE{p:Prop}[d:Decidable p](h:p):decide p=true:=decide_eq_true h
theorem lH{p:Prop}[d:Decidable p](h:¬p):decide p=false:=decide_eq_false h
abbrev Pl:=Option (Nat × Nat)
inductive GV where
 |bool (b:Bool)|int (k:IntKind) (n:Int)|str (s:Y_)
 |ptr (a:Pl)|sl (a:Pl) (n z:Nat)
 |map (m:Option Nat)|fn (f:Nat) (caps:List (Nat × Nat))|nilfn
 |iface (t:Nat) (v:GV)|nilif
 deriving Inhabited
inductive RV where
 |s (v:GV)|a (cs:List GV)
 deriving Inhabited
inductive FV where
 |g (v:GV)|agg (cs:List GV)|tup (vs:List RV)|bx (cs:List GV)|lp (s o:Nat)|bs (cs:List GV) (n z:Nat)|bad|und
 deriving Inhabited
abbrev Ent:=Nat × RV × RV
inductive Obj where
 |row (own:Bool) (t:TypeId) (cs:List GV)
 |dead
 |map (es:List Ent) (clock:Nat)
 |iter (m:Option Nat) (since:Nat) (seen:List Nat) (last:Nat)
 deriving Inhabited
abbrev Hp:=List Obj
abbrev Post:=FV->Hp->Prop
abbrev Sm:=List FV->Hp->Post->Prop
inductive LK where
 |bool|int (k:IntKind)|str|ptr|sl (z:Nat)|map|fn|iface
 deriving Inhabited,DecidableEq
structure TI where
 agg:Bool
 lv:List LK
 el:Nat
 fs:List (Nat × Nat)
 by_:Nat
 k:Nat
 ms:List (String × Nat × Bool):=[]
 an:Nat:=0
 deriving Inhabited
structure Cx where
 tys:List TI
 esc:List Nat
 keep:List (Nat × List Nat)
 cut:List (Nat × List Nat)
 env:List (Nat × Sm)
 dyn:Nat->Sm
 res:List ResultVar
def cq_(b:Bool)(x y:Prop):Prop:=match b with|true=>x|false=>y
def dB(v:GV)(K:Bool->Prop):Prop:=match v with | .bool b=>K b|_=>False
def dI(k:IntKind)(v:GV)(K:Int->Prop):Prop:=match v with | .int k' n=>k'=k/\K n|_=>False
def dS(v:GV)(K:Y_->Prop):Prop:=match v with | .str s=>K s|_=>False
def dP(v:GV)(K:Pl->Prop):Prop:=match v with | .ptr a=>K a|_=>False
def dL(z:Nat)(v:GV)(K:Pl->Nat->Prop):Prop:=match v with | .sl a n z'=>(a=none\/z'=z)/\K a n|_=>False
def dM(v:GV)(K:Option Nat->Prop):Prop:=match v with | .map m=>K m|_=>False
def dX(t:Nat)(v:GV)(K:GV->Prop):Prop:=match v with | .iface t' w=>t'=t/\K w|_=>False
def dF(v:GV)(K:Nat->List (Nat × Nat)->Prop):Prop:=match v with | .fn f caps=>K f caps|_=>False
def pS(a:Pl)(K:Nat->Nat->Prop):Prop:=match a with|some (l,o)=>K l o|none=>False
def uC(cs:List GV)(K:GV->List GV->Prop):Prop:=match cs with|c::cs=>K c cs|[]=>False
def uN(cs:List GV)(x:Prop):Prop:=match cs with|[]=>x|_=>False
def rG(r:FV)(K:GV->Prop):Prop:=match r with | .g v=>K v|_=>False
def rA(r:FV)(K:List GV->Prop):Prop:=match r with | .agg cs=>K cs|_=>False
def rT(r:FV)(K:List RV->Prop):Prop:=match r with | .tup vs=>K vs|_=>False
def uR(vs:List RV)(K:RV->List RV->Prop):Prop:=match vs with|v::vs=>K v vs|[]=>False
def uE(vs:List RV)(x:Prop):Prop:=match vs with|[]=>x|_=>False
def rS(r:RV)(K:GV->Prop):Prop:=match r with | .s v=>K v|_=>False
def rC(r:RV)(K:List GV->Prop):Prop:=match r with | .a cs=>K cs|_=>False
def chk(b:Bool)(x:Prop):Prop:=match b with|true=>x|false=>False
def cl(s:Sm)(as:List FV)(H:Hp)(K:FV->Hp->Prop):Prop:=s as H K
def ck(b:Bool)(x:Prop):Prop:=match b with|true=>x|false=>False
def gt(H:Hp)(l o:Nat):Option GV:=match H[l]? with|some (.row _ _ cs)=>cs[o]? |_=>none
def rd(H:Hp)(l o:Nat)(K:GV->Prop):Prop:=match gt H l o with|some v=>K v|none=>False
def st?(H:Hp)(l o:Nat)(v:GV):Option Hp:=match H[l]? with
 |some (.row true t cs)=>if o<cs.length then some (H.set l (.row true t (cs.set o v))) else none
 |_=>none
def wr(H:Hp)(l o:Nat)(v:GV)(K:Hp->Prop):Prop:=match st? H l o v with|some H'=>K H' |none=>False
def ln(H:Hp):Nat:=H.length
def pu(H:Hp)(x:Obj):Hp:=H++[x]
def same(H H':Hp)(l o n:Nat):Prop:=∀i,i<n->gt H' l (o+i)=gt H l (o+i)
def cells? (H:Hp) (a:Pl) (n:Nat):Option (List GV):=match a with
 |none=>if n=0 then some [] else none
 |some (l,o)=>match H[l]? with
  |some (.row _ _ cs)=>if o+n<=cs.length then some ((cs.drop o).take n) else none
  |_=>none
def rdN(H:Hp)(a:Pl)(n:Nat)(K:List GV->Prop):Prop:=match cells? H a n with|some cs=>K cs|none=>False
def clr (H:Hp) (a:Pl) (n:Nat) (zs:List GV) (K:Hp->Prop):Prop:=match n with
 |0=>K H
 | n'+1=>match a with
  |none=>False
  |some (l,o)=>match H[l]? with
   |some (.row true t cs)=>o+(n'+1)*zs.length<=cs.length/\K (H.set l (.row true t (cs.take o++(List.replicate (n'+1) zs).flatten++cs.drop (o+(n'+1)*zs.length))))
   |_=>False
def Lim:Nat:=140737488355328
def app? (H:Hp) (t z b:Nat) (a:Pl) (n:Nat) (cs:List GV) (m:Nat):Option (Pl × Nat × Hp):=
 if (n+m)*b<=Lim/\cs.length=m*z then match a with
  |none=>if n=0 then (if m=0 then some (none,0,H) else some (some (H.length,0),m,H++[.row true t cs])) else none
  | some (l,o)=>match H[l]? with
   |some (.row true t' cs')=>if o=0/\t'=t/\cs'.length=n*z then some (some (H.length,0),n+m,(H.set l .dead)++[.row true t (cs'++cs)])
    else if o+(n+m)*z<=cs'.length then some (some (l,o),n+m,H.set l (.row true t' (cs'.take (o+n*z)++cs++cs'.drop (o+(n+m)*z)))) else none
   |_=>none
 else none
def ap(H:Hp)(t z b:Nat)(a:Pl)(n:Nat)(cs:List GV)(m:Nat)(K:Pl->Nat->Hp->Prop):Prop:=
 match app? H t z b a n cs m with|some (a',n',H')=>K a' n' H' |none=>False
def ap0(H:Hp)(t z b:Nat)(cs:List GV)(m:Nat)(K:Hp->Prop):Prop:=(m*b<=Lim/\cs.length=m*z)/\K (H++[.row true t cs])
def A2_:LK->GV
 | .bool=> .bool false | .int k=> .int k 0 | .str=> .str ⟨#[]⟩ | .ptr=> .ptr none | .sl z=> .sl none 0 z | .map=> .map none | .fn=> .nilfn | .iface=> .nilif
def wa_{R:Type}:List FV->Nat->FV->(List FV->R)->R
 |[],_,_,K=>K []
 |_::xs,0,v,K=>K (v::xs)
 |x::xs,d+1,v,K=>wa_ xs d v λys=>K (x::ys)
def FV.isLp(s:Nat):FV->Bool
 | .lp s' _=>s==s'
 |_=>false
def lh_(s:Nat)(fr:List FV):Bool:=match fr with
 |[]=>true
 |x::xs=>match x.isLp s with|true=>false|false=>lh_ s xs
def Cx.ty(cx:Cx)(t:Nat):TI:=cx.tys.getD t default
def TI.ok(x:TI):Bool:=match x.agg with
 |true=>true
 |false=>match x.lv with|[]=>false|_=>true
def Cx.okT(cx:Cx)(t:Nat):Bool:=(cx.ty t).ok
def Cx.okFs(cx:Cx)(n:Nat):List (Nat × Nat)->Bool
 |[]=>true
 |(p,t)::l=>match cx.okT t,Nat.ble (p+(cx.ty t).lv.length) n with|true,true=>cx.okFs n l|_,_=>false
def TI.isA(x:TI)(k:Nat):Bool:=match x.ok with|true=>Nat.beq x.k k|false=>false
def TI.isBool(x:TI):Bool:=match x.agg,x.lv with|false,[.bool]=>true|_,_=>false
def TI.isIface(x:TI):Bool:=match x.agg,x.lv with|false,[.iface]=>true|_,_=>false
def TI.isU8(x:TI):Bool:=match x.agg,x.lv with|false,[.int .u8]=>true|_,_=>false
def Cx.isSl(cx:Cx)(t:Nat):Bool:=match (cx.ty t).isA 1,cx.okT (cx.ty t).el with|true,true=>true|_,_=>false
def Cx.full(cx:Cx)(e:Nat):Bool:=match Nat.ble 1 (cx.ty e).lv.length,Nat.ble 1 (cx.ty e).by_ with|true,true=>true|_,_=>false
def ofValue:Value->FV
 | .bool b=> .g (.bool b) | .int k n=> .g (.int k n) | .string s=> .g (.str s) | .pointer none=> .g (.ptr none)
 | .slice none 0 0=> .g (.sl none 0 0) | .map none=> .g (.map none) | .nilFunc=> .g .nilfn | .nilIface=> .g .nilif
 |_=> .bad
def tt_(fr:List FV)(t:Nat):FV:=match fr.getD t .bad with
 | .bx _=> .lp t 0
 |x=>x
def ev(fr:List FV):Operand->FV
 | .tmp t=>tt_ fr t
 | .const v=>ofValue v
 | .global _=> .bad
 | .func f=> .g (.fn f [])
def hl_(k:LK)(v:GV)(K:GV->Prop):Prop:=match k with
 | .bool=>dB v λb=>K (.bool b)
 | .int k=>dI k v λn=>K (.int k n)
 | .str=>dS v λs=>K (.str s)
 | .ptr=>dP v λa=>K (.ptr a)
 | .sl z=>dL z v λa n=>K (.sl a n z)
 | .map=>dM v λm=>K (.map m)
 | .fn=>K v
 | .iface=>K v
def hY_:List LK->List GV->(List GV->Prop)->Prop
 |[],cs,K=>uN cs (K [])
 |k::ks,cs,K=>uC cs λc cs=>hl_ k c λc=>hY_ ks cs λr=>K (c::r)
def qg_ (cx:Cx):List (Nat × Nat)->List RV->(List RV->Prop)->Prop
 |[],vs,K=>uE vs (K [])
 |(_,t)::ts,vs,K=>uR vs λv vs=>match (cx.ty t).agg with
  |true=>rC v λcs=>hY_ (cx.ty t).lv cs λcs=>qg_ cx ts vs λvs=>K (.a cs::vs)
  |false=>rS v λv=>match (cx.ty t).lv with|[k]=>hl_ k v λv=>qg_ cx ts vs λvs=>K (.s v::vs)|_=>False
def tW_ (cx:Cx) (t:Nat) (r:FV) (K:FV->Prop):Prop:=
 match (cx.ty t).k with
 |4=>match (cx.ty t).fs with
  |[]=>K .bad
  |_=>rT r λvs=>qg_ cx (cx.ty t).fs vs λvs=>K (.tup vs)
 |_=>match (cx.ty t).agg with
  |true=>rA r λcs=>hY_ (cx.ty t).lv cs λcs=>K (.agg cs)
  |false=>rG r λv=>match (cx.ty t).lv with|[k]=>hl_ k v λv=>K (.g v)|_=>False
def i3_(H:Hp)(l:Nat):Nat->List LK->(List GV->Prop)->Prop
 |_,[],K=>K []
 |o,k::ks,K=>rd H l o λc=>hl_ k c λc=>i3_ H l (o+1) ks λr=>K (c::r)
def kP_(l:Nat):Hp->Nat->List GV->(Hp->Prop)->Prop
 |H,_,[],K=>K H
 |H,o,c::cs,K=>wr H l o c λH=>kP_ l H (o+1) cs K
def kj_(x:FV)(K:List GV->Prop):Prop:=match x with
 | .g v=>K [v]
 | .agg cs=>K cs
 |_=>False
def ki_:List GV->Nat->List GV->(List GV->Prop)->Prop
 |zs,_,[],K=>K zs
 |[],_,_::_,_=>False
 |z::zs,o+1,cs,K=>ki_ zs o cs λr=>K (z::r)
 |_::zs,0,c::cs,K=>ki_ zs 0 cs λr=>K (c::r)
def ae_(k:IntKind)(n:Int):Int:=k.wrap n
def dQ_(a b:Y_):Bool:=Op.bytesLess a.toList b.toList
def er_(a b:Y_):Bool:=a.toList==b.toList
def v6_(op:BinOp)(k:IntKind)(x y:Int):Int:=
 let a:=BitVec.ofInt k.bits x
 let b:=BitVec.ofInt k.bits y
 k.wrap (match op with | .and=>a&&&b | .or=>a|||b | .xor=>a ^^^ b|_=>a&&& ~~~b).toNat
def Kg_(k:IntKind)(x y:Int):Int:=k.wrap (x*2 ^ (min y.toNat k.bits))
def ra_(k:IntKind)(x y:Int):Int:=x.fdiv (2 ^ (min y.toNat k.bits))
def eqI(x y:Int):Bool:=x==y
def ltI(x y:Int):Bool:=decide (x<y)
def leI(x y:Int):Bool:=decide (x<=y)
def mnI(a b:Int):Int:=if b<a then b else a
def mxI(a b:Int):Int:=if b>a then b else a
def leN(x y:Nat):Bool:=decide (x<=y)
def shf(a:Pl)(m:Nat):Pl:=match a with|none=>none|some (l,o)=>some (l,o+m)
def kz_(H:Hp)(a:Pl)(m:Nat):Bool:=match a with
 |none=>leN m 0
 |some (l,o)=>match H[l]? with|some (.row _ _ cs)=>leN (o+m) cs.length|_=>false
def nI(n:Nat):Int:=n
def tN(n:Int):Nat:=n.toNat
def byt(s:Y_)(j:Nat):Int:=(s.data.toList.getD j 0).toNat
def bof(n:Int):UInt8:=UInt8.ofNat n.toNat
def sz(s:Y_):Int:=s.size
def szN(s:Y_):Nat:=s.size
def sub(s:Y_)(l h:Nat):Y_:=s.extract l h
def mkS(l:List UInt8):Y_:=⟨l.toArray⟩
def bytesOf(s:Y_):List GV:=s.data.toList.map λb=> .int .u8 b.toNat
def eqB(x y:Bool):Bool:=x==y
def Iv_(a b:Y_)(K:Y_->Prop):Prop:=a.size+b.size<=9223372036854775807/\K (a++b)
def isNone{α:Type}:Option α->Bool|none=>true|some _=>false
def eqC:GV->GV->Option Bool
 | .bool a,.bool b=>some (eqB a b)
 | .int _ a,.int _ b=>some (eqI a b)
 | .str a,.str b=>some (er_ a b)
 |_,_=>none
def lV_:List GV->List GV->Option Bool
 |[],[]=>some true
 |a::as,b::bs=>match eqC a b,lV_ as bs with|some e,some r=>some (e&&r)|_,_=>none
 |_,_=>none
def jk_(k:LK)(v:GV):Bool:=match k,v with
 | .bool,.bool _=>true
 | .int k,.int k' _=>decide (k=k')
 | .str,.str _=>true
 |_,_=>false
def kE_:List LK->List GV->Bool
 |[],[]=>true
 |k::ks,v::vs=>match jk_ k v with|true=>kE_ ks vs|false=>false
 |_,_=>false
def TI.cmp(x:TI):Bool:=match x.agg with|true=>(match Nat.beq x.k 0 with|true=>Nat.beq x.el 1|false=>false)|false=>false
def y0_ (ti:TI):RV:=match ti.agg with
 |true=> .a (ti.lv.map A2_)
 |false=>match ti.lv with
  |[k]=> .s (A2_ k)
  |_=> .a []
def RV.cells:RV->List GV | .s v=>[v] | .a cs=>cs
def RV.isA:RV->Bool | .s _=>false | .a _=>true
def nG_(ag:Bool)(lv:List LK)(r:RV):Bool:=match ag,r with
 |false,.s v=>kE_ lv [v]
 |true,.a cs=>kE_ lv cs
 |_,_=>false
def pd_ (ag:Bool) (lv:List LK) (k:RV):List Ent->Nat->Option (Option Nat)
 |[],_=>some none
 |e::es,i=>match nG_ ag lv e.2.1 with
  |true=>(match lV_ k.cells e.2.1.cells with|some true=>some (some i)|some false=>pd_ ag lv k es (i+1)|none=>none)
  |false=>none
def sI_ (H:Hp) (m:Option Nat) (ag:Bool) (lv:List LK) (k z:RV) (K:RV->Bool->Prop):Prop:=match m with
 |none=>K z false
 | some l=>match H[l]? with
  |some (.map es _)=>(match pd_ ag lv k es 0 with
   |some (some i)=>(match es[i]? with|some e=>K e.2.2 true|none=>False)
   |some none=>K z false
   |none=>False)
  |_=>False
def yg_ (H:Hp) (m:Option Nat) (ag:Bool) (lv:List LK) (k v:RV) (K:Hp->Prop):Prop:=match m with
 |none=>False
 | some l=>match H[l]? with
  |some (.map es c)=>(match pd_ ag lv k es 0 with
   |some (some i)=>(match es[i]? with|some e=>K (H.set l (.map (es.set i (e.1,e.2.1,v)) c))|none=>False)
   |some none=>K (H.set l (.map (es++[(c,k,v)]) (c+1)))
   |none=>False)
  |_=>False
def Dr_ (H:Hp) (m:Option Nat) (ag:Bool) (lv:List LK) (k z:RV) (K:RV->Nat->Hp->Prop):Prop:=match m with
 |none=>False
 | some l=>match H[l]? with
  |some (.map es c)=>(match pd_ ag lv k es 0 with
   |some (some i)=>(match es[i]? with|some e=>K e.2.2 e.1 H|none=>False)
   |some none=>K z c (H.set l (.map (es++[(c,k,z)]) (c+1)))
   |none=>False)
  |_=>False
def Ga_(n:Int):List Ent->Nat->Option Nat
 |[],_=>none
 |e::es,i=>match (e.1:Int)==n with|true=>some i|false=>Ga_ n es (i+1)
def Co_ (H:Hp) (m:Option Nat) (n:Int) (v:RV) (K:Hp->Prop):Prop:=match m with
 |none=>False
 | some l=>match H[l]? with
  |some (.map es c)=>(match Ga_ n es 0 with
   |some i=>(match es[i]? with|some e=>K (H.set l (.map (es.set i (e.1,e.2.1,v)) c))|none=>False)
   |none=>False)
  |_=>False
def DQ_ (H:Hp) (m:Option Nat) (ag:Bool) (lv:List LK) (k:RV) (K:Hp->Prop):Prop:=match m with
 |none=>K H
 | some l=>match H[l]? with
  |some (.map es c)=>(match pd_ ag lv k es 0 with
   |some (some i)=>K (H.set l (.map (es.eraseIdx i) c))
   |some none=>K H
   |none=>False)
  |_=>False
def pj_(H:Hp)(m:Option Nat)(K:Nat->Prop):Prop:=match m with
 |none=>K 0
 |some l=>match H[l]? with|some (.map es _)=>K es.length|_=>False
def rng(H:Hp)(m:Option Nat)(K:Hp->Prop):Prop:=match m with
 |none=>K (H++[.iter none 0 [] 0])
 |some l=>match H[l]? with|some (.map _ c)=>K (H++[.iter (some l) c [] c])|_=>False
def nxt (H:Hp) (l o:Nat) (K1:RV->RV->Hp->Prop) (K2:Hp->Prop):Prop:=o=0/\match H[l]? with
 |some (.iter none _ _ _)=>K2 H
 | some (.iter (some m) since seen last)=>(match H[m]? with
  |some (.map es c)=>(seen=[]\/es=[]\/∃e,e∈es/\e.1<last)/\
   (∀e,e∈es->e.1∉seen->K1 e.2.1 e.2.2 (H.set l (.iter (some m) since (seen++[e.1]) c)))/\
   ((∀e,e∈es->e.1∉seen->since<=e.1)->K2 H)
  |_=>False)
 |_=>False
def gb(b:Bool):FV:= .g (.bool b)
def gi(k:IntKind)(n:Int):FV:= .g (.int k n)
def C9_ (cx:Cx) (t:Nat) (op:BinOp) (x y:FV) (K:FV->Prop):Prop:=
 match x,y with
 | .g (.int k a),.g (.int k' b)=>
  match op with
  | .shl=>chk (leI 0 b) (K (gi k (Kg_ k a b)))
  | .shr=>chk (leI 0 b) (K (gi k (ra_ k a b)))
  |op=>if k=k' then match op with
   | .add=>K (gi k (ae_ k (a+b))) | .sub=>K (gi k (ae_ k (a-b))) | .mul=>K (gi k (ae_ k (a*b)))
   | .quo=>chk (!(eqI b 0)) (K (gi k (ae_ k (a.tdiv b)))) | .rem=>chk (!(eqI b 0)) (K (gi k (a.tmod b)))
   | .and=>K (gi k (v6_ .and k a b)) | .or=>K (gi k (v6_ .or k a b)) | .xor=>K (gi k (v6_ .xor k a b)) | .andNot=>K (gi k (v6_ .andNot k a b))
   | .eql=>K (gb (eqI a b)) | .neq=>K (gb (!(eqI a b))) | .lss=>K (gb (ltI a b)) | .leq=>K (gb (leI a b)) | .gtr=>K (gb (ltI b a)) | .geq=>K (gb (leI b a))
   |_=>False
   else False
 | .g (.str a),.g (.str b)=>
  match op with
  | .add=>Iv_ a b λs=>K (.g (.str s))
  | .eql=>K (gb (er_ a b)) | .neq=>K (gb (!(er_ a b))) | .lss=>K (gb (dQ_ a b)) | .leq=>K (gb (dQ_ a b||er_ a b))
  | .gtr=>K (gb (!(dQ_ a b||er_ a b))) | .geq=>K (gb (!(dQ_ a b)))
  |_=>False
 | .g (.bool a),.g (.bool b)=>ck (cx.ty t).isBool <| match op with | .eql=>K (gb (eqB a b)) | .neq=>K (gb (!(eqB a b)))|_=>False
 | .g (.ptr a),.g (.ptr none)=>ck ((cx.ty t).isA 2) <| match op with | .eql=>K (gb (isNone a)) | .neq=>K (gb (!(isNone a)))|_=>False
 | .g (.sl a _ _),.g (.sl none _ _)=>ck ((cx.ty t).isA 1) <| match op with | .eql=>K (gb (isNone a)) | .neq=>K (gb (!(isNone a)))|_=>False
 | .agg xs,.agg ys=>ck (cx.ty t).cmp <| ck (kE_ (cx.ty t).lv xs) <| ck (kE_ (cx.ty t).lv ys) <| match lV_ xs ys with
  |some e=>(match op with | .eql=>K (gb e) | .neq=>K (gb (!e))|_=>False)
  |none=>False
 |_,_=>False
def o7_(E:Operand->FV)(x:Option Operand)(d:Nat)(K:Nat->Prop):Prop:=match x with
 |none=>K d
 |some x=>match E x with | .g (.int _ n)=>chk (leI 0 n) (K (tN n))|_=>False
def okz(a:Pl)(z' z:Nat):Bool:=match z'==z with|true=>true|false=>match a with|none=>true|some _=>false
def evT(cx:Cx)(t:Nat)(E:Operand->FV)(x:Operand):FV:=match x with
 | .const (.slice none 0 0)=> .g (.sl none 0 (cx.ty (cx.ty t).el).lv.length)
 |x=>E x
def hdN(ts:List Nat):Nat:=match ts with|[]=>0|t::_=>t
def tlN(ts:List Nat):List Nat:=match ts with|[]=>[]|_::ts=>ts
abbrev mV_:TypeId:=1000003
def i0_ (cx:Cx) (E:Operand->FV):List Operand->List Nat->Hp->(List FV->Hp->Prop)->Prop
 |[],_,H,K=>K [] H
 |x::xs,ts,H,K=>match evT cx (hdN ts) E x with
  | .g v=>i0_ cx E xs (tlN ts) H λr H=>K (.g v::r) H
  | .agg cs=>i0_ cx E xs (tlN ts) H λr H=>K (.agg cs::r) H
  | .bs cs n z=>i0_ cx E xs (tlN ts) (pu H (.row false mV_ cs)) λr H'=>K (.g (.sl (some (ln H,0)) n z)::r) H'
  |_=>False
def uP_ (cx:Cx) (E:Operand->FV) (t:Nat):List GV->List (Nat × Operand)->(List GV->Prop)->Prop
 |zs,[],K=>K zs
 |zs,(i,x)::ps,K=>match (cx.ty t).fs[i]? with
  |some (p,e)=>kj_ (E x) λcs=>ck (cx.okT e) (ck (Nat.beq cs.length (cx.ty e).lv.length) (ki_ zs p cs λzs=>uP_ cx E t zs ps K))
  |none=>False
def zY_(E:Operand->FV)(z:Nat):List GV->List (Nat × Operand)->(List GV->Prop)->Prop
 |zs,[],K=>K zs
 |zs,(i,x)::ps,K=>kj_ (E x) λcs=>ck (Nat.beq cs.length z) (ki_ zs (i*z) cs λzs=>zY_ E z zs ps K)
def mt_:List GV->(List UInt8->Prop)->Prop
 |[],K=>K []
 |c::cs,K=>dI .u8 c λn=>mt_ cs λr=>K (bof n::r)
def txt(cs:List GV)(K:Y_->Prop):Prop:=mt_ cs λs=>K (mkS s)
def nx_(E:Operand->FV):List Operand->(List (Nat × Nat)->Prop)->Prop
 |[],K=>K []
 |x::xs,K=>match E x with | .g (.ptr (some p))=>nx_ E xs λr=>K (p::r)|_=>False
def J4_(H:Hp)(z:Nat)(y:FV)(K:List GV->Nat->Prop):Prop:=match y with
 | .g (.sl a m z')=>chk (okz a z' z) (rdN H a (m*z) λcs=>K cs m)
 | .bs cs m z'=>ck (Nat.beq z' z) (K cs m)
 | .g (.str s)=>K (bytesOf s) (szN s)
 |_=>False
def eY_(ks:List LK):List GV:=ks.map A2_
def lo_(n:Nat)(cs:List GV):List GV:=(List.replicate n cs).flatten
def CQ_(n:Nat)(cs:List GV):List GV:=(List.replicate n cs).flatten
def Cx.isEsc(cx:Cx)(d:Option Nat):Bool:=cx.esc.contains (d.getD 0)
def mkK(cx:Cx)(o:Oper)(fr:List FV)(H:Hp)(t:Nat)(cs:List GV)(K:FV->List FV->Hp->Prop):Prop:=match cx.isEsc o.dst with
 |true=>K (.g (.ptr (some (ln H,0)))) fr (pu H (.row true t cs))
 |false=>match o.dst with|some d=>ck (lh_ d fr) (ck (Nat.blt d fr.length) (K (.bx cs) fr H))|none=>False
def HS_(cs:List GV)(agg:Bool)(K:FV->Prop):Prop:=match agg with
 |true=>K (.agg cs)
 |false=>match cs with|[v]=>K (.g v)|_=>False
def wl_(cs:List GV)(p n:Nat)(agg:Bool)(K:FV->Prop):Prop:=match agg with
 |true=>ck (Nat.ble (p+n) cs.length) (K (.agg ((cs.drop p).take n)))
 |false=>match cs[p]? with|some v=>K (.g v)|none=>False
def lp_ (cx:Cx) (t:Nat) (x:FV) (B:Nat->FV) (H:Hp) (K:FV->Prop):Prop:=match x with
 | .lp s p=>match B s with
  | .bx cs=>wl_ cs p (cx.ty t).lv.length (cx.ty t).agg K
  |_=>False
 | .g (.ptr (some (l,p)))=>i3_ H l p (cx.ty t).lv λcs=>HS_ cs (cx.ty t).agg K
 |_=>False
def Ag_ (x:FV) (ns:List GV) (fr:List FV) (H:Hp) (K:List FV->Hp->Prop):Prop:=match x with
 | .lp s p=>match fr.getD s .bad with
  | .bx cs=>ki_ cs p ns λcs=>wa_ fr s (.bx cs) λfr=>K fr H
  |_=>False
 | .g (.ptr (some (l,p)))=>kP_ l H p ns λH=>K fr H
 |_=>False
def unK(op:UnOp)(x:FV)(K:FV->Prop):Prop:=match op,x with
 | .not,.g (.bool b)=>K (gb (!b))
 | .neg,.g (.int k n)=>K (gi k (ae_ k (0-n)))
 | .xor,.g (.int k n)=>K (gi k (v6_ .xor k (if k.signed then -1 else k.max) n))
 |_,_=>False
def Eq_(t:TypeId):Bool:=Nat.beq t 5||Nat.beq t 6
def uk_(cx:Cx)(s d:Nat)(x:FV)(H:Hp)(K:FV->Hp->Prop):Prop:=ck (cx.okT s) <| ck (cx.okT d) <| match (cx.ty d).k,(cx.ty d).lv,x with
 |0,[.int k],.g (.int _ n)=>ck (!(cx.ty d).agg) (K (gi k (ae_ k n)) H)
 |3,_,.g (.str s)=>K (.g (.str s)) H
 |3,_,.g (.sl a n _)=>ck (cx.isSl s) <| ck (cx.ty (cx.ty s).el).isU8 <| rdN H a n λcs=>txt cs λs=>K (.g (.str s)) H
 |3,_,.bs cs n _=>ck (cx.isSl s) <| ck (cx.ty (cx.ty s).el).isU8 <| ck (Nat.beq cs.length n) <| txt cs λs=>K (.g (.str s)) H
 |1,_,.g (.str s)=>ck (cx.ty (cx.ty d).el).isU8 <| ck (Eq_ (cx.ty d).el) <| chk (leN (szN s) Lim) (K (.g (.sl (some (ln H,0)) (szN s) 1)) (pu H (.row true (cx.ty d).el (bytesOf s))))
 |_,_,_=>False
def GH_ (cx:Cx) (t:Nat) (l c:FV) (H:Hp) (K:FV->Hp->Prop):Prop:=match l,c with
 | .g (.int _ l),.g (.int _ c)=>ck (cx.isSl t) <| ck (cx.full (cx.ty t).el) <| chk (eqI l c&&leI 0 l&&leI (l*(cx.ty (cx.ty t).el).by_) (nI Lim))
  (K (.g (.sl (some (ln H,0)) (tN l) (cx.ty (cx.ty t).el).lv.length)) (pu H (.row true (cx.ty t).el (lo_ (tN l) (eY_ (cx.ty (cx.ty t).el).lv)))))
 |_,_=>False
def zg_ (cx:Cx) (t:Nat) (l c:FV) (K:FV->Prop):Prop:=match l,c with
 | .g (.int _ l),.g (.int _ c)=>ck (cx.isSl t) <| ck (cx.full (cx.ty t).el) <| chk (eqI l c&&leI 0 l&&leI (l*(cx.ty (cx.ty t).el).by_) (nI Lim))
  (K (.bs (CQ_ l.toNat (eY_ (cx.ty (cx.ty t).el).lv)) l.toNat (cx.ty (cx.ty t).el).lv.length))
 |_,_=>False
def n3_(H:Hp)(a:Pl)(k:Nat):Bool:=match a with
 |none=>true
 |some (l,o)=>match H[l]? with|some (.row _ _ cs)=>leN cs.length (o+k)|_=>false
def p2_ (cx:Cx) (t:Nat) (x:FV) (lo hi:Option Operand) (E:Operand->FV) (H:Hp) (K:FV->Prop):Prop:=match x with
 | .g (.str s)=>ck ((cx.ty t).isA 3) <| o7_ E hi (szN s) λh=>o7_ E lo 0 λl=>chk (leN l h&&leN h (szN s)) (K (.g (.str (sub s l h))))
 | .g (.sl a n z')=>ck (cx.isSl t) <| ck (Nat.ble 1 (cx.ty (cx.ty t).el).lv.length) <| chk (okz a z' (cx.ty (cx.ty t).el).lv.length) <| match hi with
  |none=>o7_ E lo 0 λl=>chk (leN l n) (K (.g (.sl (shf a (l*(cx.ty (cx.ty t).el).lv.length)) (n-l) (cx.ty (cx.ty t).el).lv.length)))
  |some _=>o7_ E hi n λh=>o7_ E lo 0 λl=>chk (leN l h&&(leN h n||kz_ H a (h*(cx.ty (cx.ty t).el).lv.length))) (K (.g (.sl (shf a (l*(cx.ty (cx.ty t).el).lv.length)) (h-l) (cx.ty (cx.ty t).el).lv.length)))
 | .g (.ptr (some (r,o)))=>ck ((cx.ty t).isA 6) <| ck (cx.okT (cx.ty t).el) <| ck (Nat.ble 1 (cx.ty (cx.ty t).el).lv.length) <| ck (Nat.ble (cx.ty t).an 16777216) <| o7_ E hi (cx.ty t).an λh=>o7_ E lo 0 λl=>
  chk (leN l h&&(leN h (cx.ty t).an&&(kz_ H (some (r,o)) ((cx.ty t).an*(cx.ty (cx.ty t).el).lv.length)&&n3_ H (some (r,o)) ((cx.ty t).an*(cx.ty (cx.ty t).el).lv.length))))
   (K (.g (.sl (some (r,o+l*(cx.ty (cx.ty t).el).lv.length)) (h-l) (cx.ty (cx.ty t).el).lv.length)))
 |_=>False
def l9_ (cx:Cx) (t:Nat) (x:FV) (lo hi:Option Operand) (mx:Operand) (E:Operand->FV) (H:Hp) (K:FV->Prop):Prop:=match x,hi with
 | .g (.sl a n z'),some hi=>ck (cx.isSl t) <| ck (Nat.ble 1 (cx.ty (cx.ty t).el).lv.length) <| chk (okz a z' (cx.ty (cx.ty t).el).lv.length) <|
  o7_ E (some mx) n λm=>o7_ E (some hi) n λh=>o7_ E lo 0 λl=>chk (leN l h&&(leN h m&&(leN m n&&n3_ H a (m*(cx.ty (cx.ty t).el).lv.length))))
   (K (.g (.sl (shf a (l*(cx.ty (cx.ty t).el).lv.length)) (h-l) (cx.ty (cx.ty t).el).lv.length)))
 |_,_=>False
def Ea_(x:FV)(p:Nat)(K:FV->Prop):Prop:=match x with
 | .lp s q=>K (.lp s (q+p))
 | .g (.ptr (some (l,q)))=>K (.g (.ptr (some (l,q+p))))
 |_=>False
def F2_(cx:Cx)(t:Nat)(x i:FV)(K:FV->Prop):Prop:=match x,i with
 | .g (.sl a n z'),.g (.int _ j)=>ck (cx.isSl t) <| chk (okz a z' (cx.ty (cx.ty t).el).lv.length) (chk (leI 0 j&&ltI j (nI n)) (pS a λl q=>K (.g (.ptr (some (l,q+tN j*(cx.ty (cx.ty t).el).lv.length))))))
 | .g (.ptr (some (l,q))),.g (.int _ j)=>ck ((cx.ty t).isA 6) <| ck (cx.okT (cx.ty t).el) <| chk (leI 0 j&&ltI j (nI (cx.ty t).an)) (K (.g (.ptr (some (l,q+tN j*(cx.ty (cx.ty t).el).lv.length)))))
 |_,_=>False
def FG_(cx:Cx)(t:Nat)(x:FV)(K:FV->Prop):Prop:=match x with
 | .g (.str s)=>ck ((cx.ty t).isA 3) <| K (gi .i64 (sz s))
 | .g (.sl _ n _)=>ck ((cx.ty t).isA 1) <| K (gi .i64 (nI n))
 | .bs _ n _=>ck ((cx.ty t).isA 1) <| K (gi .i64 (nI n))
 |_=>False
def wm_(mx:Bool)(x y:FV)(K:FV->Prop):Prop:=match x,y with
 | .g (.int k a),.g (.int _ b)=>K (gi k (match mx with|true=>mxI a b|false=>mnI a b))
 |_,_=>False
def JQ_(cx:Cx)(e:Nat)(x y:FV)(H:Hp)(K:FV->Hp->Prop):Prop:=J4_ H (cx.ty e).lv.length y λcs m=>match x with
 | .g (.sl a n z')=>chk (okz a z' (cx.ty e).lv.length) (ap H e (cx.ty e).lv.length (cx.ty e).by_ a n cs m λa n H=>K (.g (.sl a n (cx.ty e).lv.length)) H)
 | .bs [] 0 _=>ap0 H e (cx.ty e).lv.length (cx.ty e).by_ cs m λH'=>K (.g (.sl (some (ln H,0)) m (cx.ty e).lv.length)) H'
 |_=>False
def JZ_(cx:Cx)(t:Nat)(x:FV)(H:Hp)(K:FV->Hp->Prop):Prop:=match x with
 | .g (.sl a n z')=>ck (cx.isSl t) <| ck (cx.full (cx.ty t).el) <| chk (okz a z' (cx.ty (cx.ty t).el).lv.length) <| clr H a n (eY_ (cx.ty (cx.ty t).el).lv) λH=>K .bad H
 |_=>False
def KD_(p:Nat × Nat):FV:= .g (.ptr (some p))
def cpl(as:List FV)(caps:List (Nat × Nat)):List FV:=as++caps.map KD_
def mth:List (String × Nat × Bool)->String->Option (Nat × Bool)
 |[],_=>none
 |(n,f,b)::l,x=>match n==x with|true=>some (f,b)|false=>mth l x
def Dc_ (cx:Cx) (t:Nat) (b:Bool) (w:GV) (B:Nat->FV) (H:Hp) (K:FV->Prop):Prop:=match (cx.ty t).isA 2 with
 | true=>match b with
  |true=>K (.g w)
  | false=>ck (cx.okT (cx.ty t).el) <| match w with
   | .ptr a=>pS a λl o=>lp_ cx (cx.ty t).el (.g (.ptr (some (l,o)))) B H λx=>match x with
    | .g v=>K (.g v)
    | .agg cs=>K (.agg cs)
    |_=>False
   |_=>False
 |false=>False
def lvR (ti:TI) (r:RV) (K:RV->Prop):Prop:=match ti.ok with
 |false=>K r
 |true=>match ti.agg with
  |true=>rC r λcs=>hY_ ti.lv cs λcs=>K (.a cs)
  |false=>rS r λv=>match ti.lv with|[k]=>hl_ k v λv=>K (.s v)|_=>False
def rvK(x:FV)(K:RV->Prop):Prop:=match x with | .g v=>K (.s v) | .agg cs=>K (.a cs)|_=>False
def fvR(r:RV):FV:=match r with | .s v=> .g v | .a cs=> .agg cs
def Cx.isMap(cx:Cx)(t:Nat):Bool:=match (cx.ty t).isA 5,cx.okT (cx.ty t).el,cx.okT (cx.ty t).an,(cx.ty (cx.ty t).an).agg with
 |true,true,true,false=>(match (cx.ty (cx.ty t).an).lv with|[.bool]=>true|[.int _]=>true|[.str]=>true|_=>false)
 |true,true,true,true=>(cx.ty (cx.ty t).an).cmp
 |_,_,_,_=>false
def yG_(cx:Cx)(t:Nat)(x:FV)(K:RV->Prop):Prop:=rvK x λk=>ck (nG_ (cx.ty (cx.ty t).an).agg (cx.ty (cx.ty t).an).lv k) (K k)
def Ja_(r:Option FV)(x:Prop):Prop:=match r with|none=>x|some (.g (.int _ _))=>x|some _=>False
def H0_ (cx:Cx) (t:Nat) (x i:FV) (ok:Bool) (H:Hp) (K:FV->Prop):Prop:=ck (cx.isMap t) <| match x with
 | .g (.map m)=>yG_ cx t i λk=>sI_ H m (cx.ty (cx.ty t).an).agg (cx.ty (cx.ty t).an).lv k (y0_ (cx.ty (cx.ty t).el)) λv b=>lvR (cx.ty (cx.ty t).el) v λv=>match ok with
  |true=>K (.tup [v,.s (.bool b)])
  |false=>K (fvR v)
 |_=>False
def Kc_(cx:Cx)(t:Nat)(m k v:FV)(H:Hp)(K:Hp->Prop):Prop:=ck (cx.isMap t) <| match m with
 | .g (.map m)=>yG_ cx t k λk=>rvK v λv=>yg_ H m (cx.ty (cx.ty t).an).agg (cx.ty (cx.ty t).an).lv k v K
 |_=>False
def KN_(cx:Cx)(t:Nat)(m k:FV)(H:Hp)(K:FV->Hp->Prop):Prop:=ck (cx.isMap t) <| match m with
 | .g (.map m)=>yG_ cx t k λk=>Dr_ H m (cx.ty (cx.ty t).an).agg (cx.ty (cx.ty t).an).lv k (y0_ (cx.ty (cx.ty t).el)) λv n H=>lvR (cx.ty (cx.ty t).el) v λv=>K (.tup [v,.s (.int .i64 (nI n))]) H
 |_=>False
def KB_(cx:Cx)(t:Nat)(m s v:FV)(H:Hp)(K:Hp->Prop):Prop:=match m,s with
 | .g (.map m),.g (.int _ n)=>rvK v λv=>Co_ H m n v K
 |_,_=>False
def KQ_(cx:Cx)(t:Nat)(m k:FV)(H:Hp)(K:Hp->Prop):Prop:=ck (cx.isMap t) <| match m with
 | .g (.map m)=>yG_ cx t k λk=>DQ_ H m (cx.ty (cx.ty t).an).agg (cx.ty (cx.ty t).an).lv k K
 |_=>False
def Kf_(cx:Cx)(t:Nat)(x:FV)(H:Hp)(K:FV->Hp->Prop):Prop:=ck ((cx.ty t).isA 5) <| match x with
 | .g (.map m)=>rng H m λH'=>K (.g (.ptr (some (ln H,0)))) H'
 |_=>False
def Ku_(x:FV)(isS:Bool)(H:Hp)(K:FV->Hp->Prop):Prop:=match isS,x with
 |false,.g (.ptr (some (l,p)))=>nxt H l p (λk v H'=>K (.tup [.s (.bool true),k,v]) H') λH'=>K (.tup [.s (.bool false)]) H'
 |_,_=>False
def DN_ (H:Hp) (l o:Nat) (K:RV->RV->Prop):Prop:=o=0/\match H[l]? with
 |some (.iter (some m) since seen last)=>(match seen.getLast?,H[m]? with
  |some b,some (.map es c)=>c=last/\(match es.find? (λe=>e.1==b) with|some e=>K e.2.1 e.2.2|none=>False)
  |_,_=>False)
 |_=>False
def zP_(cx:Cx)(d:Option Nat)(k v:RV)(K:FV->Prop):Prop:=match cx.keep.lookup (1000000+d.getD 0) with
 |some [t]=>lvR (cx.ty (cx.ty t).an) k λk=>lvR (cx.ty (cx.ty t).el) v λv=>K (.tup [k,v])
 |_=>K (.tup [k,v])
def Bt_(cx:Cx)(d:Option Nat)(x:FV)(H:Hp)(K:FV->Prop):Prop:=match x with
 | .g (.ptr (some (l,p)))=>DN_ H l p λk v=>zP_ cx d k v K
 |_=>False
def AC_(cx:Cx)(t:Nat)(x:FV)(H:Hp)(K:FV->Prop):Prop:=match x with
 | .g (.map m)=>ck ((cx.ty t).isA 5) (pj_ H m λn=>K (gi .i64 (nI n)))
 |x=>FG_ cx t x K
def opE (cx:Cx) (o:Oper) (E:Operand->FV) (B:Nat->FV) (H:Hp) (K:FV->Hp->Prop):Prop:=
 match o.op with
 | .move x | .assign x=>K (evT cx o.type E x) H
 | .pick c a b=>match E c with | .g (.bool t)=>cq_ t (K (E a) H) (K (E b) H)|_=>False
 | .build t parts=>ck (cx.ty t).agg <| ck (Nat.beq (cx.ty t).k 0) <| ck (cx.okFs (cx.ty t).lv.length (cx.ty t).fs) <| uP_ cx E t (eY_ (cx.ty t).lv) parts.toList λcs=>K (.agg cs) H
 | .buildSlice t n parts=>ck (cx.isSl t) <| ck (Nat.ble 1 (cx.ty (cx.ty t).el).lv.length) <| ck (Nat.ble (n*(cx.ty (cx.ty t).el).lv.length) 16777216) <| zY_ E (cx.ty (cx.ty t).el).lv.length (CQ_ n (eY_ (cx.ty (cx.ty t).el).lv)) parts.toList λcs=>match cx.isEsc o.dst with
  |true=>K (.g (.sl (some (ln H,0)) n (cx.ty (cx.ty t).el).lv.length)) (pu H (.row true (cx.ty t).el cs))
  |false=>K (.bs cs n (cx.ty (cx.ty t).el).lv.length) H
 | .load t a=>ck (cx.okT t) <| lp_ cx t (E a) B H λv=>K v H
 | .nilCheck x=>match E x with
  | .lp s p=>K (.lp s p) H
  | .g (.ptr a)=>pS a λl p=>K (.g (.ptr (some (l,p)))) H
  |_=>False
 | .binOp op t x y _=>C9_ cx t op (E x) (E y) λv=>K v H
 | .unOp op _ x=>unK op (E x) λv=>K v H
 | .convert s d x=>uk_ cx s d (E x) H λv H=>K v H
 | .makeInterface t x=>ck (cx.okT t) <| ck (!(cx.ty t).isIface) <| match E x with | .g v=>K (.g (.iface t v)) H|_=>False
 | .makeFunc fn first caps=>match fn,first.toList with
  | .func f,[]=>nx_ E caps.toList λcs=>K (.g (.fn f cs)) H
  |_,_=>False
 | .makeSlice t l c=>match cx.isEsc o.dst with
  |true=>GH_ cx t (E l) (E c) H λv H=>K v H
  |false=>zg_ cx t (E l) (E c) λv=>K v H
 | .slice t x lo hi mx=>match mx with
  |some m=>l9_ cx t (E x) lo hi m E H λv=>K v H
  |none=>p2_ cx t (E x) lo hi E H λv=>K v H
 | .fieldAddr t x f=>match (cx.ty t).fs[f]? with
  |some (p,e)=>ck (cx.ty t).agg <| ck (cx.okT e) <| ck (Nat.ble 1 (cx.ty e).lv.length) <| Ea_ (E x) p λv=>K v H
  |none=>False
 | .field t x f=>match (cx.ty t).fs[f]?,E x with
  |some (p,t'),.agg cs=>ck (cx.ty t).agg <| ck (cx.okT t') <| wl_ cs p (cx.ty t').lv.length (cx.ty t').agg λv=>K v H
  |_,_=>False
 | .indexAddr t x i=>F2_ cx t (E x) (E i) λv=>K v H
 | .index t x i=>match E x,E i with
  | .g (.str s),.g (.int _ j)=>ck ((cx.ty t).isA 3) <| chk (leI 0 j&&ltI j (sz s)) (K (gi .u8 (byt s (tN j))) H)
  |_,_=>False
 | .extract x i=>match E x with
  | .tup vs=>match vs[i]? with|some (.s v)=>K (.g v) H|some (.a cs)=>K (.agg cs) H|none=>False
  |_=>False
 | .typeAssert x _ a ok=>match ok with
  |true=>False
  |false=>ck (cx.okT a) <| ck (!(cx.ty a).isIface) <| match E x with | .g v=>dX a v λw=>(match (cx.ty a).lv with|[k]=>hl_ k w λw=>K (.g w) H|_=>False)|_=>False
 | .call c=>match c.callee with
  | .value (.func f)=>match cx.env.lookup f with
   |some sem=>i0_ cx E c.args.toList c.argTypes.toList H λas H=>cl sem as H λr H=>tW_ cx o.type r λr=>K r H
   |none=>False
  | .value f=>match E f with
   | .g v=>dF v λf caps=>i0_ cx E c.args.toList c.argTypes.toList H λas H=>cl (cx.dyn f) (cpl as caps) H λr H=>tW_ cx o.type r λr=>K r H
   |_=>False
  | .builtin b=>match b,c.args.toList with
   | .len,[x]=>match c.argTypes.toList with
    |[t]=>AC_ cx t (E x) H λv=>K v H
    |_=>False
   | .delete,[x,y]=>match c.argTypes.toList with
    |[t,_]=>KQ_ cx t (E x) (E y) H λH=>K .bad H
    |_=>False
   | .clear,[x]=>match c.argTypes.toList with
    |[t]=>JZ_ cx t (E x) H λv H=>K v H
    |_=>False
   | .min,[x,y]=>wm_ false (E x) (E y) λv=>K v H
   | .max,[x,y]=>wm_ true (E x) (E y) λv=>K v H
   | .append,[x,y]=>match c.argTypes.toList with
    |[t,t']=>ck (cx.isSl t) <| ck (cx.full (cx.ty t).el) <| ck ((cx.ty t').isA 1||(cx.ty t').isA 3) <| JQ_ cx (cx.ty t).el (E x) (E y) H λv H=>K v H
    |_=>False
   |_,_=>False
  | .invoke r n=>match E r with
   | .g (.iface t w)=>match mth (cx.ty t).ms n with
    |some (f,b)=>match cx.env.lookup f with
     |some sem=>i0_ cx E c.args.toList c.argTypes.toList H λas H'=>Dc_ cx t b w B H λx=>cl sem (x::as) H' λr H=>tW_ cx o.type r λr=>K r H
     |none=>False
    |none=>False
   |_=>False
 | .makeMap t r=>ck ((cx.ty t).isA 5) <| Ja_ (match r with|none=>none|some x=>some (E x)) (K (.g (.map (some (ln H)))) (pu H (.map [] 0)))
 | .lookup t x i ok=>H0_ cx t (E x) (E i) ok H λv=>K v H
 | .mapUpdate t m k v=>Kc_ cx t (E m) (E k) (evT cx (cx.ty t).el E v) H λH=>K .bad H
 | .mapEntry t m k=>KN_ cx t (E m) (E k) H λv H=>K v H
 | .entryStore t m s v=>KB_ cx t (E m) (E s) (evT cx (cx.ty t).el E v) H λH=>K .bad H
 | .range t x=>Kf_ cx t (E x) H λv H=>K v H
 | .next x isS=>Ku_ (E x) isS H λv H=>K v H
 | .entry x=>Bt_ cx o.dst (E x) H λv=>K v H
 |_=>False
def opK(cx:Cx)(o:Oper)(fr:List FV)(H:Hp)(K:FV->List FV->Hp->Prop):Prop:=
 match o.op with
 | .alloc t=>ck (cx.okT t) <| mkK cx o fr H t (eY_ (cx.ty t).lv) K
 | .box t v=>kj_ (ev fr v) λcs=>mkK cx o fr H t cs K
 | .store t a x=>kj_ (ev fr x) λns=>ck (cx.okT t) <| ck (Nat.beq ns.length (cx.ty t).lv.length) <| Ag_ (ev fr a) ns fr H λfr H=>K .bad fr H
 |_=>opE cx o (ev fr) (λs=>fr.getD s .bad) H λv H=>K v fr H
def t9_ (ops:Array Oper) (fr:List FV) (g:Option (Nat × Bool)) (yes no:List FV->Prop):Prop:=match g with
 |none=>yes fr
 | some (j,w)=>match (ops[j]?).bind (·.dst) with
  |some d=>match fr.getD d .bad with
   | .g (.bool b)=>cq_ b (wa_ fr d (.g (.bool true)) (match w with|true=>yes|false=>no)) (wa_ fr d (.g (.bool false)) (match w with|true=>no|false=>yes))
   | .und=>no fr
   |_=>False
  |none=>False
def frc{R:Type}(v:FV)(K:FV->R):R:=match v with
 | .g v=>K (.g v) | .agg cs=>K (.agg cs) | .tup vs=>K (.tup vs) | .bx cs=>K (.bx cs) | .lp s o=>K (.lp s o) | .bs cs n z=>K (.bs cs n z) | .bad=>K .bad | .und=>K .und
def IU_{R:Type}(fr:List FV)(d:Option Nat)(v:FV)(K:List FV->R):R:=match d with
 |some d=>frc v λv=>wa_ fr d v K
 |none=>K fr
def qV_ (cx:Cx) (ops:Array Oper):List Oper->List FV->Hp->(List FV->Hp->Prop)->Prop
 |[],fr,H,K=>K fr H
 |o::os,fr,H,K=>t9_ ops fr o.guard
  (λfr=>opK cx o fr H λv fr H=>IU_ fr o.dst v λfr=>qV_ cx ops os fr H K)
  (λfr=>IU_ fr o.dst .und λfr=>qV_ cx ops os fr H K)
def w9_ {R:Type}:List FV->Nat->List Nat->(List FV->R)->R
 |[],_,_,K=>K []
 |x::xs,i,l,K=>match l.contains i with
  |true=>w9_ xs (i+1) l λys=>K (x::ys)
  |false=>w9_ xs (i+1) l λys=>K (.bad::ys)
def EU_{R:Type}(fr:List FV)(c:Operand)(b:Bool)(K:List FV->R):R:=match c with
 | .tmp d=>wa_ fr d (.g (.bool b)) K
 |_=>K fr
def nW_:Code->Nat
 | .region id _ _=>id
 | .seq a _=>nW_ a
 | .block _ b | .loop b | .scope b=>nW_ b
 | .cond _ a _=>nW_ a
 |_=>0
def zH_(id:Nat):List Item->Option (List Item)
 | .inBlock id'::k=>if id'==id then some k else zH_ id k
 | .inScope _::k | .code _::k | .inLoop _::k=>zH_ id k
 |_=>none
def oA_(id:Nat):Code->List Item->Option (List Item)
 | .seq a b,k=>match oA_ id a (.code b::k) with|some r=>some r|none=>oA_ id b k
 | .cond _ a b,k=>match oA_ id a k with|some r=>some r|none=>oA_ id b k
 | .block i b,k=>oA_ id b (.inBlock i::k)
 | .scope b,k=>oA_ id b (.inScope b::k)
 | .loop b,k=>if nW_ b=id then some (.inLoop b::k) else oA_ id b (.inLoop b::k)
 | .region i os d,k=>if i=id then some (.code (.region i os d)::k) else none
 |_,_=>none
def yM_ (cx:Cx) (fr:List FV):List ResultVar->(List RV->Prop)->Prop
 |[],K=>K []
 | .tmp t::rs,K=>match tt_ fr t with
  | .g v=>yM_ cx fr rs λvs=>K (.s v::vs)
  | .agg cs=>yM_ cx fr rs λvs=>K (.a cs::vs)
  |_=>False
 | .cell a t::rs,K=>match tt_ fr a with
  | .lp s p=>match fr.getD s .bad with
   | .bx cs=>ck (cx.okT t) <| wl_ cs p (cx.ty t).lv.length (cx.ty t).agg λv=>match v with
    | .g v=>yM_ cx fr rs λvs=>K (.s v::vs)
    | .agg cs=>yM_ cx fr rs λvs=>K (.a cs::vs)
    |_=>False
   |_=>False
  |_=>False
def J6_(cx:Cx)(fr:List FV)(H:Hp)(Q:Post):Prop:=yM_ cx fr cx.res λvs=>match vs with
 |[.s v]=>Q (.g v) H
 |[.a cs]=>Q (.agg cs) H
 |vs=>Q (.tup vs) H
def has(m i:Nat):Bool:=m.testBit i
def xs_(acc:List Nat)(es:List Edge)(s:Nat):Nat:=match es with
 |[]=>s
 |e::es=>xs_ acc es (match Region.binds .any e with|true=>s|||2 ^ e.on|||acc.getD e.on 0|false=>s)
def AQ_(acc:List Nat):List Oper->List Nat
 |[]=>acc
 |o::os=>AQ_ (acc++[xs_ acc o.after.toList 0]) os
def ew_(ops:Array Oper):List Nat:=AQ_ [] ops.toList
def K4_(cx:Cx)(d:Option Nat):Bool:=match cx.keep.lookup 2000000,d with|some l,some d=>l.contains d|_,_=>false
def dt_ (cx:Cx) (o:Oper):Bool:=match o.op with
 | .store .. =>true
 | .alloc _ | .box _ _ | .buildSlice _ _ _ | .makeSlice _ _ _=>cx.isEsc o.dst
 | .makeMap .. | .mapUpdate .. | .mapEntry .. | .entryStore .. | .range .. | .next .. =>true
 | .assign _=>K4_ cx o.dst
 | .convert _ d _=>Nat.beq (cx.ty d).k 1
 | .call c=>match c.callee with
  | .builtin .len | .builtin .min | .builtin .max=>false
  |_=>true
 |_=>false
def p4_(o:Oper)(E:Operand->FV):Bool:=match o.op with
 | .load _ a=>match E a with | .g _=>true|_=>false
 | .convert _ _ x=>match E x with | .g (.sl _ _ _)=>true|_=>false
 | .lookup .. =>true
 | .entry _=>true
 | .call c=>match c.callee,c.args.toList with | .builtin .len,[x]=>(match E x with | .g (.map _)=>true|_=>false)|_,_=>false
 | .slice _ x _ hi _=>match E x with | .g (.sl _ _ _)=>(match hi with|some _=>true|none=>false) | .g (.ptr _)=>true|_=>false
 |_=>false
def hE_(o:Oper)(E:Operand->FV):Option Nat:=match o.op with | .store _ a _=>(match E a with | .lp s _=>some s|_=>none)|_=>none
def Fh_(o:Oper)(E:Operand->FV)(s:Nat):Bool:=match o.op with | .load _ a=>(match E a with | .lp s' _=>Nat.beq s' s|_=>false)|_=>false
def ug_(oi:Option Oper)(o:Oper)(E:Operand->FV):Bool:=match oi with
 |some oi=>(match hE_ oi E with|some s=>Fh_ o E s|none=>p4_ o E)
 |none=>p4_ o E
def n0_(W:List Nat):Nat->Nat
 |0=>0
 |j+1=>match (List.range j).all λi=>has (W.getD j 0) i with|true=>n0_ W j|false=>j+1
def jD_(ops:Array Oper)(i:Nat)(d:Bool)(f:Oper->Bool):Bool:=match ops[i]? with|some o=>f o|none=>d
def AZ_(p:Nat->Bool):List Nat->Option Nat
 |[]=>none
 |i::l=>match p i with|true=>some i|false=>AZ_ p l
def As_(i:Nat):List Nat->List Nat
 |[]=>[]
 |j::l=>match Nat.beq i j with|true=>l|false=>j::As_ i l
def JU_ (cx:Cx) (ops:Array Oper) (W:List Nat):Nat->Nat->List Nat->List Nat
 |0,_,_=>[]
 | n+1,done,rem=>match AZ_ (λi=>Nat.beq (W.getD i 0&&&done) (W.getD i 0)&&jD_ ops i false λo=> !dt_ cx o) rem with
  |some i=>i::JU_ cx ops W n (done|||2 ^ i) (As_ i rem)
  |none=>match AZ_ (λi=>Nat.beq (W.getD i 0&&&done) (W.getD i 0)) rem with
   |some i=>i::JU_ cx ops W n (done|||2 ^ i) (As_ i rem)
   |none=>[]
def mem(i:Nat):List Nat->Bool
 |[]=>false
 |j::l=>match Nat.beq i j with|true=>true|false=>mem i l
def xm_:List Nat->Bool
 |[]=>true
 |i::l=>match mem i l with|true=>false|false=>xm_ l
def split(cx:Cx)(ops:Array Oper)(W:List Nat)(i j:Nat):Bool:=jD_ ops i false (dt_ cx)&&jD_ ops j false (dt_ cx)&& !has (W.getD i 0) j&& !has (W.getD j 0) i
def FX_(cx:Cx)(ops:Array Oper)(W:List Nat)(i:Nat):List Nat->Bool
 |[]=>false
 |j::l=>split cx ops W i j&&(l.all λk=>has (W.getD k 0) i)&&l.all λk=>has (W.getD k 0) j
def nS_(cx:Cx)(ops:Array Oper)(W:List Nat):List Nat->Bool
 |[]=>true
 |i::l=>(match jD_ ops i false (dt_ cx) with|true=>(l.all λj=>has (W.getD j 0) i)||FX_ cx ops W i l|false=>true)&& !has (W.getD i 0) i&&l.all (λj=> !has (W.getD i 0) j)&&nS_ cx ops W l
def kH_(ops:Array Oper)(i:Nat):List Nat:=match ops[i]? with|some o=>(match o.dst with|some d=>[d]|none=>[])|none=>[]
def p9_(cx:Cx)(o:Oper):Bool:=match o.op with | .alloc _ | .box _ _=> !cx.isEsc o.dst|_=>false
def D9_(cx:Cx)(ops:Array Oper):List Nat->List Nat
 |[]=>[]
 |i::l=>match jD_ ops i false (p9_ cx) with|true=>kH_ ops i++D9_ cx ops l|false=>D9_ cx ops l
def hT_(o:Oper):Bool:=match o.op with | .store .. =>true|_=>false
def Jk_(o:Oper):Bool:=match o.dst with|none=>true|some _=>false
def Iz_(cx:Cx)(ops:Array Oper)(W:List Nat)(m:Nat)(al:List Nat)(i:Nat):Bool:=jD_ ops i false λo=>
 (o.looksAt ops).all λt=>(hT_ o|| !mem t al)&&(List.range m).all λj=>match mem t (kH_ ops j) with|true=>has (W.getD i 0) j||(jD_ ops j false (dt_ cx)&&has (W.getD j 0) i)|false=>true
def E5_(W:List Nat)(i:Nat)(o:Oper):Bool:=match o.guard with|some (g,_)=>has (W.getD i 0) g|none=>true
def IB_(i:Nat)(o:Oper):Bool:=o.after.toList.all λe=>match Region.binds .any e with|true=>Nat.blt e.on i|false=>true
def GS_(cx:Cx)(ops:Array Oper)(W:List Nat)(m:Nat)(σ al:List Nat):Bool:=
 (List.range m).all (λi=>mem i σ)&&σ.all (λi=>Nat.blt i m)&&Nat.ble m ops.size&&xm_ σ&&nS_ cx ops W σ&&xm_ ((List.range m).flatMap (kH_ ops))&&
 (List.range m).all (λi=>Iz_ cx ops W m al i&&jD_ ops i false λo=>(!hT_ o||Jk_ o)&&E5_ W i o&&match p9_ cx o with|true=>(kH_ ops i).all λd=>mem d al|false=>true)&&
 (List.range ops.size).all λi=>jD_ ops i false (IB_ i)&&(Nat.blt i m||(List.range i).all λj=>has (W.getD i 0) j)
def KP_:FV->Bool | .bx _=>false|_=>true
def Le_(al:List Nat)(d:Nat):FV->Bool | .bx _=>mem d al|_=>true
def mU_(fr:List FV):List Nat->Bool
 |[]=>true
 |d::al=>match lh_ d fr with|true=>mU_ fr al|false=>false
def D6_(al:List Nat)(dst:Option Nat)(v:FV)(fr:List FV)(K:List FV->Prop):Prop:=match dst with
 |none=>K fr
 |some d=>ck (KP_ (fr.getD d .bad)) <| ck (Le_ al d v) <| frc v λv=>wa_ fr d v λfr=>ck (mU_ fr al) (K fr)
def h6_ (ops:Array Oper) (fr:List FV) (g:Option (Nat × Bool)):Option Bool:=match g with
 |none=>some true
 |some (j,w)=>match (ops[j]?).bind (·.dst) with
  |some d=>match fr.getD d .bad with | .g (.bool b)=>some (b==w) | .und=>some false|_=>none
  |none=>none
def eqv(v v':FV)(x:Prop):Prop:=v=v'/\x
def H3_(fr:List FV):Option Nat->FV
 |some d=>fr.getD d .bad
 |none=> .bad
def reK (cx:Cx) (ops:Array Oper) (W:List Nat) (i:Nat) (H:Hp) (fr:List FV):List Nat->Prop->Prop
 |[],x=>x
 | j::js,x=>match ops[j]? with
  | some o=>match dt_ cx o||has (W.getD i 0) j|| !(ug_ ops[i]? o (ev fr)) with
   |true=>reK cx ops W i H fr js x
   |false=>match h6_ ops fr o.guard with
    |some true=>opE cx o (ev fr) (λs=>fr.getD s .bad) H λv' _=>frc v' λv'=>eqv (H3_ fr o.dst) v' (reK cx ops W i H fr js x)
    |_=>reK cx ops W i H fr js x
  |none=>reK cx ops W i H fr js x
def H1_(a b:Prop):Prop:=a/\b
def stp (cx:Cx) (ops:Array Oper) (W:List Nat) (al:List Nat) (i:Nat) (seen:List Nat) (fr:List FV) (H:Hp) (next:List FV->Hp->Prop):Prop:=match ops[i]? with
 |none=>False
 |some o=>t9_ ops fr o.guard
  (λfr=>opK cx o fr H λv fr H'=>D6_ al o.dst v fr λfr=>reK cx ops W i H' fr (match dt_ cx o with|true=>seen|false=>[]) (next fr H'))
  (λfr=>D6_ al o.dst .und fr λfr=>next fr H)
def goK (cx:Cx) (ops:Array Oper) (W:List Nat) (al:List Nat):List Nat->List Nat->List FV->Hp->(List FV->Hp->Prop)->Prop
 |[],_,fr,H,K=>K fr H
 |[i],seen,fr,H,K=>stp cx ops W al i seen fr H K
 | i::j::σ,seen,fr,H,K=>match split cx ops W i j with
  |true=>H1_ (stp cx ops W al i seen fr H λfr H=>stp cx ops W al j (i::seen) fr H λfr H=>goK cx ops W al σ (j::i::seen) fr H K)
   (stp cx ops W al j seen fr H λfr H=>stp cx ops W al i (j::seen) fr H λfr H=>goK cx ops W al σ (i::j::seen) fr H K)
  |false=>stp cx ops W al i seen fr H λfr H=>goK cx ops W al (j::σ) (i::seen) fr H K
def Lc_(cx:Cx)(ops:Array Oper)(W:List Nat)(m:Nat)(σ al:List Nat)(fr:List FV)(H:Hp)(K:List FV->Hp->Prop):Prop:=
 ck (GS_ cx ops W m σ al) <| ck (mU_ fr al) <| goK cx ops W al σ [] fr H λfr H=>qV_ cx ops (ops.toList.drop m) fr H K
def drK (cx:Cx) (ops:Array Oper) (fr:List FV) (H:Hp) (K:List FV->Hp->Prop):Prop:=
 Lc_ cx ops (ew_ ops) (n0_ (ew_ ops) ops.size) (JU_ cx ops (ew_ ops) ops.size 0 (List.range (n0_ (ew_ ops) ops.size)))
  (D9_ cx ops (List.range (n0_ (ew_ ops) ops.size))) fr H K
def JI_(cx:Cx)(dr:Array Oper->List FV->Hp->(List FV->Hp->Prop)->Prop)(ops:Array Oper)(d:Bool)(fr:List FV)(H:Hp)(K:List FV->Hp->Prop):Prop:=match d with
 |false=>qV_ cx ops ops.toList fr H K
 |true=>dr ops fr H K
def step (cx:Cx) (Q:Post) (dr:Array Oper->List FV->Hp->(List FV->Hp->Prop)->Prop) (rec:List Item->List FV->Hp->Prop) (go:List Item->List FV->Hp->Prop) (k:List Item) (fr:List FV) (H:Hp):Prop:=
 match k with
 |[] | .code .ret::_=>J6_ cx fr H Q
 | .code .skip::k | .code (.label _)::k | .inBlock _::k | .inScope _::k=>go k fr H
 | .code (.seq a b)::k=>go (.code a:: .code b::k) fr H
 | .code (.cond c a b)::k=>match ev fr c with
  | .g (.bool t)=>cq_ t (EU_ fr c true λfr=>go (.code a::k) fr H) (EU_ fr c false λfr=>go (.code b::k) fr H)
  |_=>False
 | .code (.block id b)::k=>go (.code b:: .inBlock id::k) fr H
 | .code (.loop b)::k | .inLoop b::k=>w9_ fr 0 ((cx.keep.lookup (nW_ b)).getD []) λfr=>rec (.inLoop b::k) fr H
 | .code (.scope b)::k=>go (.code b:: .inScope b::k) fr H
 | .code (.exit id)::k=>match zH_ id k with|some k=>go k fr H|none=>False
 | .code (.region i ops d)::k=>match cx.cut.lookup i with
  |some l=>w9_ fr 0 l λfr=>rec (.code (.region i ops d)::k) fr H
  |none=>JI_ cx dr ops d fr H λfr H=>go k fr H
 |_=>False
def gas:Nat:=100000
def walk(cx:Cx)(Q:Post)(rec:List Item->List FV->Hp->Prop):Nat->List Item->List FV->Hp->Prop:=
 λg=>Nat.rec (motive:=λ_=>List Item->List FV->Hp->Prop) (λ_ _ _=>False) (λ_ ih=>step cx Q (drK cx) rec ih) g
def Jv_(cx:Cx)(Q:Post)(ih:List Item->List FV->Hp->Prop)(k:List Item)(fr:List FV)(H:Hp):Prop:=match k with
 | .inLoop b::k=>walk cx Q ih gas (.code b:: .inLoop b::k) fr H
 | .code (.region _ ops d)::k=>JI_ cx (drK cx) ops d fr H λfr H=>walk cx Q ih gas k fr H
 |k=>walk cx Q ih gas k fr H
def I1_(cx:Cx)(Q:Post):Nat->List Item->List FV->Hp->Prop:=
 λn=>Nat.rec (motive:=λ_=>List Item->List FV->Hp->Prop) (λ_ _ _=>False) (λ_ ih k fr H=>Jv_ cx Q ih k fr H) n
def ar_(cx:Cx)(f:Func)(n:Nat)(as:List FV)(H:Hp)(Q:Post):Prop:=
 match f.body with
 |some c=>I1_ cx Q n [.code c] (as++List.replicate (f.ntmps-as.length) .bad) H
 |none=>False
def aS_(cx:Cx)(f:Func)(id:Nat)(n:Nat)(fr:List FV)(H:Hp)(Q:Post):Prop:=
 match f.body with
 |some c=>match oA_ id c [] with|some k=>I1_ cx Q n k fr H|none=>False
 |none=>False
def cW_(l:List (Nat × Sm)):Nat->Sm:=λf=>match l.lookup f with|some s=>s|none=>λ_ _ _=>False
def av_:Nat->Sm:=λ_ _ _ _=>False
def B(n:Nat)(l:List FV):List FV:=List.replicate n .bad++l
end Go.Am
namespace Go.Am
open List
structure LI where
 b:Nat
 p:Nat
 own:Bool
 u:Nat
 s:Nat
def pL_(φ:List LI)(p:Nat × Nat)(x:Value):Prop:=∃i,φ[p.1]?=some i/\x= .pointer (some ⟨i.b,i.p+p.2,none⟩)
inductive cA_{α β:Type}(R:α->β->Prop):List α->List β->Prop
 |nil:cA_ R [] []
 |cons {a b as bs}:R a b->cA_ R as bs->cA_ R (a::as) (b::bs)
def GV.is(φ:List LI):GV->Value->Prop
 | .bool b,x=>x= .bool b
 | .int k n,x=>x= .int k n
 | .str s,x=>x= .string s
 | .ptr none,x=>x= .pointer none
 | .ptr (some p),x=>pL_ φ p x
 | .sl none n _,x=>n=0/\x= .slice none 0 0
 | .sl (some (l,o)) n z,x=>∃i ad c,φ[l]?=some i/\x= .slice (some ad) n c/\(ad=⟨i.b,i.p+o,none⟩\/c=0)/\n<=c/\i.u<=o+c*z/\(i.own=true->i.p=0/\o+c*z<=i.s/\c<=9223372036854775807)
 | .map none,x=>x= .map none
 | .map (some l),x=>∃i,φ[l]?=some i/\x= .map (some i.b)
 | .fn f caps,x=>∃xs:List Value,x= .func (.func f) #[] xs.toArray/\cA_ (pL_ φ) caps xs
 | .nilfn,x=>x= .nilFunc
 | .iface t v,x=>∃y,x= .iface t y/\v.is φ y
 | .nilif,x=>x= .nilIface
abbrev Is2(φ:List LI):=cA_ (GV.is φ)
def RV.is(φ:List LI):RV->Value->Prop
 | .s v,x=>v.is φ x
 | .a cs,x=>∃us:Array Value,x= .agg us/\Is2 φ cs us.toList
def FV.is(φ:List LI):FV->Value->Prop
 | .g v,x=>v.is φ x
 | .agg cs,x=>∃us:Array Value,x= .agg us/\Is2 φ cs us.toList
 | .tup vs,x=>∃us:Array Value,x= .tuple us/\cA_ (RV.is φ) vs us.toList
 |_,_=>False
section cA_
variable{α β:Type}{R S:α->β->Prop}
theorem cA_.length(h:cA_ R as bs):as.length=bs.length:=by
 induction h with
 |nil=>rfl
 |cons _ _ f=>simp[f]
def cA_.imp(f:∀a b,R a b->S a b)(h:cA_ R as bs):cA_ S as bs:=by
 induction h with
 |nil=>exact .nil
 |cons h _ g=>exact .cons (f _ _ h) g
theorem cA_.get (h:cA_ R as bs):∀{j:Nat}{a:α},as[j]?=some a->∃b,bs[j]?=some b/\R a b:=by
 induction h with
 |nil=>intro j a h;simp at h
 |cons h _ g=>
  intro j a f;cases j with
  |zero=>simp at f;subst f;exact⟨_,t_,h⟩
  |succ j=>exact g f
def cA_.append(h:cA_ R as bs)(g:cA_ R as' bs'):cA_ R (as++as') (bs++bs'):=by
 induction h with
 |nil=>exact g
 |cons h _ f=>exact .cons h f
theorem cA_.take (h:cA_ R as bs):∀n,cA_ R (as.take n) (bs.take n):=by
 induction h with
 |nil=>simp;exact .nil
 |cons h _ f=>intro n;cases n with
  |zero=>exact .nil
  |succ n=>exact .cons h (f n)
theorem cA_.drop (h:cA_ R as bs):∀n,cA_ R (as.drop n) (bs.drop n):=by
 induction h with
 |nil=>simp;exact .nil
 |cons h g f=>intro n;cases n with
  |zero=>exact .cons h g
  |succ n=>exact f n
theorem cA_.set (h:cA_ R as bs) (f:R a b):∀n,cA_ R (as.set n a) (bs.set n b):=by
 induction h with
 |nil=>intro n;exact .nil
 |cons h j g=>intro n;cases n with
  |zero=>exact .cons f j
  |succ n=>exact .cons h (g n)
theorem cA_.replicate(h:R a b):∀n,cA_ R (replicate n a) (replicate n b)
 |0=> .nil
 |n+1=> .cons h (cA_.replicate h n)
def cA_.cons_inv(h:cA_ R (a::as) bs):∃b f,bs=b::f/\R a b/\cA_ R as f:=by
 cases h with
 |cons h g=>exact⟨_,_,rfl,h,g⟩
theorem cA_.nil_inv(h:cA_ R [] bs):bs=[]:=by cases h;rfl
def cA_.of_get:∀{bs:List β},f.length=bs.length->(∀(j:Nat)(a:α)(b:β),f[j]?=some a->bs[j]?=some b->R a b)->cA_ R f bs:=by
 induction f with
 |nil=>intro bs h _;cases bs with
  |nil=>exact .nil
  |cons=>simp at h
 |cons a f m=>intro bs h g;cases bs with
  |nil=>simp at h
  |cons b bs=>exact .cons (g 0 a b t_ t_) (m g_ λj a b q r=>g (j+1) a b g_ g_)
end cA_
def kF_(h:φ<+:φ'){l:Nat}{i:LI}(f:φ[l]?=some i):φ'[l]?=some i:=by
 obtain⟨r,rfl⟩:=h;grind
theorem pL_.mono(h:φ<+:φ'):pL_ φ p x->pL_ φ' p x
 |⟨i,f,g⟩=>⟨i,kF_ h f,g⟩
theorem GV.is.mono(h:φ<+:φ'):∀{v:GV}{x:Value},v.is φ x->v.is φ' x
 | .bool _,_,f | .int _ _,_,f | .str _,_,f | .ptr none,_,f | .sl none _ _,_,f | .nilfn,_,f | .nilif,_,f | .map none,_,f=>f
 | .ptr (some _),_,f=>pL_.mono h f
 | .sl (some (_,_)) _ _,_,⟨i,q,c,j,r⟩=>⟨i,q,c,kF_ h j,r⟩
 | .map (some _),_,⟨i,j,g⟩=>⟨i,kF_ h j,g⟩
 | .fn _ _,_,⟨A,g,C⟩=>⟨A,g,C.imp λ_ _=>pL_.mono h⟩
 | .iface _ _,_,⟨y,g,m⟩=>⟨y,g,GV.is.mono h m⟩
theorem Is2.mono(h:φ<+:φ')(f:Is2 φ cs xs):Is2 φ' cs xs:=f.imp λ_ _=>GV.is.mono h
theorem RV.is.mono(h:φ<+:φ'){v:RV}(f:v.is φ x):v.is φ' x:=by
 cases v with
 |s v=>exact GV.is.mono h f
 |a q=>have⟨g,m,j⟩:=f;exact⟨g,m,Is2.mono h j⟩
def j8_(φ:List LI)(w:World)(own:Bool)(t:TypeId)(cs:List GV)(i:LI):Prop:=
 i.own=own/\i.u=cs.length/\i.b<w.heap.size/\
 match own with
 |true=>i.p=0/\∃c t' fz,w.heap[i.b]?=some (.cells c t' fz)/\(0<i.s->t'=t)/\c.size=i.s/\(∀j,fz.1<=j->j<fz.2->i.s<=j/\(Eq_ t'=false->i.s<j))/\cs.length<=c.size/\Is2 φ cs (c.toList.take cs.length)
 |false=>(∀j v,cs[j]?=some v->∃x,w.cell? ⟨i.b,i.p+j,none⟩=some x/\v.is φ x)/\(t=mV_->i.p=0/\∃c e,w.heap[i.b]?=some (.cells c e (0,0)))
def gN_(φ:List LI)(e:Ent)(x:MapEntry):Prop:=x.born=e.1/\RV.is φ e.2.1 x.key/\RV.is φ e.2.2 x.val
def I8_(φ:List LI)(w:World)(es:List Ent)(clock:Nat)(i:LI):Prop:=
 i.b<w.heap.size/\∃xs:Array MapEntry,w.heap[i.b]?=some (.map xs clock)/\cA_ (gN_ φ) es xs.toList
def J1_(φ:List LI)(w:World)(m:Option Nat)(since:Nat)(seen:List Nat)(last:Nat)(i:LI):Prop:=
 i.b<w.heap.size/\i.p=0/\match m with
 |none=>w.heap[i.b]?=some (.mapIter none since seen.toArray last)
 |some l=>∃j,φ[l]?=some j/\w.heap[i.b]?=some (.mapIter (some j.b) since seen.toArray last)
def mz_(φ:List LI)(w:World)(i:LI):Obj->Prop
 | .row own t cs=>j8_ φ w own t cs i
 | .map es clock=>I8_ φ w es clock i
 | .iter m since seen last=>J1_ φ w m since seen last i
 | .dead=>True
def Obj.live:Obj->Bool
 | .dead=>false
 |_=>true
def Obj.mut(i:LI):Obj->Prop
 | .row own _ _=>own=true/\0<i.s
 | .dead=>False
 |_=>True
def Obj.mut.live{o:Obj}(h:o.mut i):o.live=true:=by cases o<;>first|rfl|exact h.elim
structure cX_(φ:List LI)(H:Hp)(w:World):Prop where
 len:φ.length=H.length
 obj:∀(l:Nat)(o:Obj),H[l]?=some o->o.live=true->∃i,φ[l]?=some i/\mz_ φ w i o
 apart:∀(l l':Nat)(o o':Obj)(i i':LI),H[l]?=some o->H[l']?=some o'->o'.live=true->l≠l'->φ[l]?=some i->φ[l']?=some i'->o.mut i->i.b≠i'.b
theorem cX_.row(h:cX_ φ H w)(l:Nat)(own:Bool)(t:TypeId)(cs:List GV)(f:H[l]?=some (Obj.row own t cs)):∃i,φ[l]?=some i/\j8_ φ w own t cs i:=h.obj l _ f rfl
def cX_.rows(h:cX_ φ H w)(l g:Nat)(t:TypeId)(cs:List GV)(f:Bool)(t':TypeId)(cs':List GV)(i i':LI)(q:H[l]?=some (Obj.row true t cs))(r:H[g]?=some (Obj.row f t' cs'))(y:l≠g)(A:φ[l]?=some i)(j:φ[g]?=some i')(m:0<i.s):i.b≠i'.b:=
 h.apart l g _ _ i i' q r rfl y A j ⟨rfl,m⟩
def hN_(φ:List LI)(H:Hp)(b:Nat):Prop:=∃(l:Nat)(o:Obj)(i:LI),H[l]?=some o/\φ[l]?=some i/\i.b=b/\o.mut i
def iz_(φ:List LI)(H:Hp)(b:Nat):Prop:=∃(l:Nat)(o:Obj)(i:LI),H[l]?=some o/\o.live=true/\φ[l]?=some i/\i.b=b
theorem hN_.row{φ:List LI}{H:Hp}{b:Nat}:hN_ φ H b->iz_ φ H b|⟨l,o,i,h1,h2,h3,h4⟩=>⟨l,o,i,h1,h4.live,h2,h3⟩
def hN_.of{l:Nat}(f:H[l]?=some (Obj.row true t cs))(j:φ[l]?=some i)(g:0<i.s):hN_ φ H i.b:=⟨l,_,i,f,j,rfl,rfl,g⟩
def iz_.of{l:Nat}(f:H[l]?=some (Obj.row own t cs))(g:φ[l]?=some i):iz_ φ H i.b:=⟨l,_,i,f,rfl,g,rfl⟩
structure d6_(own:Nat->Prop)(w w':World):Prop where
 os:w'.os=w.os
 tape:w'.tape=w.tape
 output:w'.output=w.output
 size:w.heap.size<=w'.heap.size
 block:∀b,b<w.heap.size-> ¬ own b->w'.heap[b]?=w.heap[b]?
def d6_.refl(own:Nat->Prop)(w:World):d6_ own w w:=⟨rfl,rfl,rfl,kO _,λ_ _ _=>rfl⟩
theorem d6_.trans (h:d6_ own w w') (f:d6_ own' w' w'') (q:∀b,own' b->own b\/w.heap.size<=b):d6_ own w w'':=
 ⟨f.os.trans h.os,f.tape.trans h.tape,f.output.trans h.output,Nat.le_trans h.size f.size,λb j m=>by
  refine (f.block b (Nat.lt_of_lt_of_le j h.size) λg=>?_).trans (h.block b j m);rcases q b g with h1|h1
  .grind
  .omega⟩
structure bS_(φ:List LI)(H:Hp)(w:World)(φ':List LI)(H':Hp)(w':World):Prop where
 pre:φ<+:φ'
 rep:cX_ φ' H' w'
 keeps:d6_ (hN_ φ H) w w'
 own:∀b,hN_ φ' H' b->hN_ φ H b\/w.heap.size<=b
 row:∀b,iz_ φ' H' b->iz_ φ H b\/w.heap.size<=b
def bS_.refl(h:cX_ φ H w):bS_ φ H w φ H w:=⟨k8 _,h,d6_.refl _ _,λ_ h=> .inl h,λ_ h=> .inl h⟩
theorem bS_.trans (h:bS_ φ H w φ' H' w') (f:bS_ φ' H' w' φ'' H'' w''):bS_ φ H w φ'' H'' w'' where
 pre:=h.pre.trans f.pre
 rep:=f.rep
 keeps:=h.keeps.trans f.keeps h.own
 own b hb:=by
  rcases f.own b hb with h1|h1
  .exact h.own b h1
  .exact .inr (Nat.le_trans h.keeps.size h1)
 row b hb:=by
  rcases f.row b hb with h1|h1
  .exact h.row b h1
  .exact .inr (Nat.le_trans h.keeps.size h1)
def an_ (P:Program) (f:FuncId) (s:Sm):Prop:=
 ∀as H Q,s as H Q->∀φ w vs,cX_ φ H w->cA_ (FV.is φ) as vs->
  Calls P f vs.toArray w λe w'=>∃r H' φ' x,Q r H'/\e= .returned x/\r.is φ' x/\bS_ φ H w φ' H' w'
end Go.Am
namespace Go.Am
variable{φ:List LI}{H:Hp}{w:World}
theorem go_(h:w.heap[b]?=some (.cells c t fz)):w.cell? ⟨b,j,none⟩=c[j]? :=cell_of_row w b j c t fz h
theorem cX_.lt(h:cX_ φ H w)(f:H[l]?=some (.row own t cs)):l<φ.length:=by
 rw[h.len];grind
theorem cX_.get (h:cX_ φ H w) (j:gt H l o=some v):∃i x,φ[l]?=some i/\w.cell? ⟨i.b,i.p+o,none⟩=some x/\v.is φ x:=by
 unfold gt at j;split at j
 ·rename_i g t A D;have⟨i,y,I,R,L,r⟩:=h.row l g t A D;cases g with
  |false=>have⟨x,q,f⟩:=r.1 o v j;exact⟨i,x,y,q,f⟩
  |true=>
   have⟨C,c,N,O,F,_,J,Q,G,m⟩:=r;have⟨x,q,f⟩:=m.get j;refine⟨i,x,y,?_,f⟩;rw[C,kN,go_ F];grind
 .grind
theorem cX_.cells (h:cX_ φ H w) {l o n:Nat} {cs:List GV} (g:cells? H (some (l,o)) n=some cs):
 ∃i,φ[l]?=some i/\cs.length=n/\∃xs:List Value,Is2 φ cs xs/\∀j x,xs[j]?=some x->w.cell? ⟨i.b,i.p+o+j,none⟩=some x:=by
 unfold cells? at g;simp at g;split at g
 ·rename_i r t R F;split at g
  ·have f:cs.length=n:=by grind
   obtain⟨i,Q,_⟩:=h.row l r t R F;refine⟨i,Q,f,?_⟩;have L:∀j v,cs[j]?=some v->∃x,w.cell? ⟨i.b,i.p+o+j,none⟩=some x/\v.is φ x:=by
    intro j v J;have:gt H l (o+j)=some v:=by
     unfold gt;rw[F];grind
    obtain⟨T,x,I,C,O⟩:=h.get this;grind
   clear g f;have:∀cs d,(∀j v,cs[j]?=some v->∃x,w.cell? ⟨i.b,i.p+o+(d+j),none⟩=some x/\v.is φ x)->
    ∃xs:List Value,Is2 φ cs xs/\∀j x,xs[j]?=some x->w.cell? ⟨i.b,i.p+o+(d+j),none⟩=some x:=by
    intro cs;induction cs with
    |nil=>intro d _;exact⟨[],.nil,t_⟩
    |cons c cs N=>
     intro d D;obtain⟨x,C,m⟩:=D 0 c t_;obtain⟨xs,q,A⟩:=N (d+1) (λj v J=>by have:=D (j+1) v (by simpa);rwa [(o_:d+1+j=d+(j+1))]);refine⟨x::xs,.cons m q,?_⟩;intro j y G;cases j with
     |zero=>simp at G;subst G;exact C
     |succ j=>have:=A j y (by simpa);rwa [(o_:d+(j+1)=d+1+j)]
   obtain⟨xs,q,A⟩:=this cs 0 (a_);exact⟨xs,q,u_ A⟩
  .simp at g
 .simp at g
theorem j8_.keep (h:j8_ φ w own t cs i) (m:w'.heap[i.b]?=w.heap[i.b]?) (G:w.heap.size<=w'.heap.size):j8_ φ w' own t cs i:=by
 have⟨A,C,F,g⟩:=h;refine⟨A,C,o_,?_⟩;cases own with
 |true=>
  grind
 |false=>
  refine⟨λj v y=>?_,λq=>⟨(g.2 q).1,g_⟩⟩;have⟨x,r,D⟩:=g.1 j v y;exact⟨x,by rw[World.cell?_of_block (w':=w') m];exact r,D⟩
theorem j8_.mono (y:φ<+:φ') (h:j8_ φ w own t cs i):j8_ φ' w own t cs i:=by
 have⟨C,Q,I,f⟩:=h;refine⟨C,Q,I,?_⟩;cases own with
 |true=>
  have⟨g,c,J,L,G,r,D,N,q,m⟩:=f;exact⟨g,c,J,L,G,r,D,N,q,Is2.mono y m⟩
 |false=>
  refine⟨λj v F=>?_,f.2⟩;have⟨x,A,O⟩:=f.1 j v F;exact⟨x,A,GV.is.mono y O⟩
theorem gN_.mono(f:φ<+:φ')(h:gN_ φ e x):gN_ φ' e x:=⟨h.1,RV.is.mono f h.2.1,RV.is.mono f h.2.2⟩
theorem mz_.keep (h:mz_ φ w i o) (A:w'.heap[i.b]?=w.heap[i.b]?) (I:w.heap.size<=w'.heap.size):mz_ φ w' i o:=by
 cases o with
 |row J t N=>exact j8_.keep h A I
 |map Q g=>have⟨G,F,D,f⟩:=h;exact⟨o_,F,g_,f⟩
 |iter m r C y=>
  have⟨G,D,f⟩:=h;refine⟨o_,D,?_⟩;cases m with
  |none=>rw[<-f,A]
  |some l=>have⟨j,L,O⟩:=f;exact⟨j,L,g_⟩
 |dead=>trivial
theorem mz_.mono (g:φ<+:φ') (h:mz_ φ w i o):mz_ φ' w i o:=by
 cases o with
 |row I t N=>exact j8_.mono g h
 |map O y=>have⟨r,G,C,f⟩:=h;exact⟨r,G,C,f.imp λ_ _=>gN_.mono g⟩
 |iter m A F D=>
  have⟨r,C,f⟩:=h;refine⟨r,C,?_⟩;cases m with
  |none=>exact f
  |some l=>have⟨j,J,L⟩:=f;exact⟨j,kF_ g J,L⟩
 |dead=>trivial
theorem mz_.lt(h:mz_ φ w i o)(r:o.live=true):i.b<w.heap.size:=by
 cases o with
 |row y t A=>exact h.2.2.1
 |map C g=>exact h.1
 |iter m f j q=>exact h.1
 |dead=>cases r
def cX_.blockLt(h:cX_ φ H w)(j:iz_ φ H b):b<w.heap.size:=by
 obtain⟨l,o,i,q,g,r,rfl⟩:=j;have⟨y,f,m⟩:=h.obj l o q g;rw[r]at f;cases f;exact m.lt g
def fM_{α:Type}{xs:List α}{x y:α}(h:(xs++[x])[l]?=some y):(l<xs.length/\xs[l]?=some y)\/(l=xs.length/\x=y):=by
 grind
def cX_.snocO (h:cX_ φ H w) {w':World} (hs:w.heap.size<=w'.heap.size) (Y:∀b,iz_ φ H b->w'.heap[b]?=w.heap[b]?) {i:LI} (hi:mz_ (φ++[i]) w' i o)
 (ha:o.mut i-> ¬ iz_ φ H i.b) (V: ¬ hN_ φ H i.b):
 cX_ (φ++[i]) (H++[o]) w'/\(∀b,hN_ (φ++[i]) (H++[o]) b->hN_ φ H b\/(o.mut i/\b=i.b))/\(∀b,iz_ (φ++[i]) (H++[o]) b->iz_ φ H b\/b=i.b):=by
 have m:φ<+:φ++[i]:=List.prefix_append _ _;have D:∀{l:Nat}{j:LI},(φ++[i])[l]?=some j->(l<φ.length/\φ[l]?=some j)\/(l=φ.length/\i=j):=λh=>fM_ h;have r:=h.len;refine⟨⟨by simp[r],?_,?_⟩,?_,?_⟩
 .intro l o' y ho;rcases fM_ y with⟨R,g⟩|⟨rfl,g⟩
  .have⟨i',F,hr⟩:=h.obj l o' g ho;refine⟨i',kF_ m F,(hr.keep (Y _ ⟨l,o',i',g,ho,F,rfl⟩) hs).mono m⟩
  .cases g;exact⟨i,by rw[<-r];simp,hi⟩
 ·intro l Q C o2 L I y U O Z W G f;rcases fM_ y with⟨R,g⟩|⟨e1,g⟩<;>rcases fM_ U with⟨h1',A⟩|⟨e1',A⟩
  .have J:φ[l]?=some L:=by grind
   have N:φ[Q]?=some I:=g_
   exact h.apart l Q C o2 L I g A O Z J N f
  .have J:φ[l]?=some L:=by grind
   have N:i=I:=by rcases D G with⟨q,_⟩|⟨_,q⟩;omega;exact q
   subst N;exact λe=>V ⟨l,C,L,g,J,e,f⟩
  .have J:i=L:=by rcases D W with⟨q,_⟩|⟨_,q⟩;omega;exact q
   have N:φ[Q]?=some I:=by rcases D G with⟨_,q⟩|⟨q,_⟩;exact q;omega
   subst J;cases g;exact λe=>ha f ⟨Q,o2,I,A,O,N,e.symm⟩
  .omega
 ·intro b ⟨l,C,j,y,T,X,f⟩;rcases fM_ y with⟨R,g⟩|⟨e1,g⟩
  .rcases D T with⟨_,q⟩|⟨q,_⟩
   .exact .inl ⟨l,C,j,g,q,X,f⟩
   .omega
  .grind
 ·intro b ⟨l,C,j,y,O,T,X⟩;rcases fM_ y with⟨R,g⟩|⟨e1,g⟩
  .rcases D T with⟨_,q⟩|⟨q,_⟩
   .exact .inl ⟨l,C,j,g,O,q,X⟩
   .omega
  .grind
def cX_.snoc(h:cX_ φ H w)(A:w.heap.size<=w'.heap.size)(f:∀b,iz_ φ H b->w'.heap[b]?=w.heap[b]?)(C:j8_ (φ++[i]) w' own t cs i)
 (j:own=true->0<i.s-> ¬ iz_ φ H i.b) (g: ¬ hN_ φ H i.b):
 cX_ (φ++[i]) (H++[.row own t cs]) w'/\(∀b,hN_ (φ++[i]) (H++[.row own t cs]) b->hN_ φ H b\/(own=true/\b=i.b/\0<i.s))/\(∀b,iz_ (φ++[i]) (H++[.row own t cs]) b->iz_ φ H b\/b=i.b):=by
 have⟨y,r,m⟩:=h.snocO (o:= .row own t cs) A f C (λq=>j q.1 q.2) g;exact⟨y,λb q=>(r b q).imp_right λz=>⟨z.1.1,z.2,z.1.2⟩,m⟩
def bS_.snocO(h:cX_ φ H w)(m:d6_ (hN_ φ H) w w')(g:∀b,iz_ φ H b->w'.heap[b]?=w.heap[b]?)(C:mz_ (φ++[i]) w' i o)
 (f:w.heap.size<=i.b):bS_ φ H w (φ++[i]) (H++[o]) w':=by
 have j: ¬ iz_ φ H i.b:=λq=>h_ (h.blockLt q)
 have⟨A,y,r⟩:=h.snocO m.size g C (λ_=>j) λq=>j q.row;exact⟨List.prefix_append _ _,A,m,λb q=>(y b q).imp_right λq=>o_,λb q=>(r b q).imp_right λq=>by rw[q];exact f⟩
def bS_.snoc(h:cX_ φ H w)(j:d6_ (hN_ φ H) w w')(g:∀b,iz_ φ H b->w'.heap[b]?=w.heap[b]?){own:Bool}(m:j8_ (φ++[i]) w' own t cs i)
 (f:w.heap.size<=i.b):bS_ φ H w (φ++[i]) (H++[.row own t cs]) w':=bS_.snocO h j g m f
def gT_(own:Nat->Prop)(w:World)(o:Go.Obj):d6_ own w (w.alloc o):=
 ⟨rfl,rfl,rfl,t_,λb g _=>heap_alloc_old w o b g⟩
def l2_(own:Nat->Prop)(w:World):d6_ own w w.drew:=⟨rfl,rfl,rfl,kO _,λ_ _ _=>rfl⟩
def bS_.new (h:cX_ φ H w) (t:TypeId) (cs:List GV) (c:Array Value) (g:Nat × Nat) (m:cs.length<=c.size) (q:Is2 φ cs (c.toList.take cs.length)) (y:∀j,g.1<=j->j<g.2->c.size<=j/\(Eq_ t=false->c.size<j)):
 bS_ φ H w (φ++[⟨w.heap.size,0,true,cs.length,c.size⟩]) (H++[.row true t cs]) (w.alloc (.cells c t g)):=
 bS_.snoc h (gT_ _ _ _) (λb r=>heap_alloc_old w _ b (h.blockLt r))
  ⟨rfl,rfl,t_,rfl,c,t,g,heap_alloc_new w _,λ_=>rfl,rfl,y,m,Is2.mono (List.prefix_append _ _) q⟩ (kO _)
theorem bS_.drew(h:cX_ φ H w):bS_ φ H w φ H w.drew:=
 ⟨k8 _,⟨h.len,λl o f m=>by have⟨i,g,j⟩:=h.obj l o f m;exact⟨i,g,j.keep rfl (kO _)⟩,h.apart⟩,l2_ _ _,λ_ h=> .inl h,λ_ h=> .inl h⟩
def es_{α:Type}{xs:List α}{x y:α}(h:(xs.set l x)[l']?=some y):(l'=l/\y=x)\/(l'≠l/\xs[l']?=some y):=by
 grind
def bS_.turnO (h:cX_ φ H w) (V:H[l]?=some o) (hv:o.live=true) (hv':o'.live=true) (Q:φ[l]?=some i) (X:o.mut i) (hm':o'.mut i)
 (C:d6_ (λb=>b=i.b) w w') (hr:mz_ φ w' i o'):bS_ φ H w φ (H.set l o') w':=by
 have y:hN_ φ H i.b:=⟨l,o,i,V,Q,rfl,X⟩;refine⟨k8 _,⟨by simp[h.len],?_,?_⟩,⟨C.os,C.tape,C.output,C.size,λb G hn=>C.block b G λe=>hn (e▸y)⟩,?_,?_⟩
 .intro F r f g;rcases es_ f with⟨rfl,e⟩|⟨D,f⟩
  .grind
  .have⟨L,A,O⟩:=h.obj F r f g;exact⟨L,A,O.keep (C.block _ (h.blockLt ⟨F,r,L,f,g,A,rfl⟩) λe=>h.apart l F o r i L V f g (λq=>D q.symm) Q A X e.symm) C.size⟩
 ·intro W Y r o2 Z i2 hl1 hl2 hv2 D T N J;have R:∃o,H[W]?=some o/\o.mut Z:=by
   grind
  have U:∃o,H[Y]?=some o/\o.live=true:=by
   grind
  have⟨_,R,m1⟩:=R;have⟨_,U,v2⟩:=U;exact h.apart W Y _ _ Z i2 R U v2 D T N m1
 .intro b ⟨F,r,j,f,I,G,J⟩;rcases es_ f with⟨rfl,e⟩|⟨_,q⟩
  .grind
  .exact .inl ⟨F,r,j,q,I,G,J⟩
 .intro b ⟨F,r,j,f,g,I,G⟩;rcases es_ f with⟨rfl,e⟩|⟨_,q⟩
  .rw[Q]at I;cases I;exact .inl (G▸y.row)
  .exact .inl ⟨F,r,j,q,g,I,G⟩
def bS_.turn(h:cX_ φ H w)(j:H[l]?=some (.row true t cs))(m:φ[l]?=some i)(f:0<i.s)
 (g:d6_ (λb=>b=i.b) w w') (q:j8_ φ w' true t cs' i):bS_ φ H w φ (H.set l (.row true t cs')) w':=
 bS_.turnO h j rfl rfl m ⟨rfl,f⟩ ⟨rfl,f⟩ g q
theorem bS_.drop (h:cX_ φ H w) (l:Nat):bS_ φ H w φ (H.set l .dead) w:=by
 have o:∀{g:Nat}{o:Obj},(H.set l .dead)[g]?=some o->o.live=true->H[g]?=some o:=by
  intro g o m r;rcases es_ m with⟨_,e⟩|⟨_,q⟩
  .cases e;cases r
  .exact q
 exact⟨k8 _,⟨by simp[h.len],λg y m r=>h.obj g y (o m r) r,λD G F A I C a b r c d e f=>h.apart D G F A I C (o a f.live) (o b r) r c d e f⟩,
  d6_.refl _ _,λb ⟨g,y,j,a,c,d,e⟩=> .inl ⟨g,y,j,o a e.live,c,d,e⟩,λb ⟨g,y,j,a,v,c⟩=> .inl ⟨g,y,j,o a v,v,c⟩⟩
def bS_.pass (h:cX_ φ H w) {t t':TypeId} {cs cs':List GV} (hl:H[l]?=some (.row true t cs)) (hi:φ[l]?=some i) (y:0<i.s) (X:i'.b=i.b)
 (Q:d6_ (λb=>b=i.b) w w') (hr:j8_ (φ++[i']) w' true t' cs' i'):bS_ φ H w (φ++[i']) (H.set l .dead++[.row true t' cs']) w':=by
 have L:hN_ φ H i.b:= .of hl hi y;have A:φ<+:φ++[i']:=List.prefix_append _ _;have N:=h.len;have C:∀{l:Nat}{j:LI},(φ++[i'])[l]?=some j->(l<φ.length/\φ[l]?=some j)\/(l=φ.length/\i'=j):=λh=>fM_ h;have o:∀{r:Nat}{o:Obj},(H.set l .dead)[r]?=some o->o.live=true->r≠l/\H[r]?=some o:=by
  intro r o f J;rcases es_ f with⟨_,e⟩|⟨n,q⟩
  .cases e;cases J
  .grind
 have hsl:(H.set l .dead).length=φ.length:=by simp[N]
 refine⟨A,⟨by simp[N],?_,?_⟩,⟨Q.os,Q.tape,Q.output,Q.size,λb X hn=>Q.block b X λe=>hn (e▸L)⟩,?_,?_⟩
 .intro r D f J;rcases fM_ f with⟨h1,m⟩|⟨e1,m⟩
  .have⟨U,h3⟩:=o m J;have⟨j,G,hr'⟩:=h.obj r D h3 J;exact⟨j,kF_ A G,(hr'.keep (Q.block _ (h.blockLt ⟨r,D,j,h3,J,G,rfl⟩) λe=>h.apart l r _ D i j hl h3 J (λq=>U q.symm) hi G ⟨rfl,y⟩ e.symm) Q.size).mono A⟩
  .cases m;exact⟨i',by rw[e1,hsl];simp,hr⟩
 ·intro l1 l2 D o2 Y V hl1 hl2 I U T O g;rcases fM_ hl1 with⟨h1,m⟩|⟨e1,m⟩<;>rcases fM_ hl2 with⟨h1',R⟩|⟨e1',R⟩
  .have⟨n1,q1⟩:=o m g.live;have⟨n2,q2⟩:=o R I;have W:φ[l1]?=some Y:=by rcases C T with⟨_,q⟩|⟨q,_⟩;exact q;omega
   have Z:φ[l2]?=some V:=by rcases C O with⟨_,q⟩|⟨q,_⟩;exact q;omega
   exact h.apart l1 l2 D o2 Y V q1 q2 I U W Z g
  .have⟨n1,q1⟩:=o m g.live;have W:φ[l1]?=some Y:=by rcases C T with⟨_,q⟩|⟨q,_⟩;exact q;omega
   have Z:i'=V:=by rcases C O with⟨q,_⟩|⟨_,q⟩;omega;exact q
   subst Z;rw[X];exact λe=>h.apart l1 l D _ Y i q1 hl rfl n1 W hi g e
  .have⟨n2,q2⟩:=o R I;have Z:φ[l2]?=some V:=by rcases C O with⟨_,q⟩|⟨q,_⟩;exact q;omega
   have W:i'=Y:=by rcases C T with⟨q,_⟩|⟨_,q⟩;omega;exact q
   subst W;rw[X];exact h.apart l l2 _ o2 i V hl q2 I (λq=>n2 q.symm) hi Z ⟨rfl,y⟩
  .omega
 ·intro b ⟨r,D,j,f,G,F,g⟩;rcases fM_ f with⟨h1,m⟩|⟨e1,m⟩
  .rcases C G with⟨_,q⟩|⟨q,_⟩
   .exact .inl ⟨r,D,j,(o m g.live).2,q,F,g⟩
   .omega
  .rcases C G with⟨q,_⟩|⟨_,q⟩
   .omega
   .grind
 ·intro b ⟨r,D,j,f,J,G,F⟩;rcases fM_ f with⟨h1,m⟩|⟨e1,m⟩
  .rcases C G with⟨_,q⟩|⟨q,_⟩
   .exact .inl ⟨r,D,j,(o m J).2,J,q,F⟩
   .omega
  .rcases C G with⟨q,_⟩|⟨_,q⟩
   .omega
   .subst q;exact .inl (F▸X▸L.row)
end Go.Am
namespace Go.Am
open List
def s7_(fr:List FV)(lam:Nat->Nat)(b:Nat):Prop:=∃s cs,fr[s]?=some (.bx cs)/\lam s=b
def VOK(n0:Nat)(φ:List LI)(H:Hp)(lam:Nat->Nat)(fr:List FV)(w:World):FV->Value->Prop
 | .g v,u=>v.is φ u
 | .agg cs,u=>∃us:Array Value,u= .agg us/\Is2 φ cs us.toList
 | .tup vs,u=>∃us:Array Value,u= .tuple us/\cA_ (RV.is φ) vs us.toList
 | .lp s o,u=>u= .pointer (some ⟨lam s,o,none⟩)
 | .bs cs n z,u=>∃b c t fz,u= .slice (some ⟨b,0,none⟩) n n/\n0<=b/\w.heap[b]?=some (.cells c t fz)/\Is2 φ cs c.toList/\(cs.length=n*z/\fz=(0,0))/\ ¬ hN_ φ H b/\ ¬ s7_ fr lam b
 | .bx _,_=>False
 | .bad,_=>True
 | .und,u=>u=undef
def FOK(n0:Nat)(φ:List LI)(H:Hp)(lam:Nat->Nat)(fr:List FV)(w:World)(d:Nat):FV->Value->Prop
 | .bx cs,u=>u= .pointer (some ⟨lam d,0,none⟩)/\n0<=lam d/\ ¬ iz_ φ H (lam d)/\∃c t,w.heap[lam d]?=some (.cells c t (0,0))/\Is2 φ cs c.toList
 |v,u=>VOK n0 φ H lam fr w v u
def FOK.of(h:VOK n0 φ H lam fr w v u):FOK n0 φ H lam fr w d v u:=by
 cases v<;>first|exact h|exact h.elim
structure Inv(φ0:List LI)(H0:Hp)(w0:World)(φ:List LI)(H:Hp)(lam:Nat->Nat)(fr:List FV)(tmps:Array Value)(w:World):Prop where
 pre:φ0<+:φ
 rep:cX_ φ H w
 keeps:d6_ (hN_ φ0 H0) w0 w
 own:∀b,hN_ φ H b->hN_ φ0 H0 b\/w0.heap.size<=b
 row:∀b,iz_ φ H b->iz_ φ0 H0 b\/w0.heap.size<=b
 size:fr.length=tmps.size
 slot:∀(d:Nat)(v:FV),fr[d]?=some v->FOK w0.heap.size φ H lam fr w d v (tmps.getD d undef)
 apart:∀(s s':Nat)(cs cs':List GV),fr[s]?=some (.bx cs)->fr[s']?=some (.bx cs')->s≠s'->lam s≠lam s'
variable{φ0:List LI}{H0:Hp}{w0:World}{φ:List LI}{H:Hp}{lam:Nat->Nat}{fr:List FV}{tmps:Array Value}{w:World}
def Inv.boxLt(I:Inv φ0 H0 w0 φ H lam fr tmps w)(f:s7_ fr lam b):b<w.heap.size/\w0.heap.size<=b/\ ¬ iz_ φ H b:=by
 obtain⟨s,r,g,rfl⟩:=f;have⟨_,q,m,c,t,j,_⟩:=I.slot s _ g;grind
def kK_(h:fr.getD d .bad=v)(g:v≠ .bad):fr[d]?=some v:=by
 rw[getD_eq_getElem?_getD]at h;cases f:fr[d]? with
 |none=>rw[f]at h;exact (g h.symm).elim
 |some x=>rw[f]at h;simpa
theorem jP_{α:Type}{l:List α}{v:α}(h:l[d]?=some v):d<l.length:=by
 grind
theorem Inv.at (I:Inv φ0 H0 w0 φ H lam fr tmps w) (t:Nat):VOK w0.heap.size φ H lam fr w (tt_ fr t) (tmps.getD t undef):=by
 unfold tt_;cases f:fr[t]? with
 |none=>
  rw[getD_eq_getElem?_getD,f];simp[VOK]
 |some v=>
  have g:=I.slot t v f;rw[getD_eq_getElem?_getD,f];cases v with
  |bx h=>exact g.1
  |_=>exact g
def Dl_(f:Nat)(φ:List LI)(H:Hp)(lam:Nat->Nat)(fr:List FV)(w:World)(v:Value):VOK f φ H lam fr w (ofValue v) v:=by
 unfold ofValue;split<;>simp[VOK,GV.is]
theorem Inv.ev(I:Inv φ0 H0 w0 φ H lam fr h w)(df:List Deferred)(x:Operand):VOK w0.heap.size φ H lam fr w (Am.ev fr x) (Act.eval ⟨h,df⟩ x):=by
 cases x with
 |tmp t=>exact I.at t
 |const v=>exact Dl_ _ _ _ _ _ _ v
 |global g=>simp[Am.ev,VOK]
 |func f=>simp[Act.eval];exact⟨[],t_,.nil⟩
theorem VOK.step (q:φ<+:φ')
 (J:∀s o,v= .lp s o->f s=lam s) (r:∀b,n0<=b->b<w.heap.size-> ¬ hN_ φ H b-> ¬ s7_ fr lam b->w'.heap[b]?=w.heap[b]?/\¬ hN_ φ' H' b/\ ¬ s7_ fr' f b)
 (h:VOK n0 φ H lam fr w v u):VOK n0 φ' H' f fr' w' v u:=by
 cases v with
 |g v=>exact GV.is.mono q h
 |agg A=>have⟨y,m,j⟩:=h;exact⟨y,m,Is2.mono q j⟩
 |tup T=>have⟨y,m,j⟩:=h;exact⟨y,m,j.imp λ_ _=>RV.is.mono q⟩
 |lp s o=>
  have Q:u= .pointer (some ⟨lam s,o,none⟩):=h;show u= .pointer (some ⟨f s,o,none⟩);grind
 |bs A n z=>
  have⟨b,c,t,O,m,j,G,I,L,F,C⟩:=h;have⟨R,N,D⟩:=r b j (Array.getElem?_eq_some_iff.1 G).1 F C;exact⟨b,c,t,O,m,j,g_,Is2.mono q I,L,N,D⟩
 |bx A=>exact h.elim
 |bad=>trivial
 |und=>exact h
def Inv.go (I:Inv φ0 H0 w0 φ H lam fr tmps w) (A:φ<+:φ') (N:cX_ φ' H' w') (y:d6_ (hN_ φ H) w w')
 (O:∀b,hN_ φ' H' b->hN_ φ H b\/w.heap.size<=b) (g:∀b,iz_ φ' H' b->iz_ φ H b\/(w0.heap.size<=b/\ ¬ s7_ fr lam b)):Inv φ0 H0 w0 φ' H' lam fr tmps w' where
 pre:=I.pre.trans A
 rep:=N
 keeps:=I.keeps.trans y I.own
 own b m:=by
  rcases O b m with f|f
  .exact I.own b f
  .exact .inr (Nat.le_trans I.keeps.size f)
 row b m:=by
  rcases g b m with f|f
  .exact I.row b f
  .grind
 size:=I.size
 slot d v C:=by
  have F:=I.slot d v C;cases v with
  | bx L=>
   have⟨f,r,J,c,t,D,G⟩:=F;have j:=(Array.getElem?_eq_some_iff.1 D).1;refine⟨f,r,λh=>?_,c,t,?_,Is2.mono A G⟩
   .rcases g _ h with q|q
    .grind
    .exact q.2 ⟨d,L,C,rfl⟩
   .rw[y.block _ j λq=>J q.row];exact D
  |_=>
   refine FOK.of (VOK.step A (λ_ _ _=>rfl) (λb m j f r=>⟨y.block b j f,λq=>?_,r⟩) F);grind
 apart:=I.apart
def Inv.back (I:Inv φ0 H0 w0 φ H lam fr tmps w) (B:bS_ φ H w φ' H' w'):Inv φ0 H0 w0 φ' H' lam fr tmps w':=
 I.go B.pre B.rep B.keeps B.own λb f=>by
  rcases B.row b f with h|h
  .grind
  .exact .inr ⟨Nat.le_trans I.keeps.size h,λq=>by have:=(I.boxLt q).1;omega⟩
def Cd_(h:∀cs,v≠ .bx cs):s7_ (fr.set d v) lam b->s7_ fr lam b:=by
 intro⟨s,cs,g,f⟩;rcases es_ g with⟨_,e⟩|⟨_,q⟩
 .grind
 .exact⟨s,cs,q,f⟩
theorem nm_(h:d<tmps.size):(tmps.setIfInBounds d u).getD d undef=u:=by simp[h]
theorem mB_(h:d'≠d):(tmps.setIfInBounds d u).getD d' undef=tmps.getD d' undef:=by
 simp[Ne.symm h]
theorem Inv.put (I:Inv φ0 H0 w0 φ H lam fr tmps w) (y:VOK w0.heap.size φ H lam fr w v u):Inv φ0 H0 w0 φ H lam (fr.set d v) (tmps.setIfInBounds d u) w where
 pre:=I.pre
 rep:=I.rep
 keeps:=I.keeps
 own:=I.own
 row:=I.row
 size:=by simp[I.size]
 slot d' v' hd':=by
  have j:∀f,v≠ .bx f:=λf e=>by subst e;exact y
  have m:∀v u,VOK w0.heap.size φ H lam fr w v u->VOK w0.heap.size φ H lam (fr.set d _) w v u:=λv u h=>
   VOK.step (k8 _) (λ_ _ _=>rfl) (λb _ _ D C=>⟨rfl,D,λq=>C (Cd_ j q)⟩) h
  have A:=jP_ hd';rcases es_ hd' with⟨rfl,e⟩|⟨g,q⟩
  .subst e;rw[nm_ (by rw[<-I.size];simpa using A)];exact FOK.of (m _ _ y)
  .rw[mB_ g];have r:=I.slot d' v' q;cases v' with
   |bx f=>exact r
   |_=>exact FOK.of (m _ _ r)
 apart s s' f cs' r hs' g:=by
  have j:∀f,v≠ .bx f:=λf e=>by subst e;exact y
  rcases es_ r with⟨_,e⟩|⟨_,q⟩
  .grind
  rcases es_ hs' with⟨_,e⟩|⟨_,F⟩
  .grind
  exact I.apart s s' f cs' q F g
def Inv.forget (I:Inv φ0 H0 w0 φ H lam fr tmps w) (d:Nat):Inv φ0 H0 w0 φ H lam (fr.set d .bad) tmps w where
 pre:=I.pre
 rep:=I.rep
 keeps:=I.keeps
 own:=I.own
 row:=I.row
 size:=by simp[I.size]
 slot d' v' hd':=by
  have g:∀v u,VOK w0.heap.size φ H lam fr w v u->VOK w0.heap.size φ H lam (fr.set d .bad) w v u:=λv u h=>
   VOK.step (k8 _) (λ_ _ _=>rfl) (λb _ _ y m=>⟨rfl,y,λq=>m (Cd_ (λj e=>g_) q)⟩) h
  rcases es_ hd' with⟨rfl,e⟩|⟨_,q⟩
  .subst e;trivial
  .have f:=I.slot d' v' q;cases v' with
   |bx j=>exact f
   |_=>exact FOK.of (g _ _ f)
 apart s s' j cs' f hs' hne:=by
  rcases es_ f with⟨_,e⟩|⟨_,q⟩
  .cases e
  rcases es_ hs' with⟨_,e⟩|⟨_,r⟩
  .cases e
  exact I.apart s s' j cs' q r hne
def r7_:∀{fr:List FV},lh_ s fr=true->∀(d o:Nat),fr[d]? ≠some (.lp s o)
 |[],_,d,o,h=>g_
 | x::j,f,d,o,h=>by
  unfold lh_ at f;split at f
  .grind
  .rename_i g;cases d with
   |zero=>simp at h;subst h;simp[FV.isLp]at g
   |succ d=>exact r7_ f d o h
theorem Inv.box (I:Inv φ0 H0 w0 φ H lam fr tmps w) {cs:List GV} {c:Array Value} {t:TypeId} (hn:lh_ d fr=true) (hd:d<fr.length) (D:Is2 φ cs c.toList):
 Inv φ0 H0 w0 φ H (λs=>if s=d then w.heap.size else lam s) (fr.set d (.bx cs)) (tmps.setIfInBounds d (.pointer (some ⟨w.heap.size,0,none⟩))) (w.alloc (.cells c t)):=by
 have hk:d6_ (hN_ φ H) w (w.alloc (.cells c t)):=gT_ _ _ _;have m:=I.go (k8 _)
  ⟨I.rep.len,λl o Y hv=>by obtain⟨i,R,hr⟩:=I.rep.obj l o Y hv;exact⟨i,R,hr.keep (heap_alloc_old w _ _ (I.rep.blockLt ⟨l,o,i,Y,hv,R,rfl⟩)) hk.size⟩,I.rep.apart⟩ hk (λ_ h=> .inl h) λ_ h=> .inl h
 have X:∀b,s7_ (fr.set d (.bx cs)) (λs=>if s=d then w.heap.size else lam s) b->s7_ fr lam b\/b=w.heap.size:=by
  intro b ⟨s,y,A,U⟩;rcases es_ A with⟨rfl,e⟩|⟨g,q⟩
  .grind
  .left;exact⟨s,y,q,by simpa[g] using U⟩
 have j:∀b,iz_ φ H b->b<w.heap.size:=λb h=>I.rep.blockLt h;refine⟨m.pre,m.rep,m.keeps,m.own,m.row,by simp[I.size],?_,?_⟩
 ·intro G F Q;rcases es_ Q with⟨rfl,e⟩|⟨g,q⟩
  .subst e;rw[nm_ (by rw[<-I.size];exact hd)];refine⟨t_,u_ I.keeps.size,λh=>by have:=j _ h;simp at this,c,t,?_,D⟩;simpa using heap_alloc_new w (.cells c t)
  ·rw[mB_ g];have A:=m.slot G F q;have N:=I.slot G F q;cases F with
   |bx y=>
    obtain⟨J,Z,h3,c',t',h4,h5⟩:=A;exact⟨by simpa[g] using J,by simpa[g] using Z,by simpa[g] using h3,c',t',by simpa[g] using h4,h5⟩
   | _=>
    refine FOK.of (VOK.step (fr:=fr) (lam:=lam) (k8 _) (λs o e=>?_) (λb U O J Z=>⟨heap_alloc_old w _ b O,J,λh=>?_⟩) N)
    .have:s≠d:=λe'=>by subst e';rw[e]at q;exact r7_ hn G o q
     simp[this]
    .grind
 .intro s W C r A L g;rcases es_ A with⟨rfl,e⟩|⟨V,q⟩<;>rcases es_ L with⟨rfl,e'⟩|⟨T,q'⟩
  .grind
  .have:=(I.boxLt ⟨W,r,q',rfl⟩).1;simp[T];omega
  .have:=(I.boxLt ⟨s,C,q,rfl⟩).1;simp[V];omega
  .simp[V,T];exact I.apart s W C r q q' g
def Inv.boxTurn (I:Inv φ0 H0 w0 φ H lam fr tmps w) (G:fr[s]?=some (.bx cs))
 (C:d6_ (λb=>b=lam s) w w') (Q:w'.heap[lam s]?=some (.cells c t (0,0))) (J:Is2 φ cs' c.toList):Inv φ0 H0 w0 φ H lam (fr.set s (.bx cs')) tmps w':=by
 have⟨h1,Z,X,c0,t0,h4,h5⟩:=I.slot s _ G;have y:∀b,s7_ (fr.set s (.bx cs')) lam b->s7_ fr lam b:=by
  intro b ⟨r,f,N,D⟩;rcases es_ N with⟨rfl,e⟩|⟨_,q⟩
  .exact⟨r,cs,G,D⟩
  .exact⟨r,f,q,D⟩
 refine⟨I.pre,⟨I.rep.len,λl W Y hv=>?_,I.rep.apart⟩,?_,I.own,I.row,by simp[I.size],?_,?_⟩
 .have⟨i,T,hr⟩:=I.rep.obj l W Y hv;have A:iz_ φ H i.b:=⟨l,W,i,Y,hv,T,rfl⟩;exact⟨i,T,hr.keep (C.block _ (I.rep.blockLt A) λe=>X (e▸A)) C.size⟩
 .exact I.keeps.trans C λb Q=> .inr (Q▸Z)
 ·intro d v hd;rcases es_ hd with⟨rfl,e⟩|⟨j,q⟩
  .subst e;exact⟨h1,Z,X,c,t,Q,J⟩
  ·have F:=I.slot d v q;cases v with
   |bx f=>
    have⟨k1,k2,k3,c1,t1,U,k5⟩:=F;exact⟨k1,k2,k3,c1,t1,by rw[C.block _ (Array.getElem?_eq_some_iff.1 U).1 λe=>I.apart d s f cs q G j e];exact U,k5⟩
   |_=>exact FOK.of (VOK.step (k8 _) (λ_ _ _=>rfl) (λb _ m g1 V=>⟨C.block b m λe=>V ⟨s,cs,G,e.symm⟩,g1,λh=>V (y b h)⟩) F)
 ·intro s1 s2 f cs2 L O j;have o:∀{r:Nat}{f:List GV},(fr.set s (.bx cs'))[r]?=some (.bx f)->∃cs,fr[r]?=some (.bx cs):=by
   grind
  have⟨_,q1⟩:=o L;have⟨_,q2⟩:=o O;exact I.apart s1 s2 _ _ q1 q2 j
end Go.Am
namespace Go.Am
def zV:LK->Value
 | .bool=> .bool false | .int k=> .int k 0 | .str=> .string ⟨#[]⟩ | .ptr=> .pointer none | .sl _=> .slice none 0 0 | .map=> .map none | .fn=> .nilFunc | .iface=> .nilIface
def qs_(x:TI)(k:LK):Bool:=match x.lv with|[k']=>decide (k'=k)|_=>false
def xg_(x:TI):Bool:=match x.lv with|[.sl _]=>true|_=>false
def zZ_:List (Nat × Nat)->List Field->Bool
 |[],[]=>true
 |(a,b)::l,f::fs=>Nat.beq a f.offset&&Nat.beq b f.type&&zZ_ l fs
 |_,_=>false
def d4_(x:TI):TypeDesc->Bool
 | .bool=>Nat.beq x.k 0&& !x.agg&&qs_ x .bool
 | .int k=>Nat.beq x.k 0&& !x.agg&&qs_ x (.int k)
 | .string=>Nat.beq x.k 3&& !x.agg&&qs_ x .str
 | .pointer e=>Nat.beq x.k 2&& !x.agg&&qs_ x .ptr&&Nat.beq x.el e
 | .slice e=>Nat.beq x.k 1&& !x.agg&&xg_ x&&Nat.beq x.el e
 | .map k e=>Nat.beq x.k 5&& !x.agg&&qs_ x .map&&Nat.beq x.el e&&Nat.beq x.an k
 | .struct fs=>Nat.beq x.k 0&&x.agg&&zZ_ x.fs fs.toList
 | .array n e=>Nat.beq x.k 6&&x.agg&&(match x.fs with|[]=>true|_=>false)&&Nat.beq x.el e&&Nat.beq x.an n
 | .func _ _ _=>Nat.beq x.k 0&& !x.agg&&qs_ x .fn
 | .interface _=>Nat.beq x.k 0&& !x.agg&&qs_ x .iface
 |_=>false
def Jw_(P:Program)(x:TI)(t:Nat):Prop:=
 x.ok=true->∃i z d,P.info? t=some i/\i.size=x.lv.length/\i.zero=some z/\z.cells.toList=x.lv.map zV/\i.bytes=x.by_/\P.underlying t=some d/\d4_ x d=true
def zx_(P:Program)(lv:List LK)(f:Field):Bool:=match lv[f.offset]?,P.underlying f.type with
 |some .bool,some .bool=>true
 |some (.int k),some (.int k')=>decide (k=k')
 |some .str,some .string=>true
 |_,_=>false
def qq_(P:Program)(lv:List LK):Nat->List Field->Bool
 |n,[]=>Nat.beq n lv.length
 | n,f::fs=>f.name != "_" &&Nat.beq f.offset n&&zx_ P lv f&&qq_ P lv (n+1) fs
def Hw_(P:Program)(x:TI)(t:Nat):Prop:=
 x.cmp=true->∃fs,P.underlying t=some (.struct fs)/\qq_ P x.lv 0 fs.toList=true/\P.stoodInHeld t=false/\P.eqGuardType P.depth t=false
def JX_(P:Program)(x:TI)(t:Nat):Prop:=
 ∀n f b,mth x.ms n=some (f,b)->∃i m,P.info? t=some i/\i.methods.find? (·.name==n)=some m/\m.path= #[]/\m.func=some (f,b)
def xX_:Value->Bool | .agg _=>true|_=>false
def ZOK(P:Program)(x:TI)(t:Nat):Prop:=x.ok=true->∀i z,P.info? t=some i->i.zero=some z->xX_ z=x.agg
def cB_(P:Program)(tys:List TI):Prop:=(∀t,Jw_ P (tys.getD t default) t)/\(∀t,Hw_ P (tys.getD t default) t)/\(∀t,JX_ P (tys.getD t default) t)/\∀t,ZOK P (tys.getD t default) t
def hV_(h:Nat.beq a b=true):a=b:=Nat.eq_of_beq_eq_true h
def Ay_(h:qs_ x k=true):x.lv=[k]:=by
 unfold qs_ at h;grind
def rm_{x:TI}(h:x.isA k=true):x.ok=true/\x.k=k:=by
 unfold TI.isA at h;split at h
 .simp_all
 .cases h
section ty
variable{P:Program}{cx:Cx}
def dp_(j:cB_ P cx.tys)(h:(cx.ty t).isA 1=true):P.underlying t=some (.slice (cx.ty t).el):=by
 have⟨g,m⟩:=rm_ h;have⟨i,z,d,_,_,_,_,_,q,f⟩:=j.1 t g;change d4_ (cx.ty t) d=true at f;cases d<;>simp[d4_,m]at f
 .grind
def sl_(j:cB_ P cx.tys)(h:(cx.ty t).isA 2=true):P.underlying t=some (.pointer (cx.ty t).el):=by
 have⟨g,m⟩:=rm_ h;have⟨i,z,d,_,_,_,_,_,q,f⟩:=j.1 t g;change d4_ (cx.ty t) d=true at f;cases d<;>simp[d4_,m]at f
 .grind
theorem gR_(m:cB_ P cx.tys)(h:(cx.ty t).isA 3=true):P.underlying t=some .string:=by
 have⟨g,q⟩:=rm_ h;have⟨i,z,d,_,_,_,_,_,j,f⟩:=m.1 t g;rw[j];change d4_ (cx.ty t) d=true at f;cases d<;>simp[d4_,q]at f;rfl
def xz_(j:cB_ P cx.tys)(h:(cx.ty t).isA 6=true):P.underlying t=some (.array (cx.ty t).an (cx.ty t).el):=by
 have⟨g,m⟩:=rm_ h;have⟨i,z,d,_,_,_,_,_,q,f⟩:=j.1 t g;change d4_ (cx.ty t) d=true at f;cases d<;>simp[d4_,m]at f
 .grind
def ke_(j:cB_ P cx.tys)(h:(cx.ty t).isA 5=true):P.underlying t=some (.map (cx.ty t).an (cx.ty t).el):=by
 have⟨g,m⟩:=rm_ h;have⟨i,z,d,_,_,_,_,_,q,f⟩:=j.1 t g;change d4_ (cx.ty t) d=true at f;cases d<;>simp[d4_,m]at f
 .grind
theorem fB_(j:cB_ P cx.tys)(h:cx.okT t=true)(w:World):(sizeOf t).run P w= .ok (cx.ty t).lv.length w:=by
 have⟨i,z,d,g,f,_⟩:=j.1 t h;simp[sizeOf,typeInfo,g,f];rfl
def fR_(r:cB_ P cx.tys)(h:cx.okT t=true):∃i z,P.info? t=some i/\i.size=(cx.ty t).lv.length/\i.zero=some z/\z.cells.toList=(cx.ty t).lv.map zV/\i.bytes=(cx.ty t).by_:=by
 have⟨i,z,d,j,g,m,f,q,_⟩:=r.1 t h;exact⟨i,z,j,g,m,f,q⟩
theorem t5_(j:cB_ P cx.tys)(h:cx.okT t=true)(w:World):(isAgg t).run P w= .ok (cx.ty t).agg w:=by
 have⟨i,z,d,_,_,_,_,_,g,f⟩:=j.1 t h;change d4_ (cx.ty t) d=true at f;cases d<;>simp[d4_]at f<;>simp[isAgg,run_underlying g,f]
def g8_(j:cB_ P cx.tys)(h:cx.okT t=true):∃d,P.underlying t=some d/\d4_ (cx.ty t) d=true:=by
 have⟨i,z,d,_,_,_,_,_,g,f⟩:=j.1 t h;exact⟨d,g,f⟩
end ty
def EN_(φ:List LI):∀k,(A2_ k).is φ (zV k)
 | .bool | .int _ | .str | .ptr | .map | .fn | .iface=>rfl
 | .sl _=>⟨rfl,rfl⟩
def n5_(φ:List LI):∀f:List LK,Is2 φ (eY_ f) (f.map zV)
 |[]=> .nil
 |k::f=> .cons (EN_ φ k) (n5_ φ f)
theorem GV.is.one {v:GV} (h:v.is φ x):x.cells= #[x]/\x.oneCell'=true:=by
 cases v with
 |bool b=>cases h;exact⟨rfl,rfl⟩
 |int k n=>cases h;exact⟨rfl,rfl⟩
 |str s=>cases h;exact⟨rfl,rfl⟩
 |ptr a=>cases a with
  |none=>cases h;exact⟨rfl,rfl⟩
  |some p=>obtain⟨_,_,rfl⟩:=h;exact⟨rfl,rfl⟩
 |sl a n z=>cases a with
  |none=>obtain⟨_,rfl⟩:=h;exact⟨rfl,rfl⟩
  |some p=>obtain⟨_,_,_,_,rfl,_⟩:=h;exact⟨rfl,rfl⟩
 |map m=>cases m with
  |none=>cases h;exact⟨rfl,rfl⟩
  |some p=>obtain⟨_,_,rfl⟩:=h;exact⟨rfl,rfl⟩
 |fn f g=>obtain⟨_,rfl,_⟩:=h;exact⟨rfl,rfl⟩
 |nilfn=>cases h;exact⟨rfl,rfl⟩
 |iface t v=>obtain⟨_,rfl,_⟩:=h;exact⟨rfl,rfl⟩
 |nilif=>cases h;exact⟨rfl,rfl⟩
theorem Is2.one (h:Is2 φ cs xs):∀x∈xs,x.oneCell'=true:=by
 induction h with
 |nil=>intro x f;cases f
 |cons h _ g=>
  intro x f;cases f with
  |head=>exact h.one.2
  |tail _ f=>exact g x f
section vals
variable{n0:Nat}{φ:List LI}{H:Hp}{lam:Nat->Nat}{fr:List FV}{w:World}
def oQ_(h:kj_ x K)(f:VOK n0 φ H lam fr w x u):∃cs,K cs/\Is2 φ cs u.cells.toList:=by
 cases x with
 |g v=>exact⟨[v],h,by rw[(GV.is.one f).1];exact .cons f .nil⟩
 |agg cs=>obtain⟨m,rfl,j⟩:=f;exact⟨cs,h,j⟩
 |_=>exact h.elim
end vals
theorem aj_:ck b x↔b=true/\x:=by cases b<;>simp[ck]
theorem bl_:chk b x↔b=true/\x:=by cases b<;>simp[chk]
theorem q0_:cq_ b x y↔if b=true then x else y:=by cases b<;>simp[cq_]
theorem h1_:∀(fr:List FV)(d:Nat)(v:FV)(K:List FV->R),wa_ fr d v K=K (fr.set d v)
 |[],d,v,K=>by simp[wa_]
 |x::f,0,v,K=>by simp[wa_]
 |x::f,d+1,v,K=>by simp[wa_,h1_ f d v]
theorem DV_(v:FV)(K:FV->R):frc v K=K v:=by cases v<;>rfl
def gv_:leN a b=true↔a<=b:=by simp[leN]
def iE_:leI a b=true↔a<=b:=by simp[leI]
def AT_:ltI a b=true↔a<b:=by simp[ltI]
def E3_:eqI a b=true↔a=b:=by simp[eqI]
def nJ_:∀{f:List GV}{p:Nat}{cs:List GV}{K:List GV->Prop},ki_ f p cs K->∃g,K g/\g.length=f.length/\p+cs.length<=f.length+(if cs=[] then p else 0)/\g=f.take p++cs++f.drop (p+cs.length)
 |f,p,[],K,h=>by
  refine⟨f,?_,rfl,t_,t_⟩;cases f<;>cases p<;>exact h
 |[],p,c::cs,K,h=>by cases p<;>exact h.elim
 |z::f,p+1,c::cs,K,h=>by
  have j:ki_ f p (c::cs) λr=>K (z::r):=h;have⟨g,y,q,m,e⟩:=nJ_ j;grind
 |_::f,0,c::cs,K,h=>by
  have j:ki_ f 0 cs λr=>K (c::r):=h;have⟨g,y,q,m,e⟩:=nJ_ j;grind
def jl_ {α:Type} (l:List α) (p:Nat) (c:α) (cs:List α) (h:p+(cs.length+1)<=l.length):
 l.take p++(c::cs)++l.drop (p+(cs.length+1))=(l.set p c).take (p+1)++cs++(l.set p c).drop (p+1+cs.length):=by
 have g:(l.set p c).take (p+1)=l.take p++[c]:=by
  apply List.ext_getElem?;intro j;by_cases g:j<p
  .grind
  .by_cases f:j=p
   .subst f;rw[List.getElem?_take_of_lt o_,kH o_,List.getElem?_append_right g_];simp[Nat.min_eq_left (o_:j<=l.length)]
   .rw[List.getElem?_eq_none s_,List.getElem?_eq_none s_]
 have f:(l.set p c).drop (p+1+cs.length)=l.drop (p+(cs.length+1)):=by
  apply List.ext_getElem?;intro j;rw[List.getElem?_drop,List.getElem?_drop,kF o_];grind
 simp_all
end Go.Am
namespace Go.Am
open List
theorem hc_(b o j:Nat):(⟨b,o,none⟩:Addr).add j=⟨b,o+j,none⟩:=by unfold Addr.add;split<;>simp_all
def lR_ (h:hl_ k v K):∃f,K f/\∀φ x,v.is φ x->f.is φ x:=by
 cases k with
 |bool=>cases v<;>first|exact⟨_,h,λ_ _ q=>q⟩|exact h.elim
 |int k=>cases v<;>first|exact h.elim|(have⟨e,h⟩:=h;subst e;exact⟨_,h,λ_ _ q=>q⟩)
 |str=>cases v<;>first|exact⟨_,h,λ_ _ q=>q⟩|exact h.elim
 |ptr=>cases v<;>first|exact⟨_,h,λ_ _ q=>q⟩|exact h.elim
 |map=>cases v<;>first|exact⟨_,h,λ_ _ q=>q⟩|exact h.elim
 |fn=>exact⟨_,h,λ_ _ q=>q⟩
 |iface=>exact⟨_,h,λ_ _ q=>q⟩
 |sl z=>
  cases v<;>first|exact h.elim|skip
  have⟨e,h⟩:=h;refine⟨_,h,λφ x q=>?_⟩;rcases e with e|e
  .subst e;exact q
  .subst e;exact q
def ml_:∀{f:List LK}{cs:List GV}{K:List GV->Prop},hY_ f cs K->∃cs',K cs'/\∀φ xs,Is2 φ cs xs->Is2 φ cs' xs
 |[],[],K,h=>⟨[],h,λ_ _ q=>q⟩
 |[],c::cs,K,h=>h.elim
 |k::f,[],K,h=>h.elim
 |k::f,c::cs,K,h=>by
  have C:hl_ k c λc=>hY_ f cs λr=>K (c::r):=h;have⟨D,y,m⟩:=lR_ C;have⟨cs',j,g⟩:=ml_ y;refine⟨D::cs',j,λφ xs q=>?_⟩;cases q with
  |cons q A=>exact .cons (m _ _ q) (g _ _ A)
def s9_ (cx:Cx):∀{ts:List (Nat × Nat)} {vs:List RV} {K:List RV->Prop},qg_ cx ts vs K->∃f,K f/\∀φ xs,cA_ (RV.is φ) vs xs->cA_ (RV.is φ) f xs
 |[],[],K,h=>⟨[],h,λ_ _ q=>q⟩
 |[],v::vs,K,h=>h.elim
 |t::ts,[],K,h=>h.elim
 | t::ts,v::vs,K,h=>by
  have⟨J,t⟩:=t;have j:(match (cx.ty t).agg with
   |true=>rC v λr=>hY_ (cx.ty t).lv r λr=>qg_ cx ts vs λvs=>K (.a r::vs)
   |false=>rS v λv=>match (cx.ty t).lv with|[k]=>hl_ k v λv=>qg_ cx ts vs λvs=>K (.s v::vs)|_=>False):=h
  cases v with
  | a r=>
   split at j
   .have⟨F,y,C⟩:=ml_ j;have⟨f,A,g⟩:=s9_ cx y;refine⟨.a F::f,A,λφ xs q=>?_⟩;cases q with
    |cons q D=>have⟨I,e,q⟩:=q;exact .cons ⟨I,e,C _ _ q⟩ (g _ _ D)
   .exact j.elim
  | s v=>
   split at j
   .exact j.elim
   ·have m:(match (cx.ty t).lv with|[k]=>hl_ k v λv=>qg_ cx ts vs λvs=>K (.s v::vs)|_=>False):=j;split at m
    .have⟨G,y,C⟩:=lR_ m;have⟨f,A,g⟩:=s9_ cx y;refine⟨.s G::f,A,λφ xs q=>?_⟩;cases q with
     |cons q D=>exact .cons (C _ _ q) (g _ _ D)
    .grind
def IO_ (cx:Cx) (h:tW_ cx t r K):∃G,K G/\∀m φ H lam fr w x,r.is φ x->VOK m φ H lam fr w G x:=by
 unfold tW_ at h;split at h
 ·split at h
  .exact⟨_,h,λ_ _ _ _ _ _ _ _=>trivial⟩
  .cases r<;>first|exact h.elim|skip
   have⟨y,f,C⟩:=s9_ cx h;refine⟨.tup y,f,λm φ H lam fr w x q=>?_⟩;have⟨A,e,q⟩:=q;exact⟨A,e,C _ _ q⟩
 ·split at h
  .cases r<;>first|exact h.elim|skip
   have⟨F,f,D⟩:=ml_ h;refine⟨.agg F,f,λm φ H lam fr w x q=>?_⟩;have⟨A,e,q⟩:=q;exact⟨A,e,D _ _ q⟩
  .cases r<;>first|exact h.elim|skip
   rename_i v;have j:(match (cx.ty t).lv with|[k]=>hl_ k v λv=>K (.g v)|_=>False):=h;split at j
   .have⟨I,f,D⟩:=lR_ j;exact⟨.g I,f,λm φ H lam fr w x q=>D _ _ q⟩
   .grind
variable{P:Program}{cx:Cx}{φ:List LI}{H:Hp}{w:World}
def ul_ (D:cX_ φ H w) (G:φ[l]?=some i):∀{g:List LK}{p:Nat}{K:List GV->Prop},i3_ H l p g K->
 ∃cs xs,K cs/\Is2 φ cs xs/\xs.length=g.length/\∀j x,xs[j]?=some x->w.cell? ⟨i.b,i.p+p+j,none⟩=some x
 |[],p,K,h=>⟨[],[],h,.nil,rfl,t_⟩
 | k::g,p,K,h=>by
  have C:rd H l p λc=>hl_ k c λc=>i3_ H l (p+1) g λr=>K (c::r):=h;unfold rd at C;split at C
  .rename_i v N;have⟨R,x,f,I,m⟩:=D.get N;rw[G]at f;cases f;have⟨L,J,q⟩:=lR_ C;have⟨cs,xs,O,A,T,Q⟩:=ul_ D G J;refine⟨L::cs,x::xs,O,.cons (q _ _ m) A,g_,?_⟩;intro j y F;cases j with
   |zero=>simp at F;subst F;exact I
   |succ j=>have:=Q j y g_;rwa [(o_:i.p+p+(j+1)=i.p+(p+1)+j)]
  .grind
section
def mD_(f:cB_ P cx.tys)(g:cx.okT t=true)(q:(cx.ty t).agg=true){xs:List Value}(m:∀j x,xs[j]?=some x->w.cell? ⟨b,o+j,none⟩=some x)(y:xs.length=(cx.ty t).lv.length):
 (loadVar t ⟨b,o,none⟩).run P w= .ok (.agg xs.toArray) w:=by
 have h:=run_loadCells_list (P:=P) w ⟨b,o,none⟩ xs (λj v r=>by rw[hc_];exact m j v r);rw[y]at h;simp[loadVar,t5_ f g,q,fB_ f g,h]
def mJ_(h:cB_ P cx.tys)(j:cx.okT t=true)(g:(cx.ty t).agg=false)(f:w.cell? ⟨b,o,none⟩=some x):
 (loadVar t ⟨b,o,none⟩).run P w= .ok x w:=by
 simp[loadVar,t5_ h j,g,f]
end
def Ia_ (h:HS_ cs agg K):(agg=true/\K (.agg cs))\/(agg=false/\∃v,cs=[v]/\K (.g v)):=by
 cases agg with
 |true=>exact .inl ⟨rfl,h⟩
 |false=>match cs,h with
  |[v],h=>exact .inr ⟨rfl,v,rfl,h⟩
def AD_ (h:wl_ cs p n agg K):(agg=true/\p+n<=cs.length/\K (.agg ((cs.drop p).take n)))\/(agg=false/\∃v,cs[p]?=some v/\K (.g v)):=by
 cases agg with
 |true=>have⟨j,f⟩:=aj_.1 h;exact .inl ⟨rfl,Nat.le_of_ble_eq_true j,f⟩
 |false=>
  have m:(match cs[p]? with|some v=>K (.g v)|none=>False):=h;grind
def Cf_ (C:cB_ P cx.tys) (A:cx.okT t=true) (f:Is2 φ cs ys) (I:∀j y,ys[j]?=some y->w.cell? ⟨b,j,none⟩=some y)
 (h:wl_ cs o (cx.ty t).lv.length (cx.ty t).agg K):∃v u,K v/\(loadVar t ⟨b,o,none⟩).run P w= .ok u w/\∀m lam fr w',VOK m φ H lam fr w' v u:=by
 rcases AD_ h with⟨r,G,q⟩|⟨r,v,F,q⟩
 .have J:=(f.drop o).take (cx.ty t).lv.length;refine⟨_,.agg ((ys.drop o).take (cx.ty t).lv.length).toArray,q,mD_ C A r ?_ ?_,λm lam fr w'=>⟨_,rfl,o_⟩⟩
  .grind
  .have:=f.length;simp;omega
 .have⟨x,D,g⟩:=f.get F;exact⟨_,x,q,mJ_ C A r (I _ _ D),λm lam fr w'=>g⟩
def jf_(h:w.heap[b]?=some (.cells c t fz)):(w.setCell ⟨b,o,none⟩ v).heap[b]?=some (.cells (c.setIfInBounds o v) t fz):=by
 simp[World.setCell,Array.getElem?_modify,h]
def ld_(w:World)(b o:Nat)(v:Value):d6_ (λf=>f=b) w (w.setCell ⟨b,o,none⟩ v):=
 ⟨rfl,rfl,rfl,t_,λf _ g=>heap_setCell_other w ⟨b,o,none⟩ f v g⟩
def Jt_ (F:cX_ φ H w) (G:φ[l]?=some i) {x:Value} (C:v.is φ x) {H':Hp} (h:st? H l o v=some H'):
 ∃w',(store ⟨i.b,i.p+o,none⟩ x).run P w= .ok () w'/\bS_ φ H w φ H' w':=by
 unfold st? at h;split at h
 ·rename_i t q D;split at h
  ·cases h;obtain⟨V,j,I,O,R,m,c,J,T,y,A,N,U,L,r⟩:=F.row l true t q D;rw[G]at j;cases j;have g:0<i.s:=by omega
   have f:w.cell? ⟨i.b,i.p+o,none⟩=some c[o]:=by
    rw[m,kN,go_ y,Array.getElem?_eq_getElem o_]
   have Q:w.frozen? ⟨i.b,i.p+o,none⟩=false:=by
    simp only[World.frozen?,y];grind
   refine⟨w.setCell ⟨i.b,i.p+o,none⟩ x,?_,?_⟩
   .rw[run_store P w _ x _ C.one.2,f];grind
   .refine bS_.turn F D G g (ld_ w i.b _ x) ⟨I,by simp[O],by simp[R],m,c.setIfInBounds o x,J,T,?_,A,by simp[N],U,s_,?_⟩
    .rw[m,kN];exact jf_ y
    .have:=r.set C o;rw[length_set,Array.toList_setIfInBounds];rwa [show (c.toList.take q.length).set o x=(c.toList.set o x).take q.length from by rw[take_set]]at this
  .cases h
 .cases h
def vX_:∀(m:List GV)(xs:List Value)(k:Nat){H:Hp}{w:World}{l p0:Nat}{i:LI}{K:Hp->Prop},kP_ l H (p0+k) m K->cX_ φ H w->φ[l]?=some i->Is2 φ m xs->
 ∃H' w',K H'/\(storeCells ⟨i.b,i.p+p0,none⟩ xs k).run P w= .ok () w'/\bS_ φ H w φ H' w'
 |[],xs,k,H,w,l,p0,i,K,h,r,y,g=>by
  cases g.nil_inv;exact⟨H,w,h,by simp[storeCells],bS_.refl r⟩
 |n::m,xs,k,H,w,l,p0,i,K,h,r,y,g=>by
  obtain⟨x,xs,rfl,C,g⟩:=g.cons_inv;have q:wr H l (p0+k) n λH=>kP_ l H (p0+k+1) m K:=h;unfold wr at q;split at q
  .rename_i I D;obtain⟨J,j,B⟩:=Jt_ r y C D;have⟨H',w',G,A,F⟩:=vX_ m xs (k+1) q B.rep y g;refine⟨H',w',G,?_,B.trans F⟩;rw[Nat.add_comm]at j;simp[storeCells,hc_];rw[(o_:i.p+p0+k=i.p+(p0+k)),(o_:i.p+(p0+k)=p0+k+i.p),j];simp_all
  .grind
end Go.Am
namespace Go.Am
open List
section
variable{P:Program}{cx:Cx}{n0:Nat}{φ:List LI}{H:Hp}{lam:Nat->Nat}{fr:List FV}{w:World}
def kr_(j:BinOp)(t:TypeId)(x y:Operand)(a b:Value)(f:a≠ .nilIface)(g:∀cs,a≠ .agg cs):(eqGuard j t x y a b).run P w= .ok () w:=by
 cases a<;>first|exact (f rfl).elim|exact (g _ rfl).elim|simp[eqGuard]
def Js_(d:Nat){t e:TypeId}(hd:P.underlying t=some (.pointer e))(p:Option Addr):(Op.equalIn (d+1) t (.pointer p) (.pointer none)).run P w= .ok p.isNone w:=by
 cases p<;>simp[Op.equalIn,run_underlying hd]
def KH_(d:Nat){t e:TypeId}(hd:P.underlying t=some (.slice e))(p:Option Addr)(l c:Nat):(Op.equalIn (d+1) t (.slice p l c) (.slice none 0 0)).run P w= .ok p.isNone w:=by
 cases p<;>simp[Op.equalIn,run_underlying hd]
theorem o4_:∀{f:List LK}{xs:List GV},kE_ f xs=true->xs.length=f.length/\∀(n:Nat) k,f[n]?=some k->∃v,xs[n]?=some v/\jk_ k v=true
 |[],[],_=>⟨rfl,λn k h=>g_⟩
 |[],_::_,h=>k_ h
 |_::_,[],h=>k_ h
 | k::f,v::xs,h=>by
  unfold kE_ at h;split at h
  .rename_i e;have⟨j,m⟩:=o4_ h;refine⟨by simp[j],λn q g=>?_⟩;cases n with
   |zero=>simp at g;subst g;exact⟨v,rfl,e⟩
   |succ n=>exact m n q g_
  .cases h
def Du_(h:lV_ (a::xs) (b::ys)=some e):∃g f,eqC a b=some g/\lV_ xs ys=some f/\e=(g&&f):=by
 have j:(match eqC a b,lV_ xs ys with|some e,some r=>some (e&&r)|_,_=>none)=some e:=h;grind
def GY_ (F:zx_ P lv f=true) (Q:f.offset=n) (R:lv[n]?=some k) (D:jk_ k a=true) (G:jk_ k b=true) (O:eqC a b=some e)
 (L:us[n]?=some u) (I:vs[n]?=some v) (N:a.is φ u) (J:b.is φ v):
 (part f.type us f.offset).run P w= .ok u w/\(part f.type vs f.offset).run P w= .ok v w/\(Op.equalIn (d+1) f.type u v).run P w= .ok e w:=by
 unfold zx_ at F;rw[Q,R]at F;rw[Q];split at F
 .rename_i C A;cases C;cases a<;>simp[jk_]at D;cases b<;>simp[jk_]at G;cases N;cases J;cases O;have y:P.plainKey f.type=true:=by simp[Program.plainKey,A]
  exact⟨run_part_plain w y L,run_part_plain w y I,run_equalIn_bool w d f.type _ _ A⟩
 .rename_i T U C A;cases C;cases a<;>simp[jk_]at D;cases b<;>simp[jk_]at G;cases N;cases J;cases O;subst D;subst G;have y:P.plainKey f.type=true:=by simp[Program.plainKey,A]
  exact⟨run_part_plain w y L,run_part_plain w y I,run_equalIn_int w d f.type _ _ _ _ A⟩
 .rename_i C A;cases C;cases a<;>simp[jk_]at D;cases b<;>simp[jk_]at G;cases N;cases J;cases O;have y:P.plainKey f.type=true:=by simp[Program.plainKey,A]
  exact⟨run_part_plain w y L,run_part_plain w y I,run_equalIn_string w d f.type _ _ A⟩
 .cases F
def of_ (C:kE_ lv xs=true) (A:kE_ lv ys=true) (O:Is2 φ xs us.toList) (R:Is2 φ ys vs.toList):
 ∀(y:List Field)(n:Nat)(e:Bool),qq_ P lv n y=true->lV_ (xs.drop n) (ys.drop n)=some e->(Op.eqFields (d+1) us vs y).run P w= .ok e w
 |[],n,e,j,r=>by
  have hn:=hV_ j;rw[drop_of_length_le (by rw[(o4_ C).1];omega),drop_of_length_le (by rw[(o4_ A).1];omega)]at r;cases r;rfl
 | f::y,n,e,j,r=>by
  unfold qq_ at j;simp only[kR,bne_iff_ne]at j;have⟨⟨⟨h,g⟩,hfl⟩,hrest⟩:=j;have g:=hV_ g;have m:∃k,lv[n]?=some k:=by
   unfold zx_ at hfl;rw[g]at hfl;cases X:lv[n]? with
   |none=>rw[X]at hfl;simp at hfl
   |some k=>exact⟨k,rfl⟩
  have⟨k,m⟩:=m;have⟨a,N,W⟩:=(o4_ C).2 n k m;have⟨b,Q,fb⟩:=(o4_ A).2 n k m;have⟨L,I⟩:=kC.1 N;have⟨G,F⟩:=kC.1 Q;rw[lB L,lB G,I,F]at r;obtain⟨e1,V,q1,Z,rfl⟩:=Du_ r;have⟨u,U,J⟩:=cA_.get O N;have⟨v,hv,D⟩:=cA_.get R Q;obtain⟨Y,p2,T⟩:=GY_ (w:=w) (d:=d) hfl g m W fb q1 (u_ U) (u_ hv) J D;have ih:=of_ (d:=d) C A O R y (n+1) V hrest Z;simp[Op.eqFields,h,Y,p2,T];cases e1
  .simp
  .grind
def IA_ (hT:cB_ P cx.tys) {t:TypeId} {op:BinOp} {x y:FV} {K:FV->Prop} {ox oy:Operand} {ux uy:Value} (h:C9_ cx t op x y K) (hx:VOK n0 φ H lam fr w x ux) (hy:VOK n0 φ H lam fr w y uy):
 ∃v u,K v/\(do eqGuard op t ox oy ux uy;binOp op t ux uy:Sem Value).run P w= .ok u w/\VOK n0 φ H lam fr w v u:=by
 unfold C9_ at h;split at h
 ·rename_i k a k' b;cases hx;cases hy;have hg:=kr_ (P:=P) (w:=w) op t ox oy (.int k a) (.int k' b) t_ t_;split at h
  .obtain⟨h1,h⟩:=bl_.1 h;have h1:=iE_.1 h1;refine⟨_,_,h,?_,rfl⟩;simp[hg,binOp,Op.shift,(o_:¬ b<0),Kg_]
  .obtain⟨h1,h⟩:=bl_.1 h;have h1:=iE_.1 h1;refine⟨_,_,h,?_,rfl⟩;simp[hg,binOp,Op.shift,(o_:¬ b<0),ra_]
  ·rename_i n1 n2;split at h
   ·rename_i e;subst e;have hb:∀{u:Value},(binOp op t (.int k a) (.int k b)).run P w= .ok u w->(do eqGuard op t ox oy (.int k a) (.int k b);binOp op t (.int k a) (.int k b):Sem Value).run P w= .ok u w:=by
     intro u q;simp[hg,q]
    cases op<;>dsimp only at h<;>first
     |exact h.elim
     | (obtain⟨h1,h⟩:=bl_.1 h
        have hne:b≠0:=by simpa[eqI] using h1
        refine⟨_,_,h,hb ?_,rfl⟩;simp[binOp,Op.intDiv,hne,ae_];done)
     | (refine⟨_,_,h,hb ?_,rfl⟩
        simp[binOp,Op.intArith,Op.intBits,Op.intCmp,ae_,v6_,eqI,ltI,leI,bne];done)
     | (refine⟨_,_,h,hb ?_,rfl⟩
        rfl)
   .exact h.elim
 ·rename_i a b;cases hx;cases hy;have hg:=kr_ (P:=P) (w:=w) op t ox oy (.string a) (.string b) t_ t_;cases op<;>first
   |exact h.elim
   | (refine⟨_,_,h,?_,rfl⟩
      simp[hg,binOp,Op.stringOp,er_,dQ_];done)
   | (obtain⟨h1,h⟩:=h
      refine⟨_,_,h,?_,rfl⟩;simp[hg,binOp,Op.stringOp,IntKind.max,IntKind.bits,IntKind.signed];omega)
 ·rename_i a b;cases hx;cases hy;have hg:=kr_ (P:=P) (w:=w) op t ox oy (.bool a) (.bool b) t_ t_;obtain⟨ht,h⟩:=aj_.1 h;have hd:P.underlying t=some .bool:=by
   have h0:(cx.ty t).ok=true/\qs_ (cx.ty t) .bool=true/\(cx.ty t).agg=false:=by
    unfold TI.isBool at ht;split at ht
    .rename_i e1 e2;simp[TI.ok,qs_,e1,e2]
    .cases ht
   obtain⟨d,hd,hok⟩:=g8_ hT h0.1;rw[hd];have e:=Ay_ h0.2.1;cases d<;>simp[d4_,qs_,e,h0.2.2,xg_]at hok ⊢
  cases op<;>first
   |exact h.elim
   | (refine⟨_,_,h,?_,rfl⟩
      simp[hg,binOp,run_equal_bool w t a b hd,eqB];done)
 ·rename_i a;cases hy;obtain⟨ht,h⟩:=aj_.1 h;have hd:=sl_ hT ht;have hux:∃p:Option Addr,ux= .pointer p/\p.isNone=isNone a:=by
   cases a with
   |none=>cases hx;exact⟨none,rfl,rfl⟩
   |some q=>obtain⟨i,_,rfl⟩:=hx;exact⟨_,rfl,rfl⟩
  obtain⟨p,rfl,hp⟩:=hux;have hg:=kr_ (P:=P) (w:=w) op t ox oy (.pointer p) (.pointer none) t_ t_;have he:(Op.equal t (.pointer p) (.pointer none)).run P w= .ok (isNone a) w:=by
   rw[<-hp];exact Js_ 9999 hd p
  cases op<;>first
   |exact h.elim
   | (refine⟨_,_,h,?_,rfl⟩
      simp[hg,binOp,he];done)
 ·rename_i a n z n' z';obtain⟨_,rfl⟩:=hy;obtain⟨ht,h⟩:=aj_.1 h;have hd:=dp_ hT ht;have hux:∃(p:Option Addr)(l c:Nat),ux= .slice p l c/\p.isNone=isNone a:=by
   cases a with
   |none=>obtain⟨_,rfl⟩:=hx;exact⟨none,0,0,rfl,rfl⟩
   |some q=>obtain⟨i,_⟩:=q;obtain⟨_,_,_,_,rfl,_⟩:=hx;exact⟨_,_,_,rfl,rfl⟩
  obtain⟨p,l,c,rfl,hp⟩:=hux;have hg:=kr_ (P:=P) (w:=w) op t ox oy (.slice p l c) (.slice none 0 0) t_ t_;have he:(Op.equal t (.slice p l c) (.slice none 0 0)).run P w= .ok (isNone a) w:=by
   rw[<-hp];exact KH_ 9999 hd p l c
  cases op<;>first
   |exact h.elim
   | (refine⟨_,_,h,?_,rfl⟩
      simp[hg,binOp,he];done)
 ·rename_i xs ys;obtain⟨us,rfl,ix⟩:=hx;obtain⟨vs,rfl,iy⟩:=hy;obtain⟨hc,h⟩:=aj_.1 h;obtain⟨hfx,h⟩:=aj_.1 h;obtain⟨hfy,h⟩:=aj_.1 h;obtain⟨fs,hd,hfl,hst,hgd⟩:=hT.2.1 t hc;have hfo:P.fieldsOf t=fs:=by simp[Program.fieldsOf,hd]
  have hg:=run_eqGuard_agg (P:=P) w op t ox oy us vs hgd;split at h
  ·rename_i e he;have heq:(Op.equalIn 10000 t (.agg us) (.agg vs)).run P w= .ok e w:=by
    rw[run_equalIn_struct w 9999 t us vs (by rw[hfo];exact hd) hst,hfo];exact of_ (d:=9998) hfx hfy ix iy fs.toList 0 e hfl (u_ he)
   cases op<;>first
    |exact h.elim
    | (refine⟨_,_,h,?_,rfl⟩
       rw[Sem.run_bind,hg,Result.andThen_ok]
       first|rw[run_eql_struct,heq]|rw[run_neq_struct,heq]
       simp[gb];done)
  .exact h.elim
 .exact h.elim
def JK_(h:unK op x K)(g:VOK n0 φ H lam fr w x ux):∃v u,K v/\(Op.unary op ux).run P w= .ok u w/\VOK n0 φ H lam fr w v u:=by
 unfold unK at h;split at h
 .cases g;exact⟨_,_,h,by simp[Op.unary],rfl⟩
 .cases g;exact⟨_,_,h,by simp[Op.unary,Op.intArith,ae_],rfl⟩
 .cases g;exact⟨_,_,h,by simp[Op.unary,Op.intBits,v6_],rfl⟩
 .grind
end
section
variable{P:Program}{cx:Cx}{n0:Nat}{φ:List LI}{H:Hp}{lam:Nat->Nat}{fr:List FV}{w:World}
def BN_ (h:wm_ mx x y K) (m:VOK n0 φ H lam fr w x ux) (j:VOK n0 φ H lam fr w y uy):
 ∃v u,K v/\(match mx with|true=>Builtin.max2 ux uy|false=>Builtin.min2 ux uy).run P w= .ok u w/\VOK n0 φ H lam fr w v u:=by
 unfold wm_ at h;split at h
 .cases m;cases j;cases mx with
  |true=>exact⟨_,_,h,by simp[Builtin.max2,mxI],rfl⟩
  |false=>exact⟨_,_,h,by simp[Builtin.min2,mnI],rfl⟩
 .grind
def HX_ (hT:cB_ P cx.tys) {t ty:TypeId} {x:FV} {K:FV->Prop} {ux:Value} (h:FG_ cx t x K) (hx:VOK n0 φ H lam fr w x ux):
 ∃v u,K v/\(Builtin.len_ #[t] ty #[ux]).run P w= .ok u w/\VOK n0 φ H lam fr w v u:=by
 unfold FG_ at h;split at h
 .obtain⟨ht,h⟩:=aj_.1 h;cases hx;exact⟨_,_,h,by simp[Builtin.len_,run_underlying (gR_ hT ht),goInt,sz],rfl⟩
 ·rename_i a n z;obtain⟨ht,h⟩:=aj_.1 h;have hd:=dp_ hT ht;have hux:∃(p:Option Addr)(c:Nat),ux= .slice p n c:=by
   cases a with
   |none=>obtain⟨e,rfl⟩:=hx;subst e;exact⟨none,0,rfl⟩
   |some q=>obtain⟨i,_⟩:=q;obtain⟨_,_,_,_,rfl,_⟩:=hx;exact⟨_,_,rfl⟩
  obtain⟨p,c,rfl⟩:=hux;exact⟨_,_,h,by simp[Builtin.len_,run_underlying hd,goInt,nI],rfl⟩
 .rename_i cs n z;obtain⟨ht,h⟩:=aj_.1 h;have hd:=dp_ hT ht;obtain⟨b,c,t',fz,rfl,_⟩:=hx;exact⟨_,_,h,by simp[Builtin.len_,run_underlying hd,goInt,nI],rfl⟩
 .exact h.elim
theorem mu_(t:TypeId)(a:Addr):(Instr.loadAt t (.pointer (some a))).run P w=(loadVar t a).run P w:=by simp[Instr.loadAt,Instr.sureAddr]
theorem ub_(t:TypeId)(a:Addr)(x:Value):(Instr.storeAt t (.pointer (some a)) x).run P w=(storeVar t a x).run P w:=by simp[Instr.storeAt,Instr.sureAddr]
def Db_ (D:cB_ P cx.tys) (I:Inv φ0 H0 w0 φ H lam fr tmps w) {t:TypeId} (A:cx.okT t=true) (h:lp_ cx t x (λs=>fr.getD s .bad) H K) (G:VOK w0.heap.size φ H lam fr w x ux):
 ∃v u,K v/\(Instr.loadAt t ux).run P w= .ok u w/\VOK w0.heap.size φ H lam fr w v u:=by
 unfold lp_ at h;split at h
 .rename_i s p;split at h
  .rename_i V C;have⟨e,_,_,c,W,T,f⟩:=I.slot s _ (kK_ C t_);cases G;obtain⟨v,u,m,R,N⟩:=Cf_ D A f (λj y Q=>by rw[go_ T];simpa using Q) h;exact⟨v,u,m,(mu_ _ _).trans R,N _ _ _ _⟩
  .grind
 .obtain⟨i,J,rfl⟩:=G;have⟨V,O,U,f,L,F⟩:=ul_ I.rep J h;rcases Ia_ U with⟨q,m⟩|⟨q,v,rfl,m⟩
  .exact⟨_,_,m,(mu_ _ _).trans (mD_ D A q F L),⟨_,rfl,o_⟩⟩
  .obtain⟨x,O,rfl,r,_⟩:=f.cons_inv;exact⟨_,_,m,(mu_ _ _).trans (mJ_ D A q (F 0 x t_)),r⟩
 .grind
theorem uh_(k:IntKind)(n:Int):(asIntOf (.int k n)).run P w= .ok (k,n) w:=rfl
def pH_(a:Act)(d:Nat):Option Operand->Nat->Prop
 |none,m=>m=d
 |some x,m=>∃k,a.eval x= .int k m
def iH_ (I:Inv φ0 H0 w0 φ H lam fr f w) (df:List Deferred) (h:o7_ (ev fr) x d K):
 ∃m:Nat,K m/\pH_ ⟨f,df⟩ d x m:=by
 cases x with
 |none=>exact⟨d,h,rfl⟩
 |some x=>
  have r:=I.ev df x;have q:(match ev fr x with | .g (.int _ n)=>chk (leI 0 n) (K (tN n))|_=>False):=h;split at q
  .rename_i k n e;rw[e]at r;have⟨j,h⟩:=bl_.1 q;have j:=iE_.1 j;refine⟨_,h,k,?_⟩;rw[r];simp[tN];omega
  .grind
theorem gU_{m y:Nat}(h:m<=y):(Instr.sliceBound (.int k m) y code).run P w= .ok m w:=by
 simp[Instr.sliceBound,asIntOf,h]
def mh_(df:List Deferred)
 (j:pH_ ⟨f,df⟩ 0 lo l) (m:pH_ ⟨f,df⟩ len hi h) (q:l<=h) (r:h<=cap):
 (Instr.sliceBounds isS len cap (lo.map (Act.eval ⟨f,df⟩)) (hi.map (Act.eval ⟨f,df⟩)) none).run P w= .ok (l,h,cap) w:=by
 cases lo<;>cases hi<;>simp[pH_]at j m
 .subst j;subst m;simp[Instr.sliceBounds]
 .subst j;have⟨k,e⟩:=m;simp[Instr.sliceBounds,e,gU_ r]
 .subst m;have⟨k,e⟩:=j;simp[Instr.sliceBounds,e,gU_ q]
 .have⟨k,e⟩:=m;have⟨A,y⟩:=j;simp[Instr.sliceBounds,e,y,gU_ q,gU_ r]
theorem iR_(m:P.underlying t=some d)(q:∀n e,d≠ .array n e)(x:Value)(j f h:Option Value):(Instr.sliceAt t x j f h).run P w=(Instr.slice t x j f h).run P w:=by
 unfold Instr.sliceAt;rw[Sem.run_bind,run_underlying m];simp_all
def x2_(h:okz a z' z=true):z'=z\/a=none:=by
 unfold okz at h;grind
def E8_(A:cX_ φ H w)(q:φ[l]?=some i)(h:kz_ H (some (l,o)) m=true):o+m<=i.u:=by
 unfold kz_ at h;simp at h;split at h
 .rename_i j t r y;have⟨D,f,_,C,_⟩:=A.row l j t r y;rw[q]at f;cases f;have:=gv_.1 h;omega
 .cases h
def EF_(y:cX_ φ H w)(m:φ[l]?=some i)(h:n3_ H (some (l,o)) k=true):i.u<=o+k:=by
 unfold n3_ at h;simp at h;split at h
 .rename_i j t q r;have⟨C,f,_,A,_⟩:=y.row l j t q r;rw[m]at f;cases f;have:=gv_.1 h;omega
 .cases h
def G6_(A:cX_ φ H w)(D:φ[l]?=some i)(h:n3_ H (some (l,o)) k=true)(C:i.own=true):i.p=0/\i.u<=i.s:=by
 unfold n3_ at h;dsimp at h;split at h
 .rename_i j t q y;have⟨J,m,f⟩:=A.row l j t q y;have⟨I,G,L,F⟩:=f;grind
 .cases h
def F8_ (hT:cB_ P cx.tys) {φ0:List LI} {H0:Hp} {w0:World} {tmps:Array Value} (I:Inv φ0 H0 w0 φ H lam fr tmps w) (df:List Deferred) {t:TypeId} {x:FV} {lo hi:Option Operand} {K:FV->Prop} {ux:Value}
 (h:p2_ cx t x lo hi (ev fr) H K) (hx:VOK w0.heap.size φ H lam fr w x ux):
 ∃v u,K v/\(Instr.sliceAt t ux (lo.map (Act.eval ⟨tmps,df⟩)) (hi.map (Act.eval ⟨tmps,df⟩)) none).run P w= .ok u w/\VOK w0.heap.size φ H lam fr w v u:=by
 unfold p2_ at h;split at h
 .rename_i s;cases hx;obtain⟨ht,h⟩:=aj_.1 h;have hd:=gR_ hT ht;obtain⟨hh,h,hhi⟩:=iH_ I df h;obtain⟨l,h,hlo⟩:=iH_ I df h;obtain⟨hc,h⟩:=bl_.1 h;rw[kR]at hc;have h1:=gv_.1 hc.1;have h2:hh<=s.size:=gv_.1 hc.2;refine⟨_,_,h,?_,rfl⟩;rw[iR_ hd t_];have hb:=mh_ (P:=P) (w:=w) df (isS:=false) (len:=s.size) hlo hhi h1 h2;simp[Instr.slice,run_underlying hd,hb,sub]
 ·rename_i a n z';obtain⟨ht,h⟩:=aj_.1 h;obtain⟨hz0,h⟩:=aj_.1 h;obtain⟨hz,h⟩:=bl_.1 h;have hz0:=Nat.le_of_ble_eq_true hz0;have hsl:(cx.ty t).isA 1=true/\cx.okT (cx.ty t).el=true:=by
   unfold Cx.isSl at ht;split at ht
   .rename_i e1 e2;exact⟨e1,e2⟩
   .cases ht
  have hd:=dp_ hT hsl.1;have hsz:=fB_ hT hsl.2 w;generalize (cx.ty (cx.ty t).el).lv.length=z at*;generalize (cx.ty t).el=e at*;have hB:∃l hh:Nat,K (.g (.sl (shf a (l*z)) (hh-l) z))/\pH_ ⟨tmps,df⟩ 0 lo l/\pH_ ⟨tmps,df⟩ n hi hh/\l<=hh/\(hh<=n\/kz_ H a (hh*z)=true):=by
   split at h
   .obtain⟨l,h,hlo⟩:=iH_ I df h;obtain⟨hc,h⟩:=bl_.1 h;exact⟨l,n,h,hlo,rfl,gv_.1 hc,.inl (kO _)⟩
   .rename_i y;obtain⟨hh,h,hhi⟩:=iH_ I df h;obtain⟨l,h,hlo⟩:=iH_ I df h;obtain⟨hc,h⟩:=bl_.1 h;rw[kR,Bool.or_eq_true]at hc;exact⟨l,hh,h,hlo,hhi,gv_.1 hc.1,hc.2.imp gv_.1 id⟩
  obtain⟨l,hh,hk,hlo,hhi,h1,h2⟩:=hB;cases a with
  | none=>
   obtain⟨rfl,rfl⟩:=hx;have h2':hh<=0:=by
    rcases h2 with q|q
    .exact q
    .have q:=gv_.1 (show leN (hh*z) 0=true from q);have:=Nat.le_of_mul_le_mul_right (by omega:hh*z<=0*z) hz0;omega
   have hb:=mh_ (P:=P) (w:=w) df (isS:=true) (len:=0) hlo hhi h1 h2';have e1:hh=0:=o_
   have e2:l=0:=o_
   subst e1;subst e2;refine⟨_,_,hk,?_,⟨rfl,rfl⟩⟩;rw[iR_ hd t_];simp[Instr.slice,run_underlying hd,hb,hsz]
  | some p=>
   obtain⟨r,o⟩:=p;obtain⟨i,ad,c,hi',rfl,hq,hnc,hu,hown⟩:=hx;have hz':z'=z:=by rcases x2_ hz with q|q;exact q;cases q
   subst hz';have h2':hh<=c:=by
    rcases h2 with q|q
    .omega
    .have:=E8_ I.rep hi' q;exact Nat.le_of_mul_le_mul_right (by omega:hh*z'<=c*z') hz0
   have hb:=mh_ (P:=P) (w:=w) df (isS:=true) (len:=n) hlo hhi h1 h2';have hle:l*z'<=c*z':=Nat.mul_le_mul_right _ o_;have hsub:(c-l)*z'=c*z' - l*z':=Nat.sub_mul _ _ _;refine⟨_,.slice (some (if c=l then ad else ad.add (l*z'))) (hh-l) (c-l),hk,?_,⟨i,_,_,hi',rfl,?_,o_,?_,?_⟩⟩
   .rw[iR_ hd t_];simp only[Instr.slice,Sem.run_bind,run_underlying hd,Result.andThen_ok,hb,hsz,Sem.run_pure];split<;>simp
   ·by_cases e:c=l
    .right;omega
    .left;rw[if_neg e];rcases hq with q|q
     .subst q;rw[hc_,Nat.add_assoc]
     .omega
   .show i.u<=o+l*z'+(c-l)*z';omega
   .intro hw;obtain⟨g1,g2,g3⟩:=hown hw;refine⟨g1,?_,o_⟩;show o+l*z'+(c-l)*z'<=i.s;omega
 ·rename_i r o;obtain⟨ht,h⟩:=aj_.1 h;obtain⟨he,h⟩:=aj_.1 h;obtain⟨hz0,h⟩:=aj_.1 h;obtain⟨hbig,h⟩:=aj_.1 h;have hz0:=Nat.le_of_ble_eq_true hz0;have hbig:=Nat.le_of_ble_eq_true hbig;obtain⟨hh,hA,hhi⟩:=iH_ I df h;clear h;obtain⟨l,hB,hlo⟩:=iH_ I df hA;clear hA;obtain⟨hc,hk⟩:=bl_.1 hB;clear hB;rw[kR,kR,kR]at hc;obtain⟨c1,c2,c3,c4⟩:=hc;have c1:=gv_.1 c1;have c2:=gv_.1 c2;have hd:=xz_ hT ht;have hsz:=fB_ hT he w;generalize (cx.ty (cx.ty t).el).lv.length=z at*;generalize (cx.ty t).an=n at*;obtain⟨i,hi',rfl⟩:=hx;have u1:=E8_ I.rep hi' c3;have u2:=EF_ I.rep hi' c4;have hb:=mh_ (P:=P) (w:=w) df (isS:=false) (len:=n) (cap:=n) hlo hhi c1 c2;have hle:l*z<=n*z:=Nat.mul_le_mul_right _ o_;have hsub:(n-l)*z=n*z-l*z:=Nat.sub_mul _ _ _;refine⟨_,.slice (some (if n=l then ⟨i.b,i.p+o,none⟩ else (⟨i.b,i.p+o,none⟩:Addr).add (l*z))) (hh-l) (n-l),hk,?_,⟨i,_,_,hi',rfl,?_,o_,?_,?_⟩⟩
  .simp only[Instr.sliceAt,Instr.sureAddr,Sem.run_bind,run_underlying hd,Result.andThen_ok,hb,hsz,Sem.run_pure,Option.map_none]
  .by_cases e:n=l
   .right;omega
   .left;rw[if_neg e,hc_,Nat.add_assoc]
  .show i.u<=o+l*z+(n-l)*z;omega
  .intro hw;obtain⟨g1,g2⟩:=G6_ I.rep hi' c4 hw;refine⟨g1,?_,o_⟩;show o+l*z+(n-l)*z<=i.s;omega
 .exact h.elim
def uD_(df:List Deferred)
 (j:pH_ ⟨f,df⟩ 0 lo l) (r:pH_ ⟨f,df⟩ d (some hi) h) (q:pH_ ⟨f,df⟩ d' (some mx) m) (F:l<=h) (y:h<=m) (D:m<=cap):
 (Instr.sliceBounds true len cap (lo.map (Act.eval ⟨f,df⟩)) ((some hi).map (Act.eval ⟨f,df⟩)) ((some mx).map (Act.eval ⟨f,df⟩))).run P w= .ok (l,h,m) w:=by
 have⟨G,A⟩:=r;have⟨I,C⟩:=q;cases lo<;>simp[pH_]at j
 .subst j;simp[Instr.sliceBounds,A,C,gU_ y,gU_ D]
 .have⟨k,e⟩:=j;simp[Instr.sliceBounds,e,A,C,gU_ F,gU_ y,gU_ D]
def DW_ (hT:cB_ P cx.tys) {φ0:List LI} {H0:Hp} {w0:World} {tmps:Array Value} (I:Inv φ0 H0 w0 φ H lam fr tmps w) (df:List Deferred) {t:TypeId} {x:FV} {lo hi:Option Operand} {mx:Operand} {K:FV->Prop} {ux:Value}
 (h:l9_ cx t x lo hi mx (ev fr) H K) (hx:VOK w0.heap.size φ H lam fr w x ux):
 ∃v u,K v/\(Instr.sliceAt t ux (lo.map (Act.eval ⟨tmps,df⟩)) (hi.map (Act.eval ⟨tmps,df⟩)) ((some mx).map (Act.eval ⟨tmps,df⟩))).run P w= .ok u w/\VOK w0.heap.size φ H lam fr w v u:=by
 unfold l9_ at h;split at h
 ·rename_i a n z' hi;obtain⟨ht,h⟩:=aj_.1 h;obtain⟨hz0,h⟩:=aj_.1 h;obtain⟨hz,h⟩:=bl_.1 h;have hz0:=Nat.le_of_ble_eq_true hz0;have hsl:(cx.ty t).isA 1=true/\cx.okT (cx.ty t).el=true:=by
   unfold Cx.isSl at ht;split at ht
   .rename_i e1 e2;exact⟨e1,e2⟩
   .cases ht
  have hd:=dp_ hT hsl.1;have hsz:=fB_ hT hsl.2 w;obtain⟨m,h,hmx⟩:=iH_ I df h;obtain⟨hh,h,hhi⟩:=iH_ I df h;obtain⟨l,h,hlo⟩:=iH_ I df h;obtain⟨hc,hk⟩:=bl_.1 h;simp only[kR]at hc;obtain⟨c1,c2,c3,c4⟩:=hc;have c1:=gv_.1 c1;have c2:=gv_.1 c2;have c3:=gv_.1 c3;generalize (cx.ty (cx.ty t).el).lv.length=z at*;generalize (cx.ty t).el=e at*;cases a with
  |none=>
   obtain⟨e0,rfl⟩:=hx;have e3:m=0:=o_
   have e1:hh=0:=o_
   have e2:l=0:=o_
   subst e1;subst e2;subst e3;have hb:=uD_ (P:=P) (w:=w) df (len:=0) (cap:=0) hlo hhi hmx c1 c2 o_;simp only[Option.map_some]at hb;refine⟨_,_,hk,?_,⟨o_,rfl⟩⟩;rw[iR_ hd t_];simp[Instr.slice,run_underlying hd,hb,hsz]
  | some p=>
   obtain⟨r,o⟩:=p;obtain⟨i,ad,c,hi',rfl,hq,hnc,hu,hown⟩:=hx;have hz':z'=z:=by rcases x2_ hz with q|q;exact q;cases q
   subst hz';have hend:=EF_ I.rep hi' c4;have hb:=uD_ (P:=P) (w:=w) df (len:=n) (cap:=c) hlo hhi hmx c1 c2 o_;have hle:l*z'<=m*z':=Nat.mul_le_mul_right _ o_;have hle2:m*z'<=c*z':=Nat.mul_le_mul_right _ o_;have hsub:(m-l)*z'=m*z' - l*z':=Nat.sub_mul _ _ _;refine⟨_,.slice (some (if m=l then ad else ad.add (l*z'))) (hh-l) (m-l),hk,?_,⟨i,_,_,hi',rfl,?_,o_,?_,?_⟩⟩
   .rw[iR_ hd t_];simp only[Instr.slice,Sem.run_bind,run_underlying hd,Result.andThen_ok,hb,hsz,Sem.run_pure];split<;>simp
   ·by_cases e:m=l
    .right;omega
    .left;rw[if_neg e];rcases hq with q|q
     .subst q;rw[hc_,Nat.add_assoc]
     .omega
   .show i.u<=o+l*z'+(m-l)*z';omega
   .intro hw;obtain⟨g1,g2,g3⟩:=hown hw;refine⟨g1,?_,o_⟩;show o+l*z'+(m-l)*z'<=i.s;omega
 .exact h.elim
end
section
variable{P:Program}{cx:Cx}{n0:Nat}{φ:List LI}{H:Hp}{lam:Nat->Nat}{fr:List FV}{w:World}
def CT_:∀{l:List (Nat × Nat)} {m:List Field} {f:Nat} {p t:Nat},zZ_ l m=true->l[f]?=some (p,t)->∃g,m[f]?=some g/\g.offset=p/\g.type=t
 |[],_,f,p,t,_,h=>g_
 |(a,b)::l,[],f,p,t,h,_=>by simp[zZ_]at h
 |(a,b)::l,g::m,f,p,t,h,j=>by
  simp only[zZ_,kR]at h;cases f with
  |zero=>simp at j;exact⟨g,t_,by rw[<-j.1];exact (hV_ h.1.1).symm,by rw[<-j.2];exact (hV_ h.1.2).symm⟩
  |succ f=>simp;exact CT_ h.2 j
def qf_{t:TypeId}(h:(cx.ty t).agg=true):cx.okT t=true:=by
 unfold Cx.okT TI.ok;rw[h]
def xv_ (A:cB_ P cx.tys) {t:TypeId} (r:(cx.ty t).agg=true) {f p e:Nat} (D:(cx.ty t).fs[f]?=some (p,e)):
 ∃m g,P.underlying t=some (.struct m)/\m[f]?=some g/\g.offset=p/\g.type=e:=by
 have⟨d,y,j⟩:=g8_ A (qf_ r);have q:∀m,d= .struct m->∃g,m[f]?=some g/\g.offset=p/\g.type=e:=by
  intro m C;subst C;simp[d4_]at j;have⟨g,G,F⟩:=CT_ j.2 D;grind
 cases d with
 |struct m=>have⟨g,h⟩:=q m rfl;exact⟨m,g,y,h⟩
 |array n I=>
  simp[d4_]at j;grind
 |_=>simp[d4_,r]at j
def IP_ (q:cB_ P cx.tys) {t e:TypeId} {f p:Nat} (G:(cx.ty t).agg=true) (F:cx.okT e=true) (r:1<=(cx.ty e).lv.length) (I:(cx.ty t).fs[f]?=some (p,e)) (h:Ea_ x p K) (m:VOK n0 φ H lam fr w x ux):
 ∃v u,K v/\(Instr.fieldAt t ux f).run P w= .ok u w/\VOK n0 φ H lam fr w v u:=by
 obtain⟨J,g,D,C,rfl,rfl⟩:=xv_ q G I;have y:=fB_ q F w;have j:(cx.ty g.type).lv.length≠0:=o_
 have run:∀b o,(Instr.fieldAt t (.pointer (some ⟨b,o,none⟩)) f).run P w= .ok (.pointer (some ⟨b,o+g.offset,none⟩)) w:=by
  simp[Instr.fieldAt,run_underlying D,C,Instr.sureAddr,fieldPlace,y,j,hc_]
 unfold Ea_ at h;split at h
 .cases m;exact⟨_,_,h,run _ _,rfl⟩
 .obtain⟨i,A,rfl⟩:=m;exact⟨_,_,h,run _ _,i,A,g_⟩
 .grind
def Hp_ (y:cB_ P cx.tys) {t e:TypeId} {f p:Nat} (N:(cx.ty t).agg=true) (J:cx.okT e=true) (O:(cx.ty t).fs[f]?=some (p,e)) (h:wl_ cs p (cx.ty e).lv.length (cx.ty e).agg K) (F:VOK n0 φ H lam fr w (.agg cs) ux):
 ∃v u,K v/\(Instr.field t ux f).run P w= .ok u w/\VOK n0 φ H lam fr w v u:=by
 obtain⟨Q,g,I,D,rfl,rfl⟩:=xv_ y N O;obtain⟨G,rfl,j⟩:=F;have L:=fB_ y J w;have m:=t5_ y J w;rcases AD_ h with⟨r,C,A⟩|⟨r,v,C,A⟩
 .rw[r]at m;refine⟨_,_,A,?_,⟨G.extract g.offset (g.offset+(cx.ty g.type).lv.length),rfl,?_⟩⟩
  .simp[Instr.field,run_underlying I,D,asAgg,part,m,L]
  .have:=(j.drop g.offset).take (cx.ty g.type).lv.length;simp_all
 .rw[r]at m;have⟨x,F,q⟩:=j.get C;refine⟨_,x,A,?_,q⟩;have:G[g.offset]?=some x:=by grind
  simp[Instr.field,run_underlying I,D,asAgg,part,m,this]
def iP_{t:TypeId}(h:cx.isSl t=true):(cx.ty t).isA 1=true/\cx.okT (cx.ty t).el=true:=by
 unfold Cx.isSl at h;split at h
 .grind
 .cases h
def IF_ (r:cB_ P cx.tys) {t:TypeId} (h:F2_ cx t x i K) (F:VOK n0 φ H lam fr w x ux) (q:VOK n0 φ H lam fr w i ui):
 ∃v u,K v/\(Instr.indexAt t ux ui).run P w= .ok u w/\VOK n0 φ H lam fr w v u:=by
 unfold F2_ at h;split at h
 ·rename_i a n Q k j;cases q;have⟨m,h⟩:=aj_.1 h;have⟨N,h⟩:=bl_.1 h;have⟨f,h⟩:=bl_.1 h;rw[kR]at f;have C:=iE_.1 f.1;have A:j<n:=AT_.1 f.2;have m:=iP_ m;have D:=dp_ r m.1;have y:=fB_ r m.2 w;cases a with
  |none=>exact h.elim
  |some J=>
   have⟨l,o⟩:=J;obtain⟨i,I,c,q,rfl,O,G,_⟩:=F;obtain rfl:I=⟨i.b,i.p+o,none⟩:=g_
   refine⟨_,_,h,?_,i,q,rfl⟩;simp only[Instr.indexAt,Sem.run_bind,uh_,Result.andThen_ok,run_underlying D,Sem.run_pure,Sem.run_ite,C,A,y,hc_];simp[tN,Nat.add_assoc]
 .rename_i l o k j;cases q;have⟨m,h⟩:=aj_.1 h;have⟨L,h⟩:=aj_.1 h;have⟨f,h⟩:=bl_.1 h;rw[kR]at f;have C:=iE_.1 f.1;have A:j<((cx.ty t).an:Int):=AT_.1 f.2;have D:=xz_ r m;have y:=fB_ r L w;obtain⟨i,q,rfl⟩:=F;refine⟨_,_,h,?_,i,q,rfl⟩;simp only[Instr.indexAt,Instr.sureAddr,Sem.run_bind,uh_,Result.andThen_ok,run_underlying D,Sem.run_pure,Sem.run_ite,C,A,y,hc_];simp[tN,Nat.add_assoc]
 .grind
def HD_(q:cB_ P cx.tys){t:TypeId}(r:(cx.ty t).isA 3=true)(y:0<=j)(A:j<s.size):
 (Instr.index t (.string s) (.int k j)).run P w= .ok (.int .u8 (byt s (tN j))) w:=by
 have m:=gR_ q r;have f:j.toNat<s.size:=o_
 simp[Instr.index,asIntOf,run_underlying m,y,ByteArray.getElem?_lt' s j.toNat f,byt,tN];show (s.data[j.toNat].toNat:Int)=_;simp_all
def xh_(h:cA_ (RV.is φ) vs us.toList)(q:vs[i]?=some r):∃u,(Instr.extract (.tuple us) i).run P w= .ok u w/\r.is φ u:=by
 have⟨u,y,j⟩:=h.get q;have m:us[i]?=some u:=g_
 exact⟨u,by simp[Instr.extract,m],j⟩
def BJ_ (I:Inv φ0 H0 w0 φ H lam fr j w) (df:List Deferred):∀{xs:List Operand}{K:List (Nat × Nat)->Prop},nx_ (ev fr) xs K->
 ∃f,K f/\cA_ (pL_ φ) f (xs.map (Act.eval ⟨j,df⟩))
 |[],K,h=>⟨[],h,.nil⟩
 |x::xs,K,h=>by
  have q:=I.ev df x;have m:(match ev fr x with | .g (.ptr (some p))=>nx_ (ev fr) xs λr=>K (p::r)|_=>False):=h;split at m
  .rename_i p e;rw[e]at q;have⟨f,A,y⟩:=BJ_ I df m;exact⟨p::f,A,.cons q y⟩
  .grind
end
end Go.Am
namespace Go.Am
theorem xp_ (f:Nat):∀(vs:List Value)(k:Nat)(cells:Array Value),f+k+vs.length<=cells.size->
 ((vs.zipIdx k).foldl (λ(cs:Array Value) (c,j)=>cs.setIfInBounds (f+j) c) cells).toList=cells.toList.take (f+k)++vs++cells.toList.drop (f+k+vs.length)
 |[],k,cells,h=>t_
 |v::vs,k,cells,h=>by
  simp[List.zipIdx_cons];rw[xp_ f vs (k+1) _ g_];have:=jl_ cells.toList (f+k) v vs g_;grind
theorem Ch_(f:place i=some (off,v.cells.size))(j:off+v.cells.size<=cells.size):
 Instr.fill place cells ((i,v)::rest)=Instr.fill place (cells.toList.take off++v.cells.toList++cells.toList.drop (off+v.cells.size)).toArray rest:=by
 simp only[Instr.fill,f];have h: ¬ (off+v.cells.size>cells.size):=o_
 simp only[ne_eq,not_true_eq_false,decide_false,Bool.false_or,h,Bool.false_eq_true,if_false];congr 1;rw[<-Array.foldl_toList,Array.toList_zipIdx];have:=xp_ off v.cells.toList 0 cells o_;grind
section
variable{P:Program}{cx:Cx}{φ:List LI}{H:Hp}{lam:Nat->Nat}{fr:List FV}{w:World}{φ0:List LI}{H0:Hp}{w0:World}{tmps:Array Value}
theorem Is2.fill(f:Is2 φ zs ys)(h:Is2 φ cs xs)(p n:Nat):Is2 φ (zs.take p++cs++zs.drop n) (ys.take p++xs++ys.drop n):=
 ((f.take p).append h).append (f.drop n)
def Ep_ (I:Inv φ0 H0 w0 φ H lam fr m w) (df:List Deferred) (t:Nat) (j:Nat->Option (Nat × Nat)) (Q:∀i p e,(cx.ty t).fs[i]?=some (p,e)->j i=some (p,(cx.ty e).lv.length)):
 ∀{q:List (Nat × Operand)} {zs:List GV} {cells:Array Value} {K:List GV->Prop},uP_ cx (ev fr) t zs q K->Is2 φ zs cells.toList->(∀p:Nat,∀e,(p,e)∈(cx.ty t).fs->p+(cx.ty e).lv.length<=zs.length)->
  ∃y f,K y/\Instr.fill j cells (q.map λ(i,x)=>(i,Act.eval ⟨m,df⟩ x))=some f/\Is2 φ y f.toList
 |[],zs,cells,K,h,r,_=>⟨zs,cells,h,rfl,r⟩
 | (i,x)::Y,zs,cells,K,h,r,hb=>by
  have X:=I.ev df x;have O:(match (cx.ty t).fs[i]? with
   |some (p,e)=>kj_ (ev fr x) λJ=>ck (cx.okT e) (ck (Nat.beq J.length (cx.ty e).lv.length) (ki_ zs p J λzs=>uP_ cx (ev fr) t zs Y K))
   |none=>False):=h
  split at O
  ·rename_i p e Z;have⟨J,C,F⟩:=oQ_ O X;have⟨_,C⟩:=aj_.1 C;have⟨L,C⟩:=aj_.1 C;have L:=hV_ L;obtain⟨y,h2,hzl,W,rfl⟩:=nJ_ C;have V:=F.length;have D:(Act.eval ⟨m,df⟩ x).cells.size=(cx.ty e).lv.length:=by grind
   have N:=r.length;have G:=Q i p e Z;rw[<-D]at G;have⟨A,f,U,T,h5⟩:=Ep_ I df t j Q (cells:=((cells.toList.take p++(Act.eval ⟨m,df⟩ x).cells.toList++cells.toList.drop (p+(Act.eval ⟨m,df⟩ x).cells.size)).toArray)) h2
    (by simpa[D,L] using Is2.fill r F p (p+J.length)) g_
   refine⟨A,f,U,?_,h5⟩;rw[List.map_cons,Ch_ G g_];exact T
  .grind
def Ez_ (I:Inv φ0 H0 w0 φ H lam fr j w) (df:List Deferred) (D:1<=z):
 ∀{m:List (Nat × Operand)} {zs:List GV} {cells:Array Value} {K:List GV->Prop},zY_ (ev fr) z zs m K->Is2 φ zs cells.toList->
  ∃r f,K r/\r.length=zs.length/\Instr.fill (λi=>some (i*z,z)) cells (m.map λ(i,x)=>(i,Act.eval ⟨j,df⟩ x))=some f/\Is2 φ r f.toList
 |[],zs,cells,K,h,q=>⟨zs,cells,h,rfl,rfl,q⟩
 | (i,x)::ps,zs,cells,K,h,q=>by
  have V:=I.ev df x;have W:=h;have⟨N,J,C⟩:=oQ_ W V;have⟨F,J⟩:=aj_.1 J;have F:=hV_ F;obtain⟨r,Y,Z,U,rfl⟩:=nJ_ J;have T:=C.length;have A:(Act.eval ⟨j,df⟩ x).cells.size=z:=g_
  have G:=q.length;have⟨y,f,Q,O,L,X⟩:=Ez_ I df D (cells:=((cells.toList.take (i*z)++(Act.eval ⟨j,df⟩ x).cells.toList++cells.toList.drop (i*z+(Act.eval ⟨j,df⟩ x).cells.size)).toArray)) Y
   (by simpa[A,F] using Is2.fill q C (i*z) (i*z+N.length))
  refine⟨y,f,Q,o_,?_,X⟩;rw[List.map_cons,Ch_ (by rw[A]) g_];exact L
def Cv_:∀{l:List (Nat × Nat)} {n:Nat},cx.okFs n l=true->∀p e,(p,e)∈l->cx.okT e=true/\p+(cx.ty e).lv.length<=n
 |[],n,_,p,e,h=>g_
 | (q,r)::l,n,h,p,e,f=>by
  unfold Cx.okFs at h;split at h
  .rename_i m j;cases f with
   |head=>exact⟨m,Nat.le_of_ble_eq_true j⟩
   |tail _ f=>exact Cv_ h p e f
  .cases h
def zJ_ (r:cB_ P cx.tys):∀{l:List (Nat × Nat)} {m:List Field},zZ_ l m=true->(∀p e,(p,e)∈l->cx.okT e=true)->
 m.mapM (λf=>(P.info? f.type).map λi=>(f.offset,i.size))=some (l.map λq=>(q.1,(cx.ty q.2).lv.length))
 |[],[],_,_=>rfl
 |[],_::_,h,_=>by simp[zZ_]at h
 |(_,_)::_,[],h,_=>by simp[zZ_]at h
 |(p,e)::l,f::m,h,j=>by
  simp only[zZ_,kR]at h;have G:=hV_ h.1.1;have C:=hV_ h.1.2;have⟨i,z,D,A,_⟩:=fR_ r (j _ _ (.head _));have F:=zJ_ r h.2 λp e y=>j p e (.tail _ y);grind
def GV_ (L:cB_ P cx.tys) (I:Inv φ0 H0 w0 φ H lam fr q w) (df:List Deferred) {j:Array (Nat × Operand)} {K:List GV->Prop} (D:(cx.ty t).agg=true) (N:(cx.ty t).k=0) (Q:cx.okFs (cx.ty t).lv.length (cx.ty t).fs=true)
 (h:uP_ cx (ev fr) t (eY_ (cx.ty t).lv) j.toList K):∃cs u,K cs/\(Instr.build t (j.map λ(i,x)=>(i,Act.eval ⟨q,df⟩ x))).run P w= .ok u w/\VOK w0.heap.size φ H lam fr w (.agg cs) u:=by
 have⟨i,z,hi,hs,hz,O,_⟩:=fR_ L (qf_ D);have⟨d,hd,r⟩:=g8_ L (qf_ D);have y:=Cv_ Q;have G:Is2 φ (eY_ (cx.ty t).lv) z.cells.toList:=by rw[O];exact n5_ φ _
 have J:∀m,(∀i p e,(cx.ty t).fs[i]?=some (p,e)->m i=some (p,(cx.ty e).lv.length))->(∀f,Instr.fill m z.cells (j.toList.map λ(i,x)=>(i,Act.eval ⟨q,df⟩ x))=some f->P.built t (j.map λ(i,x)=>(i,Act.eval ⟨q,df⟩ x)).toList=some f)->
  ∃cs u,K cs/\(Instr.build t (j.map λ(i,x)=>(i,Act.eval ⟨q,df⟩ x))).run P w= .ok u w/\VOK w0.heap.size φ H lam fr w (.agg cs) u:=by
  intro m Z X;have⟨F,f,W,Y,U⟩:=Ep_ I df t m Z h G (λp e C=>by have:=(y p e C).2;simp[eY_];exact this);exact⟨F,_,W,run_build w t _ f (X _ Y),f,rfl,U⟩
 cases d with
 |struct fs=>
  simp[d4_]at r;have V:=zJ_ L r.2 λp e C=>(y p e C).1;refine J (((cx.ty t).fs.map λT=>(T.1,(cx.ty T.2).lv.length))[·]?) (λi p e hf=>g_) λf hc=>?_;simp only[Program.built,Array.toList_map];grind
 |array n e=>simp[d4_,N]at r
 |_=>simp[d4_,D]at r
theorem EH_ {α:Type} (cs:List α):∀(n j:Nat),(List.replicate n cs).flatten[j]?=if j<n*cs.length then cs[j % cs.length]? else none
 |0,j=>t_
 | n+1,j=>by
  rw[List.replicate_succ,List.flatten_cons];by_cases h:j<cs.length
  .rw[kM h,Nat.mod_eq_of_lt h,if_pos];grind
  .rw[List.getElem?_append_right o_,EH_ cs n];have f:(j-cs.length) % cs.length=j % cs.length:=by rw[<-Nat.mod_eq_sub_mod o_]
   grind
def AH_ (φ:List LI) (f:List LK) (q:Array Value) (F:q.toList=f.map zV) (n m:Nat) (A:m=n*f.length):Is2 φ (CQ_ n (eY_ f)) ((Array.range m).map (q[· % q.size]!)).toList:=by
 subst A;apply cA_.of_get
 .simp[CQ_,eY_]
 .intro j a b h D;have r:(eY_ f).length=f.length:=by simp[eY_]
  rw[CQ_,EH_,r]at h;split at h
  .have⟨x,C,y⟩:=(n5_ φ f).get h;grind
  .cases h
def x5_(hT:cB_ P cx.tys)(I:Inv φ0 H0 w0 φ H lam fr tmps w)(df:List Deferred){t n:Nat}{parts:Array (Nat × Operand)}{K:List GV->Prop}(ht:cx.isSl t=true)(hz:1<=(cx.ty (cx.ty t).el).lv.length)
 (hn:n*(cx.ty (cx.ty t).el).lv.length<=16777216) (h:zY_ (ev fr) (cx.ty (cx.ty t).el).lv.length (CQ_ n (eY_ (cx.ty (cx.ty t).el).lv)) parts.toList K):
 ∃cs cells,K cs/\cs.length=n*(cx.ty (cx.ty t).el).lv.length/\cs.length=cells.size/\Is2 φ cs cells.toList/\(Instr.buildSlice t n (parts.map λ(i,x)=>(i,Act.eval ⟨tmps,df⟩ x))).run P w= .ok (.slice (some ⟨w.heap.size,0,none⟩) n n) (w.alloc (.cells cells (cx.ty t).el)):=by
 have ht:=iP_ ht;have hd:=dp_ hT ht.1;have hs:=fB_ hT ht.2 w;obtain⟨i,z,hi,hs',hz',hzc,_⟩:=fR_ hT ht.2;obtain⟨cs,cells,h1,h2,h3,h4⟩:=Ez_ I df hz (cells:=(Array.range (n*(cx.ty (cx.ty t).el).lv.length)).map (z.cells[· % z.cells.size]!)) h (AH_ φ _ z.cells hzc n _ rfl);have h5:=h4.length;refine⟨cs,cells,h1,by rw[h2];simp[CQ_,eY_],u_ h5,h4,?_⟩;have hn': ¬ (16777216<n*(cx.ty (cx.ty t).el).lv.length):=o_
 by_cases h0:n*(cx.ty (cx.ty t).el).lv.length=0
 .rw[h0]at h3;simp[Array.range_zero']at h3;simp[Instr.buildSlice,run_underlying hd,hs,h0,Array.range_zero',h3,newRow]
 .simp[Instr.buildSlice,run_underlying hd,hs,hn',h0,zeroValue,typeInfo,hi,hz',h3,newRow]
theorem IE_(t:TypeId)(v:Value):(Instr.box t v).run P w= .ok (.pointer (some ⟨w.heap.size,0,none⟩)) (w.alloc (.cells v.cells t)):=by simp[Instr.box,newVar,newRow]
def FP_(F:cB_ P cx.tys){t:TypeId}(A:cx.okT t=true):∃z:Value,z.cells.toList=(cx.ty t).lv.map zV/\(Instr.alloc t true (.tuple #[])).run P w= .ok (.pointer (some ⟨w.heap.size,0,none⟩)) (w.alloc (.cells z.cells t)):=by
 have⟨i,z,C,D,y,r,_⟩:=fR_ F A;exact⟨z,r,by simp[Instr.alloc,zeroValue,typeInfo,C,y,newVar,newRow]⟩
theorem Inv.alloc (I:Inv φ0 H0 w0 φ H lam fr tmps w) (o:Go.Obj):Inv φ0 H0 w0 φ H lam fr tmps (w.alloc o):=
 I.go (k8 _) ⟨I.rep.len,λl j f q=>by
  have⟨i,m,r⟩:=I.rep.obj l j f q;exact⟨i,m,r.keep (heap_alloc_old w _ _ (I.rep.blockLt ⟨l,j,i,f,q,m,rfl⟩)) t_⟩,I.rep.apart⟩ (gT_ _ _ _) (λ_ h=> .inl h) λ_ h=> .inl h
end
end Go.Am
namespace Go.Am
open List
section
variable{P:Program}{cx:Cx}{φ:List LI}{H:Hp}{lam:Nat->Nat}{fr:List FV}{w:World}{φ0:List LI}{H0:Hp}{w0:World}{tmps:Array Value}
def Res (φ0:List LI) (H0:Hp) (w0:World) (dst:Option Tmp) (v:FV) (fr:List FV) (H:Hp) (tmps:Array Value) (u:Value) (w:World):Prop:=
 ∃φ lam,match dst with
  |some d=>Inv φ0 H0 w0 φ H lam (fr.set d v) (tmps.setIfInBounds d u) w
  |none=>Inv φ0 H0 w0 φ H lam fr tmps w
def Res.of(I:Inv φ0 H0 w0 φ H lam fr tmps w)(h:VOK w0.heap.size φ H lam fr w v u)(f:Option Tmp):Res φ0 H0 w0 f v fr H tmps u w:=by
 refine⟨φ,lam,?_⟩;cases f with
 |none=>exact I
 |some d=>exact I.put h
def Ge_(I:Inv φ0 H0 w0 φ H lam fr tmps w)(m:Is2 φ cs c.toList)(f:Option Tmp):
 Res φ0 H0 w0 f (.g (.ptr (some (ln H,0)))) fr (pu H (.row true t cs)) tmps (.pointer (some ⟨w.heap.size,0,none⟩)) (w.alloc (.cells c t)):=by
 have q:=m.length;have B:=bS_.new I.rep t cs c (0,0) g_ g_ λj _ h=>o_;refine Res.of (I.back B) ?_ f;exact⟨⟨w.heap.size,0,true,cs.length,c.size⟩,by simp[ln,<-I.rep.len],rfl⟩
def HF_ (I:Inv φ0 H0 w0 φ H lam fr tmps w) {t:TypeId} (j:Is2 φ cs c.toList) (h:mkK cx o fr H t cs K):
 ∃v f H',K v f H'/\Res φ0 H0 w0 o.dst v f H' tmps (.pointer (some ⟨w.heap.size,0,none⟩)) (w.alloc (.cells c t)):=by
 unfold mkK at h;split at h
 .exact⟨_,_,_,h,Ge_ I j o.dst⟩
 ·split at h
  .rename_i d q;have⟨r,h⟩:=aj_.1 h;have⟨m,h⟩:=aj_.1 h;have m:d+1<=fr.length:=by simpa[Nat.blt] using m
   refine⟨_,_,_,h,φ,(λs=>if s=d then w.heap.size else lam s),?_⟩;rw[q];exact I.box r m j
  .grind
theorem q1_(h:cB_ P cx.tys){t:TypeId}(j:cx.okT t=true)(f:x.cells.size=(cx.ty t).lv.length):(storeVar t a x).run P w=(storeCells a x.cells.toList).run P w:=by
 simp[storeVar,fB_ h j,f]
def z0_(w:World)(b:Nat)(c:Array Value):d6_ (λh=>h=b) w (w.setRow b c):=
 ⟨rfl,rfl,rfl,t_,λh _ j=>setRow_other w b h c j⟩
def FA_ (O:cB_ P cx.tys) (I:Inv φ0 H0 w0 φ H lam fr tmps w) {t:TypeId} (N:cx.okT t=true) (X:ns.length=(cx.ty t).lv.length) (h:Ag_ x ns fr H K)
 (G:VOK w0.heap.size φ H lam fr w x ux) (m:Is2 φ ns u.cells.toList):∃A H' w',K A H'/\(Instr.storeAt t ux u).run P w= .ok () w'/\Inv φ0 H0 w0 φ H' lam A tmps w':=by
 have y:u.cells.size=(cx.ty t).lv.length:=by rw[<-X,m.length];simp
 unfold Ag_ at h;split at h
 ·rename_i s p;split at h
  ·rename_i cs C;have F:=kK_ C t_;have⟨e,h2,h3,c,Z,D,J⟩:=I.slot s _ F;cases G;obtain⟨U,r,L,W,rfl⟩:=nJ_ h;rw[h1_]at r;rw[ub_,q1_ O N y];by_cases V:ns=[]
   .subst V;have:u.cells.toList=[]:=by grind
    exact⟨_,_,w,r,by simp[this,storeCells],I.boxTurn F (d6_.refl _ _) D (by simpa)⟩
   .have Q:=J.length;refine⟨_,_,w.setRow (lam s) (c.toList.take (p+0)++u.cells.toList++c.toList.drop (p+0+u.cells.toList.length)).toArray,r,run_storeCells_at P (lam s) p Z u.cells.toList 0 c w D g_ m.one,I.boxTurn F (z0_ _ _ _) (setRow_heap w _ _ _ _ _ D) ?_⟩;have:=Is2.fill J m p (p+ns.length);grind
  .grind
 .rename_i l p;obtain⟨i,Y,rfl⟩:=G;obtain⟨H',w',r,T,B⟩:=vX_ ns u.cells.toList 0 h I.rep Y m;refine⟨fr,H',w',r,?_,I.back B⟩;rw[ub_,q1_ O N y];exact T
 .grind
def Hi_ (O:cB_ P cx.tys) (I:Inv φ0 H0 w0 φ H lam fr tmps w) {t:TypeId} (h:GH_ cx t l c H K) (Z:VOK w0.heap.size φ H lam fr w l ul) (U:VOK w0.heap.size φ H lam fr w c uc) (m:Option Tmp):
 ∃v H' u w',K v H'/\(Instr.makeSlice t ul uc).run P w= .ok u w'/\Res φ0 H0 w0 m v fr H' tmps u w':=by
 unfold GH_ at h;split at h
 ·rename_i T l Y c;cases Z;cases U;have⟨y,h⟩:=aj_.1 h;have⟨A,h⟩:=aj_.1 h;have⟨L,hK⟩:=bl_.1 h;simp at L;have⟨⟨e,r⟩,J⟩:=L;have e:=E3_.1 e;have r:=iE_.1 r;have J:l*((cx.ty (cx.ty t).el).by_:Int)<=140737488355328:=iE_.1 J;subst e;have y:=iP_ y;have hd:=dp_ O y.1;have⟨i,z,hi,f,F,D,Q⟩:=fR_ O y.2;have W:1<=(cx.ty (cx.ty t).el).by_:=by
   unfold Cx.full at A;split at A
   .simp_all
   .cases A
  have G:i.bytes*l<=281474976710656:=by
   grind
  have q:l<=9223372036854775807:=by
   have:l*1<=l*((cx.ty (cx.ty t).el).by_:Int):=Int.mul_le_mul_of_nonneg_left o_ r;omega
  have X:=run_make w t _ i z hd hi F T Y l l r (Int.le_refl _) G q;have V:(madeCells z.cells (l.toNat*i.size)).size=l.toNat*(cx.ty (cx.ty t).el).lv.length:=by rw[size_madeCells,f]
  have C:Is2 φ (lo_ (tN l) (eY_ (cx.ty (cx.ty t).el).lv)) (madeCells z.cells (l.toNat*i.size)).toList:=AH_ φ _ z.cells D (tN l) _ (by rw[f];rfl);have N:=C.length;have B:=bS_.new I.rep (cx.ty t).el _ _ (0,0) (Nat.le_of_eq o_) g_ λj _ h=>o_;refine⟨_,_,_,_,hK,X,Res.of (I.back B) ?_ m⟩;refine⟨_,_,l.toNat,by simp only[ln,<-I.rep.len];exact getElem?_concat_length,rfl,.inl rfl,kO _,?_,λ_=>⟨rfl,?_,o_⟩⟩
  .grind
  .grind
 .grind
def Hj_ (O:cB_ P cx.tys) (I:Inv φ0 H0 w0 φ H lam fr tmps w) {t:TypeId} (h:zg_ cx t l c K) (Z:VOK w0.heap.size φ H lam fr w l ul) (U:VOK w0.heap.size φ H lam fr w c uc) (j:Option Tmp):
 ∃v u w',K v/\(Instr.makeSlice t ul uc).run P w= .ok u w'/\Res φ0 H0 w0 j v fr H tmps u w':=by
 unfold zg_ at h;split at h
 ·rename_i T l Y c;cases Z;cases U;have⟨y,h⟩:=aj_.1 h;have⟨C,h⟩:=aj_.1 h;have⟨L,hK⟩:=bl_.1 h;simp at L;have⟨⟨e,r⟩,J⟩:=L;have e:=E3_.1 e;have r:=iE_.1 r;have J:l*((cx.ty (cx.ty t).el).by_:Int)<=140737488355328:=iE_.1 J;subst e;have y:=iP_ y;have hd:=dp_ O y.1;have⟨i,z,hi,A,F,D,Q⟩:=fR_ O y.2;have W:1<=(cx.ty (cx.ty t).el).by_:=by
   unfold Cx.full at C;split at C
   .simp_all
   .cases C
  have G:i.bytes*l<=281474976710656:=by
   grind
  have m:l<=9223372036854775807:=by
   have:l*1<=l*((cx.ty (cx.ty t).el).by_:Int):=Int.mul_le_mul_of_nonneg_left o_ r;omega
  have X:=run_make w t _ i z hd hi F T Y l l r (Int.le_refl _) G m;have V:(madeCells z.cells (l.toNat*i.size)).size=l.toNat*(cx.ty (cx.ty t).el).lv.length:=by rw[size_madeCells,A]
  have f:Is2 φ (CQ_ l.toNat (eY_ (cx.ty (cx.ty t).el).lv)) (madeCells z.cells (l.toNat*i.size)).toList:=AH_ φ _ z.cells D l.toNat _ g_;have N:=f.length;refine⟨_,_,_,hK,X,Res.of (I.alloc _) ?_ j⟩;refine⟨w.heap.size,_,(cx.ty t).el,(0,0),?_,I.keeps.size,heap_alloc_new w _,f,⟨?_,rfl⟩,λq=>?_,λq=>?_⟩
  .rfl
  .grind
  .have:=I.rep.blockLt q.row;omega
  .have:=(I.boxLt q).1;omega
 .grind
def zz_:∀{cs:List GV}{xs:List Value}{K:List UInt8->Prop},mt_ cs K->Is2 φ cs xs->∃q:List Int,xs=q.map (Value.int .u8)/\K (q.map bof)
 |[],xs,K,h,f=>⟨[],by cases f.nil_inv;rfl,h⟩
 |c::cs,xs,K,h,f=>by
  obtain⟨x,xs,rfl,y,j⟩:=f.cons_inv;have m:dI .u8 c λn=>mt_ cs λr=>K (bof n::r):=h;unfold dI at m;split at m
  .rename_i k n;obtain⟨e,m⟩:=m;subst e;obtain⟨q,rfl,A⟩:=zz_ m j;cases y;exact⟨n::q,rfl,A⟩
  .grind
theorem xF_:∀(f:List Int)(s:Y_),f.foldl (λr n=>r.push (UInt8.ofNat n.toNat)) s=⟨s.data++(f.map bof).toArray⟩
 |[],s=>t_
 |n::f,s=>by
  rw[foldl_cons,xF_ f];simp[bof]
def uv_ (I:cX_ φ H w) (D:(GV.sl a n z).is φ x) (A:cells? H a m=some cs) (F:n=0->m=0):
 ∃xs,Is2 φ cs xs/\cs.length=m/\((a=none/\n=0/\x= .slice none 0 0/\cs=[])\/∃ad c,x= .slice (some ad) n c/\∀j y,xs[j]?=some y->w.cell? (ad.add j)=some y):=by
 cases a with
 |none=>
  obtain⟨rfl,rfl⟩:=D;have:=F rfl;subst this;simp[cells?]at A;subst A;exact⟨[],.nil,rfl,.inl ⟨rfl,rfl,rfl,rfl⟩⟩
 |some p=>
  obtain⟨i,ad,c,J,rfl,r,L,_⟩:=D;have⟨N,f,q,xs,h,C⟩:=I.cells A;rw[J]at f;cases f;refine⟨xs,h,q,.inr ⟨_,_,rfl,λj y G=>?_⟩⟩;rcases r with r|r
  .rw[r,hc_];exact C j y G
  .have:=h.length;grind
def HM_(h:txt cs K)(m:Is2 φ cs xs)(r:cs.length=n)(A:∀j y,xs[j]?=some y->w.cell? (ad.add j)=some y):
 ∃s,K s/\(Conv.bytesToString (.slice (some ad) n c)).run P w= .ok (.string s) w:=by
 obtain⟨D,rfl,C⟩:=zz_ h m;have f:=m.length;simp at f;refine⟨_,C,?_⟩;have q:=run_loadCells_list (P:=P) w ad _ λj v F=>A j v F;rw[k9,<-f,r]at q;rw[run_bytesToString w _ n c D q,xF_];simp[mkS,ByteArray.empty,ByteArray.emptyWithCapacity];rfl
end
section
variable{P:Program}{cx:Cx}{φ:List LI}{H:Hp}{lam:Nat->Nat}{fr:List FV}{w:World}{φ0:List LI}{H0:Hp}{w0:World}{tmps:Array Value}
def Al_ (r:cB_ P cx.tys) {t:TypeId} (m:(cx.ty t).isU8=true):P.underlying t=some (.int .u8):=by
 have j:(cx.ty t).ok=true/\(cx.ty t).lv=[.int .u8]/\(cx.ty t).agg=false:=by
  unfold TI.isU8 at m;split at m
  .rename_i y q;simp[TI.ok,y,q]
  .cases m
 have⟨d,A,f⟩:=g8_ r j.1;cases d<;>simp[d4_,qs_,j.2.1,j.2.2,xg_]at f ⊢;grind
def FM_(h:w.heap[b]?=some (.cells c t (0,0))):(w.freeze ⟨b,n,none⟩ 1).heap[b]?=some (.cells c t (n,n+1)):=by
 simp[World.freeze,Array.getElem?_modify,h]
theorem rH_(h:b'≠b):(w.freeze ⟨b,n,none⟩ 1).heap[b']?=w.heap[b']? :=by
 simp[World.freeze,Array.getElem?_modify,Ne.symm h]
def xa_(φ:List LI)(s:Y_):Is2 φ (bytesOf s) (s.data.map λb=>Value.int .u8 b.toNat).toList:=by
 rw[Array.toList_map];unfold bytesOf;induction s.data.toList with
 |nil=>exact .nil
 |cons a l f=>exact .cons rfl f
def rL_ (I:Inv φ0 H0 w0 φ H lam fr tmps w) (e:TypeId) (hbyte:Eq_ e=true) (s:Y_) (hsl:s.size<=Lim) (dst:Option Tmp):∃u w',(Conv.stringToBytes e s).run P w= .ok u w'/\Res φ0 H0 w0 dst (.g (.sl (some (ln H,0)) s.size 1)) fr (pu H (.row true e (bytesOf s))) tmps u w':=by
 let cap:=grownCap w s.size 0 e
 have hcap:s.size<=cap:=by simp[cap,grownCap,Question.cut]
 let cells:Array Value:=(s.data.map λb=>Value.int .u8 b.toNat)++Array.replicate (cap-s.size) (.int .u8 0)
 have hcells:cells.size=cap:=by
  have:s.data.size=s.size:=rfl;simp[cells,this];omega
 let w1:=w.drew.alloc (.cells cells e)
 have hn:w1.heap[w.heap.size]?=some (.cells cells e (0,0)):=heap_alloc_new w.drew _
 let w2:=w1.freeze ⟨w.heap.size,cells.size,none⟩ 1
 have hrun:(Conv.stringToBytes e s).run P w= .ok (.slice (some ⟨w.heap.size,0,none⟩) s.size cap) w2:=by
  have hsh:w1.shape? w.heap.size=some (e,cells.size):=by simp[World.shape?,hn]
  have hm:(markStringish ⟨w.heap.size,0,none⟩).run P w1= .ok () w2:=by
   simp[markStringish,hsh,w2]
  simp only[Conv.stringToBytes,Sem.run_bind,run_choose_drew,Question.forced,if_false,Bool.false_eq_true,Result.andThen_ok,newRow,run_newObj_alloc,Sem.run_pure];show ((markStringish ⟨w.heap.size,0,none⟩).run P w1).andThen _=_;rw[hm];rfl
 have hb:(bytesOf s).length=s.size:=by simp[bytesOf]
 have hk:d6_ (hN_ φ H) w w2:=by
  have hs:w2.heap.size=w.heap.size+1:=by
   show (w1.freeze _ 1).heap.size=_;simp[World.freeze,w1]
  refine⟨rfl,rfl,rfl,o_,λb hb _=>?_⟩;rw[show w2.heap[b]?=w1.heap[b]? from rH_ o_];exact heap_alloc_old w.drew _ b hb
 have hrow:j8_ (φ++[⟨w.heap.size,0,true,(bytesOf s).length,cap⟩]) w2 true e (bytesOf s) ⟨w.heap.size,0,true,(bytesOf s).length,cap⟩:=by
  refine⟨rfl,rfl,?_,rfl,cells,e,(cells.size,cells.size+1),FM_ hn,λ_=>rfl,hcells,?_,o_,?_⟩
  .show w.heap.size<w2.heap.size;show _<(w1.freeze _ 1).heap.size;simp[World.freeze,w1]
  .intro j h1 h2;simp at h1;exact⟨(by omega:cap<=j),λq=>by rw[hbyte]at q;cases q⟩
  ·rw[hb];have:(cells.toList.take s.size)=(s.data.map λb=>Value.int .u8 b.toNat).toList:=by
    simp only[cells,Array.toList_append];rw[take_left' t_]
   rw[this];exact xa_ _ s
 have B:=bS_.snoc I.rep hk (λb hb'=>by
  have:=I.rep.blockLt hb';rw[show w2.heap[b]?=w1.heap[b]? from rH_ o_];exact heap_alloc_old w.drew _ b this) hrow (kO _)
 refine⟨_,w2,hrun,Res.of (I.back B) ?_ dst⟩;refine⟨_,_,cap,by simp only[ln,<-I.rep.len];exact getElem?_concat_length,rfl,.inl rfl,hcap,?_,λ_=>⟨rfl,?_,?_⟩⟩
 .show (bytesOf s).length<=_;omega
 .show 0+cap*1<=cap;omega
 .exact grownCap_le_maxLen w s.size 0 e (by unfold maxLen;unfold Lim at hsl;omega)
def Hn_ (hT:cB_ P cx.tys) (I:Inv φ0 H0 w0 φ H lam fr tmps w) {s d:TypeId} {x:FV} {ux:Value} {K:FV->Hp->Prop} (h:uk_ cx s d x H K) (hx:VOK w0.heap.size φ H lam fr w x ux) (dst:Option Tmp):
 ∃v H' u w',K v H'/\(convert s d ux).run P w= .ok u w'/\Res φ0 H0 w0 dst v fr H' tmps u w':=by
 unfold uk_ at h;rw[aj_,aj_]at h;obtain⟨hs,hd,h⟩:=h;obtain⟨ds,hds,_⟩:=g8_ hT hs;split at h
 ·rename_i k k' n e1 e2;cases hx;obtain⟨ha,h⟩:=aj_.1 h;obtain⟨dd,hdd,hok⟩:=g8_ hT hd;have hdd':dd= .int k:=by
   have ha:(cx.ty d).agg=false:=u_ ha
   cases dd<;>simp[d4_,qs_,e2,ha,xg_,e1]at hok;rw[hok]
  subst hdd';exact⟨_,_,_,w,h,by simp[convert,run_underlying hds,run_underlying hdd,Conv.intToInt];rfl,Res.of I (v:= .g (.int _ _)) rfl dst⟩
 .rename_i e1;cases hx;have hdd:=gR_ hT (show (cx.ty d).isA 3=true by unfold TI.isA;rw[show (cx.ty d).ok=true from hd];simp[e1]);exact⟨_,_,_,w,h,by cases ds<;>simp[convert,run_underlying hds,run_underlying hdd]<;>rfl,Res.of I (v:= .g (.str _)) rfl dst⟩
 ·rename_i e1;have hdd:=gR_ hT (show (cx.ty d).isA 3=true by unfold TI.isA;rw[show (cx.ty d).ok=true from hd];simp[e1]);obtain⟨ht,h⟩:=aj_.1 h;obtain⟨h8,h⟩:=aj_.1 h;have hsd:=dp_ hT (iP_ ht).1;have h8:=Al_ hT h8;unfold rdN at h;split at h
  .rename_i cs hc;obtain⟨xs,his,hl,hcase⟩:=uv_ I.rep hx hc λq=>q;rcases hcase with⟨rfl,rfl,rfl,rfl⟩|⟨ad,c,rfl,hxs⟩
   .refine⟨_,_,_,w,h,?_,Res.of I (v:= .g (.str _)) rfl dst⟩;rw[run_convert_bytes_string w s d _ none 0 0 hsd h8 hdd];simp[Conv.bytesToString];rfl
   .obtain⟨str,hk,hr⟩:=HM_ (P:=P) (c:=c) h his hl hxs;refine⟨_,_,_,w,hk,?_,Res.of I (v:= .g (.str _)) rfl dst⟩;rw[run_convert_bytes_string w s d _ _ _ _ hsd h8 hdd,hr]
  .exact h.elim
 .rename_i cs n z e1;have hdd:=gR_ hT (show (cx.ty d).isA 3=true by unfold TI.isA;rw[show (cx.ty d).ok=true from hd];simp[e1]);obtain⟨ht,h⟩:=aj_.1 h;obtain⟨h8,h⟩:=aj_.1 h;obtain⟨hn,h⟩:=aj_.1 h;have hsd:=dp_ hT (iP_ ht).1;have h8:=Al_ hT h8;obtain⟨b,c,t,fz,rfl,_,hb,his,_⟩:=hx;obtain⟨str,hk,hr⟩:=HM_ (P:=P) (ad:=⟨b,0,none⟩) (c:=n) h his (hV_ hn) (λj y hj=>by rw[hc_,kN,go_ hb];simpa using hj);refine⟨_,_,_,w,hk,?_,Res.of I (v:= .g (.str _)) rfl dst⟩;rw[run_convert_bytes_string w s d _ _ _ _ hsd h8 hdd,hr]
 .rename_i str e1;cases hx;obtain⟨h8,h⟩:=aj_.1 h;have hdd:=dp_ hT (show (cx.ty d).isA 1=true by unfold TI.isA;rw[show (cx.ty d).ok=true from hd];simp[e1]);have h8:=Al_ hT h8;obtain⟨hbt,h⟩:=aj_.1 h;obtain⟨hsl,hK⟩:=bl_.1 h;obtain⟨u,w',hr,hres⟩:=rL_ (P:=P) I (cx.ty d).el hbt str (gv_.1 hsl) dst;refine⟨_,_,u,w',hK,?_,hres⟩;cases ds<;>simp[convert,run_underlying hds,run_underlying hdd,run_underlying h8,hr]
 .exact h.elim
def Src(P:Program)(w:World)(size:Nat)(ux:Value)(m:Nat)(xs:List Value):Prop:=
 (∀w',(Builtin.lenOf ux).run P w'= .ok m w')/\∀w',w'.heap=w.heap->(Builtin.firstCells size m ux).run P w'= .ok xs.toArray w'
def IY_ (I:Inv φ0 H0 w0 φ H lam fr tmps w) (h:J4_ H z y K) (Y:1<=z) (G:VOK w0.heap.size φ H lam fr w y uy):
 ∃cs m xs,K cs m/\Is2 φ cs xs/\(cs.length=m*z->Src P w z uy m xs):=by
 unfold J4_ at h;split at h
 ·rename_i a m W;rw[bl_]at h;have⟨O,h⟩:=h;unfold rdN at h;split at h
  ·rename_i cs V;have⟨xs,r,T,C⟩:=uv_ I.rep G V λq=>g_;refine⟨cs,m,xs,h,r,λF=>?_⟩;rcases C with⟨rfl,rfl,rfl,rfl⟩|⟨U,c,rfl,L⟩
   .cases r.nil_inv;exact⟨λw'=>by simp[Builtin.lenOf],λw' _=>by simp[Builtin.firstCells]⟩
   ·refine⟨λw'=>by simp[Builtin.lenOf],λw' N=>?_⟩;have D:=run_loadCells_list (P:=P) w' U xs (λj v J=>by
     rw[World.cell?_of_block (w:=w) (w':=w') g_];exact L j v J)
    rw[<-r.length,T]at D;simpa
  .grind
 ·rename_i cs m W;rw[aj_]at h;have⟨_,h⟩:=h;obtain⟨b,c,t,X,rfl,_,Q,r,_⟩:=G;refine⟨cs,m,c.toList,h,r,λF=>⟨λw'=>by simp[Builtin.lenOf],λw' N=>?_⟩⟩;have D:=run_loadCells_list (P:=P) w' ⟨b,0,none⟩ c.toList (λj v J=>by
   rw[hc_,kN,go_ (by rw[N];exact Q)];simpa using J)
  rw[<-r.length,F]at D;simpa
 .rename_i s;cases G;refine⟨_,_,_,h,xa_ φ s,λF=>⟨λw'=>by simp[Builtin.lenOf,szN],λw' _=>?_⟩⟩;simp only[Builtin.firstCells,szN,Array.toArray_toList];simp_all
 .grind
section run
variable{t t' ty e:TypeId}{d':TypeDesc}{i:TypeInfo}{zv:Value}
def run_append_in(ht:P.underlying t=some (.slice e))(ht':P.underlying t'=some d')(hd':(∃x,d'= .slice x)\/d'= .string)(hi:P.info? e=some i)(hz:i.zero=some zv){b:Addr}{n c m:Nat}{ux:Value}{xs:List Value}(hs:Src P w i.size ux m xs)(hle:n+m<=c):
 (Builtin.append_ #[t,t'] ty #[.slice (some b) n c,ux]).run P w=((storeCells (b.add (n*i.size)) xs).run P w).andThen λ_ w'=> .ok (.slice (some b) (n+m) c) w':=by
 have h1:=hs.1 w;have h2:=hs.2 w rfl;rcases hd' with⟨x,rfl⟩|rfl<;>simp[Builtin.append_,run_underlying ht,run_underlying ht',sizeOf,typeInfo,hi,h1,h2,hle]
def yf_(ht:P.underlying t=some (.slice e))(ht':P.underlying t'=some d')(hd':(∃x,d'= .slice x)\/d'= .string)(hi:P.info? e=some i)(hz:i.zero=some zv){m:Nat}{ux:Value}{xs:List Value}(hs:Src P w i.size ux m xs)(hm:m=0):
 (Builtin.append_ #[t,t'] ty #[.slice none 0 0,ux]).run P w= .ok (.slice none 0 0) w:=by
 subst hm;have h1:=hs.1 w;have h2:=hs.2 w rfl;rcases hd' with⟨x,rfl⟩|rfl<;>simp[Builtin.append_,run_underlying ht,run_underlying ht',sizeOf,typeInfo,hi,h1,h2]
def run_append_up (ht:P.underlying t=some (.slice e)) (ht':P.underlying t'=some d') (hd':(∃x,d'= .slice x)\/d'= .string) (hi:P.info? e=some i) (hz:i.zero=some zv) {base:Option Addr} {n c m:Nat} {ux:Value} {xs olds:List Value} (hs:Src P w i.size ux m xs) (ho:(Builtin.firstCells i.size n (.slice base n c)).run P w.drew= .ok olds.toArray w.drew) (hg:c<n+m)
 (h63:((n+m:Nat):Int)<=9223372036854775807) (hfit:Builtin.nextslicecap (n+m) c*i.bytes<=281474976710656):
 (Builtin.append_ #[t,t'] ty #[.slice base n c,ux]).run P w= .ok (.slice (some ⟨w.heap.size,0,none⟩) (n+m) (grownCap w (n+m) c e))
  (w.drew.alloc (.cells (olds.toArray++xs.toArray++Builtin.zeroCells zv.cells (grownCap w (n+m) c e-(n+m))) e)):=by
 have h1:=hs.1 w;have h2:=hs.2 w.drew rfl;have hn: ¬ (n+m<=c):=o_
 have h63': ¬ (9223372036854775807<((n:Int)+(m:Int))):=o_
 have h48': ¬ (281474976710656<Builtin.nextslicecap (n+m) c*i.bytes):=o_
 rcases hd' with⟨x,rfl⟩|rfl<;>simp[Builtin.append_,run_underlying ht,run_underlying ht',sizeOf,typeInfo,zeroValue,hi,hz,h1,h2,hn,h63',h48',Question.forced,ho,newRow,grownCap]<;>
  (congr 2;apply Array.ext';simp[kV])
end run
def Kt_(I:Inv φ0 H0 w0 φ H lam fr tmps w){e n cap z:Nat}(y:cs.length=n*z)(m:n<=cap)(r:cap<=9223372036854775807)(A:c.size=cap*z)(f:Is2 φ cs (c.toList.take cs.length)):
 ∃φ',bS_ φ H w φ' (H++[.row true e cs]) (w.drew.alloc (.cells c e))/\(GV.sl (some (ln H,0)) n z).is φ' (.slice (some ⟨w.heap.size,0,none⟩) n cap):=by
 have q:n*z<=cap*z:=Nat.mul_le_mul_right _ m;have B:=(bS_.drew I.rep).trans (bS_.new (bS_.drew I.rep).rep e cs c (0,0) o_ f λj _ h=>o_);refine⟨_,B,_,_,cap,by simp only[ln,<-I.rep.len];exact getElem?_concat_length,rfl,.inl rfl,m,?_,λ_=>⟨rfl,?_,r⟩⟩
 .grind
 .grind
def iK_ (b o:Nat) (t:TypeId) (r:Nat × Nat):∀(vs:List Value)(k:Nat)(c:Array Value)(w:World),w.heap[b]?=some (.cells c t r)->o+k+vs.length<=c.size->(∀j,r.1<=j->j<r.2->c.size<=j)->(∀v∈vs,v.oneCell'=true)->
 ∃w' c',(storeCells ⟨b,o,none⟩ vs k).run P w= .ok () w'/\d6_ (λN=>N=b) w w'/\w'.heap[b]?=some (.cells c' t r)/\c'.toList=c.toList.take (o+k)++vs++c.toList.drop (o+k+vs.length)
 |[],k,c,w,q,_,_,_=>⟨w,c,by simp[storeCells],d6_.refl _ _,q,t_⟩
 | v::vs,k,c,w,q,I,Q,F=>by
  have y:o+k<c.size:=i_ I
  have m:w.cell? ⟨b,o+k,none⟩=some c[o+k]:=by rw[go_ q,Array.getElem?_eq_getElem y]
  have D:w.frozen? ⟨b,o+k,none⟩=false:=by
   simp[World.frozen?,q];grind
  have C:(store ((⟨b,o,none⟩:Addr).add k) v).run P w= .ok () (w.setCell ⟨b,o+k,none⟩ v):=by
   rw[hc_,run_store P w _ v _ (F v t_),m];simp[D]
  obtain⟨w',c',O,G,A,J⟩:=iK_ b o t r vs (k+1) (c.setIfInBounds (o+k) v) (w.setCell ⟨b,o+k,none⟩ v) (jf_ q) g_ (λj a b=>g_) (λx L=>F x (by simp[L]));refine⟨w',c',?_,(ld_ w b (o+k) v).trans G λb h=> .inl h,A,?_⟩
  .simp[storeCells,C,O]
  .have:=jl_ c.toList (o+k) v vs o_;grind
def z1_ (hT:cB_ P cx.tys) (I:Inv φ0 H0 w0 φ H lam fr tmps w) {t t' ty e:TypeId} (X:P.underlying t=some (.slice e)) (J:P.underlying t'=some d') (F:(∃x,d'= .slice x)\/d'= .string)
 (he:cx.okT e=true) (hz:1<=(cx.ty e).lv.length) (Y:1<=(cx.ty e).by_) {base:Option Addr} {n c m:Nat} {T:Value} {olds xs:List Value} {ocs cs:List GV}
 (Z:Src P w (cx.ty e).lv.length T m xs) (V:(Builtin.firstCells (cx.ty e).lv.length n (.slice base n c)).run P w.drew= .ok olds.toArray w.drew) (U:c<n+m) (C:(n+m)*(cx.ty e).by_<=Lim)
 (hol:ocs.length=n*(cx.ty e).lv.length) (W:cs.length=m*(cx.ty e).lv.length) (q:Is2 φ ocs olds) (r:Is2 φ cs xs):
 ∃φ' u w',(Builtin.append_ #[t,t'] ty #[.slice base n c,T]).run P w= .ok u w'/\bS_ φ H w φ' (H++[.row true e (ocs++cs)]) w'/\(GV.sl (some (ln H,0)) (n+m) (cx.ty e).lv.length).is φ' u:=by
 have⟨i,D,hi,y,G,N,A⟩:=fR_ hT he;have f:(n+m)*i.bytes<=140737488355328:=by rw[A];exact C
 have L:((n+m):Int)<=9223372036854775807:=by
  have:(n+m)*1<=(n+m)*(cx.ty e).by_:=Nat.mul_le_mul_left _ Y;rw[A]at f;omega
 have hr:=run_append_up (ty:=ty) X J F hi G (by rw[y];exact Z) (by rw[y];exact V) U L (growslice_fits U f);have j:n+m<=grownCap w (n+m) c e:=by simp[grownCap,Question.cut]
 have l1:=q.length;have l2:=r.length;have O:D.cells.size=(cx.ty e).lv.length:=by rw[<-Array.length_toList,N];simp
 have Q:(Builtin.zeroCells D.cells (grownCap w (n+m) c e-(n+m))).size=(grownCap w (n+m) c e-(n+m))*(cx.ty e).lv.length:=by simp[Builtin.zeroCells,O]
 have e1:(grownCap w (n+m) c e-(n+m))*(cx.ty e).lv.length=grownCap w (n+m) c e*(cx.ty e).lv.length-(n+m)*(cx.ty e).lv.length:=Nat.sub_mul _ _ _;have e2:(n+m)*(cx.ty e).lv.length<=grownCap w (n+m) c e*(cx.ty e).lv.length:=Nat.mul_le_mul_right _ j;obtain⟨φ',B,hv⟩:=Kt_ I (z:=(cx.ty e).lv.length) (cs:=ocs++cs)
  (c:=olds.toArray++xs.toArray++Builtin.zeroCells D.cells (grownCap w (n+m) c e-(n+m)))
  g_ j (grownCap_le_maxLen w (n+m) c e (by unfold maxLen;omega)) g_
  (by
   simp only[Array.toList_append];rw[take_left' s_];exact q.append r)
 exact⟨φ',_,_,hr,B,hv⟩
def B1_{α:Type}(l zs:List α)(q n:Nat)(h:q+zs.length<=n)(j:n<=l.length):(l.take q++zs++l.drop (q+zs.length)).take n=(l.take n).take q++zs++(l.take n).drop (q+zs.length):=by
 have f:(l.take q++zs).length=q+zs.length:=g_
 rw[take_append,k7 o_,f,drop_take,take_take,Nat.min_eq_left o_]
def IQ_ (hT:cB_ P cx.tys) (I:Inv φ0 H0 w0 φ H lam fr tmps w) {t t' ty:TypeId} {x y:FV} {ux uy:Value} {K:FV->Hp->Prop} (ht:cx.isSl t=true) (hf:cx.full (cx.ty t).el=true) (ht':((cx.ty t').isA 1||(cx.ty t').isA 3)=true)
 (h:JQ_ cx (cx.ty t).el x y H K) (hx:VOK w0.heap.size φ H lam fr w x ux) (hy:VOK w0.heap.size φ H lam fr w y uy) (dst:Option Tmp):
 ∃v H' u w',K v H'/\(Builtin.append_ #[t,t'] ty #[ux,uy]).run P w= .ok u w'/\Res φ0 H0 w0 dst v fr H' tmps u w':=by
 have ht:=iP_ ht;have hd:=dp_ hT ht.1;have hd':∃d',P.underlying t'=some d'/\((∃x,d'= .slice x)\/d'= .string):=by
  rw[Bool.or_eq_true]at ht';rcases ht' with q|q
  .exact⟨_,dp_ hT q,.inl ⟨_,rfl⟩⟩
  .exact⟨_,gR_ hT q,.inr rfl⟩
 obtain⟨d',hd1,hd2⟩:=hd';have hfull:1<=(cx.ty (cx.ty t).el).lv.length/\1<=(cx.ty (cx.ty t).el).by_:=by
  unfold Cx.full at hf;split at hf
  .rename_i q1 q2;exact⟨Nat.le_of_ble_eq_true q1,Nat.le_of_ble_eq_true q2⟩
  .cases hf
 obtain⟨hz,hb⟩:=hfull;unfold JQ_ at h;obtain⟨cs,m,xs,hK,his,hsrc⟩:=IY_ (P:=P) I h hz hy;replace h:=hK;clear hK;have hxl:=his.length;split at h
 ·rename_i a n z';rw[bl_]at h;obtain⟨hzz,h⟩:=h;unfold ap at h;split at h
  ·rename_i a' n' H' he;unfold app? at he;split at he
   ·rename_i hc;obtain⟨hlim,hcl⟩:=hc;have hS:=hsrc hcl;split at he
    ·split at he
     .rename_i e0;subst e0;obtain⟨_,rfl⟩:=hx;split at he
      .rename_i e0;cases he;obtain⟨i,zv,hi,hsz,hzv,_⟩:=fR_ hT ht.2;exact⟨_,_,_,w,h,yf_ hd hd1 hd2 hi hzv (by rw[hsz];exact hS) e0,Res.of (v:= .g (.sl none 0 _)) I ⟨rfl,rfl⟩ dst⟩
      .cases he;obtain⟨φ',u,w',hr,B,hv⟩:=z1_ (ty:=ty) hT I hd hd1 hd2 ht.2 hz hb (base:=none) (n:=0) (c:=0) (olds:=[]) (ocs:=[]) hS (by simp[Builtin.firstCells]) o_ hlim t_ hcl .nil his;rw[kN]at hv;exact⟨_,_,u,w',h,hr,Res.of (v:= .g (.sl (some (ln H,0)) _ (cx.ty (cx.ty t).el).lv.length)) (u:=u) (I.back B) hv dst⟩
     .cases he
    ·rename_i l o;split at he
     ·rename_i t1 cs1 hl;split at he
      ·rename_i hc1;obtain⟨rfl,rfl,hl1⟩:=hc1;cases he;obtain⟨i,ad,c,hi,rfl,hq,hnc,hu,hown⟩:=hx;have hz':z'=(cx.ty (cx.ty t).el).lv.length:=by rcases x2_ hzz with q|q;exact q;cases q
       rw[hz']at hu hown;obtain⟨i',hi',r1,r2,r3,hp,c0,t0,fz,hblk,ht0,hs0,hfz,hle,hisr⟩:=I.rep.row l true _ cs1 hl;rw[hi]at hi';cases hi';obtain⟨_,hcap,hc63⟩:=hown r1;have hlt:l<φ.length:=I.rep.lt hl;by_cases hin:n+m<=c
       .
        obtain⟨ii,zv,hii,hsz,hzv,_⟩:=fR_ hT ht.2;have hr:=run_append_in (P:=P) (w:=w) (ty:=ty) (b:=ad) (n:=n) (c:=c) hd hd1 hd2 hii hzv (by rw[hsz];exact hS) hin;rw[hsz]at hr;have hnm:(n+m)*(cx.ty (cx.ty t).el).lv.length<=c*(cx.ty (cx.ty t).el).lv.length:=Nat.mul_le_mul_right _ hin;have e3:(n+m)*(cx.ty (cx.ty t).el).lv.length=n*(cx.ty (cx.ty t).el).lv.length+m*(cx.ty (cx.ty t).el).lv.length:=Nat.add_mul _ _ _;by_cases hs1:i.s=0
        ·have hc0:c=0:=by
          rcases Nat.eq_zero_or_pos c with q|q
          .exact q
          .have:1*1<=c*(cx.ty (cx.ty t).el).lv.length:=Nat.mul_le_mul q hz;omega
         have hm0:m=0:=o_
         have hn0:n=0:=o_
         subst hm0;subst hn0;have hcs:cs=[]:=by apply eq_nil_of_length_eq_zero;omega
         have hcs1:cs1=[]:=by apply eq_nil_of_length_eq_zero;omega
         subst hcs;subst hcs1;cases his.nil_inv;simp[storeCells]at hr;have Bd:=bS_.drop I.rep l;have hno: ¬ hN_ φ (H.set l .dead) i.b:=by
          intro⟨l2,o2,i2,g1,g2,g3,g4⟩;rcases es_ g1 with⟨_,e⟩|⟨ne,g1⟩
          .cases e;exact g4
          .exact I.rep.apart l2 l o2 _ i2 i g1 hl rfl ne g2 hi g4 g3
         obtain⟨R,o1,o2⟩:=Bd.rep.snoc (w':=w) (own:=true) (t:=(cx.ty t).el) (cs:=[]) (i:=⟨i.b,0,true,0,0⟩) (kO _) (λ_ _=>rfl)
          ⟨rfl,rfl,r3,rfl,c0,t0,fz,hblk,n_,by simp[hs0,hs1],λj g1 g2=>⟨kP _,λq=>by have:=(hfz j g1 g2).2 q;show 0<j;omega⟩,kP _,.nil⟩ (λ_ q=>j_ q) hno
         have hrow:iz_ φ H i.b:= .of hl hi;refine⟨_,_,_,w,h,hr,Res.of (I.go (prefix_append _ _) R (d6_.refl _ _) (λb q=>?_) λb q=>?_) ?_ dst⟩
         .rcases o1 b q with q|⟨_,_,q⟩
          .exact Bd.own b q
          .simp at q
         ·rcases o2 b q with q|q
          ·rcases Bd.row b q with q|q
           .exact .inl q
           .obtain⟨l2,o2,i2,g1,gv,g2,g3⟩:= ‹iz_ φ (H.set l .dead) b›;rcases es_ g1 with⟨_,e⟩|⟨_,g1⟩
            .cases e;cases gv
            .exact .inl ⟨l2,o2,i2,g1,gv,g2,g3⟩
          .exact .inl (q▸hrow)
         .refine⟨⟨i.b,0,true,0,0⟩,ad,c,by rw[<-I.rep.len];exact getElem?_concat_length,rfl,.inr hc0,o_,t_,λ_=>⟨rfl,by simp[hc0],hc63⟩⟩
        ·have hpos:0<i.s:=by omega
         have hst:∃w' c',(storeCells (ad.add (n*(cx.ty (cx.ty t).el).lv.length)) xs).run P w= .ok () w'/\d6_ (λb'=>b'=i.b) w w'/\w'.heap[i.b]?=some (.cells c' t0 fz)/\c'.toList=c0.toList.take (n*(cx.ty (cx.ty t).el).lv.length)++xs++c0.toList.drop (n*(cx.ty (cx.ty t).el).lv.length+xs.length):=by
          rcases hq with hq|hq
          .have:=iK_ (P:=P) i.b (n*(cx.ty (cx.ty t).el).lv.length) t0 fz xs 0 c0 w hblk (by rw[hs0];omega) (by rw[hs0];exact λj g1 g2=>(hfz j g1 g2).1) his.one;rw[hq,hc_,hp];simpa using this
          .have hm0:m=0:=by omega
           subst hm0;have:xs=[]:=by apply eq_nil_of_length_eq_zero;omega
           subst this;exact⟨w,c0,by simp[storeCells],d6_.refl _ _,hblk,t_⟩
         obtain⟨w',c',hsr,hk,hb',hc'⟩:=hst;rw[hsr]at hr;have hc0l:c0.toList.length=i.s:=u_ hs0
         have hc's:c'.size=i.s:=by
          rw[<-Array.length_toList,hc'];simp;omega
         have B:=bS_.pass (i':=⟨i.b,0,true,(cs1++cs).length,i.s⟩) (cs':=cs1++cs) (t':=(cx.ty t).el) I.rep hl hi hpos rfl hk
          ⟨rfl,rfl,by have:=hk.size;exact Nat.lt_of_lt_of_le r3 this,rfl,c',t0,fz,hb',ht0,hc's,hfz,by rw[hc's,kI];omega,by
           have e4:c'.toList.take (cs1++cs).length=c0.toList.take cs1.length++xs:=by
            rw[hc',take_left' s_,hl1]
           rw[e4];exact (Is2.mono (prefix_append _ _) hisr).append (Is2.mono (prefix_append _ _) his)⟩
         refine⟨_,_,_,w',h,hr,Res.of (I.back B) ?_ dst⟩;refine⟨⟨i.b,0,true,(cs1++cs).length,i.s⟩,ad,c,by rw[<-I.rep.len];exact getElem?_concat_length,rfl,?_,hin,?_,λ_=>⟨rfl,?_,hc63⟩⟩
         .rcases hq with hq|hq
          .left;rw[hq,hp]
          .exact .inr hq
         .show (cs1++cs).length<=_;rw[kI];omega
         .show 0+_<=i.s;omega
       .
        have hfc:(Builtin.firstCells (cx.ty (cx.ty t).el).lv.length n (.slice (some ad) n c)).run P w.drew= .ok (c0.toList.take cs1.length).toArray w.drew:=by
         have hlen:(c0.toList.take cs1.length).length=n*(cx.ty (cx.ty t).el).lv.length:=s_
         have h1:=run_loadCells_list (P:=P) w.drew ad (c0.toList.take cs1.length) (λj v hv=>by
          have hj:=jP_ hv;rcases hq with hq|hq
          .rw[hq,hc_,hp,kN];rw[go_ (w:=w.drew) (b:=i.b) hblk];rw[getElem?_take]at hv;split at hv
           .simpa using hv
           .cases hv
          .rw[hlen]at hj;have:n=0:=by omega
           subst this;omega)
         rw[hlen]at h1;simpa[Builtin.firstCells] using h1
        obtain⟨φ',u,w',hr,B,hv⟩:=z1_ (ty:=ty) hT I hd hd1 hd2 ht.2 hz hb (base:=some ad) (n:=n) (c:=c) hS hfc o_ hlim hl1 hcl hisr his;have B2:=B.trans (bS_.drop B.rep l);rw[set_append_left _ _ (by rw[<-I.rep.len];exact hlt)]at B2;exact⟨_,_,u,w',h,hr,Res.of (v:= .g (.sl (some (ln H,0)) _ (cx.ty (cx.ty t).el).lv.length)) (u:=u) (I.back B2) hv dst⟩
      ·split at he
       ·rename_i hc1 hle1;cases he;obtain⟨i,ad,c,hi,rfl,hq,hnc,hu,hown⟩:=hx;have hz':z'=(cx.ty (cx.ty t).el).lv.length:=by rcases x2_ hzz with q|q;exact q;cases q
        rw[hz']at hu hown;obtain⟨i',hi',r1,r2,r3,hp,c0,t0,fz,hblk,ht0,hs0,hfz,hle,hisr⟩:=I.rep.row l true _ cs1 hl;rw[hi]at hi';cases hi';have e3:(n+m)*(cx.ty (cx.ty t).el).lv.length=n*(cx.ty (cx.ty t).el).lv.length+m*(cx.ty (cx.ty t).el).lv.length:=Nat.add_mul _ _ _;have hin:n+m<=c:=by
         have h1:(n+m)*(cx.ty (cx.ty t).el).lv.length<=c*(cx.ty (cx.ty t).el).lv.length:=o_
         exact Nat.le_of_mul_le_mul_right h1 hz
        obtain⟨ii,zv,hii,hsz,hzv,_⟩:=fR_ hT ht.2;have hr:=run_append_in (P:=P) (w:=w) (ty:=ty) (b:=ad) (n:=n) (c:=c) hd hd1 hd2 hii hzv (by rw[hsz];exact hS) hin;rw[hsz]at hr;have hus:i.u=cs1.length:=r2;by_cases hm0:m=0
        ·subst hm0;have hcs:cs=[]:=by apply eq_nil_of_length_eq_zero;omega
         subst hcs;cases his.nil_inv;simp[storeCells]at hr;have hsame:H.set l (.row true t1 (cs1.take (o+n*(cx.ty (cx.ty t).el).lv.length)++[]++cs1.drop (o+(n+0)*(cx.ty (cx.ty t).el).lv.length)))=H:=by
          rw[append_nil,kQ,lD];apply ext_getElem?;intro j;by_cases e:l=j
          .subst e;rw[kH (kC.1 hl).1,hl]
          .rw[kF e]
         rw[hsame]at h;exact⟨_,_,_,w,h,hr,Res.of (v:= .g (.sl (some (l,o)) _ (cx.ty (cx.ty t).el).lv.length)) I ⟨i,ad,c,hi,rfl,hq,o_,hu,hown⟩ dst⟩
        ·have hm1:1*1<=m*(cx.ty (cx.ty t).el).lv.length:=Nat.mul_le_mul o_ hz;have hq:ad=⟨i.b,o,none⟩:=by
          rcases hq with q|q
          .rw[q,hp,kN]
          .omega
         subst hq;have hst:=iK_ (P:=P) i.b (o+n*(cx.ty (cx.ty t).el).lv.length) t0 fz xs 0 c0 w hblk o_ (by rw[hs0];exact λj g1 g2=>(hfz j g1 g2).1) his.one;obtain⟨w',c',hsr,hkp,hb',hc'⟩:=hst;rw[kQ]at hc';rw[hc_,hsr]at hr;have hc's:c'.size=i.s:=by
          rw[<-Array.length_toList,hc'];have:c0.toList.length=i.s:=u_ hs0
          simp only[kI,lC,length_drop];omega
         have hcl':(cs1.take (o+n*(cx.ty (cx.ty t).el).lv.length)++cs++cs1.drop (o+(n+m)*(cx.ty (cx.ty t).el).lv.length)).length=cs1.length:=by
          simp only[kI,lC,length_drop];omega
         have hxx:xs.length=m*(cx.ty (cx.ty t).el).lv.length:=o_
         have hdr:o+(n+m)*(cx.ty (cx.ty t).el).lv.length=o+n*(cx.ty (cx.ty t).el).lv.length+xs.length:=o_
         have B:=bS_.turn (cs':=cs1.take (o+n*(cx.ty (cx.ty t).el).lv.length)++cs++cs1.drop (o+(n+m)*(cx.ty (cx.ty t).el).lv.length)) I.rep hl hi o_ hkp
          ⟨r1,by rw[hcl'];exact r2,by have:=hkp.size;exact Nat.lt_of_lt_of_le r3 this,hp,c',t0,fz,hb',ht0,hc's,hfz,by rw[hcl'];omega,by
           have hc0l:cs1.length<=c0.toList.length:=u_ hle
           have e4:=B1_ c0.toList xs (o+n*(cx.ty (cx.ty t).el).lv.length) cs1.length o_ hc0l;rw[hcl',hc',e4,hdr];exact Is2.fill hisr his _ _⟩
         exact⟨_,_,_,w',h,hr,Res.of (v:= .g (.sl (some (l,o)) _ (cx.ty (cx.ty t).el).lv.length)) (I.back B) ⟨i,_,c,hi,rfl,.inl (by rw[hp,kN]),hin,hu,hown⟩ dst⟩
       .cases he
     .cases he
   .cases he
  .exact h.elim
 ·rename_i z0;obtain⟨⟨hlim,hcl⟩,h⟩:=h;obtain⟨b,c,t1,fz,rfl,hb0,hblk,hcis,⟨_,hfz0⟩,hno,hnb⟩:=hx;have hS:=hsrc hcl;by_cases hm:m=0
  ·subst hm;have hcs:cs=[]:=by apply eq_nil_of_length_eq_zero;omega
   subst hcs;cases his.nil_inv;have hc0:c.size=0:=by have:=hcis.nil_inv;rw[<-Array.length_toList,this];rfl
   obtain⟨ii,zv,hii,hsz,hzv,_⟩:=fR_ hT ht.2;have hr:=run_append_in (P:=P) (w:=w) (ty:=ty) (b:=⟨b,0,none⟩) (n:=0) (c:=0) hd hd1 hd2 hii hzv (by rw[hsz];exact hS) o_;simp[storeCells]at hr;obtain⟨R,o1,o2⟩:=I.rep.snoc (w':=w) (own:=true) (t:=(cx.ty t).el) (cs:=[]) (i:=⟨b,0,true,0,0⟩) (kO _) (λ_ _=>rfl)
    ⟨rfl,rfl,(Array.getElem?_eq_some_iff.1 hblk).1,rfl,c,t1,fz,hblk,n_,by simp[hc0],λj _ g2=>(by rw[hfz0]at g2;simp at g2),kP _,.nil⟩ (λ_ q=>j_ q) hno
   refine⟨_,_,_,w,h,hr,Res.of (I.go (prefix_append _ _) R (d6_.refl _ _) (λb' q=>?_) λb' q=>?_) ?_ dst⟩
   .rcases o1 b' q with q|⟨_,_,q⟩
    .exact .inl q
    .simp at q
   .rcases o2 b' q with q|q
    .exact .inl q
    .exact .inr (by rw[q];exact⟨hb0,hnb⟩)
   .exact⟨⟨b,0,true,0,0⟩,_,0,by simp only[ln,<-I.rep.len];exact getElem?_concat_length,rfl,.inl rfl,kO _,t_,λ_=>⟨rfl,t_,o_⟩⟩
  .obtain⟨φ',u,w',hr,B,hv⟩:=z1_ (ty:=ty) hT I hd hd1 hd2 ht.2 hz hb (base:=some ⟨b,0,none⟩) (n:=0) (c:=0) (olds:=[]) (ocs:=[]) hS (by simp[Builtin.firstCells,loadCells,loadCellsFrom]) o_ (u_ hlim) t_ hcl .nil his;rw[kN]at hv;exact⟨_,_,u,w',h,hr,Res.of (v:= .g (.sl (some (ln H,0)) _ (cx.ty (cx.ty t).el).lv.length)) (u:=u) (I.back B) hv dst⟩
 .exact h.elim
def IX_ (hT:cB_ P cx.tys) (I:Inv φ0 H0 w0 φ H lam fr tmps w) {t ty:TypeId} {x:FV} {ux:Value} {K:FV->Hp->Prop} (h:JZ_ cx t x H K) (hx:VOK w0.heap.size φ H lam fr w x ux) (dst:Option Tmp):
 ∃v H' u w',K v H'/\(Builtin.clear_ #[t] ty #[ux]).run P w= .ok u w'/\Res φ0 H0 w0 dst v fr H' tmps u w':=by
 unfold JZ_ at h;split at h
 ·rename_i a n z';obtain⟨ht,h⟩:=aj_.1 h;obtain⟨hf,h⟩:=aj_.1 h;obtain⟨hzz,h⟩:=bl_.1 h;have ht:=iP_ ht;have hd:=dp_ hT ht.1;obtain⟨i0,zv,hi0,hsz,hzv,hzc,_⟩:=fR_ hT ht.2;have hzs:zv.cells.size=(cx.ty (cx.ty t).el).lv.length:=by rw[<-Array.length_toList,hzc];simp
  cases n with
  |zero=>
   refine⟨_,_,.tuple #[],w,h,?_,Res.of (v:= .bad) I trivial dst⟩;cases a with
   |none=>obtain⟨_,rfl⟩:=hx;simp[Builtin.clear_,run_underlying hd]
   |some p=>obtain⟨l,o⟩:=p;obtain⟨_,q,c,_,rfl,_⟩:=hx;simp[Builtin.clear_,run_underlying hd]
  | succ n'=>
   unfold clr at h;dsimp only at h;cases a with
   |none=>exact h.elim
   | some p=>
    obtain⟨l,o⟩:=p;obtain⟨i,ad,c,hi,rfl,hq,hnc,hu,hown⟩:=hx;have hz':z'=(cx.ty (cx.ty t).el).lv.length:=by rcases x2_ hzz with q|q;exact q;cases q
    dsimp only at h;split at h
    ·rename_i t' cs hl;obtain⟨hle,hk⟩:=h;have hzl:(eY_ (cx.ty (cx.ty t).el).lv).length=(cx.ty (cx.ty t).el).lv.length:=by simp[eY_]
     rw[hzl]at hle hk;obtain⟨i',hi',r1,r2,r3,hp,c0,t0,fz,hblk,ht0,hs0,hfz,hle0,his⟩:=I.rep.row l true t' cs hl;rw[hi]at hi';cases hi';have hfull:1<=(cx.ty (cx.ty t).el).lv.length:=by
      unfold Cx.full at hf;split at hf
      .rename_i q1 q2;exact Nat.le_of_ble_eq_true q1
      .cases hf
     have hq:ad=⟨i.b,o,none⟩:=by
      rcases hq with q|q
      .rw[q,hp,kN]
      .omega
     subst hq;obtain⟨q,hqo⟩:∃q,q=o:=⟨_,rfl⟩;subst hqo;have hzis:Is2 φ ((replicate (n'+1) (eY_ (cx.ty (cx.ty t).el).lv)).flatten) (Builtin.zeroCells zv.cells (n'+1)).toList:=AH_ φ _ zv.cells hzc (n'+1) _ (by rw[hzs]);have hzlen:=hzis.length;have hzlen2:(Builtin.zeroCells zv.cells (n'+1)).toList.length=(n'+1)*(cx.ty (cx.ty t).el).lv.length:=by simp[Builtin.zeroCells,hzs]
     have hpos:1*1<=(n'+1)*(cx.ty (cx.ty t).el).lv.length:=Nat.mul_le_mul o_ hfull;obtain⟨w',c',hr,hkp,hb',hc'⟩:=iK_ (P:=P) i.b q t0 fz (Builtin.zeroCells zv.cells (n'+1)).toList 0 c0 w hblk o_ (by rw[hs0];exact λj g1 g2=>(hfz j g1 g2).1) hzis.one;have hc's:c'.size=i.s:=by
      rw[<-Array.length_toList,hc'];have:c0.toList.length=i.s:=u_ hs0
      simp only[kI,lC,length_drop];omega
     have hcl:(cs.take q++(replicate (n'+1) (eY_ (cx.ty (cx.ty t).el).lv)).flatten++cs.drop (q+(n'+1)*(cx.ty (cx.ty t).el).lv.length)).length=cs.length:=by
      simp only[kI,lC,length_drop];omega
     have B:=bS_.turn (cs':=cs.take q++(replicate (n'+1) (eY_ (cx.ty (cx.ty t).el).lv)).flatten++cs.drop (q+(n'+1)*(cx.ty (cx.ty t).el).lv.length)) I.rep hl hi o_ hkp
      ⟨r1,by rw[hcl];exact r2,by have:=hkp.size;exact Nat.lt_of_lt_of_le r3 this,hp,c',t0,fz,hb',ht0,hc's,hfz,by rw[hcl];omega,by
       have e4:c'.toList.take cs.length=((c0.toList.take cs.length).take q)++(Builtin.zeroCells zv.cells (n'+1)).toList++((c0.toList.take cs.length).drop (q+(n'+1)*(cx.ty (cx.ty t).el).lv.length)):=by
        rw[hc',hzlen2];have hc0l:cs.length<=c0.toList.length:=u_ hle0
        have:=B1_ c0.toList (Builtin.zeroCells zv.cells (n'+1)).toList q cs.length o_ hc0l;rw[hzlen2]at this;exact this
       rw[hcl,e4];exact Is2.fill his hzis _ _⟩
     refine⟨_,_,.tuple #[],w',hk,?_,Res.of (v:= .bad) (I.back B) trivial dst⟩;have hrun:(storeCells ⟨i.b,q,none⟩ (Builtin.zeroCells zv.cells (n'+1)).toList).run P w= .ok () w':=hr;simp[Builtin.clear_,run_underlying hd,zeroValue,typeInfo,hi0,hzv,hrun]
    .exact h.elim
 .exact h.elim
end
end Go.Am
namespace Go.Am
open Go.MapKept (IsKey)
def sd_:GV->Value
 | .bool b=> .bool b | .int k n=> .int k n | .str s=> .string s|_=> .bool false
theorem Gv_(h:jk_ k v=true)(r:v.is φ x):x=sd_ v:=by
 cases v<;>cases k<;>simp[jk_]at h<;>exact r
theorem xr_:∀{A:List LK}{cs:List GV}{xs:List Value},kE_ A cs=true->Is2 φ cs xs->xs=cs.map sd_
 |[],[],xs,_,r=>by cases r.nil_inv;rfl
 |[],_::_,_,h,_=>k_ h
 |_::_,[],_,h,_=>k_ h
 |k::A,c::cs,xs,h,r=>by
  obtain⟨x,xs,rfl,C,r⟩:=r.cons_inv;unfold kE_ at h;split at h
  .rename_i e;rw[Gv_ e C,xr_ h r];rfl
  .cases h
def Dq_{a b:Y_}(h:a.toList=b.toList):a=b:=by
 rw[Lib.toList_data,Lib.toList_data]at h;have⟨⟨x⟩⟩:=a;simp_all
def I3_(A:jk_ k a=true)(r:jk_ k b=true):∃e,eqC a b=some e/\(e=true↔a=b):=by
 cases a<;>cases k<;>simp[jk_]at A<;>cases b<;>simp[jk_]at r
 .exact⟨_,rfl,by simp[eqB]⟩
 .subst A;subst r;exact⟨_,rfl,by simp[eqI]⟩
 .refine⟨_,rfl,?_⟩;simp[er_];exact⟨Dq_,λh=>by rw[h]⟩
def jK_:∀{D:List LK}{a b:List GV},kE_ D a=true->kE_ D b=true->∃e,lV_ a b=some e/\(e=true↔a=b)
 |[],[],[],_,_=>⟨true,rfl,t_⟩
 |[],[],_::_,_,h=>k_ h
 |[],_::_,_,h,_=>k_ h
 |_::_,[],_,h,_=>k_ h
 |_::_,_::_,[],_,h=>k_ h
 | k::D,a::U,b::bs,C,A=>by
  unfold kE_ at C A;split at C
  .rename_i J;split at A
   .rename_i G;have⟨e,I,O⟩:=I3_ J G;have⟨r,N,F⟩:=jK_ C A;exact⟨e&&r,by simp[lV_,I,N],by simp[O,F]⟩
   .cases A
  .cases C
def jT_ (h:nG_ ag lv k=true) (A:k.is φ x):(ag=false/\∃v,k= .s v/\x=sd_ v/\kE_ lv [v]=true)\/(ag=true/\∃cs,k= .a cs/\x= .agg (cs.map sd_).toArray/\kE_ lv cs=true):=by
 cases ag with
 | false=>
  cases k with
  |s v=>
   have C:kE_ lv [v]=true:=h;have r:Is2 φ [v] [x]:= .cons A .nil;have:=xr_ C r;grind
  |a cs=>cases h
 | true=>
  cases k with
  |s v=>cases h
  |a cs=>
   obtain⟨F,rfl,D⟩:=A;refine .inr ⟨rfl,cs,rfl,?_,h⟩;rw[<-xr_ h D]
def EG_(h:nG_ ag lv k=true)(F:nG_ ag lv k'=true)(J:k.is φ x)(A:k'.is φ x'):∃e,lV_ k.cells k'.cells=some e/\(e=true->x=x'):=by
 rcases jT_ h J with⟨I,v,rfl,rfl,r⟩|⟨I,V,rfl,rfl,r⟩<;>rcases jT_ F A with⟨G,U,rfl,rfl,D⟩|⟨G,N,rfl,rfl,D⟩
 .have⟨e,C,O⟩:=jK_ r D;exact⟨e,C,λq=>g_⟩
 .grind
 .grind
 .have⟨e,C,O⟩:=jK_ r D;exact⟨e,C,λq=>g_⟩
def si_(n:Nat)(h:jk_ lv v=true):Instr.sameBits n (sd_ v) (sd_ v)=true:=by
 cases v<;>cases lv<;>simp[jk_]at h<;>simp[sd_,Instr.sameBits,MapKept.bytes_beq]
def lC_:∀{A:List LK}{cs:List GV},kE_ A cs=true->∀v∈cs,∃k,jk_ k v=true
 |[],[],_,v,r=>g_
 |[],_::_,h,_,_=>k_ h
 |_::_,[],h,_,_=>k_ h
 | k::A,c::cs,h,v,r=>by
  unfold kE_ at h;split at h
  .rename_i e;cases r with
   |head=>exact⟨k,e⟩
   |tail _ r=>exact lC_ h v r
  .cases h
def Cp_ {α:Type}:∀(l:List α)(p:α × α),p∈l.zip l->p.1=p.2/\p.1∈l
 |[],p,h=>k_ h
 |a::l,p,h=>by
  cases h with
  |head=>exact⟨rfl,t_⟩
  |tail _ h=>have⟨r,A⟩:=Cp_ l p h;exact⟨r,g_⟩
theorem Bu_ (h:nG_ ag lv k=true) (D:k.is φ x):(Instr.keyThatStays x x).run P w= .ok x w:=by
 have F:Instr.sameBits 10000 x x=true:=by
  rcases jT_ h D with⟨_,v,rfl,rfl,f⟩|⟨_,I,rfl,rfl,f⟩
  .have⟨q,A⟩:=lC_ f v t_;exact si_ _ A
  .simp only[Instr.sameBits,beq_self_eq_true,Bool.true_and,List.all_eq_true];rintro⟨a,b⟩ C;have⟨e,r⟩:=Cp_ _ _ C;simp only at e r;subst e;simp at r;obtain⟨v,G,rfl⟩:=r;have⟨q,A⟩:=lC_ f v G;exact si_ _ A
 simp[Instr.keyThatStays,F]
section
variable{P:Program}{cx:Cx}{φ:List LI}{H:Hp}{w:World}
def hL_(h:cx.isMap t=true):(cx.ty t).isA 5=true/\cx.okT (cx.ty t).el=true/\cx.okT (cx.ty t).an=true/\
 (((cx.ty (cx.ty t).an).agg=false/\((cx.ty (cx.ty t).an).lv=[.bool]\/(∃k,(cx.ty (cx.ty t).an).lv=[.int k])\/(cx.ty (cx.ty t).an).lv=[.str]))\/((cx.ty (cx.ty t).an).agg=true/\(cx.ty (cx.ty t).an).cmp=true)):=by
 unfold Cx.isMap at h;grind
def zE_(C:cB_ P cx.tys)(D:cx.okT u=true)(G:(cx.ty u).agg=false)(A:(cx.ty u).lv=[.bool]\/(∃k,(cx.ty u).lv=[.int k])\/(cx.ty u).lv=[.str]):
 ∃d,P.underlying u=some d/\∀v,kE_ (cx.ty u).lv [v]=true->IsKey d (sd_ v):=by
 have⟨d,F,r⟩:=g8_ C D;refine⟨d,F,λv h=>?_⟩;rcases A with e|⟨k,e⟩|e<;>rw[e]at h<;>cases v<;>simp[kE_,jk_]at h<;>cases d<;>simp[d4_,qs_,xg_,e]at r<;>simp_all[IsKey,sd_]<;>(split at h<;>simp_all)
def op_ (hT:cB_ P cx.tys) (hm:cx.isMap t=true) (hf:nG_ (cx.ty (cx.ty t).an).agg (cx.ty (cx.ty t).an).lv k=true) (Z:k.is φ x) (Y:Bool):(Instr.checkKey Y 10000 (cx.ty t).an x).run P w= .ok () w:=by
 have⟨_,_,h3,h4⟩:=hL_ hm;rcases h4 with⟨ha,hl⟩|⟨ha,hc⟩
 .have⟨d,U,W⟩:=zE_ hT h3 ha hl;rcases jT_ hf Z with⟨_,v,rfl,rfl,f⟩|⟨e,_⟩
  .exact MapKept.run_checkKey U (W v f) Y 9999
  .grind
 ·have ⟨fs,U,C,hst,hgd⟩:=hT.2.1 _ hc;rcases jT_ hf Z with⟨e,_⟩|⟨_,cs,rfl,rfl,f⟩
  .grind
  ·unfold Instr.checkKey;simp only[Sem.run_bind,run_underlying U,Result.andThen_ok];rw[<-Array.forIn_toList];change qq_ P (cx.ty (cx.ty t).an).lv 0 fs.toList=true at C;generalize fs.toList=L at C;generalize 0=n at C;induction L generalizing n with
   |nil=>simp
   | cons g L ih=>
    unfold qq_ at C;simp only[kR,bne_iff_ne]at C;have⟨⟨⟨G,A⟩,D⟩,hrest⟩:=C;have A:=hV_ A;have W:∃q,(cx.ty (cx.ty t).an).lv[n]?=some q:=by
     unfold zx_ at D;rw[A]at D;cases N:(cx.ty (cx.ty t).an).lv[n]? with
     |none=>rw[N]at D;simp at D
     |some q=>exact⟨q,rfl⟩
    obtain⟨q,N⟩:=W;obtain⟨c,hc',J⟩:=(o4_ f).2 n q N;have h1:((cs.map sd_).toArray)[g.offset]?=some (sd_ c):=g_
    have key:∃d,P.underlying g.type=some d/\IsKey d (sd_ c)/\P.plainKey g.type=true:=by
     unfold zx_ at D;rw[A,N]at D;split at D
     .rename_i I F;cases I;cases c<;>simp[jk_]at J;exact⟨_,F,trivial,by simp[Program.plainKey,F]⟩
     .rename_i k1 k2 I F;cases I;cases c<;>simp[jk_]at J;have D:k1=k2:=by grind
      subst J;subst D;exact⟨_,F,rfl,by simp[Program.plainKey,F]⟩
     .rename_i I F;cases I;cases c<;>simp[jk_]at J;exact⟨_,F,trivial,by simp[Program.plainKey,F]⟩
     .cases D
    obtain⟨d,V,O,hp⟩:=key;have p1:=run_part_plain w hp h1;have p2:=MapKept.run_checkKey (w:=w) V O Y 9998;simp only[List.forIn_cons,Sem.run_bind,G,ne_eq,not_false_eq_true,if_true,Result.andThen_ok,p1,p2];exact ih (n+1) hrest
def x1_(P:Program)(w:World)(φ:List LI)(u:Nat)(x:Value)(es:List Ent)(xs:List MapEntry):Option Nat->Prop
 |none=>(Instr.findKey u x xs).run P w= .ok none w
 |some j=>∃e y,es[j]?=some e/\xs[j]?=some y/\gN_ φ e y/\y.key=x/\(Instr.findKey u x xs).run P w= .ok (some (j,y.val)) w
def wd_ {d:TypeDesc} {lv:List LK} {k:RV} {x:Value} (hkey:∀v,kE_ lv [v]=true->IsKey d (sd_ v)) (hf:nG_ false lv k=true) (hx:k.is φ x):∀{es:List Ent}{xs:List MapEntry}{i:Nat}{r:Option Nat},pd_ false lv k es i=some r->cA_ (gN_ φ) es xs->
 match r with|none=>Instr.findNow d x xs i=some none|some j=>∃m e y,j=i+m/\es[m]?=some e/\xs[m]?=some y/\gN_ φ e y/\y.key=x/\Instr.findNow d x xs i=some (some (j,y.val))
 |[],xs,i,r,h,ha=>by cases ha.nil_inv;cases h;rfl
 | e::es,xs,i,r,h,ha=>by
  obtain⟨y,xs,rfl,hy,ha⟩:=ha.cons_inv;unfold pd_ at h;split at h
  ·rename_i hfe;obtain⟨q,hq,himp⟩:=EG_ hf hfe hx hy.2.1;have hsn:Instr.sameNow d x y.key=some q:=by
    rcases jT_ hf hx with⟨_,v,rfl,rfl,f1⟩|⟨z,_⟩
    rotate_left
    .cases z
    rcases jT_ hfe hy.2.1 with⟨_,v',e1,e2,f2⟩|⟨z,_⟩
    rotate_left
    .cases z
    obtain⟨s,hs,hiff⟩:=MapKept.sameNow_of_keys (hkey v f1) (hkey v' f2);rw[e2,hs];rw[e1]at hq;obtain⟨s',hs',hiff'⟩:=jK_ f1 f2;have:lV_ (RV.s v).cells (RV.s v').cells=lV_ [v] [v']:=rfl;rw[this,hs']at hq;cases hq;congr 1;rw[Bool.eq_iff_iff,hiff,hiff'];constructor
    .intro z;obtain⟨q1,z1⟩:=lC_ f1 v t_;obtain⟨q2,z2⟩:=lC_ f2 v' t_;cases v<;>cases q1<;>simp[jk_]at z1<;>cases v'<;>cases q2<;>simp[jk_]at z2<;>simp_all[sd_]
    .intro z;cases z;rfl
   rw[hq]at h;cases q with
   |true=>
    cases h;exact⟨0,e,y,o_,t_,t_,hy,(himp rfl).symm,by simp[Instr.findNow,hsn]⟩
   | false=>
    have ih:=wd_ hkey hf hx h ha;cases r with
    |none=>simp only at ih ⊢;simp[Instr.findNow,hsn,ih]
    |some j=>
     obtain⟨m,e',y',rfl,h1,h2,h3,h4,h5⟩:=ih;exact⟨m+1,e',y',o_,u_ h1,u_ h2,h3,h4,by simp[Instr.findNow,hsn,h5]⟩
  .cases h
def Bg_ (hT:cB_ P cx.tys) (hc:(cx.ty u).cmp=true) (N:nG_ true (cx.ty u).lv k=true) (V:k.is φ x):∀{es:List Ent}{xs:List MapEntry}{i:Nat}{r:Option Nat},pd_ true (cx.ty u).lv k es i=some r->cA_ (gN_ φ) es xs->
 match r with|none=>(Instr.findAsking u x xs i).run P w= .ok none w|some j=>∃m e y,j=i+m/\es[m]?=some e/\xs[m]?=some y/\gN_ φ e y/\y.key=x/\(Instr.findAsking u x xs i).run P w= .ok (some (j,y.val)) w
 |[],xs,i,r,h,I=>by cases I.nil_inv;cases h;simp[Instr.findAsking]
 | e::es,xs,i,r,h,I=>by
  obtain⟨y,xs,rfl,U,I⟩:=I.cons_inv;unfold pd_ at h;split at h
  ·rename_i C;have⟨q,hq,F⟩:=EG_ N C V U.2.1;have D:(Op.equal u x y.key).run P w= .ok q w:=by
    have⟨fs,hd,Y,Z,hgd⟩:=hT.2.1 u hc;have W:P.fieldsOf u=fs:=by simp[Program.fieldsOf,hd]
    cases k with
    |s v=>cases N
    | a cs=>
     obtain⟨us,rfl,ix⟩:=V;have J:=U.2.1;cases G:e.2.1 with
     |s v=>rw[G]at C;cases C
     |a cs'=>
      rw[G]at C J hq;have⟨vs,O,iy⟩:=J;rw[O];show (Op.equalIn 10000 u (.agg us) (.agg vs)).run P w= .ok q w;rw[run_equalIn_struct w 9999 u us vs g_ Z,W];exact of_ N C ix iy fs.toList 0 q Y (by simpa)
   rw[hq]at h;cases q with
   |true=>
    cases h;exact⟨0,e,y,o_,t_,t_,U,(F rfl).symm,by simp[Instr.findAsking,D]⟩
   | false=>
    have ih:=Bg_ hT hc N V h I;cases r with
    |none=>simp[Instr.findAsking,D,ih]
    |some j=>
     obtain⟨m,e',y',rfl,h1,h2,h3,h4,h5⟩:=ih;exact⟨m+1,e',y',o_,h1,h2,h3,h4,by simp[Instr.findAsking,D,h5]⟩
  .cases h
def jH_ (O:cB_ P cx.tys) (hm:cx.isMap t=true) (I:nG_ (cx.ty (cx.ty t).an).agg (cx.ty (cx.ty t).an).lv k=true) (W:k.is φ x)
 (h:pd_ (cx.ty (cx.ty t).an).agg (cx.ty (cx.ty t).an).lv k es 0=some r) (Y:cA_ (gN_ φ) es xs):x1_ P w φ (cx.ty t).an x es xs r:=by
 have⟨_,_,D,G⟩:=hL_ hm;rcases G with⟨C,hl⟩|⟨C,V⟩
 ·have ⟨d,J,hk⟩:=zE_ O D C hl;rw[C]at I h;have:=wd_ hk I W h Y;cases r with
  |none=>exact MapKept.run_findKey J this
  |some j=>
   obtain⟨m,e,y,rfl,U,N,D,G,F⟩:=this;rw[kN]at F ⊢;exact⟨e,y,U,N,D,G,MapKept.run_findKey J F⟩
 ·have ⟨fs,J,hfl,hst,hgd⟩:=O.2.1 _ V;rw[C]at I h;have e:=run_findKey_eq (P:=P) w (k:=(cx.ty t).an) g_ x xs;have:=Bg_ (w:=w) O V I W h Y;cases r with
  |none=>exact e.trans this
  |some j=>
   obtain⟨m,Z,y,rfl,U,N,D,G,F⟩:=this;rw[kN]at F ⊢;exact⟨Z,y,U,N,D,G,e.trans F⟩
end
end Go.Am
