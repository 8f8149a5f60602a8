import Derived.Test.YtddbjihiflcbbaaGreatM12
set_option linter.unusedVariables false
set_option linter.unusedSimpArgs false
namespace Go.Am
def hG_ (st:StD) (p:ByteArray × ByteArray):Option StD:=match bZ_ p.1 with
 | some n=>(match bu_ p.2 with | some x=>some { st with snaps:=st.snaps++[(n,x)] } | none=>none)
 | none=>match bM_ p.1 with
  | some k=>(match d1_ p.2 with | some v=>some { st with links:=st.links++[(k,v)] } | none=>none)
  | none=>match ct_ p.1 with
   | some i=>(match cl_ p.2 with | some x=>some { st with inos:=st.inos++[(i,x)] } | none=>none)
   | none=>none
def snapC (p:ByteArray × SnapR):List GV:= .str p.1::p.2.cells
def xy_ (p:LKey × LVal):List GV:=[.int .i64 p.1.1,.str p.1.2,.int .i64 p.2.1,.bool p.2.2]
def inoC (p:Int × InoR):List GV:= .int .i64 p.1::p.2.cells
def A9_:Nat:=86
def vh_:Nat:=89
def BW_:Nat:=82
structure cA_ (B H:Hp) (sp:Nat) (a1:Pl) (n1:Nat) (a2:Pl) (n2:Nat) (a3:Pl) (n3:Nat) (st:StD):Prop where
 row:∃ t,H[sp]? =some (.row true t [.sl a1 n1 5,.sl a2 n2 4,.sl a3 n3 3])
 pre:B<+:H
 base:B.length≤sp
 snaps:Own H B.length A9_ a1 (n1*5) (st.snaps.flatMap snapC)
 links:Own H B.length vh_ a2 (n2*4) (st.links.flatMap xy_)
 inos:Own H B.length BW_ a3 (n3*3) (st.inos.flatMap inoC)
 l1:n1=st.snaps.length
 l2:n2=st.links.length
 l3:n3=st.inos.length
 d12:Dj a1 a2
 d13:Dj a1 a3
 d23:Dj a2 a3
 s1:a1≠some (sp,0)
 s2:a2≠some (sp,0)
 s3:a3≠some (sp,0)
section
variable {B H:Hp} {Q:Post} {sp n1 n2 n3:Nat} {a1 a2 a3:Pl} {st:StD}
theorem cA_.spl (h:cA_ B H sp a1 n1 a2 n2 a3 n3 st):sp < H.length:=by
 obtain⟨t,hr⟩:=h.row;exact (List.getElem?_eq_some_iff.1 hr).1
theorem i1_ {a a':Pl} {b:Nat} {t:TypeId} {n:Nat} {cs:List GV} (hf:∀ l o,a'=some (l,o)→H.length≤l∧o=0) (h:Own H b t a n cs):Dj a' a:=fun l e1 e2=>by
 have:=(hf l 0 e1).1;have:=h.lt' e2;omega
theorem cA_.putS (h:cA_ B H sp a1 n1 a2 n2 a3 n3 st) (x:ByteArray × SnapR) (hn:n1≤1000) {K:Hp→Prop}
 (hK:∀ a' H',cA_ B H' sp a' (n1+1) a2 n2 a3 n3 { st with snaps:=st.snaps++[x] }→K H'):
 ap H A9_ 5 64 a1 n1 (snapC x) 1 fun x38 n39 H40=>wr H40 sp (0+0) (.sl x38 n39 5) K:=by
 obtain⟨t,hr⟩:=h.row;have hsp:=h.spl;refine i6_ (by omega) h.pre h.snaps (m:=1) rfl (by unfold Lim; omega) fun a' H' o' ex fr=> ?_;have hr':H'[sp]? =some (.row true t [.sl a1 n1 5,.sl a2 n2 4,.sl a3 n3 3]):=by rw[ex.row sp hsp h.s1]; exact hr
 have hs':a'≠some (sp,0):=fun e=>by have:=(fr sp 0 e).1; omega
 refine c3_ hr' (by simp) (hK a' _ ?_);have hlt:=(List.getElem?_eq_some_iff.1 hr').1;exact⟨⟨t,by rw[List.getElem?_set_self hlt]; rfl⟩,d2_ ex.pre h.base _,h.base,by
  rw[List.flatMap_append];have:=o'.set (l:=sp) hs' (.row true t [.sl a' (n1+1) 5,.sl a2 n2 4,.sl a3 n3 3]);simpa using this,
  (h.links.after h.d12 ex).set h.s2 _,(h.inos.after h.d13 ex).set h.s3 _,by simp [h.l1],h.l2,h.l3,i1_ fr h.links,i1_ fr h.inos,h.d23,hs',h.s2,h.s3⟩
theorem cA_.putL (h:cA_ B H sp a1 n1 a2 n2 a3 n3 st) (x:LKey × LVal) (hn:n2≤1000) {K:Hp→Prop}
 (hK:∀ a' H',cA_ B H' sp a1 n1 a' (n2+1) a3 n3 { st with links:=st.links++[x] }→K H'):
 ap H vh_ 4 40 a2 n2 (xy_ x) 1 fun x38 n39 H40=>wr H40 sp (0+1) (.sl x38 n39 4) K:=by
 obtain⟨t,hr⟩:=h.row;have hsp:=h.spl;refine i6_ (by omega) h.pre h.links (m:=1) rfl (by unfold Lim; omega) fun a' H' o' ex fr=> ?_;have hr':H'[sp]? =some (.row true t [.sl a1 n1 5,.sl a2 n2 4,.sl a3 n3 3]):=by rw[ex.row sp hsp h.s2]; exact hr
 have hs':a'≠some (sp,0):=fun e=>by have:=(fr sp 0 e).1; omega
 refine c3_ hr' (by simp) (hK a' _ ?_);have hlt:=(List.getElem?_eq_some_iff.1 hr').1;exact⟨⟨t,by rw[List.getElem?_set_self hlt]; rfl⟩,d2_ ex.pre h.base _,h.base,(h.snaps.after h.d12.symm ex).set h.s1 _,by
  rw[List.flatMap_append];have:=o'.set (l:=sp) hs' (.row true t [.sl a1 n1 5,.sl a' (n2+1) 4,.sl a3 n3 3]);simpa using this,
  (h.inos.after h.d23 ex).set h.s3 _,h.l1,by simp [h.l2],h.l3,(i1_ fr h.snaps).symm,h.d13,i1_ fr h.inos,h.s1,hs',h.s3⟩
theorem cA_.putI (h:cA_ B H sp a1 n1 a2 n2 a3 n3 st) (x:Int × InoR) (hn:n3≤1000) {K:Hp→Prop}
 (hK:∀ a' H',cA_ B H' sp a1 n1 a2 n2 a' (n3+1) { st with inos:=st.inos++[x] }→K H'):
 ap H BW_ 3 32 a3 n3 (inoC x) 1 fun x38 n39 H40=>wr H40 sp (0+2) (.sl x38 n39 3) K:=by
 obtain⟨t,hr⟩:=h.row;have hsp:=h.spl;refine i6_ (by omega) h.pre h.inos (m:=1) rfl (by unfold Lim; omega) fun a' H' o' ex fr=> ?_;have hr':H'[sp]? =some (.row true t [.sl a1 n1 5,.sl a2 n2 4,.sl a3 n3 3]):=by rw[ex.row sp hsp h.s3]; exact hr
 have hs':a'≠some (sp,0):=fun e=>by have:=(fr sp 0 e).1; omega
 refine c3_ hr' (by simp) (hK a' _ ?_);have hlt:=(List.getElem?_eq_some_iff.1 hr').1;exact⟨⟨t,by rw[List.getElem?_set_self hlt]; rfl⟩,d2_ ex.pre h.base _,h.base,(h.snaps.after h.d13.symm ex).set h.s1 _,(h.links.after h.d23.symm ex).set h.s2 _,by
  rw[List.flatMap_append];have:=o'.set (l:=sp) hs' (.row true t [.sl a1 n1 5,.sl a2 n2 4,.sl a' (n3+1) 3]);simpa using this,
  h.l1,h.l2,by simp [h.l3],h.d12,(i1_ fr h.snaps).symm,(i1_ fr h.links).symm,h.s1,h.s2,hs'⟩
theorem cA_.rd (h:cA_ B H sp a1 n1 a2 n2 a3 n3 st):gt H sp (0+0)=some (.sl a1 n1 5)∧gt H sp (0+1)=some (.sl a2 n2 4)∧gt H sp (0+2)=some (.sl a3 n3 3):=by
 obtain⟨t,hr⟩:=h.row;simp [bO_ hr]
theorem qQ_ {k v:ByteArray} (hk:k.size≤140737488351232) (hv:v.size≤140737488351232) (h:cA_ B H sp a1 n1 a2 n2 a3 n3 st) (hn:n1≤1000∧n2≤1000∧n3≤1000)
 (h1:hG_ st (k,v)=none→∀ a1 n1 a2 n2 a3 n3 st' H',cA_ B H' sp a1 n1 a2 n2 a3 n3 st'→Q (.g (.bool false)) H')
 (h2:∀ st',hG_ st (k,v)=some st'→∀ a1 n1 a2 n2 a3 n3 H',cA_ B H' sp a1 n1 a2 n2 a3 n3 st'→Q (.g (.bool true)) H'):
 cM_ [.g (.ptr (some (sp,0))),.agg [.str k,.str v]] H Q:=by
 obtain⟨g1,g2,g3⟩:=h.rd;refine⟨1,?_⟩;rw[mb_];refine nD_ hk ?_;simp only[aR_,aG_,bP_,aB_,al_,aS_];unfold hG_ at h1 h2;cases hnm:bZ_ k with
 | some n=>
  simp only[hnm] at h1 h2;simp only[Option.isSome_some,Option.getD_some,fI_];refine mS_ hv ?_;have hc:((bu_ v).getD iy_).cells=[.int .i64 ((bu_ v).getD iy_).id,.int .i64 ((bu_ v).getD iy_).kind,.str ((bu_ v).getD iy_).parent,.str ((bu_ v).getD iy_).label]:=rfl;rw[hc];simp only[aR_,aG_,gB_,bA_,ak_,aB_,b0_,bP_,aS_,ah_];rw[ag_ g1,as_,am_];refine h.putS (n,(bu_ v).getD iy_) hn.1 fun a' H' h'=> ?_;cases hg:bu_ v with
  | none=>rw[hg] at h1; exact h1 rfl _ _ _ _ _ _ _ _ h'
  | some x=>rw[hg] at h2 h'; exact h2 _ rfl _ _ _ _ _ _ _ h'
 | none=>
  simp only[hnm] at h1 h2;simp only[Option.isSome_none,dY_];refine nZ_ hk ?_;simp only[aR_,aG_,bP_,aB_,ak_,al_,aS_];cases hp:bM_ k with
  | some key=>
   simp only[hp] at h1 h2;simp only[Option.isSome_some,Option.map_some,Option.getD_some,fI_];refine aa_ (fun e=> ?_) (fun e=> ?_)
   ·have:d1_ v=none:=by unfold d1_; rw[cR_ e]; rfl
    rw[this] at h1; exact h1 rfl _ _ _ _ _ _ _ _ h
   ·have e':=c7_ e;have hs2:v.size=2:=by simp at e'; omega
    refine ab_ (by simp; omega) ?_;rw[show tN 1=1 from rfl];refine aa_ (fun e3=> ?_) (fun e3=> ?_)
    ·have:d1_ v=none:=by unfold d1_; rw[e',show leI (byt v 1) 1=false by simp at e3 ⊢; omega]; rfl
     rw[this] at h1; exact h1 rfl _ _ _ _ _ _ _ _ h
    ·have hl:d1_ v=some (byt v 0,eqI (byt v 1) 1):=by unfold d1_; rw[e',show leI (byt v 1) 1=true by simp at e3 ⊢; omega]; rfl
     rw[hl] at h2;simp only[ah_];rw[ag_ g2,as_];refine ab_ (by simp; omega) (ab_ (by simp; omega) ?_);rw[show tN 0=0 from rfl,eb_,am_];refine h.putL (key,(byt v 0,eqI (byt v 1) 1)) hn.2.1 fun a' H' h'=> ?_;exact h2 _ rfl _ _ _ _ _ _ _ h'
  | none=>
   simp only[hp] at h1 h2;simp only[Option.isSome_none,dY_];refine l8_ ?_;simp only[aR_,aG_,bP_,ak_,al_,aS_];refine mg_ hv ?_;have hc:((cl_ v).getD tX_).cells=[.int .i64 ((cl_ v).getD tX_).links,.str ((cl_ v).getD tX_).content]:=rfl;rw[hc];simp only[aR_,aG_,gB_,bA_,ak_,aB_,b0_,bP_,aS_,ah_];rw[ag_ g3,as_,am_];refine h.putI ((ct_ k).getD 0,(cl_ v).getD tX_) hn.2.2 fun a' H' h'=> ?_;cases hnum:ct_ k with
   | none=>rw[hnum] at h1; exact h1 rfl _ _ _ _ _ _ _ _ h'
   | some i=>
    rw[hnum] at h1 h2 h';simp only[Option.isSome_some,fI_];cases hg:cl_ v with
    | none=>rw[hg] at h1; exact h1 rfl _ _ _ _ _ _ _ _ h'
    | some x=>rw[hg] at h2 h'; exact h2 _ rfl _ _ _ _ _ _ _ h'
end
end Go.Am
namespace Go.Am
theorem gT_ (s:ByteArray) (l:Nat):bs (sub s l s.size)=(bs s).drop l:=by
 unfold sub bs;rw[ByteArray.data_extract,Array.toList_extract];simp [List.extract,List.take_of_length_le]
theorem pf_ (s:ByteArray) (j:Nat) (h:j < s.size):((bs s)[j]?.map fun b=>(b.toNat:Int))=some (byt s j):=by
 unfold byt;have:j < (bs s).length:=by rw[cp_]; exact h
 unfold bs at this ⊢;rw[List.getElem?_eq_getElem this];simp [List.getD,List.getElem?_eq_getElem this]
theorem rR_ {s t:ByteArray} {j:Nat} (h1:j < s.size) (h2:j < t.size) (h:byt s j=byt t j):(bs s)[j]? =(bs t)[j]? :=by
 have e1:=pf_ s j h1;have e2:=pf_ t j h2;rw[←h] at e2;cases a:(bs s)[j]? with
 | none=>rw[a] at e1; simp at e1
 | some x=>
  cases b:(bs t)[j]? with
  | none=>rw[b] at e2; simp at e2
  | some y=>
   rw[a] at e1; rw[b] at e2;simp at e1 e2;have:(x.toNat:Int)=y.toNat:=by rw[e1,e2]
   have:x.toNat=y.toNat:=by omega
   rw[UInt8.toNat_inj.1 this]
theorem eK_ {k n:ByteArray} (h:bZ_ k=some n):1≤k.size∧byt k 0=115∧bm_ n 4=true∧n=sub k 1 k.size:=by
 unfold bZ_ at h;split at h
 ·rename_i e;simp only[Bool.and_eq_true] at e;cases h;exact⟨by simp at e; omega,by simpa using e.2.1,e.2.2,rfl⟩
 ·cases h
theorem eI_ {k:ByteArray} {x:LKey} (h:bM_ k=some x):2≤k.size∧byt k 0=102∧1≤byt k 1∧bm_ x.2 3=true∧x=(byt k 1,sub k 2 k.size):=by
 unfold bM_ at h;split at h
 ·rename_i e;simp only[Bool.and_eq_true] at e;cases h;exact⟨by simp at e; omega,by simpa using e.2.1,by simpa using e.2.2.1,e.2.2.2,rfl⟩
 ·cases h
theorem fr_ {k:ByteArray} {i:Int} (h:ct_ k=some i):k.size=2∧byt k 0=105∧1≤byt k 1∧i=byt k 1:=by
 unfold ct_ at h;split at h
 ·rename_i e;simp only[Bool.and_eq_true] at e;cases h;exact⟨by simp at e; omega,by simpa using e.2.1,by simpa using e.2.2,rfl⟩
 ·cases h
theorem AN_ {k k' n:ByteArray} (h:bZ_ k=some n) (h':bZ_ k'=some n):k=k':=by
 obtain⟨h1,h2,_,h3⟩:=eK_ h;obtain⟨h1',h2',_,h3'⟩:=eK_ h';have e0:=rR_ (s:=k) (t:=k') (j:=0) (by omega) (by omega) (by rw[h2,h2']);have e1:(bs k).drop 1=(bs k').drop 1:=by rw[←gT_,←gT_,←h3,←h3']
 apply hA_;cases a:bs k with
 | nil=>have:=congrArg List.length a; rw[cp_] at this; simp only[List.length_nil,List.length_cons] at this; omega
 | cons x xs=>cases b:bs k' with
  | nil=>have:=congrArg List.length b; rw[cp_] at this; simp only[List.length_nil,List.length_cons] at this; omega
  | cons y ys=>rw[a,b] at e0 e1; simp at e0 e1; rw[e0,e1]
theorem wN_ {k k':ByteArray} {x:LKey} (h:bM_ k=some x) (h':bM_ k'=some x):k=k':=by
 obtain⟨h1,h2,_,_,h3⟩:=eI_ h;obtain⟨h1',h2',_,_,h3'⟩:=eI_ h';have h4:byt k 1=byt k' 1:=by have:=h3.symm.trans h3'; simp at this; exact this.1
 have h5:sub k 2 k.size=sub k' 2 k'.size:=by have:=h3.symm.trans h3'; simp at this; exact this.2
 have e0:=rR_ (s:=k) (t:=k') (j:=0) (by omega) (by omega) (by rw[h2,h2']);have e1:=rR_ (s:=k) (t:=k') (j:=1) (by omega) (by omega) h4;have e2:(bs k).drop 2=(bs k').drop 2:=by rw[←gT_,←gT_,h5]
 apply hA_
 match a:bs k,b:bs k' with
 | [],_=>have:=congrArg List.length a; rw[cp_] at this; simp only[List.length_nil,List.length_cons] at this; omega
 | [_],_=>have:=congrArg List.length a; rw[cp_] at this; simp only[List.length_nil,List.length_cons] at this; omega
 | _::_::_,[]=>have:=congrArg List.length b; rw[cp_] at this; simp only[List.length_nil,List.length_cons] at this; omega
 | _::_::_,[_]=>have:=congrArg List.length b; rw[cp_] at this; simp only[List.length_nil,List.length_cons] at this; omega
 | x0::x1::xs,y0::y1::ys=>rw[a,b] at e0 e1 e2; simp at e0 e1 e2; rw[e0,e1,e2]
theorem BZ_ {k k':ByteArray} {i:Int} (h:ct_ k=some i) (h':ct_ k'=some i):k=k':=by
 obtain⟨h1,h2,_,h3⟩:=fr_ h;obtain⟨h1',h2',_,h3'⟩:=fr_ h';have e0:=rR_ (s:=k) (t:=k') (j:=0) (by omega) (by omega) (by rw[h2,h2']);have e1:=rR_ (s:=k) (t:=k') (j:=1) (by omega) (by omega) (by rw[←h3,←h3']);apply hA_;have l1:(bs k).length=2:=by rw[cp_]; exact h1
 have l2:(bs k').length=2:=by rw[cp_]; exact h1'
 match a:bs k,b:bs k' with
 | [x0,x1],[y0,y1]=>rw[a,b] at e0 e1; simp at e0 e1; rw[e0,e1]
 | [],_=>rw[a] at l1; simp at l1
 | [_],_=>rw[a] at l1; simp at l1
 | _::_::_::_,_=>rw[a] at l1; simp at l1
 | _,[]=>rw[b] at l2; simp at l2
 | _,[_]=>rw[b] at l2; simp at l2
 | _,_::_::_::_=>rw[b] at l2; simp at l2
end Go.Am
namespace Go.Am
def gI_ (f:StD→ByteArray × ByteArray→Option StD):StD→KV→Option StD
 | st,[]=>some st
 | st,p::ps=>match f st p with | some st'=>gI_ f st' ps | none=>none
def st0:StD:=⟨[],[],[]⟩
structure yC_ (st:StD) (ks:List ByteArray):Prop where
 snaps:∀ x∈st.snaps,∃ k∈ks,bZ_ k=some x.1
 links:∀ x∈st.links,∃ k∈ks,bM_ k=some x.1
 inos:∀ x∈st.inos,∃ k∈ks,ct_ k=some x.1
theorem sJ_ {α β:Type} [DecidableEq α] {ps:List (α × β)} {k:α} {v:β} (h:∀ p∈ps,p.1≠k):f0_ ps k v=ps++[(k,v)]:=by
 unfold f0_;have:look ps k=none:=by
  unfold look;rw[Option.map_eq_none_iff,List.find?_eq_none];intro p hp; simpa using h p hp
 rw[this]
theorem zC_ {st:StD} {ks:List ByteArray} (F:yC_ st ks) {p:ByteArray × ByteArray} (hp:p.1∉ks):iq_ st p=hG_ st p∧∀ st',hG_ st p=some st'→yC_ st' (p.1::ks):=by
 unfold iq_ hG_;have up:∀ {α β:Type} {xs:List (α × β)} {f:ByteArray→Option α},(∀ x∈xs,∃ k∈ks,f k=some x.1)→∀ x∈xs,∃ k∈p.1::ks,f k=some x.1:=fun h x hx=>by
  obtain⟨k,hk,e⟩:=h x hx;exact⟨k,by simp [hk],e⟩
 have ap:∀ {α β:Type} {xs:List (α × β)} {f:ByteArray→Option α} {a:α} {b:β},(∀ x∈xs,∃ k∈ks,f k=some x.1)→f p.1=some a→∀ x∈xs++[(a,b)],∃ k∈p.1::ks,f k=some x.1:=fun {_ _ _ _ a b} h e x hx=>by
  rcases List.mem_append.1 hx with q | q
  ·exact up h x q
  ·have hx':x=(a,b):=by simpa using q
   subst hx';exact⟨p.1,by simp,e⟩
 cases hn:bZ_ p.1 with
 | some n=>
  dsimp only;cases bu_ p.2 with
  | none=>exact⟨rfl,fun _ h=>by cases h⟩
  | some x=>
   dsimp only;rw[sJ_ fun q hq e=>by
    obtain⟨k,hk,e2⟩:=F.snaps q hq;rw[e] at e2;exact hp (AN_ hn e2▸hk)]
   exact⟨rfl,fun st' h=>by cases h; exact⟨ap F.snaps hn,up F.links,up F.inos⟩⟩
 | none=>
  dsimp only;cases hpt:bM_ p.1 with
  | some key=>
   dsimp only;cases d1_ p.2 with
   | none=>exact⟨rfl,fun _ h=>by cases h⟩
   | some x=>
    dsimp only;rw[sJ_ fun q hq e=>by
     obtain⟨k,hk,e2⟩:=F.links q hq;rw[e] at e2;exact hp (wN_ hpt e2▸hk)]
    exact⟨rfl,fun st' h=>by cases h; exact⟨up F.snaps,ap F.links hpt,up F.inos⟩⟩
  | none=>
   dsimp only;cases hnum:ct_ p.1 with
   | none=>exact⟨rfl,fun _ h=>by cases h⟩
   | some i=>
    dsimp only;cases cl_ p.2 with
    | none=>exact⟨rfl,fun _ h=>by cases h⟩
    | some x=>
     dsimp only;rw[sJ_ fun q hq e=>by
      obtain⟨k,hk,e2⟩:=F.inos q hq;rw[e] at e2;exact hp (BZ_ hnum e2▸hk)]
     exact⟨rfl,fun st' h=>by cases h; exact⟨up F.snaps,up F.links,ap F.inos hnum⟩⟩
theorem uA_:∀ {ps:KV} {st:StD} {ks:List ByteArray},yC_ st ks→(ps.map (·.1)).Nodup→(∀ p∈ps,p.1∉ks)→gI_ iq_ st ps=gI_ hG_ st ps∧∀ st',gI_ hG_ st ps=some st'→∃ ks',yC_ st' ks'∧∀ k∈ks',k∈ks∨∃ p∈ps,p.1=k
 | [],st,ks,F,_,_=>⟨rfl,fun st' h=>by cases h; exact⟨ks,F,fun k hk=> .inl hk⟩⟩
 | p::ps,st,ks,F,nd,hd=>by
  obtain⟨e,up⟩:=zC_ F (hd p (by simp));rw[List.map_cons,List.nodup_cons] at nd;unfold gI_;rw[e];cases h:hG_ st p with
  | none=>exact⟨rfl,fun _ h=>by cases h⟩
  | some st'=>
   dsimp only;obtain⟨e2,up2⟩:=uA_ (up st' h) nd.2 fun q hq hm=>by
    rcases List.mem_cons.1 hm with z | z
    ·exact nd.1 (List.mem_map.2 ⟨q,hq,z⟩)
    ·exact hd q (by simp [hq]) z
   refine⟨e2,fun st'' hh=> ?_⟩;obtain⟨ks',F',hk⟩:=up2 st'' hh;refine⟨ks',F',fun k hk'=> ?_⟩;rcases hk k hk' with z | ⟨q,hq,z⟩
   ·rcases List.mem_cons.1 z with y | y
    ·exact .inr ⟨p,by simp,y.symm⟩
    ·exact .inl y
   ·exact .inr ⟨q,by simp [hq],z⟩
def dA_ (ps:KV):Option StD:=gI_ hG_ st0 ps
theorem AI_ {ps:KV} (nd:(ps.map (·.1)).Nodup):gI_ iq_ st0 ps=dA_ ps:=
 (uA_ (ks:=[]) ⟨(fun x h=>absurd h List.not_mem_nil),(fun x h=>absurd h List.not_mem_nil),(fun x h=>absurd h List.not_mem_nil)⟩ nd (fun _ _ h=>absurd h List.not_mem_nil)).1
theorem zO_ {ps:KV} (h:Asc ps):(ps.map (·.1)).Nodup:=by
 unfold Asc at h;refine List.Pairwise.map (R:=fun x y=>blt x.1 y.1=true) _ (fun a b hab e=> ?_) h;rw[e,c4_] at hab; cases hab
end Go.Am
namespace Go.Am
theorem dE_ {α:Type} [DecidableEq α]:∀ (L A:List α),A.Nodup→(∀ x∈A,x∈L)→A.length≤L.length∧(¬ L.Nodup→A.length < L.length)
 | [],A,_,hs=>by
  cases A with
  | nil=>exact⟨Nat.le_refl _,fun h=>(h List.nodup_nil).elim⟩
  | cons a A=>have:=hs a (by simp); cases this
 | x::L,A,hn,hs=>by
  have hA':(A.erase x).Nodup:=hn.erase x;have hs':∀ y∈A.erase x,y∈L:=fun y hy=>by
   have h1:=(List.Nodup.mem_erase_iff hn).1 hy;rcases List.mem_cons.1 (hs y h1.2) with q | q
   ·exact absurd q h1.1
   ·exact q
  obtain⟨i1,i2⟩:=dE_ L (A.erase x) hA' hs';have hl:A.length≤(A.erase x).length+1:=by rw[List.length_erase]; split<;>omega
  refine⟨by simp; omega,fun hnd=> ?_⟩;rw[List.nodup_cons,Classical.not_and_iff_not_or_not,Classical.not_not] at hnd;rcases hnd with q | q
  ·have:=(dE_ L A hn fun y hy=>by
    rcases List.mem_cons.1 (hs y hy) with z | z
    ·rw[z]; exact q
    ·exact z).1
   simp; omega
  ·have:=i2 q;simp; omega
theorem t6_ {α:Type} [DecidableEq α] {L A:List α} (hn:A.Nodup) (h:∀ x,x∈A↔x∈L):A.length=L.length↔L.Nodup:=by
 obtain⟨h1,h2⟩:=dE_ L A hn fun x hx=>(h x).1 hx;constructor
 ·intro e;refine Classical.byContradiction fun q=> ?_;have:=h2 q; omega
 ·intro q;have:=(dE_ A L q fun x hx=>(h x).2 hx).1;omega
theorem Al_ {α β:Type} [DecidableEq α] {ps:List (α × β)} {k:α} {v:β} (n:α):n∈(f0_ ps k v).map (·.1)↔n∈ps.map (·.1)∨n=k:=by
 rw[lX_];cases h:look ps k with
 | none=>simp
 | some x=>
  have:=dl_ h;constructor
  ·exact .inl
  ·rintro (q | q)
   ·exact q
   ·rw[q]; exact List.mem_map.2 ⟨_,this,rfl⟩
theorem gy_ {B H H':Hp} (p:B<+:H) (hl:H'.length=H.length) (h:∀ l,l < B.length→H'[l]? =H[l]?):B<+:H':=by
 rw[List.prefix_iff_eq_take];apply List.ext_getElem?;intro i;rw[List.getElem?_take];split
 ·rename_i hi;rw[h i hi,cd_ p hi]
 ·rename_i hi;exact List.getElem?_eq_none (by omega)
section
variable {H:Hp} {Q:Post} {sp ms ml mi:Nat} {c0 c4:GV} {st:StD}
def evB (b:Bool):RV:= .s (.bool b)
theorem kl_.keep {H':Hp} (h:kl_ H sp c0 ms ml mi c4 st) (hp:∀ l,l < H.length→H'[l]? =H[l]?):kl_ H' sp c0 ms ml mi c4 st:=by
 obtain⟨t,hr⟩:=h.row;exact⟨⟨t,by rw[hp _ (List.getElem?_eq_some_iff.1 hr).1]; exact hr⟩,h.snaps.keep (hp _ h.snaps.lt),h.links.keep (hp _ h.links.lt),h.inos.keep (hp _ h.inos.lt),h.d1,h.d2,h.d3⟩
theorem uR_ {α β:Type} {ek:α→RV} {ev:β→RV} (H:Hp):gk_ ek ev (H++[.map [] 0]) H.length ([]:List (α × β)):=
 ⟨⟨[],0,by rw[List.getElem?_concat_length],rfl,(fun e h=>absurd h List.not_mem_nil),List.nodup_nil⟩,List.nodup_nil⟩
theorem n1_ (h:kl_ H sp c0 ms ml mi c4 st) (hn:st.snaps.length≤1000) (hQ:∀ H',H<+:H'→Q (.g (.bool (decide ((st.snaps.map fun x=>x.2.id).Nodup)))) H'):
 bd_ [.g (.ptr (some (sp,0)))] H Q:=by
 obtain⟨t,hr⟩:=h.row;have hsp:=(List.getElem?_eq_some_iff.1 hr).1;refine⟨st.snaps.length+2,?_⟩;rw[kt_];simp only[ah_,Nat.zero_add,fl_,e4_];have p0:=ce_ H (.map [] 0);have h0:=h.keep (H':=H++[.map [] 0]) fun l hl=>by rw[List.getElem?_append_left hl]
 obtain⟨_,g1,_⟩:=h0.rd;rw[ag_ g1,ht_];refine vp_ h0.snaps fun o R0=> ?_;have e0:(H++[Obj.map [] 0]).length=H.length+1:=by simp
 rw[e0] at R0 ⊢;have loop:∀ (f:Nat) (js:List Nat) (G:Hp) (ids:List (Int × Bool)),st.snaps.length - js.length < f→H<+:G→G.length=H.length+2→fc_ ekS evS G (H.length+1) ms st.snaps js→gk_ ekI evB G H.length ids→
  (∀ n,n∈ids.map (·.1)↔∃ j,j∈js∧∃ h:j < st.snaps.length,st.snaps[j].2.id=n)→js.length≤st.snaps.length→
  bd_.l3 f (some (sp,0)) (some H.length) (H.length+1) 0 G Q:=by
  intro f;induction f with
  | zero=>intro js G ids h; omega
  | succ f ih=>
   intro js G ids hf hG hl R M hm hle;have hms:ms < H.length:=h.snaps.lt;rw[bd_.l3_eq];refine vR_ R (by omega) (fun j hj hjs G1 l1 k1 R1=> ?_) (fun hperm=> ?_)
   ·refine rC_ R1 hj ?_;have hc:(evS st.snaps[j].2)= .a [.int .i64 st.snaps[j].2.id,.int .i64 st.snaps[j].2.kind,.str st.snaps[j].2.parent,.str st.snaps[j].2.label]:=rfl;rw[hc];simp only[ekS,bP_,aB_,gB_,bA_,ak_,b0_];refine of_ (ev:=evB) okI (M.keep (k1 _ (by omega))) st.snaps[j].2.id true fun G2 l2 k2 M2=> ?_;have hlj:(js++[j]).length≤st.snaps.length:=by
     have hsub:=(dE_ (List.range st.snaps.length) (js++[j]) R1.nod fun x hx=>List.mem_range.2 (R1.lt x hx)).1;rw[List.length_range] at hsub; exact hsub
    rw[List.length_append,List.length_singleton] at hlj;refine ih (js++[j]) G2 _ (by rw[List.length_append,List.length_singleton]; omega) ?_ (by omega) (R1.keep (k2 _ (by omega)) (k2 _ (by omega))) M2 (fun n=> ?_) (by rw[List.length_append,List.length_singleton]; omega)
    ·refine gy_ hG (by omega) fun l hl=> ?_;rw[k2 l (by omega),k1 l (by omega)]
    ·rw[Al_,hm n];constructor
     ·rintro (⟨i,hi,x⟩ | q)
      ·exact⟨i,by simp [hi],x⟩
      ·exact⟨j,by simp,hj,q.symm⟩
     ·rintro⟨i,hi,hx,e⟩;rcases List.mem_append.1 hi with z | z
      ·exact .inl ⟨i,z,hx,e⟩
      ·have:i=j:=by simpa using z
       subst this; exact .inr e.symm
   ·refine rx_ M ?_;have hG':=h.keep (H':=G) fun l hl=>cd_ hG hl;obtain⟨_,g1,_⟩:=hG'.rd;simp only[ah_,Nat.zero_add];rw[ag_ g1,ht_];refine rx_ hG'.snaps ?_;have key:(ids.map (·.1)).length=(st.snaps.map fun x=>x.2.id).length↔(st.snaps.map fun x=>x.2.id).Nodup:=t6_ M.nodup fun n=>by
     rw[hm n,List.mem_map];constructor
     ·rintro⟨j,_,hj,e⟩; exact⟨_,List.getElem_mem hj,e⟩
     ·rintro⟨x,hx,e⟩;obtain⟨j,hj,rfl⟩:=List.getElem_of_mem hx;exact⟨j,hperm.mem_iff.2 (List.mem_range.2 hj),hj,e⟩
    rw[List.length_map,List.length_map] at key;have:eqI (nI ids.length) (nI st.snaps.length)=decide ((st.snaps.map fun x=>x.2.id).Nodup):=by
     rw[Bool.eq_iff_iff];simp only[hL_,iH_,decide_eq_true_eq];rw[←key];omega
    rw[this];exact hQ G hG
 refine loop _ [] _ [] (by simp) (p0.trans (ce_ _ _)) (by simp) R0 ((uR_ H).keep (by rw[List.getElem?_append_left (by simp)])) (fun n=>by simp) (by simp)
end
end Go.Am
namespace Go.Am
theorem zZ_ {α β:Type} [DecidableEq α] {ps:List (α × β)} (k n:α) (v:β):look (f0_ ps k v) n=if n=k then some v else look ps n:=by
 unfold f0_;cases h:look ps k with
 | none=>
  have hn:=lL_ h;by_cases e:n=k
  ·subst e;rw[if_pos rfl];unfold look;rw[List.find?_append];have:ps.find? (fun p=>decide (p.1=n))=none:=by
    rw[List.find?_eq_none]; intro p hp; simpa using hn p hp
   rw[this]; simp
  ·rw[if_neg e];unfold look;rw[List.find?_append];cases ps.find? (fun p=>decide (p.1=n)) with
   | some x=>rfl
   | none=>simp [Ne.symm e]
 | some x=>
  have hx:=dl_ h;dsimp only;clear h;unfold look;induction ps with
  | nil=>cases hx
  | cons p ps ih=>
   by_cases hp:p.1=k
   ·rw[List.map_cons,if_pos hp,List.find?_cons];by_cases e:n=k
    ·subst e; simp
    ·rw[if_neg e];rw[List.find?_cons];have e1:decide (k=n)=false:=by simp [Ne.symm e]
     have e2:decide (p.1=n)=false:=by rw[hp]; exact e1
     simp only[e1,e2];have same:∀ l:List (α × β),((l.map fun p=>if p.1=k then (k,v) else p).find? fun p=>decide (p.1=n))=l.find? fun p=>decide (p.1=n):=by
      intro l;induction l with
      | nil=>rfl
      | cons q l ihl=>
       rw[List.map_cons,List.find?_cons,List.find?_cons,ihl];by_cases hq:q.1=k
       ·rw[if_pos hq];have e3:decide (q.1=n)=false:=by rw[hq]; exact e1
        simp only[e1,e3]
       ·rw[if_neg hq]
     rw[same]
   ·rw[List.map_cons,if_neg hp,List.find?_cons,List.find?_cons];have hx':(k,x)∈ps:=by
     rcases List.mem_cons.1 hx with q | q
     ·exact absurd (by rw[←q]) hp
     ·exact q
    have:=ih hx';by_cases hpn:p.1=n
    ·have e: ¬ n=k:=fun e=>hp (hpn.trans e);rw[if_neg e];simp [hpn]
    ·simp only[hpn,decide_false];exact this
theorem Ax_ {α β:Type} [DecidableEq α] {ps:List (α × β)} (n:α):n∈ps.map (·.1)↔∃ v,look ps n=some v:=by
 constructor
 ·intro h;cases hl:look ps n with
  | some v=>exact⟨v,rfl⟩
  | none=>
   obtain⟨p,hp,e⟩:=List.mem_map.1 h;exact absurd e (lL_ hl p hp)
 ·rintro⟨v,hv⟩;exact List.mem_map.2 ⟨_,dl_ hv,rfl⟩
def eD_ (st:StD) (i:Int):Nat:=st.links.countP fun l=>decide (l.2.1=i)
def cW_ (st:StD):Bool:=st.links.all (fun l=>st.inos.any fun x=>decide (x.1=l.2.1))&&st.inos.all fun x=>decide ((eD_ st x.1:Int)=x.2.links)
section
variable {H:Hp} {Q:Post} {sp ms ml mi:Nat} {c0 c4:GV} {st:StD}
def evN (n:Int):RV:= .s (.int .i64 n)
def cj (st:StD) (js:List Nat) (n:Int):Nat:=js.countP fun j=>decide (((st.links[j]?).map (·.2.1))=some n)
def lkN (c:Nat):Option Int:=match c with | 0=>none | c+1=>some ((c+1:Nat):Int)
theorem CG_ {js:List Nat} (h:js.Perm (List.range st.links.length)) (n:Int):cj st js n=eD_ st n:=by
 unfold cj eD_;rw[h.countP_eq];have:st.links=(List.range st.links.length).filterMap fun j=>st.links[j]? :=by
  apply List.ext_getElem?;intro i;have:((List.range st.links.length).filterMap fun j=>st.links[j]?)=st.links:=by
   have e:∀ l:List (LKey × LVal),((List.range l.length).filterMap fun j=>l[j]?)=l:=by
    intro l;induction l with
    | nil=>rfl
    | cons x l ih=>
     rw[List.length_cons,List.range_succ_eq_map,List.filterMap_cons];simp only[List.getElem?_cons_zero,List.filterMap_map];have:((fun j=>(x::l)[j]?) ∘ Nat.succ)=fun j=>l[j]? :=by funext j; simp
     rw[this,ih]
   exact e _
  rw[this]
 have e:∀ l:List (LKey × LVal),(List.range l.length).countP (fun j=>decide ((l[j]?).map (·.2.1)=some n))=l.countP fun x=>decide (x.2.1=n):=by
  intro l;induction l with
  | nil=>rfl
  | cons x l ih=>
   rw[List.length_cons,List.range_succ_eq_map,List.countP_cons,List.countP_map,List.countP_cons,←ih];congr 1;simp
 exact e st.links
end
end Go.Am
namespace Go.Am
section
variable {H:Hp} {Q:Post} {sp ms ml mi:Nat} {c0 c4:GV} {st:StD}
theorem pJ_ {α β:Type} {ek:α→RV} {ev:β→RV} {G:Hp} {it l:Nat} {ps:List (α × β)} {js:List Nat} (R:fc_ ek ev G it l ps js):js.length≤ps.length:=by
 have h:=(dE_ (List.range ps.length) js R.nod fun x hx=>List.mem_range.2 (R.lt x hx)).1;rw[List.length_range] at h; exact h
theorem w9_ {ns:List Int} (hn:ns.Nodup) (hm:∀ n,n∈ns↔eD_ st n≠0) (hi:(st.inos.map (·.1)).Nodup) (hc:∀ x∈st.inos,(eD_ st x.1:Int)=x.2.links) (hl:∀ x∈st.inos,1≤x.2.links):ns.length=st.inos.length↔cW_ st=true:=by
 have hsub:∀ i∈st.inos.map (·.1),i∈ns:=fun i h=>by
  obtain⟨x,hx,rfl⟩:=List.mem_map.1 h;rw[hm];have:=hc x hx;have:=hl x hx;omega
 have hall:(st.inos.all fun x=>decide ((eD_ st x.1:Int)=x.2.links))=true:=by
  rw[List.all_eq_true]; intro x hx; simpa using hc x hx
 have hmem:∀ l∈st.links,l.2.1∈ns:=fun l hl=>by
  rw[hm];have:0 < eD_ st l.2.1:=List.countP_pos_iff.2 ⟨l,hl,by simp⟩;omega
 unfold cW_;rw[hall,Bool.and_true,List.all_eq_true];constructor
 ·intro e l hlk;have h1:=(dE_ ns (st.inos.map (·.1)) hi hsub);have hin:l.2.1∈st.inos.map (·.1):=by
   refine Classical.byContradiction fun q=> ?_;have h2:=(dE_ ns (l.2.1::st.inos.map (·.1)) (List.nodup_cons.2 ⟨q,hi⟩) fun x hx=>by
    rcases List.mem_cons.1 hx with z | z
    ·rw[z]; exact hmem l hlk
    ·exact hsub x z).1
   simp at h2; omega
  obtain⟨x,hx,e⟩:=List.mem_map.1 hin;exact List.any_eq_true.2 ⟨x,hx,by simpa using e⟩
 ·intro h;have h1:=(dE_ ns (st.inos.map (·.1)) hi hsub).1;have h2:=(dE_ (st.inos.map (·.1)) ns hn fun n hnn=>by
   have hc0:=(hm n).1 hnn;have:0 < eD_ st n:=by omega
   obtain⟨l,hlk,e⟩:=List.countP_pos_iff.1 this;have e:l.2.1=n:=by simpa using e
   obtain⟨x,hx,e2⟩:=List.any_eq_true.1 (h l hlk);have e2:x.1=l.2.1:=by simpa using e2
   exact List.mem_map.2 ⟨x,hx,by rw[e2,e]⟩).1
  rw[List.length_map] at h1 h2;omega
theorem np_ (h:kl_ H sp c0 ms ml mi c4 st) (hn:st.links.length≤1000∧st.inos.length≤1000) (hlk:∀ x∈st.inos,1≤x.2.links) (hQ:∀ H',H<+:H'→Q (.g (.bool (cW_ st))) H'):
 aD_ [.g (.ptr (some (sp,0)))] H Q:=by
 obtain⟨t,hr⟩:=h.row;have hsp:=(List.getElem?_eq_some_iff.1 hr).1;have hml:ml < H.length:=h.links.lt;have hmi:mi < H.length:=h.inos.lt;refine⟨st.links.length+st.inos.length+4,?_⟩;rw[jQ_];simp only[ah_,Nat.zero_add,fl_,e4_];have p0:=ce_ H (.map [] 0);have h0:=h.keep (H':=H++[.map [] 0]) fun l hl=>by rw[List.getElem?_append_left hl]
 obtain⟨_,_,g2,_⟩:=h0.rd;rw[ag_ g2,ht_];refine vp_ h0.links fun o R0=> ?_;have e0:(H++[Obj.map [] 0]).length=H.length+1:=by simp
 rw[e0] at R0 ⊢;have second:∀ (f:Nat) (js:List Nat) (G:Hp) (ns:List (Int × Int)),st.inos.length - js.length < f→H<+:G→fc_ ekI evI G (H.length+2) mi st.inos js→gk_ ekI evN G H.length ns→
  (∀ n,look ns n=lkN (eD_ st n))→(∀ j∈js,∀ (hj:j < st.inos.length),(eD_ st st.inos[j].1:Int)=st.inos[j].2.links)→js.length≤st.inos.length→
  aD_.l7 f (some (sp,0)) (some H.length) (H.length+2) 0 G Q:=by
  intro f;induction f with
  | zero=>intro js G ns h; omega
  | succ f ih=>
   intro js G ns hf hG R M hm hok hle;rw[aD_.l7_eq];refine vR_ R (by omega) (fun j hj hjs G1 l1 k1 R1=> ?_) (fun hperm=> ?_)
   ·refine rC_ R1 hj ?_;have hc:(evI st.inos[j].2)= .a [.int .i64 st.inos[j].2.links,.str st.inos[j].2.content]:=rfl;rw[hc];simp only[ekI,bP_,aB_,gB_,bA_,ak_,b0_];have hv:(match look ns st.inos[j].1 with | some v=>v | none=>0)=(eD_ st st.inos[j].1:Int):=by
     rw[hm]; cases eD_ st st.inos[j].1<;>rfl
    have fin:af_ (!(eqI (eD_ st st.inos[j].1:Int) st.inos[j].2.links)) (Q (.g (.bool false)) G1) (aD_.l7 f (some (sp,0)) (some H.length) (H.length+2) 0 G1 Q):=by
     have hG1:H<+:G1:=gy_ hG (by have:=(List.IsPrefix.length_le hG); omega) fun l hl=>by rw[k1 l (by omega)]
     refine aa_ (fun e=> ?_) (fun e=> ?_)
     ·have hne: ¬ (eD_ st st.inos[j].1:Int)=st.inos[j].2.links:=by simpa using e
      have:cW_ st=false:=by
       unfold cW_;have:(st.inos.all fun x=>decide ((eD_ st x.1:Int)=x.2.links))=false:=by
        rw[Bool.eq_false_iff]; intro q;rw[List.all_eq_true] at q;exact hne (by simpa using q _ (List.getElem_mem hj))
       rw[this,Bool.and_false]
      rw[←this];exact hQ _ hG1
     ·have heq:(eD_ st st.inos[j].1:Int)=st.inos[j].2.links:=by simpa using e
      have hlj:=pJ_ R1;rw[List.length_append,List.length_singleton] at hlj;refine ih (js++[j]) G1 ns (by rw[List.length_append,List.length_singleton]; omega) hG1 R1 (M.keep (k1 _ (by omega))) hm (fun i hi hj'=> ?_) (by rw[List.length_append,List.length_singleton]; omega);rcases List.mem_append.1 hi with q | q
      ·exact hok i q hj'
      ·have:i=j:=by simpa using q
       subst this; exact heq
    refine rG_ (ev:=evN) okI (M.keep (k1 _ (by omega))) st.inos[j].1 (fun v hl=> ?_) (fun hl=> ?_)
    ·rw[hl] at hv;simp only[evN,bP_,ak_];rw[show v=(eD_ st st.inos[j].1:Int) from hv]; exact fin
    ·rw[hl] at hv;simp only[bP_,ak_];rw[show (0:Int)=(eD_ st st.inos[j].1:Int) from hv]; exact fin
   ·refine rx_ M ?_;have hG':=h.keep (H':=G) fun l hl=>cd_ hG hl;obtain⟨_,_,_,g3,_⟩:=hG'.rd;simp only[ah_,Nat.zero_add];rw[ag_ g3,ht_];refine rx_ hG'.inos ?_;have hc:∀ x∈st.inos,(eD_ st x.1:Int)=x.2.links:=fun x hx=>by
     obtain⟨j,hj,rfl⟩:=List.getElem_of_mem hx;exact hok j (hperm.mem_iff.2 (List.mem_range.2 hj)) hj
    have key:=w9_ (st:=st) (ns:=ns.map (·.1)) M.nodup (fun n=>by
     rw[Ax_,hm n];cases eD_ st n<;>simp [lkN]) h.inos.nodup hc hlk
    rw[List.length_map] at key;have:eqI (nI ns.length) (nI st.inos.length)=cW_ st:=by
     rw[Bool.eq_iff_iff];simp only[hL_,iH_,decide_eq_true_eq];rw[←key]; omega
    rw[this];exact hQ G hG
 have first:∀ (f:Nat) (js:List Nat) (G:Hp) (ns:List (Int × Int)),(st.links.length - js.length)+st.inos.length+2 < f→H<+:G→G.length=H.length+2→fc_ ekL evL G (H.length+1) ml st.links js→gk_ ekI evN G H.length ns→
  (∀ n,look ns n=lkN (cj st js n))→js.length≤st.links.length→aD_.l3 f (some (sp,0)) (some H.length) (H.length+1) 0 G Q:=by
  intro f;induction f with
  | zero=>intro js G ns h; omega
  | succ f ih=>
   intro js G ns hf hG hl R M hm hle;rw[aD_.l3_eq];refine vR_ R (by omega) (fun j hj hjs G1 l1 k1 R1=> ?_) (fun hperm=> ?_)
   ·refine rC_ R1 hj ?_;simp only[ekL,evL,bP_,aB_,al_,gB_,bA_,ak_,b0_];have hlj:=pJ_ R1;rw[List.length_append,List.length_singleton] at hlj;have hcb:cj st js st.links[j].2.1≤js.length:=List.countP_le_length;have hstep:∀ n,cj st (js++[j]) n=if n=st.links[j].2.1 then cj st js n+1 else cj st js n:=fun n=>by
     unfold cj;rw[List.countP_append,List.countP_singleton,List.getElem?_eq_getElem hj];by_cases e:n=st.links[j].2.1
     ·rw[if_pos e]; simp [e]
     ·rw[if_neg e]; simp [Ne.symm e]
    have go:∀ v:Int,v=(cj st js st.links[j].2.1:Int)→sf_ G1 (some H.length) false [.int .i64] (.s (.int .i64 st.links[j].2.1)) (.s (.int .i64 (ad_ .i64 (v+1)))) fun H23=>aD_.l3 f (some (sp,0)) (some H.length) (H.length+1) 0 H23 Q:=fun v hv=>by
     rw[hv,ar_ (by omega)];refine of_ (ev:=evN) okI (M.keep (k1 _ (by omega))) st.links[j].2.1 ((cj st js st.links[j].2.1+1:Nat):Int) fun G2 l2 k2 M2=> ?_;refine ih (js++[j]) G2 _ (by rw[List.length_append,List.length_singleton]; omega) ?_ (by omega) (R1.keep (k2 _ (by omega)) (k2 _ (by omega))) M2 (fun n=> ?_) (by rw[List.length_append,List.length_singleton]; omega)
     ·refine gy_ hG (by omega) fun l hl=> ?_;rw[k2 l (by omega),k1 l (by omega)]
     ·rw[zZ_,hstep n,hm n];by_cases e:n=st.links[j].2.1
      ·rw[if_pos e,if_pos e,e]; rfl
      ·rw[if_neg e,if_neg e]
    refine rG_ (ev:=evN) okI (M.keep (k1 _ (by omega))) st.links[j].2.1 (fun v hl=> ?_) (fun hl=> ?_)
    ·simp only[evN,bP_,ak_];refine go v ?_;rw[hm] at hl;cases hcj:cj st js st.links[j].2.1 with
     | zero=>rw[hcj] at hl; cases hl
     | succ c=>rw[hcj] at hl; cases hl; rfl
    ·simp only[bP_,ak_];refine go 0 ?_;rw[hm] at hl;cases hcj:cj st js st.links[j].2.1 with
     | zero=>rfl
     | succ c=>rw[hcj] at hl; cases hl
   ·have hG':=h.keep (H':=G) fun l hl=>cd_ hG hl;obtain⟨_,_,_,g3,_⟩:=hG'.rd;simp only[ah_,Nat.zero_add];rw[ag_ g3,ht_];refine vp_ hG'.inos fun o R2=> ?_;simp only[e4_];rw[hl] at R2 ⊢;exact second f [] _ ns (by simp; omega) (hG.trans (ce_ _ _)) R2 (M.keep (by rw[List.getElem?_append_left (by omega)])) (fun n=>by rw[hm n,CG_ hperm]) (fun j hj=>absurd hj List.not_mem_nil) (by simp)
 refine first _ [] _ [] (by simp) (p0.trans (ce_ _ _)) (by simp) R0 ((uR_ H).keep (by rw[List.getElem?_append_left (by simp)])) (fun n=>rfl) (by simp)
end
end Go.Am
namespace Go.Am
open Go.Proofs
theorem Dn_:∀ x y:List UInt8,Lib.compareBytes x y=if Op.bytesLess x y=true then -1 else if Op.bytesLess y x=true then 1 else 0
 | [],[]=>rfl
 | [],_::_=>rfl
 | _::_,[]=>rfl
 | a::x,b::y=>by
  simp only[Op.bytesLess,Lib.compareBytes];rcases Nat.lt_trichotomy a.toNat b.toNat with h | h | h
  ·have h1:a < b:=h;simp [h1]
  ·have h3:a=b:=UInt8.toNat_inj.1 h;subst h3;have h2: ¬ a < a:=fun q=>by have:a.toNat < a.toNat:=q; omega
   simp only[h2,if_false,decide_false,Bool.false_or,beq_self_eq_true,Bool.true_and];exact Dn_ x y
  ·have h1:b < a:=h;have h2: ¬ a < b:=fun q=>by have:a.toNat < b.toNat:=q; omega
   have h3:a≠b:=fun q=>by subst q; omega
   simp [h1,h2,h3]
def xx_ (a b:ByteArray):Int:=if blt a b=true then -1 else if blt b a=true then 1 else 0
theorem CP_ (a b:ByteArray):Lib.compareBytes a.data.toList b.data.toList=xx_ a b:=Dn_ _ _
theorem yF_ (a b:ByteArray):ltI (xx_ a b) 0=blt a b:=by
 unfold xx_ ltI;rcases gU_ a b with h | h | h
 ·rw[h.1]; rfl
 ·rw[h.2.1,h.2.2]; rfl
 ·rw[h.1,h.2.2]; rfl
theorem yu_ (a b:ByteArray):eqI (xx_ a b) 0=decide (a=b):=by
 unfold xx_;rcases gU_ a b with h | h | h
 ·rw[h.1]; simp [h.2.1]
 ·rw[h.2.1,h.2.2]; simp [h.1]
 ·rw[h.1,h.2.2]; simp [h.2.1]
theorem w2_ {i j:Nat} (h:i+j≤1000000000):ad_ .i64 (i4_ .u64 (ad_ .u64 (ad_ .i64 ((i:Int)+j))) 1)=(((i+j) / 2:Nat):Int):=by
 rw[cJ_ (n:=(i:Int)+j) (by omega) (by omega)];have e:ad_ .u64 ((i:Int)+j)=(i:Int)+j:=by
  simp [ad_,IntKind.wrap,IntKind.bits,IntKind.signed]; omega
 rw[e];have e2:i4_ .u64 ((i:Int)+j) 1=(((i+j) / 2:Nat):Int):=by
  show Int.fdiv ((i:Int)+j) (2 ^ (min 1 64))=_;rw[show ((2:Int) ^ (min 1 64))=((2:Nat):Int) from rfl,Int.fdiv_eq_ediv_of_nonneg _ (by omega)];omega
 rw[e2,cJ_ (by omega) (by omega)]
abbrev FileR:=ByteArray × ByteArray × Bool
def r5_ (f:FileR):List GV:=[.str f.1,.str f.2.1,.bool f.2.2]
def b2_:List FileR→List GV
 | []=>[]
 | f::fs=>r5_ f++b2_ fs
theorem ff_:∀ fs:List FileR,(b2_ fs).length=fs.length*3
 | []=>rfl
 | f::fs=>by rw[b2_,List.length_append,ff_ fs,List.length_cons]; simp [r5_]; omega
theorem jt_:∀ fs gs:List FileR,b2_ (fs++gs)=b2_ fs++b2_ gs
 | [],_=>rfl
 | f::fs,gs=>by rw[List.cons_append,b2_,b2_,jt_ fs gs,List.append_assoc]
theorem uP_:∀ (fs:List FileR) (i:Nat) (h:i < fs.length),(b2_ fs)[i*3]? =some (.str fs[i].1)∧(b2_ fs)[i*3+1]? =some (.str fs[i].2.1)∧(b2_ fs)[i*3+2]? =some (.bool fs[i].2.2)
 | [],i,h=>by cases h
 | f::fs,0,_=>⟨rfl,rfl,rfl⟩
 | f::fs,i+1,h=>by
  have hh:=uP_ fs i (by simpa using h);have hx:∀ k,(b2_ (f::fs))[(i+1)*3+k]? =(b2_ fs)[i*3+k]? :=fun k=>by
   rw[b2_,List.getElem?_append_right (by simp [r5_]; omega)];congr 1; simp [r5_]; omega
  exact⟨by rw[show (i+1)*3=(i+1)*3+0 from rfl,hx 0]; exact hh.1,by rw[hx 1]; exact hh.2.1,by rw[hx 2]; exact hh.2.2⟩
theorem xj_ (fs:List FileR) (i:Nat) (h:i≤fs.length):(b2_ fs).take (i*3)=b2_ (fs.take i):=by
 have e:b2_ fs=b2_ (fs.take i)++b2_ (fs.drop i):=by rw[←jt_,List.take_append_drop]
 rw[e,List.take_left' (by rw[ff_,List.length_take]; omega)]
theorem ws_ (fs:List FileR) (i:Nat) (h:i≤fs.length):(b2_ fs).drop (i*3)=b2_ (fs.drop i):=by
 have e:b2_ fs=b2_ (fs.take i)++b2_ (fs.drop i):=by rw[←jt_,List.take_append_drop]
 rw[e,List.drop_left' (by rw[ff_,List.length_take]; omega)]
def cF_ (H:Hp) (a:Pl) (fs:List FileR):Prop:=(a=none∧fs=[])∨∃ l,a=some (l,0)∧H[l]? =some (.row true 51 (b2_ fs))
def jF_ (fs:List FileR):Prop:=fs.Pairwise fun x y=>blt x.1 y.1=true
def gh_ (fs:List FileR) (s:ByteArray):Nat:=fs.countP fun f=>blt f.1 s
theorem u3_ (fs:List FileR) (s:ByteArray):gh_ fs s≤fs.length:=List.countP_le_length
theorem ic_:∀ {fs:List FileR} (h:jF_ fs) (s:ByteArray) (i:Nat) (hi:i < fs.length),blt fs[i].1 s=true↔i < gh_ fs s
 | [],_,_,_,hi=>by cases hi
 | f::fs,h,s,i,hi=>by
  have hh:=List.pairwise_cons.1 h;unfold gh_;rw[List.countP_cons];cases e:blt f.1 s with
  | true=>
   rw[if_pos rfl];cases i with
   | zero=>simp [e]
   | succ i=>
    have:=ic_ hh.2 s i (by simpa using hi);simp only[List.getElem_cons_succ];rw[this]; unfold gh_; omega
  | false=>
   rw[if_neg (by simp)];have hz:fs.countP (fun f=>blt f.1 s)=0:=by
    rw[List.countP_eq_zero];intro x hx q;rw[dU_ (hh.1 x hx) q] at e; cases e
   rw[hz];cases i with
   | zero=>simp [e]
   | succ i=>
    simp only[List.getElem_cons_succ];refine⟨fun q=> ?_,fun q=>by omega⟩;rw[dU_ (hh.1 _ (List.getElem_mem (by simpa using hi))) q] at e; cases e
end Go.Am
namespace Go.Am
open Go.Proofs
section
variable {H:Hp} {Q:Post}
theorem cF_.gets {l:Nat} {fs:List FileR} (h:H[l]? =some (.row true 51 (b2_ fs))) (i:Nat) (hi:i < fs.length):gt H l (i*3)=some (.str fs[i].1)∧gt H l (i*3+1)=some (.str fs[i].2.1)∧gt H l (i*3+1+1)=some (.bool fs[i].2.2):=by
 have:=uP_ fs i hi;simp only[bO_ h];exact this
theorem g0_ {a b:ByteArray} (hQ:Q (.g (.int .i64 (xx_ a b))) H):cs_ [.g (.str a),.g (.str b)] H Q:=by
 refine⟨1,?_⟩;rw[m0_];refine⟨1,?_⟩;rw[iN_];refine⟨a,b,rfl,?_⟩;rw[CP_];simp only[aK_,ak_];exact hQ
theorem ha_ {a b c:ByteArray} {d:Bool} (hQ:Q (.g (.int .i64 (xx_ a b))) H):cN_ [(136,cf_)] 136 [.agg [.str a,.str c,.bool d],.g (.str b)] H Q:=by
 show cf_ _ H Q;refine⟨1,?_⟩;rw[mT_];refine g0_ ?_;simp only[aK_,ak_];exact hQ
theorem mI_ {a:Pl} {fs:List FileR} {s:ByteArray} (h:cF_ H a fs) (ha:jF_ fs) (hn:fs.length≤1000)
 (hQ:Q (.tup [.s (.int .i64 ((gh_ fs s:Nat):Int)),.s (.bool (fs.any fun f=>decide (f.1=s)))]) H):
 dN_ [.g (.sl a fs.length 3),.g (.str s)] H Q:=by
 refine⟨1,?_⟩;rw[p0_];refine⟨fs.length+2,?_⟩;rw[dH_];have go:∀ (f i j:Nat),j - i < f→i≤gh_ fs s→gh_ fs s≤j→j≤fs.length→∀ {R:Post},R (.tup [.s (.int .i64 ((gh_ fs s:Nat):Int)),.s (.bool (fs.any fun f=>decide (f.1=s)))]) H→
  ao_.l3 (cN_ [(136,cf_)]) f a fs.length s 136 [] ((fs.length:Nat):Int) ((i:Nat):Int) ((j:Nat):Int) H R:=by
  intro f;induction f with
  | zero=>intro i j h; omega
  | succ f ih=>
   intro i j hf h1 h2 h3 R hR;rw[ao_.l3_eq];refine aa_ (fun e=> ?_) (fun e=> ?_)
   ·have hij:i < j:=by simpa using e
    rw[w2_ (by omega)];have hm:(i+j) / 2 < fs.length:=by omega
    refine ab_ rfl (ab_ (by simp; omega) ?_);rcases h with⟨_,h⟩ | ⟨l,rfl,h⟩
    ·rw[h] at hm; cases hm
    ·obtain⟨r1,r2,r3⟩:=cF_.gets h _ hm;have etn:∀ k:Nat,tN (k:Int)=k:=fun _=>rfl;simp only[ah_,Nat.zero_add,etn];rw[ag_ r1,aB_,ag_ r2,aB_,ag_ r3,al_];refine ha_ ?_;simp only[aK_,ak_];rw[yF_,ar_ (by omega)];have hp:=ic_ ha s _ hm;refine aa_ (fun e=> ?_) (fun e=> ?_)
     ·exact ih _ _ (by omega) (by have:=hp.1 e; omega) h2 h3 hR
     ·exact ih _ _ (by omega) h1 (by rw[e] at hp; have: ¬ (i+j) / 2 < gh_ fs s:=fun q=>by cases hp.2 q
                                     omega) (by omega) hR
   ·have hij: ¬ i < j:=by simpa using e
    have hi:i=gh_ fs s:=by omega
    subst hi;refine aa_ (fun e=> ?_) (fun e=> ?_)
    ·have hm:gh_ fs s < fs.length:=by simpa using e
     refine ab_ rfl (ab_ (by simp; omega) ?_);rcases h with⟨_,h⟩ | ⟨l,rfl,h⟩
     ·rw[h] at hm; cases hm
     ·obtain⟨r1,r2,r3⟩:=cF_.gets h _ hm;have etn:∀ k:Nat,tN (k:Int)=k:=fun _=>rfl;simp only[ah_,Nat.zero_add,etn];rw[ag_ r1,aB_,ag_ r2,aB_,ag_ r3,al_];refine ha_ ?_;simp only[aK_,ak_];rw[yu_];have:decide (fs[gh_ fs s].1=s)=fs.any fun f=>decide (f.1=s):=by
       rw[Bool.eq_iff_iff,List.any_eq_true];simp only[decide_eq_true_eq];refine⟨fun e=>⟨_,List.getElem_mem hm,e⟩,fun⟨x,hx,e⟩=> ?_⟩;obtain⟨k,hk,rfl⟩:=List.getElem_of_mem hx;have hk1:=ic_ ha s k hk;rw[e,c4_] at hk1;have hle:gh_ fs s≤k:=by
        refine Nat.le_of_not_lt fun q=> ?_;cases hk1.2 q
       rcases Nat.lt_or_eq_of_le hle with q | q
       ·have hlt:=(List.pairwise_iff_getElem.1 ha) _ _ hm hk q;rw[e] at hlt;have:=(ic_ ha s _ hm).1 hlt;omega
       ·simp only[q]; exact e
      rw[this]; exact hR
    ·have hm: ¬ gh_ fs s < fs.length:=by simpa using e
     have:(fs.any fun f=>decide (f.1=s))=false:=by
      rw[List.any_eq_false];intro x hx q;obtain⟨k,hk,rfl⟩:=List.getElem_of_mem hx;have hk1:=ic_ ha s k hk;have q':fs[k].1=s:=by simpa using q
      rw[q',c4_] at hk1;have: ¬ k < gh_ fs s:=fun z=>by cases hk1.2 z
      omega
     rw[this] at hR; exact hR
 refine go _ 0 fs.length (by omega) (Nat.zero_le _) (u3_ _ _) (Nat.le_refl _) ?_;simp only[aR_,aG_,bP_,ak_,al_,aS_];exact hQ
end
end Go.Am
namespace Go.Am
section
def bs_ (st:StD) (l:LKey × LVal):FileR:=(l.1.2,(match look st.inos l.2.1 with | some x=>x.content | none=>mkS []),l.2.2)
structure ch_ (st:StD) (id:Int) (fs:List FileR):Prop where
 asc:jF_ fs
 mem:∀ f,f∈fs↔∃ l∈st.links,l.1.1=id∧f=bs_ st l
theorem jF_.ext:∀ {fs gs:List FileR},jF_ fs→jF_ gs→(∀ f,f∈fs↔f∈gs)→fs=gs
 | [],[],_,_,_=>rfl
 | [],g::gs,_,_,h=>absurd ((h g).2 List.mem_cons_self) List.not_mem_nil
 | f::fs,[],_,_,h=>absurd ((h f).1 List.mem_cons_self) List.not_mem_nil
 | f::fs,g::gs,h1,h2,h=>by
  have a1:=List.pairwise_cons.1 h1;have a2:=List.pairwise_cons.1 h2;have e:f=g:=by
   rcases List.mem_cons.1 ((h f).1 List.mem_cons_self) with q | q
   ·exact q
   ·rcases List.mem_cons.1 ((h g).2 List.mem_cons_self) with r | r
    ·exact r.symm
    ·have:=jD_ (a2.1 f q);rw[a1.1 g r] at this; cases this
  subst e;congr 1;refine jF_.ext a1.2 a2.2 fun x=>⟨fun q=> ?_,fun q=> ?_⟩
  ·rcases List.mem_cons.1 ((h x).1 (List.mem_cons_of_mem _ q)) with r | r
   ·have:=a1.1 x q; rw[r,c4_] at this; cases this
   ·exact r
  ·rcases List.mem_cons.1 ((h x).2 (List.mem_cons_of_mem _ q)) with r | r
   ·have:=a2.1 x q; rw[r,c4_] at this; cases this
   ·exact r
theorem ch_.unique {st:StD} {id:Int} {fs gs:List FileR} (h1:ch_ st id fs) (h2:ch_ st id gs):fs=gs:=h1.asc.ext h2.asc fun f=>(h1.mem f).trans (h2.mem f).symm
theorem AW_ {fs:List FileR} (h:jF_ fs) (s:ByteArray):(∀ x∈fs.take (gh_ fs s),blt x.1 s=true)∧(∀ x∈fs.drop (gh_ fs s),blt x.1 s=false):=by
 constructor
 ·intro x hx;obtain⟨i,hi,rfl⟩:=List.getElem_of_mem hx;have h1:i < gh_ fs s∧i < fs.length:=by rw[List.length_take] at hi; omega
  rw[List.getElem_take];exact (ic_ h s i h1.2).2 h1.1
 ·intro x hx;obtain⟨i,hi,rfl⟩:=List.getElem_of_mem hx;have hi':gh_ fs s+i < fs.length:=by rw[List.length_drop] at hi; omega
  rw[List.getElem_drop];have:=ic_ h s _ hi';cases e:blt fs[gh_ fs s+i].1 s with
  | false=>rfl
  | true=>have:=this.1 e; omega
theorem jF_.put {fs:List FileR} (h:jF_ fs) (f:FileR) (hn:∀ x∈fs,x.1≠f.1):jF_ (fs.take (gh_ fs f.1)++(f::fs.drop (gh_ fs f.1))):=by
 obtain⟨h1,h2⟩:=AW_ h f.1;have hs:(fs.take (gh_ fs f.1)++fs.drop (gh_ fs f.1)).Pairwise fun x y=>blt x.1 y.1=true:=by rw[List.take_append_drop]; exact h
 obtain⟨q1,q2,q3⟩:=List.pairwise_append.1 hs;have h3:∀ x∈fs.drop (gh_ fs f.1),blt f.1 x.1=true:=fun x hx=>by
  rcases gU_ x.1 f.1 with r | r | r
  ·rw[h2 x hx] at r; cases r.1
  ·exact absurd r.1 (hn x (List.mem_of_mem_drop hx))
  ·exact r.1
 refine List.pairwise_append.2 ⟨q1,List.pairwise_cons.2 ⟨h3,q2⟩,fun x hx y hy=> ?_⟩;rcases List.mem_cons.1 hy with r | r
 ·rw[r]; exact h1 x hx
 ·exact q3 x hx y r
theorem B5_ {fs:List FileR} {f x:FileR} (p:Nat):x∈fs.take p++(f::fs.drop p)↔x=f∨x∈fs:=by
 have:x∈fs↔x∈fs.take p∨x∈fs.drop p:=by rw[←List.mem_append,List.take_append_drop]
 rw[this];simp only[List.mem_append,List.mem_cons];constructor
 ·rintro (h | h | h)
  ·exact .inr (.inl h)
  ·exact .inl h
  ·exact .inr (.inr h)
 ·rintro (h | h | h)
  ·exact .inr (.inl h)
  ·exact .inl h
  ·exact .inr (.inr h)
end
section
variable {H:Hp} {Q:Post} {sp ms ml mi:Nat} {c0 c4:GV} {st:StD}
theorem qd_ {G:Hp} {a:Pl} {fs:List FileR} {f:FileR} {i b:Nat} {R:Post} (h:cF_ G a fs) (hb:∀ l o,a=some (l,o)→b≤l) (hbl:b≤G.length) (hi:i≤fs.length) (hn:fs.length≤1000)
 (hR:∀ G' a',cF_ G' a' (fs.take i++(f::fs.drop i))→(∀ l o,a'=some (l,o)→b≤l)→G.length≤G'.length→(∀ l,l < b→G'[l]? =G[l]?)→R (.g (.sl a' (fs.length+1) 3)) G'):
 slices_Insert__api_File_api_File [(.g (.sl a fs.length 3)),(.g (.int .i64 ((i:Nat):Int))),(.g (.sl (some (G.length,0)) 1 3))] (G++[.row false mo_ (r5_ f)]) R:=by
 refine⟨a,fs.length,i,G.length,r5_ f,rfl,hi,by unfold Lim; omega,by simp [mo_],rfl,?_⟩;rcases h with⟨rfl,rfl⟩ | ⟨l,rfl,hl⟩
 ·refine .inl ⟨rfl,rfl,?_⟩;refine hR _ _ (.inr ⟨_,rfl,?_⟩) (fun l o e=>by cases e; simp; omega) (by simp) (fun l hl=>by rw[fl_,List.getElem?_append_left (by simp; omega),List.getElem?_append_left (by omega)]);simp [b2_,r5_]
 ·have hlt:=(List.getElem?_eq_some_iff.1 hl).1;have hbl':=hb l 0 rfl;refine .inr ⟨l,b2_ fs,rfl,by rw[List.getElem?_append_left hlt]; exact hl,ff_ fs,?_⟩;refine hR _ _ (.inr ⟨_,rfl,?_⟩) (fun l o e=>by cases e; simp; omega) (by simp; omega) (fun l' hl'=>by
   rw[fl_,List.getElem?_append_left (by simp; omega),List.getElem?_set_ne (by omega),List.getElem?_append_left (by omega)])
  rw[xj_ _ _ hi,ws_ _ _ hi,jt_,b2_];simp
theorem o8_ (h:kl_ H sp c0 ms ml mi c4 st) (id:Int) (hn:st.links.length≤900) (hQ:∀ H' a fs,H<+:H'→cF_ H' a fs→ch_ st id fs→(∀ l o,a=some (l,o)→H.length≤l)→Q (.g (.sl a fs.length 3)) H'):
 ba_ [.g (.ptr (some (sp,0))),.g (.int .i64 id)] H Q:=by
 refine⟨st.links.length+3,?_⟩;rw[lA_];obtain⟨_,_,g2,_⟩:=h.rd;have hml:ml < H.length:=h.links.lt;simp only[ah_,Nat.zero_add,e4_];rw[ag_ g2,ht_];refine vp_ h.links fun o R0=> ?_;have go:∀ (f:Nat) (js:List Nat) (G:Hp) (a:Pl) (fs:List FileR),st.links.length - js.length < f→H<+:G→H.length+1≤G.length→fc_ ekL evL G H.length ml st.links js→
  cF_ G a fs→(∀ l o,a=some (l,o)→H.length+1≤l)→jF_ fs→fs.length≤js.length→(∀ f,f∈fs↔∃ j∈js,∃ hj:j < st.links.length,st.links[j].1.1=id∧f=bs_ st st.links[j])→
  ba_.l3 f (some (sp,0)) id a fs.length H.length 0 G Q:=by
  intro f;induction f with
  | zero=>intro js G a fs h; omega
  | succ f ih=>
   intro js G a fs hf hG hl R hfa hal hasc hle hmem;rw[ba_.l3_eq];refine vR_ R (by omega) (fun j hj hjs G1 l1 k1 R1=> ?_) (fun hperm=> ?_)
   ·have hlj:=pJ_ R1;rw[List.length_append,List.length_singleton] at hlj;refine rC_ R1 hj ?_;simp only[ekL,evL,bP_,aB_,al_,gB_,bA_,ak_,b0_];have hG1:H<+:G1:=gy_ hG l1 fun l hl=>by rw[k1 l (by omega)]
    have hfa1:cF_ G1 a fs:=by
     rcases hfa with q | ⟨l,rfl,q⟩
     ·exact .inl q
     ·have:=hal l 0 rfl;exact .inr ⟨l,rfl,by rw[k1 l (by omega)]; exact q⟩
    refine aa_ (fun e=> ?_) (fun e=> ?_)
    ·have hid:st.links[j].1.1=id:=by simpa using e
     refine mI_ hfa1 hasc (by omega) ?_;simp only[aR_,aG_,bP_,ak_,al_,aS_,ah_,Nat.zero_add];have hS:=h.keep (H':=G1) fun l hl=>cd_ hG1 hl;obtain⟨_,_,_,g3,_⟩:=hS.rd;rw[ag_ g3,ht_];have hnew:∀ x∈fs,x.1≠(bs_ st st.links[j]).1:=fun x hx q=>by
      obtain⟨i,hi,hi',hid',rfl⟩:=(hmem x).1 hx;have hk:st.links[i].1=st.links[j].1:=Prod.ext (by rw[hid,hid']) q;have nd:=h.links.nodup;have:i=j:=by
       refine Classical.byContradiction fun hne=> ?_;have hp:=List.pairwise_iff_getElem.1 nd;rcases Nat.lt_or_gt_of_ne hne with z | z
       ·exact hp i j (by simpa using hi') (by simpa using hj) z (by simpa using hk)
       ·exact hp j i (by simpa using hj) (by simpa using hi') z (by simpa using hk.symm)
      subst this;exact hjs hi
     have step:∀ c,c=(bs_ st st.links[j]).2.1→slices_Insert__api_File_api_File [(.g (.sl a fs.length 3)),(.g (.int .i64 ((gh_ fs st.links[j].1.2:Nat):Int))),(.g (.sl (some (G1.length,0)) 1 3))] (G1++[.row false mo_ [.str st.links[j].1.2,.str c,.bool st.links[j].2.2]]) fun r43 H44=>
      rG r43 fun v45=>dL 3 v45 fun x46 n47=>ba_.l3 f (some (sp,0)) id x46 n47 H.length 0 H44 Q:=fun c hc=>by
      subst hc;refine qd_ (f:=bs_ st st.links[j]) (b:=H.length+1) hfa1 hal (by omega) (u3_ _ _) (by omega) fun G2 a' hf2 hb2 hl2 k2=> ?_;simp only[aK_];refine⟨.inr rfl,?_⟩;have e1:fs.length+1=(fs.take (gh_ fs st.links[j].1.2)++(bs_ st st.links[j]::fs.drop (gh_ fs st.links[j].1.2))).length:=by
       have:=u3_ fs st.links[j].1.2;simp; omega
      rw[e1];have hG2:H<+:G2:=by
       rw[List.prefix_iff_eq_take];apply List.ext_getElem?;intro i;rw[List.getElem?_take];split
       ·rename_i hi;rw[k2 i (by omega),cd_ hG1 hi]
       ·exact List.getElem?_eq_none (by omega)
      refine ih (js++[j]) G2 a' _ (by rw[List.length_append,List.length_singleton]; omega) hG2 (by omega) (R1.keep (k2 _ (by omega)) (k2 _ (by omega))) hf2 hb2 (hasc.put _ hnew) (by rw[←e1,List.length_append,List.length_singleton]; omega) fun x=> ?_;rw[B5_,hmem x];constructor
      ·rintro (q | ⟨i,hi,r⟩)
       ·exact⟨j,by simp,hj,hid,q⟩
       ·exact⟨i,by simp [hi],r⟩
      ·rintro⟨i,hi,hi',r⟩;rcases List.mem_append.1 hi with q | q
       ·exact .inr ⟨i,q,hi',r⟩
       ·have:i=j:=by simpa using q
        subst this;exact .inl r.2
     refine rG_ (ev:=evI) okI hS.inos st.links[j].2.1 (fun v hlk=> ?_) (fun hlk=> ?_)
     ·have hc:evI v= .a [.int .i64 v.links,.str v.content]:=rfl;rw[hc];simp only[gB_,bA_,ak_,aB_,b0_];exact step _ (by simp [bs_,hlk])
     ·simp only[gB_,bA_,ak_,aB_,b0_];exact step _ (by simp [bs_,hlk])
    ·have hid: ¬ st.links[j].1.1=id:=by simpa using e
     refine ih (js++[j]) G1 a fs (by rw[List.length_append,List.length_singleton]; omega) hG1 (by omega) R1 hfa1 hal hasc (by rw[List.length_append,List.length_singleton]; omega) fun x=> ?_;rw[hmem x];constructor
     ·rintro⟨i,hi,r⟩;exact⟨i,by simp [hi],r⟩
     ·rintro⟨i,hi,hi',r⟩;rcases List.mem_append.1 hi with q | q
      ·exact⟨i,q,hi',r⟩
      ·have:i=j:=by simpa using q
       subst this;exact absurd r.1 hid
   ·refine hQ G a fs hG hfa ⟨hasc,fun x=> ?_⟩ fun l o e=>by have:=hal l o e; omega
    rw[hmem x];constructor
    ·rintro⟨i,_,hi',r⟩;exact⟨_,List.getElem_mem hi',r⟩
    ·rintro⟨l,hl',r⟩;obtain⟨i,hi,rfl⟩:=List.getElem_of_mem hl';exact⟨i,hperm.mem_iff.2 (List.mem_range.2 hi),hi,r⟩
 exact go _ [] _ none [] (by simp) (ce_ _ _) (by simp) R0 (.inl ⟨rfl,rfl⟩) (fun l o e=>by cases e) List.Pairwise.nil (by simp) (fun x=>by simp)
end
end Go.Am
namespace Go.Am
structure InfoR where
 name:ByteArray
 kind:Int
 parent:ByteArray
 label:ByteArray
 files:List FileR
 deriving DecidableEq
def gi_ (p:Pl) (i:InfoR):List GV:=[.str i.name,.int .i64 i.kind,.str i.parent,.str i.label,.sl p i.files.length 3]
inductive eP_ (H:Hp) (b:Nat) (a:Pl):List GV→List InfoR→Prop
 | nil:eP_ H b a [] []
 | cons {p:Pl} {i:InfoR} {cs:List GV} {is:List InfoR}:cF_ H p i.files→(∀ l o,p=some (l,o)→b≤l∧∀ o',a≠some (l,o'))→eP_ H b a cs is→eP_ H b a (gi_ p i++cs) (i::is)
theorem cF_.lt {H:Hp} {l o:Nat} {fs:List FileR} (h:cF_ H (some (l,o)) fs):l < H.length:=by
 rcases h with⟨q,_⟩ | ⟨l',e,q⟩
 ·cases q
 ·cases e; exact (List.getElem?_eq_some_iff.1 q).1
theorem cF_.keep {H H':Hp} {p:Pl} {fs:List FileR} (h:cF_ H p fs) (hk:∀ l o,p=some (l,o)→H'[l]? =H[l]?):cF_ H' p fs:=by
 rcases h with q | ⟨l,rfl,q⟩
 ·exact .inl q
 ·exact .inr ⟨l,rfl,by rw[hk l 0 rfl]; exact q⟩
theorem eP_.keep {H H':Hp} {b:Nat} {a a':Pl} (hk:∀ l,b≤l→(∀ o,a≠some (l,o))→l < H.length→H'[l]? =H[l]? ∧∀ o,a'≠some (l,o)):∀ {cs:List GV} {is:List InfoR},eP_ H b a cs is→eP_ H' b a' cs is:=by
 intro cs is h;induction h with
 | nil=>exact .nil
 | cons h1 h2 _ ih=>
  refine .cons (h1.keep fun l o e=> ?_) (fun l o e=> ?_) ih
  ·subst e; exact (hk l (h2 l o rfl).1 (h2 l o rfl).2 h1.lt).1
  ·subst e; exact⟨(h2 l o rfl).1,(hk l (h2 l o rfl).1 (h2 l o rfl).2 h1.lt).2⟩
theorem eP_.snoc {H:Hp} {b:Nat} {a p:Pl} {i:InfoR} {cs:List GV} {is:List InfoR} (h:eP_ H b a cs is) (h1:cF_ H p i.files) (h2:∀ l o,p=some (l,o)→b≤l∧∀ o',a≠some (l,o')):eP_ H b a (cs++gi_ p i) (is++[i]):=by
 induction h with
 | nil=>simpa using (eP_.cons (i:=i) h1 h2 .nil)
 | cons q1 q2 _ ih=>rw[List.append_assoc,List.cons_append]; exact .cons q1 q2 ih
theorem eP_.len {H:Hp} {b:Nat} {a:Pl} {cs:List GV} {is:List InfoR} (h:eP_ H b a cs is):cs.length=is.length*5:=by
 induction h with
 | nil=>rfl
 | cons _ _ _ ih=>rw[List.length_append,ih,List.length_cons]; simp [gi_]; omega
def cg_ (H:Hp) (b:Nat) (a:Pl) (is:List InfoR):Prop:=(a=none∧is=[])∨∃ l cs,a=some (l,0)∧b≤l∧H[l]? =some (.row true 49 cs)∧eP_ H b a cs is
theorem pQ_ {H:Hp} {b:Nat} {a p:Pl} {is:List InfoR} {i:InfoR} {K:Pl→Nat→Hp→Prop} (h:cg_ H b a is) (hb:b≤H.length) (h1:cF_ H p i.files) (h2:∀ l o,p=some (l,o)→b≤l∧∀ o',a≠some (l,o')) (hn:is.length≤1000)
 (hK:∀ a' H',cg_ H' b a' (is++[i])→(∀ l,l < b→H'[l]? =H[l]?)→H.length≤H'.length→K a' (is++[i]).length H'):ap H 49 5 80 a is.length (gi_ p i) 1 K:=by
 have hl:(gi_ p i).length=1*5:=rfl;unfold ap app?;rw[if_pos ⟨by unfold Lim; omega,hl⟩];rw[List.length_append,List.length_singleton] at hK;rcases h with⟨rfl,rfl⟩ | ⟨l,cs,rfl,hbl,hrow,hc⟩
 ·simp only[List.length_nil,if_pos];rw[if_neg (by decide)];refine hK _ _ (.inr ⟨H.length,gi_ p i,rfl,hb,by simp,?_⟩) (fun l hl=>by rw[List.getElem?_append_left (by omega)]) (by simp);have:gi_ p i=gi_ p i++[]:=by simp
  rw[this];refine .cons (h1.keep fun l o e=> ?_) (fun l o e=> ?_) .nil
  ·subst e; rw[List.getElem?_append_left h1.lt]
  ·subst e; exact⟨(h2 l o rfl).1,fun o' q=>by cases q; exact absurd h1.lt (Nat.lt_irrefl _)⟩
 ·have hlt:=(List.getElem?_eq_some_iff.1 hrow).1;simp only[hrow];rw[if_pos ⟨trivial,trivial,hc.len⟩];refine hK _ _ (.inr ⟨H.length,cs++gi_ p i,rfl,hb,by simp,?_⟩) (fun l' hl'=>by rw[List.getElem?_append_left (by simp; omega),List.getElem?_set_ne (by omega)]) (by simp);refine eP_.keep (H:=H) (a:=some (l,0)) (fun l' hb' hne hlt'=>⟨?_,fun o q=>by cases q; exact absurd hlt' (Nat.lt_irrefl _)⟩) (hc.snoc h1 h2);rw[List.getElem?_append_left (by simpa using hlt'),List.getElem?_set_ne (fun e=>hne 0 (by rw[e]))]
end Go.Am
namespace Go.Am
section
variable {H:Hp} {Q:Post} {sp ms ml mi:Nat} {c0 c4:GV} {st:StD}
structure o2_ (st:StD) (i:InfoR):Prop where
 mem:∃ x,look st.snaps i.name=some x∧i.kind=x.kind∧i.parent=x.parent∧i.label=x.label∧ch_ st x.id i.files
theorem pN_ (h:kl_ H sp c0 ms ml mi c4 st) (hs:∀ x∈st.snaps,x.1.size≤140737488351232) (hn:st.snaps.length≤1000) {E:Nat→Sm} {K:Post}
 (hK:∀ zs:List ByteArray,zs.Perm (st.snaps.map (·.1))→zs.Pairwise (fun a b=>blt a b=true)→∀ H' a,H<+:H'→(∀ i (hi:i < zs.length),∃ l,a=some (l,0)∧gt H' l i=some (.str zs[i]))→K (.g (.sl a zs.length 1)) H'):
 cl (aO_ E) [(.g (.map (some ms)))] H fun r4 H5=>rG r4 fun v6=>cl slices_Sorted_string [(.g v6)] H5 K:=by
 obtain⟨es,c,hm,he,hbd,hnd⟩:=h.snaps.ex;have hlt:=h.snaps.lt;refine⟨1,?_⟩;rw[eo_];simp only[aK_,e4_,fl_];have hks:es.map (fun e=>iD_ e.2.1)=st.snaps.map (·.1):=by
  have e1:es.map (fun e=>iD_ e.2.1)=(es.map fun e=>(e.2.1,e.2.2)).map fun q=>iD_ q.1:=by rw[List.map_map]; rfl
  rw[e1,he,List.map_map]; rfl
 have hlen:es.length=st.snaps.length:=by have:=congrArg List.length he; simpa using this
 have hkeys:∀ e∈es,∃ x∈st.snaps,e.2.1= .s (.str x.1):=fun e hein=>by
  have:(e.2.1,e.2.2)∈es.map fun e=>(e.2.1,e.2.2):=List.mem_map.2 ⟨e,hein,rfl⟩;rw[he] at this;obtain⟨x,hx,q⟩:=List.mem_map.1 this;have q':=congrArg Prod.fst q;exact⟨x,hx,q'.symm⟩
 refine⟨H.length,98,[.map (some ms)],some ms,rfl,by simp,rfl,?_⟩;refine⟨es,c,by rw[List.getElem?_append_left hlt]; exact hm,⟨fun e hein=> ?_,hbd,hnd,by rw[hks]; exact h.snaps.nodup,by omega⟩,fun zs hp hs'=> ?_⟩
 ·obtain⟨x,hx,q⟩:=hkeys e hein;exact⟨x.1,q,hs x hx⟩
 ·rw[hks] at hp;have nd:zs.Nodup:=hp.nodup_iff.2 h.snaps.nodup;have asc:zs.Pairwise (fun a b=>blt a b=true):=by
   rw[List.pairwise_iff_getElem] at hs' ⊢;intro i j hi hj hij;have h1:blt zs[j] zs[i]=false:=hs' i j hi hj hij;rcases gU_ zs[i] zs[j] with q | q | q
   ·exact q.1
   ·exact absurd q.1 (List.pairwise_iff_getElem.1 nd i j hi hj hij)
   ·rw[q.1] at h1; cases h1
  refine⟨fun e=> ?_,fun e=> ?_⟩
  ·subst e;exact hK [] hp asc _ none (ce_ _ _) (fun i hi=>by cases hi)
  ·refine hK zs hp asc _ _ ((ce_ _ _).trans (ce_ _ _)) fun i hi=>⟨_,rfl,?_⟩;simp only[fl_,e4_];rw[bO_ (by rw[List.getElem?_append_right (Nat.le_refl _),Nat.sub_self]; rfl)];simp [hi]
end
end Go.Am
namespace Go.Am
theorem dF_ {H H':Hp} (p:H<+:H') {l o:Nat} {v:GV} (h:gt H l o=some v):gt H' l o=some v:=by
 by_cases hl:l < H.length
 ·unfold gt at h ⊢; rw[cd_ p hl]; exact h
 ·unfold gt at h; rw[List.getElem?_eq_none (by omega)] at h; cases h
theorem cg_.pre {H H':Hp} {b:Nat} {a:Pl} {is:List InfoR} (h:cg_ H b a is) (p:H<+:H'):cg_ H' b a is:=by
 rcases h with q | ⟨l,cs,rfl,hb,hr,hc⟩
 ·exact .inl q
 ·exact .inr ⟨l,cs,rfl,hb,by rw[cd_ p (List.getElem?_eq_some_iff.1 hr).1]; exact hr,hc.keep fun l' _ hne hlt=>⟨cd_ p hlt,hne⟩⟩
theorem cg_.lt {H:Hp} {b l o:Nat} {is:List InfoR} (h:cg_ H b (some (l,o)) is):l < H.length:=by
 rcases h with⟨q,_⟩ | ⟨l',cs,e,hb,hr,hc⟩
 ·cases q
 ·cases e; exact (List.getElem?_eq_some_iff.1 hr).1
section
variable {H:Hp} {Q:Post} {sp ms ml mi:Nat} {c0 c4:GV} {st:StD}
theorem xI_ {H G:Hp} (hl:H.length≤G.length) (h:∀ l,l < H.length→G[l]? =H[l]?):H<+:G:=by
 rw[List.prefix_iff_eq_take];apply List.ext_getElem?;intro i;rw[List.getElem?_take];split
 ·rename_i hi;exact (h i hi).symm
 ·exact List.getElem?_eq_none (by omega)
structure cn_ (st:StD) (is:List InfoR):Prop where
 perm:(is.map (·.name)).Perm (st.snaps.map (·.1))
 asc:(is.map (·.name)).Pairwise fun a b=>blt a b=true
 info:∀ i∈is,o2_ st i
theorem pO_ (h:kl_ H sp c0 ms ml mi c4 st) (hs:∀ x∈st.snaps,x.1.size≤140737488351232) (hn:st.snaps.length≤900) (hl:st.links.length≤900) {E:Nat→Sm}
 (hQ:∀ H' b a is,H<+:H'→H.length≤b→cg_ H' b a is→cn_ st is→Q (.g (.sl a is.length 5)) H'):
 bl_ E [.g (.ptr (some (sp,0)))] H Q:=by
 refine⟨st.snaps.length+2,?_⟩;rw[k5_];obtain⟨_,g1,_⟩:=h.rd;simp only[ah_,Nat.zero_add];rw[ag_ g1,ht_];refine pN_ h hs (by omega) fun zs hp hasc H1 az hH1 hz=> ?_;simp only[aK_];refine⟨.inr rfl,?_⟩;have hzl:zs.length=st.snaps.length:=by rw[hp.length_eq,List.length_map]
 have go:∀ (f k:Nat) (G:Hp) (a:Pl) (is:List InfoR),zs.length - k < f→k≤zs.length→H1<+:G→cg_ G H1.length a is→is.map (·.name)=zs.take k→(∀ i∈is,o2_ st i)→
  bl_.l3 E f (some (sp,0)) a is.length az zs.length ((zs.length:Nat):Int) ((k:Nat):Int) G Q:=by
  intro f;induction f with
  | zero=>intro k G a is h; omega
  | succ f ih=>
   intro k G a is hf hk hG hia hnm hinf;rw[bl_.l3_eq];have hil:is.length=k:=by have:=congrArg List.length hnm; rw[List.length_map,List.length_take] at this; omega
   refine aa_ (fun e=> ?_) (fun e=> ?_)
   ·have hkl:k < zs.length:=by simpa using e
    obtain⟨lz,rfl,hgz⟩:=hz k hkl;refine ab_ rfl (ab_ (by simp; omega) ?_);have etn:∀ k:Nat,tN (k:Int)=k:=fun _=>rfl;simp only[ah_,Nat.zero_add,etn,Nat.mul_one];rw[ag_ (dF_ hG hgz),aB_];have hS:=h.keep (H':=G) fun l hl=>cd_ (hH1.trans hG) hl;obtain⟨_,g1',_⟩:=hS.rd;rw[ag_ g1',ht_];have hmem:zs[k]∈st.snaps.map (·.1):=hp.mem_iff.1 (List.getElem_mem hkl);refine rG_ (ev:=evS) okS hS.snaps zs[k] (fun x hlk=> ?_) (fun hlk=> ?_)
    ·have hc:evS x= .a [.int .i64 x.id,.int .i64 x.kind,.str x.parent,.str x.label]:=rfl;rw[hc];simp only[gB_,bA_,ak_,aB_,b0_];refine o8_ hS x.id hl fun G2 p fs hG2 hfa hfo hpl=> ?_;simp only[aK_];refine⟨.inr rfl,ab_ rfl ?_⟩;refine pQ_ (i:=⟨zs[k],x.kind,x.parent,x.label,fs⟩) (hia.pre hG2) (Nat.le_trans hG.length_le hG2.length_le) hfa (fun l o e=>⟨Nat.le_trans hG.length_le (hpl l o e),fun o' q=> ?_⟩) (by omega) fun a' G3 hia' hk3 hl3=> ?_
     ·subst q; have:=hia.lt; have:=hpl l o e; omega
     ·rw[ar_ (by omega)];refine ih (k+1) G3 a' _ (by omega) hkl (xI_ (Nat.le_trans (hG.trans hG2).length_le hl3) fun l hl=>by rw[hk3 l hl,cd_ (hG.trans hG2) hl]) hia' ?_ fun i hi=> ?_
      ·rw[List.map_append,hnm,List.take_add_one,List.getElem?_eq_getElem hkl]; rfl
      ·rcases List.mem_append.1 hi with q | q
       ·exact hinf i q
       ·have:i=⟨zs[k],x.kind,x.parent,x.label,fs⟩:=by simpa using q
        subst this;exact⟨⟨x,hlk,rfl,rfl,rfl,hfo⟩⟩
    ·obtain⟨x,hx,e⟩:=List.mem_map.1 hmem;exact absurd e (lL_ hlk x hx)
   ·have hkl: ¬ k < zs.length:=by simpa using e
    have hke:k=zs.length:=by omega
    subst hke;rw[List.take_length] at hnm;exact hQ G H1.length a is (hH1.trans hG) hH1.length_le hia ⟨by rw[hnm]; exact hp,by rw[hnm]; exact hasc,hinf⟩
 exact go _ 0 H1 none [] (by omega) (Nat.zero_le _) (List.prefix_refl _) (.inl ⟨rfl,rfl⟩) (by simp) (fun i hi=>by cases hi)
end
end Go.Am
namespace Go.Am
def eM_ (H:Hp) (a:Pl) (fs:List FileR):Prop:=∀ i (hi:i < fs.length),∃ l o,a=some (l,o)∧gt H l (o+i*3)=some (.str fs[i].1)∧gt H l (o+i*3+1)=some (.str fs[i].2.1)∧gt H l (o+i*3+1+1)=some (.bool fs[i].2.2)
theorem cF_.rd {H:Hp} {a:Pl} {fs:List FileR} (h:cF_ H a fs):eM_ H a fs:=fun i hi=>by
 rcases h with⟨_,rfl⟩ | ⟨l,rfl,h⟩
 ·cases hi
 ·exact⟨l,0,rfl,by simpa using cF_.gets h i hi⟩
theorem eM_.pre {H H':Hp} {a:Pl} {fs:List FileR} (h:eM_ H a fs) (p:H<+:H'):eM_ H' a fs:=fun i hi=>by
 obtain⟨l,o,e,h1,h2,h3⟩:=h i hi;exact⟨l,o,e,dF_ p h1,dF_ p h2,dF_ p h3⟩
def dq_ (H:Hp) (a:Pl) (is:List InfoR):Prop:=∀ i (hi:i < is.length),∃ l o p,a=some (l,o)∧gt H l (o+i*5)=some (.str is[i].name)∧gt H l (o+i*5+1)=some (.int .i64 is[i].kind)∧gt H l (o+i*5+1+1)=some (.str is[i].parent)∧gt H l (o+i*5+1+1+1)=some (.str is[i].label)∧
 gt H l (o+i*5+1+1+1+1)=some (.sl p is[i].files.length 3)∧eM_ H p is[i].files
theorem dq_.pre {H H':Hp} {a:Pl} {is:List InfoR} (h:dq_ H a is) (p:H<+:H'):dq_ H' a is:=fun i hi=>by
 obtain⟨l,o,q,e,h1,h2,h3,h4,h5,h6⟩:=h i hi;exact⟨l,o,q,e,dF_ p h1,dF_ p h2,dF_ p h3,dF_ p h4,dF_ p h5,h6.pre p⟩
theorem eP_.at {H:Hp} {b:Nat} {a:Pl} {cs:List GV} {is:List InfoR} (h:eP_ H b a cs is):∀ i (hi:i < is.length),∃ p,cs[i*5]? =some (.str is[i].name)∧cs[i*5+1]? =some (.int .i64 is[i].kind)∧cs[i*5+2]? =some (.str is[i].parent)∧cs[i*5+3]? =some (.str is[i].label)∧
 cs[i*5+4]? =some (.sl p is[i].files.length 3)∧eM_ H p is[i].files:=by
 induction h with
 | nil=>intro i hi; cases hi
 | @cons p x cs is h1 h2 _ ih=>
  intro i hi;cases i with
  | zero=>exact⟨p,rfl,rfl,rfl,rfl,rfl,h1.rd⟩
  | succ i=>
   obtain⟨q,g⟩:=ih i (by simpa using hi);have hx:∀ k,(gi_ p x++cs)[(i+1)*5+k]? =cs[i*5+k]? :=fun k=>by
    rw[List.getElem?_append_right (by simp [gi_]; omega)];congr 1; simp [gi_]; omega
   refine⟨q,?_⟩;rw[show (i+1)*5=(i+1)*5+0 from rfl,hx 0];rw[show ∀ k,(i+1)*5+0+k=(i+1)*5+k from fun _=>rfl,show ∀ k,(i+1)*5+0+k=(i+1)*5+k from fun _=>rfl,hx 1,hx 2,hx 3,hx 4];exact g
theorem cg_.rd {H:Hp} {b:Nat} {a:Pl} {is:List InfoR} (h:cg_ H b a is):dq_ H a is:=fun i hi=>by
 rcases h with⟨_,rfl⟩ | ⟨l,cs,rfl,_,hr,hc⟩
 ·cases hi
 ·obtain⟨p,g1,g2,g3,g4,g5,g6⟩:=hc.at i hi;refine⟨l,0,p,rfl,?_,?_,?_,?_,?_,g6⟩<;>rw[bO_ hr,Nat.zero_add]<;>assumption
end Go.Am
namespace Go.Am
open Go.Proofs
def gC_ (fs:List InfoR):Prop:=fs.Pairwise fun x y=>blt x.name y.name=true
def dn_ (fs:List InfoR) (s:ByteArray):Nat:=fs.countP fun f=>blt f.name s
theorem Bv_ (fs:List InfoR) (s:ByteArray):dn_ fs s≤fs.length:=List.countP_le_length
theorem g9_:∀ {fs:List InfoR} (h:gC_ fs) (s:ByteArray) (i:Nat) (hi:i < fs.length),blt fs[i].name s=true↔i < dn_ fs s
 | [],_,_,_,hi=>by cases hi
 | f::fs,h,s,i,hi=>by
  have hh:=List.pairwise_cons.1 h;unfold dn_;rw[List.countP_cons];cases e:blt f.name s with
  | true=>
   rw[if_pos rfl];cases i with
   | zero=>simp [e]
   | succ i=>
    have:=g9_ hh.2 s i (by simpa using hi);simp only[List.getElem_cons_succ];rw[this]; unfold dn_; omega
  | false=>
   rw[if_neg (by simp)];have hz:fs.countP (fun f=>blt f.name s)=0:=by
    rw[List.countP_eq_zero];intro x hx q;rw[dU_ (hh.1 x hx) q] at e; cases e
   rw[hz];cases i with
   | zero=>simp [e]
   | succ i=>
    simp only[List.getElem_cons_succ];refine⟨fun q=> ?_,fun q=>by omega⟩;rw[dU_ (hh.1 _ (List.getElem_mem (by simpa using hi))) q] at e; cases e
section
variable {H:Hp} {Q:Post}
theorem i2_ {a b c e:ByteArray} {d:Int} {p:Pl} {m:Nat} (hQ:Q (.g (.int .i64 (xx_ a b))) H):cN_ [(65,de_)] 65 [.agg [.str a,.int .i64 d,.str c,.str e,.sl p m 3],.g (.str b)] H Q:=by
 show de_ _ H Q;refine⟨1,?_⟩;rw[sA_];refine g0_ ?_;simp only[aK_,ak_];exact hQ
theorem kC_ {a:Pl} {fs:List InfoR} {s:ByteArray} (h:dq_ H a fs) (ha:gC_ fs) (hn:fs.length≤1000)
 (hQ:Q (.tup [.s (.int .i64 ((dn_ fs s:Nat):Int)),.s (.bool (fs.any fun f=>decide (f.name=s)))]) H):
 e1_ [.g (.sl a fs.length 5),.g (.str s)] H Q:=by
 refine⟨1,?_⟩;rw[vL_];refine⟨fs.length+2,?_⟩;rw[dC_];have go:∀ (f i j:Nat),j - i < f→i≤dn_ fs s→dn_ fs s≤j→j≤fs.length→∀ {R:Post},R (.tup [.s (.int .i64 ((dn_ fs s:Nat):Int)),.s (.bool (fs.any fun f=>decide (f.name=s)))]) H→
  an_.l3 (cN_ [(65,de_)]) f a fs.length s 65 [] ((fs.length:Nat):Int) ((i:Nat):Int) ((j:Nat):Int) H R:=by
  intro f;induction f with
  | zero=>intro i j h; omega
  | succ f ih=>
   intro i j hf h1 h2 h3 R hR;rw[an_.l3_eq];refine aa_ (fun e=> ?_) (fun e=> ?_)
   ·have hij:i < j:=by simpa using e
    rw[w2_ (by omega)];have hm:(i+j) / 2 < fs.length:=by omega
    refine ab_ rfl (ab_ (by simp; omega) ?_);obtain⟨l,o,p,rfl,r1,r2,r3,r4,r5,_⟩:=h _ hm
    ·skip;have etn:∀ k:Nat,tN (k:Int)=k:=fun _=>rfl;simp only[ah_,etn];rw[ag_ r1,aB_,ag_ r2,ak_,ag_ r3,aB_,ag_ r4,aB_,ag_ r5];refine⟨.inr rfl,?_⟩;refine i2_ ?_;simp only[aK_,ak_];rw[yF_,ar_ (by omega)];have hp:=g9_ ha s _ hm;refine aa_ (fun e=> ?_) (fun e=> ?_)
     ·exact ih _ _ (by omega) (by have:=hp.1 e; omega) h2 h3 hR
     ·exact ih _ _ (by omega) h1 (by rw[e] at hp; have: ¬ (i+j) / 2 < dn_ fs s:=fun q=>by cases hp.2 q
                                     omega) (by omega) hR
   ·have hij: ¬ i < j:=by simpa using e
    have hi:i=dn_ fs s:=by omega
    subst hi;refine aa_ (fun e=> ?_) (fun e=> ?_)
    ·have hm:dn_ fs s < fs.length:=by simpa using e
     refine ab_ rfl (ab_ (by simp; omega) ?_);obtain⟨l,o,p,rfl,r1,r2,r3,r4,r5,_⟩:=h _ hm
     ·skip;have etn:∀ k:Nat,tN (k:Int)=k:=fun _=>rfl;simp only[ah_,etn];rw[ag_ r1,aB_,ag_ r2,ak_,ag_ r3,aB_,ag_ r4,aB_,ag_ r5];refine⟨.inr rfl,?_⟩;refine i2_ ?_;simp only[aK_,ak_];rw[yu_];have:decide (fs[dn_ fs s].name=s)=fs.any fun f=>decide (f.name=s):=by
       rw[Bool.eq_iff_iff,List.any_eq_true];simp only[decide_eq_true_eq];refine⟨fun e=>⟨_,List.getElem_mem hm,e⟩,fun⟨x,hx,e⟩=> ?_⟩;obtain⟨k,hk,rfl⟩:=List.getElem_of_mem hx;have hk1:=g9_ ha s k hk;rw[e,c4_] at hk1;have hle:dn_ fs s≤k:=by
        refine Nat.le_of_not_lt fun q=> ?_;cases hk1.2 q
       rcases Nat.lt_or_eq_of_le hle with q | q
       ·have hlt:=(List.pairwise_iff_getElem.1 ha) _ _ hm hk q;rw[e] at hlt;have:=(g9_ ha s _ hm).1 hlt;omega
       ·simp only[q]; exact e
      rw[this]; exact hR
    ·have hm: ¬ dn_ fs s < fs.length:=by simpa using e
     have:(fs.any fun f=>decide (f.name=s))=false:=by
      rw[List.any_eq_false];intro x hx q;obtain⟨k,hk,rfl⟩:=List.getElem_of_mem hx;have hk1:=g9_ ha s k hk;have q':fs[k].name=s:=by simpa using q
      rw[q',c4_] at hk1;have: ¬ k < dn_ fs s:=fun z=>by cases hk1.2 z
      omega
     rw[this] at hR; exact hR
 refine go _ 0 fs.length (by omega) (Nat.zero_le _) (Bv_ _ _) (Nat.le_refl _) ?_;simp only[aR_,aG_,bP_,ak_,al_,aS_];exact hQ
end
end Go.Am
namespace Go.Am
def cz_ (is:List InfoR):Nat→Nat→Bool
 | 0,_=>false
 | f+1,i=>match is[i]? with
  | none=>false
  | some x=>if x.parent=mkS [] then true else (is.any fun y=>decide (y.name=x.parent))&&match is[dn_ is x.parent]? with
   | none=>false
   | some y=>eqI y.kind 2&&cz_ is f (dn_ is x.parent)
theorem Cg_ {is:List InfoR} {s:ByteArray} (h:gC_ is) (ha:(is.any fun y=>decide (y.name=s))=true):dn_ is s < is.length:=by
 obtain⟨x,hx,e⟩:=List.any_eq_true.1 ha;have e':x.name=s:=by simpa using e
 obtain⟨k,hk,rfl⟩:=List.getElem_of_mem hx;have hk1:=g9_ h s k hk;rw[e',c4_] at hk1;have: ¬ k < dn_ is s:=fun z=>by cases hk1.2 z
 omega
section
variable {H:Hp} {Q:Post}
theorem nv_ {a:Pl} {is:List InfoR} (h:dq_ H a is) (ha:gC_ is) (hn:is.length≤1000) {i:Nat} (hi:i < is.length) (hQ:Q (.g (.bool (cz_ is is.length i))) H):
 bK_ [.g (.sl a is.length 5),.g (.int .i64 ((i:Nat):Int))] H Q:=by
 refine⟨is.length+2,?_⟩;rw[ps_];have etn:∀ k:Nat,tN (k:Int)=k:=fun _=>rfl;have go:∀ (f i k:Nat),f=is.length - k→k≤is.length→i < is.length→Q (.g (.bool (cz_ is f i))) H→bK_.l2 (f+1) a is.length ((i:Nat):Int) ((is.length:Nat):Int) ((k:Nat):Int) H Q:=by
  intro f;induction f with
  | zero=>
   intro i k hf hk hi hQ;rw[bK_.l2_eq];refine aa_ (fun e=> ?_) (fun e=>hQ);have:k < is.length:=by simpa using e
   omega
  | succ f ih=>
   intro i k hf hk hi hQ;rw[bK_.l2_eq];refine aa_ (fun e=> ?_) (fun e=> ?_)
   ·refine ab_ rfl (ab_ (by simp; omega) ?_);obtain⟨l,o,p,rfl,r1,r2,r3,r4,r5,_⟩:=h _ hi;simp only[ah_,etn];rw[ag_ r3,aB_];rw[cz_,List.getElem?_eq_getElem hi] at hQ;dsimp only at hQ;refine aa_ (fun e=> ?_) (fun e=> ?_)
    ·have e':is[i].parent=mkS []:=by simpa using e
     rw[if_pos e'] at hQ; exact hQ
    ·have e': ¬ is[i].parent=mkS []:=by simpa using e
     rw[if_neg e'] at hQ;refine kC_ h ha hn ?_;simp only[aR_,aG_,bP_,ak_,al_,aS_];refine aa_ (fun e=> ?_) (fun e=> ?_)
     ·rw[show (is.any fun y=>decide (y.name=is[i].parent))=false by simpa only[Bool.not_eq_true'] using e,Bool.false_and] at hQ;exact hQ
     ·have e2:(is.any fun y=>decide (y.name=is[i].parent))=true:=by simpa only[Bool.not_eq_false'] using e
      have hp:=Cg_ ha e2;rw[e2,Bool.true_and,List.getElem?_eq_getElem hp] at hQ;dsimp only at hQ;refine ab_ rfl (ab_ (by simp; omega) ?_);obtain⟨l',o',p',q,_,r2',_⟩:=h _ hp;cases q;simp only[etn];rw[ag_ r2',ak_];refine aa_ (fun e=> ?_) (fun e=> ?_)
      ·rw[show eqI is[dn_ is is[i].parent].kind 2=false by simpa only[Bool.not_eq_true'] using e,Bool.false_and] at hQ; exact hQ
      ·rw[show eqI is[dn_ is is[i].parent].kind 2=true by simpa only[Bool.not_eq_false'] using e,Bool.true_and] at hQ;rw[ar_ (by omega)];exact ih _ (k+1) (by omega) (by omega) hp hQ
   ·have: ¬ k < is.length:=by simpa using e
    omega
 exact go is.length i 0 (by omega) (Nat.zero_le _) hi hQ
end
end Go.Am
namespace Go.Am
def du_ (cl:Bool) (f:FileR):Bool:=bm_ f.1 3&&(leI (sz f.2.1) 6&& !(cl&&f.2.2))
def uZ_ {α:Type} (lt:α→α→Bool):List α→Bool
 | []=>true
 | [_]=>true
 | x::y::l=>lt x y&&uZ_ lt (y::l)
theorem nt_ {α:Type} {lt:α→α→Bool}:∀ {l:List α},uZ_ lt l=true↔∀ i (h:i+1 < l.length),lt l[i] l[i+1]=true
 | []=>⟨fun _ i h=>absurd h (by simp),fun _=>rfl⟩
 | [x]=>⟨fun _ i h=>absurd h (by simp),fun _=>rfl⟩
 | x::y::l=>by
  rw[uZ_,Bool.and_eq_true,nt_ (l:=y::l)];constructor
  ·rintro⟨h1,h2⟩ i h;cases i with
   | zero=>exact h1
   | succ i=>exact h2 i (by simpa using h)
  ·intro h;exact⟨h 0 (by simp),fun i hi=>h (i+1) (by simpa using hi)⟩
theorem yc_ {fs:List InfoR} (h:uZ_ (fun x y=>blt x.name y.name) fs=true):gC_ fs:=by
 rw[nt_] at h;unfold gC_;rw[List.pairwise_iff_getElem];intro i j hi hj hij;induction j with
 | zero=>omega
 | succ j ih=>
  rcases Nat.lt_or_eq_of_le (Nat.le_of_lt_succ hij) with q | q
  ·exact dU_ (ih (by omega) q) (h j hj)
  ·subst q; exact h i hj
end Go.Am
namespace Go.Am
def ci_ (cl:Bool) (fs:List FileR):Nat→Nat→Bool
 | 0,_=>leI (fs.length:Int) 4
 | f+1,k=>match fs[k]? with
  | none=>false
  | some x=>du_ cl x&&((match k with | 0=>true | j+1=>match fs[j]? with | none=>false | some y=>blt y.1 x.1)&&ci_ cl fs f (k+1))
section
variable {H:Hp} {Q:Post}
theorem nY_ {a:Pl} {fs:List FileR} {c:Bool} (h:eM_ H a fs) (hn:fs.length≤100000) (hs:∀ f∈fs,f.1.size≤140737488351232) (hQ:Q (.g (.bool (ci_ c fs fs.length 0))) H):
 bv_ [.g (.sl a fs.length 3),.g (.bool c)] H Q:=by
 refine⟨fs.length+2,?_⟩;rw[q9_];have etn:∀ k:Nat,tN (k:Int)=k:=fun _=>rfl;have go:∀ (f k:Nat),f=fs.length - k→k≤fs.length→Q (.g (.bool (ci_ c fs f k))) H→bv_.l2 (f+1) a fs.length c a fs.length ((fs.length:Nat):Int) ((k:Nat):Int) H Q:=by
  intro f;induction f with
  | zero=>
   intro k hf hk hQ;rw[bv_.l2_eq];refine aa_ (fun e=> ?_) (fun e=>hQ);have:k < fs.length:=by simpa using e
   omega
  | succ f ih=>
   intro k hf hk hQ;have hkl:k < fs.length:=by omega
   rw[bv_.l2_eq];refine aa_ (fun e=> ?_) (fun e=> ?_)
   ·refine ab_ rfl (ab_ (by simp; omega) ?_);obtain⟨l,o,rfl,r1,r2,r3⟩:=h _ hkl;rw[ci_,List.getElem?_eq_getElem hkl] at hQ;dsimp only at hQ;simp only[ah_,etn];rw[ag_ r1,aB_,ag_ r2,aB_,ag_ r3,al_];refine j5_ (hs _ (List.getElem_mem hkl)) ?_;simp only[aK_,al_];refine aa_ (fun e=> ?_) (fun e=> ?_)
    ·have e':bm_ fs[k].1 3=false:=by simpa only[Bool.not_eq_true'] using e
     rw[show du_ c fs[k]=false by unfold du_; rw[e',Bool.false_and],Bool.false_and] at hQ; exact hQ
    have e1:bm_ fs[k].1 3=true:=by simpa only[Bool.not_eq_false'] using e
    refine il_ ?_;simp only[aK_,al_];refine aa_ (fun e=> ?_) (fun e=> ?_)
    ·have e':leI (sz fs[k].2.1) 6=false:=by simpa only[Bool.not_eq_true'] using e
     rw[show du_ c fs[k]=false by unfold du_; rw[e',e1]; rfl,Bool.false_and] at hQ; exact hQ
    have e2:leI (sz fs[k].2.1) 6=true:=by simpa only[Bool.not_eq_false'] using e
    have tail:du_ c fs[k]=true→af_ (ltI 0 ((k:Nat):Int)) (chk true (chk ((leI 0 (ad_ .i64 (((k:Nat):Int) - 1)))&&(ltI (ad_ .i64 (((k:Nat):Int) - 1)) ((fs.length:Nat):Int))) (rd H l ((o+((tN (ad_ .i64 (((k:Nat):Int) - 1)))*3))+0) fun v18=>
     dS v18 fun s19=>af_ (!(cS_ s19 fs[k].1)) (Q (.g (.bool false)) H) (bv_.l2 (f+1) (some (l,o)) fs.length c (some (l,o)) fs.length ((fs.length:Nat):Int) (ad_ .i64 (((k:Nat):Int)+1)) H Q))))
     (bv_.l2 (f+1) (some (l,o)) fs.length c (some (l,o)) fs.length ((fs.length:Nat):Int) (ad_ .i64 (((k:Nat):Int)+1)) H Q):=fun hok=>by
     rw[hok,Bool.true_and] at hQ;rw[ar_ (by omega)];cases k with
     | zero=>
      refine aa_ (fun e=>by simp at e) (fun e=> ?_);dsimp only at hQ;rw[Bool.true_and] at hQ;exact ih 1 (by omega) (by omega) hQ
     | succ j=>
      refine aa_ (fun e=> ?_) (fun e=>by simp at e);rw[dt_ (by omega)];refine ab_ rfl (ab_ (by simp; omega) ?_);have hj:j < fs.length:=by omega
      obtain⟨l',o',q,r1',_⟩:=h j hj;cases q;simp only[etn,Nat.add_zero];rw[ag_ r1',aB_,ia_];dsimp only at hQ;rw[List.getElem?_eq_getElem hj] at hQ;dsimp only at hQ;refine aa_ (fun e=> ?_) (fun e=> ?_)
      ·rw[show blt fs[j].1 fs[j+1].1=false by unfold blt; simpa only[Bool.not_eq_true'] using e,Bool.false_and] at hQ; exact hQ
      ·rw[show blt fs[j].1 fs[j+1].1=true by unfold blt; simpa only[Bool.not_eq_false'] using e,Bool.true_and] at hQ;exact ih (j+1+1) (by omega) (by omega) hQ
    refine aa_ (fun ec=> ?_) (fun ec=> ?_)
    ·refine aa_ (fun e=> ?_) (fun e=> ?_)
     ·rw[show du_ c fs[k]=false by unfold du_; rw[e1,e2,ec,e]; rfl,Bool.false_and] at hQ; exact hQ
     ·exact tail (by unfold du_; rw[e1,e2,ec,e]; rfl)
    ·exact tail (by unfold du_; rw[e1,e2,ec]; rfl)
   ·have: ¬ k < fs.length:=by simpa using e
    omega
 exact go fs.length 0 (by omega) (Nat.zero_le _) hQ
end
end Go.Am
namespace Go.Am
def cD_ (x:InfoR):Bool:=bm_ x.name 4&&((leI 0 x.kind&&leI x.kind 2)&&(leI (sz x.label) 3&&ci_ (eqI x.kind 1) x.files x.files.length 0))
def fG_ (is:List InfoR):Nat→Nat→Bool
 | 0,_=>leI (is.length:Int) 6
 | f+1,k=>cz_ is is.length k&&fG_ is f (k+1)
def bt_ (is:List InfoR):Nat→Nat→Bool
 | 0,_=>fG_ is is.length 0
 | f+1,k=>match is[k]? with
  | none=>false
  | some x=>cD_ x&&((match k with | 0=>true | j+1=>match is[j]? with | none=>false | some y=>blt y.name x.name)&&bt_ is f (k+1))
section
variable {H:Hp} {Q:Post}
theorem n0_ {a:Pl} {is:List InfoR} (h:dq_ H a is) (ha:gC_ is) (hn:is.length≤1000):∀ (f k:Nat),f=is.length - k→k≤is.length→Q (.g (.bool (fG_ is f k))) H→br_.l8 (f+1) a is.length ((is.length:Nat):Int) ((k:Nat):Int) H Q:=by
 intro f;induction f with
 | zero=>
  intro k hf hk hQ;rw[br_.l8_eq];refine aa_ (fun e=> ?_) (fun e=>hQ);have:k < is.length:=by simpa using e
  omega
 | succ f ih=>
  intro k hf hk hQ;rw[br_.l8_eq];refine aa_ (fun e=> ?_) (fun e=> ?_)
  ·refine nv_ h ha hn (by omega) ?_;simp only[aK_,al_];rw[fG_] at hQ;refine aa_ (fun e=> ?_) (fun e=> ?_)
   ·rw[show cz_ is is.length k=false by simpa only[Bool.not_eq_true'] using e,Bool.false_and] at hQ; exact hQ
   ·rw[show cz_ is is.length k=true by simpa only[Bool.not_eq_false'] using e,Bool.true_and] at hQ;rw[ar_ (by omega)];exact ih (k+1) (by omega) (by omega) hQ
  ·have: ¬ k < is.length:=by simpa using e
   omega
end
end Go.Am
namespace Go.Am
section
variable {H:Hp} {Q:Post}
theorem ri_ {a:Pl} {is:List InfoR} (h:dq_ H a is) (hn:is.length≤1000) (hs:∀ x∈is,x.name.size≤140737488351232∧x.files.length≤100000∧∀ f∈x.files,f.1.size≤140737488351232) (hQ:Q (.g (.bool (bt_ is is.length 0))) H):
 br_ [.g (.sl a is.length 5)] H Q:=by
 refine⟨is.length*2+3,?_⟩;rw[ub_];have etn:∀ k:Nat,tN (k:Int)=k:=fun _=>rfl;have mono:∀ (f k:Nat),br_.l8 (is.length+1) a is.length ((is.length:Nat):Int) ((0:Nat):Int) H Q→True:=fun _ _ _=>trivial;have go:∀ (f k:Nat),f=is.length - k→k≤is.length→(∀ i (hi:i+1 < is.length),i+1 < k→blt is[i].name is[i+1].name=true)→Q (.g (.bool (bt_ is f k))) H→
  br_.l2 (f+(is.length+2)) a is.length a is.length ((is.length:Nat):Int) ((k:Nat):Int) H Q:=by
  intro f;induction f with
  | zero=>
   intro k hf hk hp hQ;rw[show 0+(is.length+2)=(is.length+1)+1 by omega,br_.l2_eq];refine aa_ (fun e=> ?_) (fun e=> ?_)
   ·have:k < is.length:=by simpa using e
    omega
   ·exact n0_ h (yc_ (nt_.2 fun i hi=>hp i hi (by omega))) hn is.length 0 (by omega) (Nat.zero_le _) hQ
  | succ f ih=>
   intro k hf hk hp hQ;have hkl:k < is.length:=by omega
   rw[show f+1+(is.length+2)=(f+(is.length+2))+1 by omega,br_.l2_eq];refine aa_ (fun e=> ?_) (fun e=> ?_)
   ·refine ab_ rfl (ab_ (by simp; omega) ?_);obtain⟨l,o,p,rfl,r1,r2,r3,r4,r5,r6⟩:=h _ hkl;obtain⟨s1,s2,s3⟩:=hs _ (List.getElem_mem hkl);rw[bt_,List.getElem?_eq_getElem hkl] at hQ;dsimp only at hQ;simp only[ah_,etn];rw[ag_ r1,aB_,ag_ r2,ak_,ag_ r3,aB_,ag_ r4,aB_,ag_ r5];refine⟨.inr rfl,?_⟩;refine fZ_ s1 ?_;simp only[aK_,al_];refine aa_ (fun e=> ?_) (fun e=> ?_)
    ·have e':bm_ is[k].name 4=false:=by simpa only[Bool.not_eq_true'] using e
     rw[show cD_ is[k]=false by unfold cD_; rw[e',Bool.false_and],Bool.false_and] at hQ; exact hQ
    have e1:bm_ is[k].name 4=true:=by simpa only[Bool.not_eq_false'] using e
    refine kw_ ?_;simp only[aK_,al_];refine aa_ (fun e=> ?_) (fun e=> ?_)
    ·have e':(leI 0 is[k].kind&&leI is[k].kind 2)=false:=by simpa only[Bool.not_eq_true'] using e
     rw[show cD_ is[k]=false by unfold cD_; rw[e1,e',Bool.false_and,Bool.true_and],Bool.false_and] at hQ; exact hQ
    have e2:(leI 0 is[k].kind&&leI is[k].kind 2)=true:=by simpa only[Bool.not_eq_false'] using e
    refine hu_ ?_;simp only[aK_,al_];refine aa_ (fun e=> ?_) (fun e=> ?_)
    ·have e':leI (sz is[k].label) 3=false:=by simpa only[Bool.not_eq_true'] using e
     rw[show cD_ is[k]=false by unfold cD_; rw[e1,e2,e']; rfl,Bool.false_and] at hQ; exact hQ
    have e3:leI (sz is[k].label) 3=true:=by simpa only[Bool.not_eq_false'] using e
    refine nY_ r6 s2 s3 ?_;simp only[aK_,al_];have eq:cD_ is[k]=ci_ (eqI is[k].kind 1) is[k].files is[k].files.length 0:=by unfold cD_; rw[e1,e2,e3]; rfl
    rw[eq] at hQ;refine aa_ (fun e=> ?_) (fun e=> ?_)
    ·rw[show ci_ (eqI is[k].kind 1) is[k].files is[k].files.length 0=false by simpa only[Bool.not_eq_true'] using e,Bool.false_and] at hQ; exact hQ
    rw[show ci_ (eqI is[k].kind 1) is[k].files is[k].files.length 0=true by simpa only[Bool.not_eq_false'] using e,Bool.true_and] at hQ;rw[ar_ (by omega)];cases k with
    | zero=>
     refine aa_ (fun e=>by simp at e) (fun e=> ?_);dsimp only at hQ;rw[Bool.true_and] at hQ;exact ih 1 (by omega) (by omega) (fun i hi h=>by omega) hQ
    | succ j=>
     refine aa_ (fun e=> ?_) (fun e=>by simp at e);rw[dt_ (by omega)];refine ab_ rfl (ab_ (by simp; omega) ?_);have hj:j < is.length:=by omega
     obtain⟨l',o',p',q,r1',_⟩:=h j hj;cases q;simp only[etn,Nat.add_zero];rw[ag_ r1',aB_,ia_];dsimp only at hQ;rw[List.getElem?_eq_getElem hj] at hQ;dsimp only at hQ;refine aa_ (fun e=> ?_) (fun e=> ?_)
     ·rw[show blt is[j].name is[j+1].name=false by unfold blt; simpa only[Bool.not_eq_true'] using e,Bool.false_and] at hQ; exact hQ
     ·have hb:blt is[j].name is[j+1].name=true:=by unfold blt; simpa only[Bool.not_eq_false'] using e
      rw[hb,Bool.true_and] at hQ;refine ih (j+1+1) (by omega) (by omega) (fun i hi h=> ?_) hQ;by_cases c:i+1 < j+1
      ·exact hp i hi c
      ·have:i=j:=by omega
       subst this; exact hb
   ·have: ¬ k < is.length:=by simpa using e
    omega
 have:=go is.length 0 (by omega) (Nat.zero_le _) (fun i hi h=>by omega) hQ;rw[show is.length+(is.length+2)=is.length*2+2 by omega] at this;exact this
end
end Go.Am
namespace Go.Am
section
variable {H:Hp} {Q:Post}
theorem mr_ {a:Pl} {is:List InfoR} {s:ByteArray} (h:dq_ H a is) (hn:is.length≤1000)
 (h1:∀ i (hi:i < is.length),is[i].name=s→(∀ j (hj:j < is.length),j < i→is[j].name≠s)→Q (.g (.int .i64 ((i:Nat):Int))) H)
 (h2:(∀ j (hj:j < is.length),is[j].name≠s)→Q (.g (.int .i64 (-1))) H):bQ_ [.g (.sl a is.length 5),.g (.str s)] H Q:=by
 refine⟨is.length+2,?_⟩;rw[wz_];have etn:∀ k:Nat,tN (k:Int)=k:=fun _=>rfl;have go:∀ (f k:Nat),f=is.length - k→k≤is.length→(∀ j (hj:j < is.length),j < k→is[j].name≠s)→bQ_.l2 (f+1) a is.length s ((k:Nat):Int) H Q:=by
  intro f;induction f with
  | zero=>
   intro k hf hk hp;rw[bQ_.l2_eq];refine aa_ (fun e=> ?_) (fun e=>h2 fun j hj=>hp j hj (by omega));have:k < is.length:=by simpa using e
   omega
  | succ f ih=>
   intro k hf hk hp;have hkl:k < is.length:=by omega
   rw[bQ_.l2_eq];refine aa_ (fun e=> ?_) (fun e=> ?_)
   ·refine ab_ rfl (ab_ (by simp; omega) ?_);obtain⟨l,o,p,rfl,r1,_⟩:=h _ hkl;simp only[ah_,etn,Nat.add_zero];rw[ag_ r1,aB_];refine aa_ (fun e=> ?_) (fun e=> ?_)
    ·exact h1 k hkl (by simpa using e) hp
    ·rw[ar_ (by omega)];refine ih (k+1) (by omega) (by omega) fun j hj hjk=> ?_;rcases Nat.lt_or_eq_of_le (Nat.le_of_lt_succ hjk) with q | q
     ·exact hp j hj q
     ·subst q; simpa using e
   ·have: ¬ k < is.length:=by simpa using e
    omega
 exact go is.length 0 (by omega) (Nat.zero_le _) fun j hj h=>by omega
end
end Go.Am
namespace Go.Am
def hF_ (is:List InfoR):Nat→ByteArray→Bool
 | 0,p=>decide (p=mkS [])
 | f+1,p=>if p=mkS [] then true else (is.any fun y=>decide (y.name=p))&&match is[dn_ is p]? with
  | none=>false
  | some y=>eqI y.kind 2&&hF_ is f y.parent
theorem rI_ {is:List InfoR} (h:gC_ is) {i:Nat} (hi:i < is.length):dn_ is is[i].name=i:=by
 have h1:=g9_ h is[i].name i hi;rw[c4_] at h1;have hle:dn_ is is[i].name≤i:=Nat.le_of_not_lt fun q=>by cases h1.2 q
 rcases Nat.lt_or_eq_of_le hle with q | q
 ·have hlt:=(List.pairwise_iff_getElem.1 h) _ _ (by omega) hi q;have:=(g9_ h is[i].name _ (by omega)).1 hlt;omega
 ·exact q
theorem k3_ {is:List InfoR} {s:ByteArray} (h:gC_ is) (ha:(is.any fun y=>decide (y.name=s))=true):∃ hp:dn_ is s < is.length,is[dn_ is s].name=s:=by
 obtain⟨x,hx,e⟩:=List.any_eq_true.1 ha;have e':x.name=s:=by simpa using e
 obtain⟨k,hk,rfl⟩:=List.getElem_of_mem hx;have:=rI_ h hk;rw[e'] at this;have hp:dn_ is s < is.length:=by omega
 refine⟨hp,?_⟩;simp only[this]; exact e'
theorem lK_ {is:List InfoR}:∀ (f i:Nat) (hi:i < is.length),cz_ is (f+1) i=hF_ is f is[i].parent
 | 0,i,hi=>by
  rw[cz_,hF_,List.getElem?_eq_getElem hi];dsimp only;by_cases e:is[i].parent=mkS []
  ·rw[if_pos e]; simp [e]
  ·rw[if_neg e];simp only[e,decide_false];cases is[dn_ is is[i].parent]? with
   | none=>simp
   | some y=>simp [cz_]
 | f+1,i,hi=>by
  rw[cz_,hF_,List.getElem?_eq_getElem hi];dsimp only;by_cases e:is[i].parent=mkS []
  ·rw[if_pos e,if_pos e]
  ·rw[if_neg e,if_neg e];congr 1;by_cases hp:dn_ is is[i].parent < is.length
   ·rw[List.getElem?_eq_getElem hp];dsimp only;rw[lK_ f _ hp]
   ·rw[List.getElem?_eq_none (by omega)]
theorem y0_ (a b:ByteArray):(cS_ a b||co_ a b)= !(blt b a):=by
 rw[ia_,jc_];change (blt a b||decide (a=b))= !(blt b a);rcases gU_ a b with⟨q1,q2,q3⟩ | ⟨q1,q2,q3⟩ | ⟨q1,q2,q3⟩
 ·rw[q1,q3]; rfl
 ·rw[q3]; simp [q1]
 ·rw[q1,q3]; simp [q2]
theorem pi_ {cl:Bool} {fs:List FileR}:∀ (f k:Nat),ci_ cl fs f k=true→leI (fs.length:Int) 4=true
 | 0,_,h=>h
 | f+1,k,h=>by
  rw[ci_] at h;cases hk:fs[k]? with
  | none=>rw[hk] at h; cases h
  | some x=>
   rw[hk] at h;simp only[Bool.and_eq_true] at h;exact pi_ f _ h.2.2
section
variable {H:Hp} {Q:Post}
theorem eN_ {a:Pl} {is:List InfoR} {s:ByteArray} (h:dq_ H a is) (ha:gC_ is) (hn:is.length≤1000)
 (h1:(is.any fun y=>decide (y.name=s))=true→Q (.g (.int .i64 ((dn_ is s:Nat):Int))) H)
 (h2:(is.any fun y=>decide (y.name=s))=false→Q (.g (.int .i64 (-1))) H):bQ_ [.g (.sl a is.length 5),.g (.str s)] H Q:=by
 refine mr_ h hn (fun i hi e _=> ?_) (fun q=> ?_)
 ·have:=rI_ ha hi;rw[e] at this;rw[this] at h1;exact h1 (List.any_eq_true.2 ⟨_,List.getElem_mem hi,by simpa using e⟩)
 ·refine h2 ?_;rw[List.any_eq_false];intro x hx;obtain⟨j,hj,rfl⟩:=List.getElem_of_mem hx;simpa using q j hj
theorem rt_ {a:Pl} {is:List InfoR} (h:dq_ H a is) (ha:gC_ is) (hn:is.length≤1000):∀ (f s:Nat) (p:ByteArray),s+f=7→Q (.g (.bool (hF_ is f p))) H→∀ m,aT_.l11 (f+1+m) a is.length p ((s:Nat):Int) H Q:=by
 have etn:∀ k:Nat,tN (k:Int)=k:=fun _=>rfl;intro f;induction f with
 | zero=>
  intro s p hs hQ m;rw[show 0+1+m=m+1 by omega,aT_.l11_eq];rw[hF_] at hQ;refine aa_ (fun e=> ?_) (fun e=> ?_)
  ·have e': ¬ p=mkS []:=by simpa using e
   have e2:decide (p=mkS [])=false:=by simpa using e'
   rw[e2] at hQ;refine eN_ h ha hn (fun hin=> ?_) (fun hin=> ?_)
   ·simp only[aK_,ak_];obtain⟨hp,_⟩:=k3_ ha hin;refine aa_ (fun e=>hQ) (fun e=> ?_);refine ab_ rfl (ab_ (by simp; omega) ?_);obtain⟨l,o,q,rfl,r1,r2,r3,r4,r5,_⟩:=h _ hp;simp only[ah_,etn];rw[ag_ r2,ak_];refine aa_ (fun e=>hQ) (fun e=> ?_);refine aa_ (fun e=>hQ) (fun e=> ?_);have: ¬ (6:Int) < s:=by simpa using e
    omega
   ·simp only[aK_,ak_];refine aa_ (fun e=>hQ) (fun e=>by simp at e)
  ·have e':p=mkS []:=by simpa using e
   have e2:decide (p=mkS [])=true:=by simpa using e'
   rw[e2] at hQ; exact hQ
 | succ f ih=>
  intro s p hs hQ m;rw[show f+1+1+m=(f+1+m)+1 by omega,aT_.l11_eq];rw[hF_] at hQ;refine aa_ (fun e=> ?_) (fun e=> ?_)
  ·have e': ¬ p=mkS []:=by simpa using e
   rw[if_neg e'] at hQ;refine eN_ h ha hn (fun hin=> ?_) (fun hin=> ?_)
   ·simp only[aK_,ak_];obtain⟨hp,_⟩:=k3_ ha hin;rw[hin,Bool.true_and,List.getElem?_eq_getElem hp] at hQ;dsimp only at hQ;refine aa_ (fun e=> ?_) (fun e=> ?_)
    ·simp at e; omega
    refine ab_ rfl (ab_ (by simp; omega) ?_);obtain⟨l,o,q,rfl,r1,r2,r3,r4,r5,_⟩:=h _ hp;simp only[ah_,etn];rw[ag_ r2,ak_];refine aa_ (fun e=> ?_) (fun e=> ?_)
    ·rw[show eqI is[dn_ is p].kind 2=false by simpa only[Bool.not_eq_true'] using e,Bool.false_and] at hQ; exact hQ
    rw[show eqI is[dn_ is p].kind 2=true by simpa only[Bool.not_eq_false'] using e,Bool.true_and] at hQ;refine aa_ (fun e=> ?_) (fun e=> ?_)
    ·have:(6:Int) < s:=by simpa using e
     omega
    refine ab_ rfl (ab_ (by simp; omega) ?_);rw[ag_ r3,aB_,ar_ (by omega)];exact ih (s+1) _ (by omega) hQ m
   ·simp only[aK_,ak_];rw[hin,Bool.false_and] at hQ;refine aa_ (fun e=>hQ) (fun e=>by simp at e)
  ·have e':p=mkS []:=by simpa using e
   rw[if_pos e'] at hQ; exact hQ
theorem nc_ {a p:Pl} {is:List InfoR} {x:InfoR} (h:dq_ H a is) (ha:gC_ is) (hn:is.length≤1000) (hf:eM_ H p x.files) (hfn:x.files.length≤100000) (hs:x.name.size≤140737488351232) (hs2:∀ f∈x.files,f.1.size≤140737488351232)
 (hQ:Q (.g (.bool (cD_ x&&hF_ is 7 x.parent))) H):
 aT_ [.g (.sl a is.length 5),.agg [.str x.name,.int .i64 x.kind,.str x.parent,.str x.label,.sl p x.files.length 3]] H Q:=by
 refine⟨x.files.length+10+1,?_⟩;rw[oS_];have etn:∀ k:Nat,tN (k:Int)=k:=fun _=>rfl;refine bR_ hs ?_;simp only[aK_,al_];refine aa_ (fun e=> ?_) (fun e=> ?_)
 ·rw[show cD_ x=false by unfold cD_; rw[show bm_ x.name 4=false by simpa only[Bool.not_eq_true'] using e,Bool.false_and],Bool.false_and] at hQ; exact hQ
 have e1:bm_ x.name 4=true:=by simpa only[Bool.not_eq_false'] using e
 refine aa_ (fun e=> ?_) (fun e=> ?_)
 ·rw[show cD_ x=false by unfold cD_; rw[show leI 0 x.kind=false by simp at e ⊢; omega]; simp,Bool.false_and] at hQ; exact hQ
 have e2:leI 0 x.kind=true:=by simp at e ⊢; omega
 refine aa_ (fun e=> ?_) (fun e=> ?_)
 ·rw[show cD_ x=false by unfold cD_; rw[show leI x.kind 2=false by simp at e ⊢; omega]; simp,Bool.false_and] at hQ; exact hQ
 have e3:leI x.kind 2=true:=by simp at e ⊢; omega
 refine aa_ (fun e=> ?_) (fun e=> ?_)
 ·rw[show cD_ x=false by unfold cD_; rw[show leI (sz x.label) 3=false by simp at e ⊢; omega]; simp,Bool.false_and] at hQ; exact hQ
 have e4:leI (sz x.label) 3=true:=by simp at e ⊢; omega
 have eq:cD_ x=ci_ (eqI x.kind 1) x.files x.files.length 0:=by unfold cD_; rw[e1,e2,e3,e4]; rfl
 rw[eq] at hQ;refine aa_ (fun e=> ?_) (fun e=> ?_)
 ·have:ci_ (eqI x.kind 1) x.files x.files.length 0=false:=by
   cases hff:ci_ (eqI x.kind 1) x.files x.files.length 0 with
   | false=>rfl
   | true=>
    have:=pi_ _ _ hff;simp at e this; omega
  rw[this,Bool.false_and] at hQ; exact hQ
 have e5:leI (x.files.length:Int) 4=true:=by simp at e ⊢; omega
 have go:∀ (f k:Nat),f=x.files.length - k→k≤x.files.length→Q (.g (.bool (ci_ (eqI x.kind 1) x.files f k&&hF_ is 7 x.parent))) H→
  aT_.l4 (f+10) a is.length x.name x.kind x.parent x.label p x.files.length ((k:Nat):Int) H Q:=by
  intro f;induction f with
  | zero=>
   intro k hf' hk hQ;rw[show 0+10=9+1 by omega,aT_.l4_eq];refine aa_ (fun e=> ?_) (fun e=> ?_)
   ·have:k < x.files.length:=by simpa using e
    omega
   ·rw[ci_,e5,Bool.true_and] at hQ;exact rt_ h ha hn 7 0 _ rfl hQ 1
  | succ f ih=>
   intro k hf' hk hQ;have hkl:k < x.files.length:=by omega
   rw[show f+1+10=(f+10)+1 by omega,aT_.l4_eq];refine aa_ (fun e=> ?_) (fun e=>by simp at e; omega);refine ab_ rfl (ab_ (by simp; omega) ?_);obtain⟨l,o,rfl,r1,r2,r3⟩:=hf _ hkl;rw[ci_,List.getElem?_eq_getElem hkl] at hQ;dsimp only at hQ;simp only[ah_,etn];rw[ag_ r1,aB_,ag_ r2,aB_,ag_ r3,al_];refine eO_ (hs2 _ (List.getElem_mem hkl)) ?_;simp only[aK_,al_];refine aa_ (fun e=> ?_) (fun e=> ?_)
   ·rw[show du_ (eqI x.kind 1) x.files[k]=false by unfold du_; rw[show bm_ x.files[k].1 3=false by simpa only[Bool.not_eq_true'] using e,Bool.false_and],Bool.false_and,Bool.false_and] at hQ; exact hQ
   have e6:bm_ x.files[k].1 3=true:=by simpa only[Bool.not_eq_false'] using e
   refine aa_ (fun e=> ?_) (fun e=> ?_)
   ·rw[show du_ (eqI x.kind 1) x.files[k]=false by unfold du_; rw[show leI (sz x.files[k].2.1) 6=false by simp at e ⊢; omega]; simp,Bool.false_and,Bool.false_and] at hQ; exact hQ
   have e7:leI (sz x.files[k].2.1) 6=true:=by simp at e ⊢; omega
   have tail:du_ (eqI x.kind 1) x.files[k]=true→af_ (ltI 0 ((k:Nat):Int)) (chk true (chk ((leI 0 (ad_ .i64 (((k:Nat):Int) - 1)))&&(ltI (ad_ .i64 (((k:Nat):Int) - 1)) (nI x.files.length))) (
    rd H l ((o+((tN (ad_ .i64 (((k:Nat):Int) - 1)))*3))+0) fun v18=>
    dS v18 fun s19=>af_ ((cS_ x.files[k].1 s19)||(co_ x.files[k].1 s19)) (Q (.g (.bool false)) H)
     (aT_.l4 (f+10) a is.length x.name x.kind x.parent x.label (some (l,o)) x.files.length (ad_ .i64 (((k:Nat):Int)+1)) H Q))))
    (aT_.l4 (f+10) a is.length x.name x.kind x.parent x.label (some (l,o)) x.files.length (ad_ .i64 (((k:Nat):Int)+1)) H Q):=fun hok=>by
    rw[hok,Bool.true_and] at hQ;rw[ar_ (by omega)];cases k with
    | zero=>
     refine aa_ (fun e=>by simp at e) (fun e=> ?_);dsimp only at hQ;rw[Bool.true_and] at hQ;exact ih 1 (by omega) (by omega) hQ
    | succ j=>
     refine aa_ (fun e=> ?_) (fun e=>by simp at e);rw[dt_ (by omega)];refine ab_ rfl (ab_ (by simp; omega) ?_);have hj:j < x.files.length:=by omega
     obtain⟨l',o',q,r1',_⟩:=hf j hj;cases q;simp only[etn,Nat.add_zero];rw[ag_ r1',aB_,y0_];dsimp only at hQ;rw[List.getElem?_eq_getElem hj] at hQ;dsimp only at hQ;refine aa_ (fun e=> ?_) (fun e=> ?_)
     ·rw[show blt x.files[j].1 x.files[j+1].1=false by simpa only[Bool.not_eq_true'] using e,Bool.false_and,Bool.false_and] at hQ; exact hQ
     ·rw[show blt x.files[j].1 x.files[j+1].1=true by simpa only[Bool.not_eq_false'] using e,Bool.true_and] at hQ;exact ih (j+1+1) (by omega) (by omega) hQ
   refine aa_ (fun eo=> ?_) (fun eo=> ?_)
   ·refine aa_ (fun e=> ?_) (fun e=> ?_)
    ·rw[show du_ (eqI x.kind 1) x.files[k]=false by unfold du_; rw[e6,e7,eo,e]; rfl,Bool.false_and,Bool.false_and] at hQ; exact hQ
    ·exact tail (by unfold du_; rw[e6,e7,eo,e]; rfl)
   ·exact tail (by unfold du_; rw[e6,e7,eo]; simp)
 exact go _ 0 rfl (Nat.zero_le _) hQ
end
end Go.Am
namespace Go.Am
theorem uQ_ {α:Type} {p q:α→Bool}:∀ {l:List α},(∀ x∈l,p x=true→q x=true)→(∃ x∈l,q x=true∧p x=false)→l.countP p < l.countP q
 | [],_,⟨x,h,_⟩=>by cases h
 | y::l,h1,h2=>by
  have hle:l.countP p≤l.countP q:=List.countP_mono_left fun x hx=>h1 x (by simp [hx]);rw[List.countP_cons,List.countP_cons];obtain⟨x,hx,hq,hp⟩:=h2;rcases List.mem_cons.1 hx with rfl | hx
  ·rw[hq,hp]; simp; omega
  ·have:=uQ_ (l:=l) (fun x hx=>h1 x (by simp [hx])) ⟨x,hx,hq,hp⟩;have h3:=h1 y (by simp);by_cases hy:p y=true
   ·rw[hy,h3 hy]; omega
   ·rw[if_neg hy]; omega
theorem po_ {is:List InfoR}:∀ (f i:Nat),cz_ is f i=true→cz_ is (f+1) i=true
 | 0,i,h=>by cases h
 | f+1,i,h=>by
  rw[cz_] at h ⊢;cases hi:is[i]? with
  | none=>rw[hi] at h; cases h
  | some x=>
   rw[hi] at h;dsimp only at h ⊢;by_cases e:x.parent=mkS []
   ·rw[if_pos e]
   ·rw[if_neg e] at h ⊢;rw[Bool.and_eq_true] at h ⊢;refine⟨h.1,?_⟩;have h2:=h.2;cases hp:is[dn_ is x.parent]? with
    | none=>rw[hp] at h2; cases h2
    | some y=>
     rw[hp] at h2;dsimp only at h2 ⊢;rw[Bool.and_eq_true] at h2 ⊢;exact⟨h2.1,po_ f _ h2.2⟩
theorem mM_ {is:List InfoR} {f g i:Nat} (hg:f≤g) (h:cz_ is f i=true):cz_ is g i=true:=by
 induction g with
 | zero=>have:f=0:=by omega
         subst this; exact h
 | succ g ih=>
  rcases Nat.lt_or_eq_of_le hg with q | q
  ·exact po_ g i (ih (by omega))
  ·subst q; exact h
theorem yL_ {is:List InfoR} {f i:Nat} (h:cz_ is f i=true):i < is.length:=by
 cases f with
 | zero=>cases h
 | succ f=>
  rw[cz_] at h;refine Nat.lt_of_not_le fun q=> ?_;rw[List.getElem?_eq_none q] at h; cases h
theorem zL_ {is:List InfoR} {f i:Nat} (h1:cz_ is (f+2) i=true) (h0:cz_ is (f+1) i=false):∃ j,cz_ is (f+1) j=true∧cz_ is f j=false:=by
 rw[cz_] at h1 h0;cases hi:is[i]? with
 | none=>rw[hi] at h1; cases h1
 | some x=>
  rw[hi] at h1 h0;dsimp only at h1 h0;by_cases e:x.parent=mkS []
  ·rw[if_pos e] at h0; cases h0
  ·rw[if_neg e] at h1 h0;rw[Bool.and_eq_true] at h1;have h2:=h1.2;rw[h1.1,Bool.true_and] at h0;cases hp:is[dn_ is x.parent]? with
   | none=>rw[hp] at h2; cases h2
   | some y=>
    rw[hp] at h2 h0;dsimp only at h2 h0;rw[Bool.and_eq_true] at h2;rw[h2.1,Bool.true_and] at h0;exact⟨_,h2.2,h0⟩
theorem uH_ {is:List InfoR}:∀ (f i:Nat),cz_ is (f+1) i=true→cz_ is f i=false→f+1≤(List.range is.length).countP (cz_ is (f+1))
 | 0,i,h1,_=>List.countP_pos_iff.2 ⟨i,List.mem_range.2 (yL_ h1),h1⟩
 | f+1,i,h1,h0=>by
  obtain⟨j,j1,j0⟩:=zL_ h1 h0;have ih:=uH_ f j j1 j0;have:=uQ_ (l:=List.range is.length) (p:=cz_ is (f+1)) (q:=cz_ is (f+2)) (fun x _ hx=>po_ _ _ hx) ⟨i,List.mem_range.2 (yL_ h1),h1,h0⟩;show f+1+1≤(List.range is.length).countP (cz_ is (f+2));omega
theorem st_ {is:List InfoR}:∀ (m i:Nat),cz_ is m i=true→cz_ is is.length i=true
 | 0,i,h=>by cases h
 | m+1,i,h=>by
  by_cases hm:m+1≤is.length
  ·exact mM_ hm h
  ·cases h0:cz_ is m i with
   | true=>exact st_ m i h0
   | false=>
    have h1:=uH_ m i h h0;have h2:(List.range is.length).countP (cz_ is (m+1))≤(List.range is.length).length:=List.countP_le_length;rw[List.length_range] at h2;omega
theorem x5_ {is:List InfoR} (hn:is.length≤6) (i:Nat):cz_ is 8 i=cz_ is is.length i:=by
 cases h:cz_ is is.length i with
 | true=>exact mM_ (by omega) h
 | false=>
  cases h8:cz_ is 8 i with
  | false=>rfl
  | true=>rw[st_ 8 i h8] at h; cases h
theorem hW_ {is:List InfoR}:∀ (f k:Nat),f=is.length - k→k≤is.length→(fG_ is f k=true↔(∀ j,k≤j→j < is.length→cz_ is is.length j=true)∧leI (is.length:Int) 6=true)
 | 0,k,hf,hk=>by
  rw[fG_];exact⟨fun h=>⟨fun j h1 h2=>by omega,h⟩,fun h=>h.2⟩
 | f+1,k,hf,hk=>by
  rw[fG_,Bool.and_eq_true,hW_ f (k+1) (by omega) (by omega)];constructor
  ·rintro⟨h1,h2,h3⟩;refine⟨fun j hj1 hj2=> ?_,h3⟩;rcases Nat.lt_or_eq_of_le hj1 with q | q
   ·exact h2 j q hj2
   ·subst q; exact h1
  ·rintro⟨h1,h2⟩;exact⟨h1 k (Nat.le_refl _) (by omega),fun j hj1 hj2=>h1 j (by omega) hj2,h2⟩
theorem iu_ {is:List InfoR}:∀ (f k:Nat),bt_ is f k=true→fG_ is is.length 0=true
 | 0,_,h=>h
 | f+1,k,h=>by
  rw[bt_] at h;cases hk:is[k]? with
  | none=>rw[hk] at h; cases h
  | some x=>
   rw[hk] at h;simp only[Bool.and_eq_true] at h;exact iu_ f _ h.2.2
section
variable {H:Hp} {Q:Post}
theorem ek_ {a:Pl} {is:List InfoR} (h:dq_ H a is) (ha:gC_ is) (hn:is.length≤1000) (hs:∀ x∈is,x.name.size≤140737488351232∧x.files.length≤100000∧∀ f∈x.files,f.1.size≤140737488351232) (hQ:Q (.g (.bool (bt_ is is.length 0))) H):
 a0_ [.g (.sl a is.length 5)] H Q:=by
 refine⟨is.length+2,?_⟩;rw[mU_];have etn:∀ k:Nat,tN (k:Int)=k:=fun _=>rfl;refine aa_ (fun e=> ?_) (fun e=> ?_)
 ·have:bt_ is is.length 0=false:=by
   cases hi:bt_ is is.length 0 with
   | false=>rfl
   | true=>
    have:=(hW_ (is:=is) _ 0 rfl (Nat.zero_le _)).1 (iu_ _ _ hi);have h6:=this.2;simp at e h6; omega
  rw[this] at hQ; exact hQ
 have h6:is.length≤6:=by simp at e; omega
 have go:∀ (f k:Nat),f=is.length - k→k≤is.length→(∀ j,j < k→cz_ is is.length j=true)→Q (.g (.bool (bt_ is f k))) H→
  a0_.l4 (f+1) a is.length ((k:Nat):Int) H Q:=by
  intro f;induction f with
  | zero=>
   intro k hf hk hr hQ;rw[a0_.l4_eq];refine aa_ (fun e=> ?_) (fun e=> ?_)
   ·have:k < is.length:=by simpa using e
    omega
   ·have:bt_ is 0 k=true:=(hW_ (is:=is) _ 0 rfl (Nat.zero_le _)).2 ⟨fun j _ hj=>hr j (by omega),by simp; omega⟩;rw[this] at hQ; exact hQ
  | succ f ih=>
   intro k hf hk hr hQ;have hkl:k < is.length:=by omega
   rw[a0_.l4_eq];refine aa_ (fun e=> ?_) (fun e=>by simp at e; omega);refine ab_ rfl (ab_ (by simp; omega) ?_);obtain⟨l,o,p,rfl,r1,r2,r3,r4,r5,r6⟩:=h _ hkl;obtain⟨s1,s2,s3⟩:=hs _ (List.getElem_mem hkl);simp only[ah_,etn];rw[ag_ r1,aB_,ag_ r2,ak_,ag_ r3,aB_,ag_ r4,aB_,ag_ r5];refine⟨.inr rfl,?_⟩;refine nc_ h ha hn r6 s2 s1 s3 ?_;simp only[aK_,al_];have hw:hF_ is 7 is[k].parent=cz_ is is.length k:=by rw[←lK_ 7 k hkl,x5_ h6]
   rw[hw];refine aa_ (fun e=> ?_) (fun e=> ?_)
   ·have e':(cD_ is[k]&&cz_ is is.length k)=false:=by simpa only[Bool.not_eq_true'] using e
    have:bt_ is (f+1) k=false:=by
     cases hi:bt_ is (f+1) k with
     | false=>rfl
     | true=>
      have hroot:=((hW_ (is:=is) _ 0 rfl (Nat.zero_le _)).1 (iu_ _ _ hi)).1 k (Nat.zero_le _) hkl;rw[bt_,List.getElem?_eq_getElem hkl] at hi;dsimp only at hi;rw[Bool.and_eq_true] at hi;rw[hi.1,hroot] at e'; cases e'
    rw[this] at hQ; exact hQ
   ·have e':(cD_ is[k]&&cz_ is is.length k)=true:=by simpa only[Bool.not_eq_false'] using e
    rw[Bool.and_eq_true] at e';rw[bt_,List.getElem?_eq_getElem hkl] at hQ;dsimp only at hQ;rw[e'.1,Bool.true_and] at hQ;have hr':∀ j,j < k+1→cz_ is is.length j=true:=fun j hj=>by
     rcases Nat.lt_or_eq_of_le (Nat.le_of_lt_succ hj) with q | q
     ·exact hr j q
     ·subst q; exact e'.2
    rw[ar_ (by omega)];cases k with
    | zero=>
     refine aa_ (fun e=>by simp at e) (fun e=> ?_);dsimp only at hQ;rw[Bool.true_and] at hQ;exact ih 1 (by omega) (by omega) hr' hQ
    | succ j=>
     refine aa_ (fun e=> ?_) (fun e=>by simp at e);refine ab_ rfl (ab_ (by simp; omega) ?_);simp only[ah_,etn,Nat.add_zero];rw[ag_ r1,aB_,dt_ (by omega)];refine ab_ rfl (ab_ (by simp; omega) ?_);have hj:j < is.length:=by omega
     obtain⟨l',o',p',q,r1',_⟩:=h j hj;cases q;simp only[etn,Nat.add_zero];rw[ag_ r1',aB_,y0_];dsimp only at hQ;rw[List.getElem?_eq_getElem hj] at hQ;dsimp only at hQ;have hb:blt is[j].name is[j+1].name=true:=(List.pairwise_iff_getElem.1 ha) _ _ hj hkl (Nat.lt_succ_self _);rw[hb,Bool.true_and] at hQ;rw[hb];exact ih (j+1+1) (by omega) (by omega) hr' hQ
 exact go _ 0 rfl (Nat.zero_le _) (fun j hj=>by omega) hQ
end
end Go.Am
section
namespace Go.Am
section
variable {B H:Hp} {t:TypeId} {ps:KV} {lf lt:Nat} {lo hi:ByteArray} {Q:Post}
theorem n7_ (g:SJ B H t ps) (hf:gt B lf 0=some (.str lo)) (ht:gt B lt 0=some (.str hi)) (hn:ps.length≤1000) (k v:ByteArray)
 (hQ:∀ H',SJ B H' t (ps++[(k,v)].filter (inR lo hi))→Q (.tup []) H'):dc_ [.agg [.str k,.str v],.g (.ptr (some (lf,0))),.g (.ptr (some (lt,0))),.g (.ptr (some (B.length,0)))] H Q:=by
 have no:inR lo hi (k,v)=false→Q (.tup []) H:=fun e=>hQ H (by rw[List.filter_cons,e]; simpa using g);have yes:inR lo hi (k,v)=true→∀ H',SJ B H' t (ps++[(k,v)])→Q (.tup []) H':=fun e H' g'=>hQ H' (by rw[List.filter_cons,e]; simpa using g');rw[Dd_] at no yes;refine⟨1,?_⟩;rw[rf_,ag_ (b5_ g.pre hf),aB_,id_];refine aa_ (fun e=> ?_) (fun e=>no (by simp at e; rw[e]; rfl));have e':blt k lo=false:=by simpa using e
 rw[e'] at no yes;rw[ag_ (b5_ g.pre ht),aB_];refine aa_ (fun e2=> ?_) (fun e2=> ?_)
 ·have e2':hi=mkS []:=by simpa using e2
  exact g.add k v hn (yes (by rw[decide_eq_true e2']; rfl))
 ·have e2': ¬ hi=mkS []:=by simpa using e2
  rw[ag_ (b5_ g.pre ht),aB_,id_];refine aa_ (fun e3=> ?_) (fun e3=> ?_)
  ·exact g.add k v hn (yes (by rw[e3]; simp))
  ·exact no (by rw[e3,decide_eq_false e2']; rfl)
end
section
variable {H0 B:Hp} {x:Pl} {cs:List PC} {T:List Pg} {t:TypeId} {lp lf lt gf:Nat} {lo hi:ByteArray} {E:Nat→Sm}
set_option maxRecDepth 100000 in
theorem sz_ (hT:Tr H0 x 48 cs T) (h0B:H0<+:B) (hlp:gt B lp 0=some (.sl x 48 5)) (hf:gt B lf 0=some (.str lo)) (ht:gt B lt 0=some (.str hi)) (hE:E gf=dc_):
 ∀ (f at_:Nat) (H:Hp) (Q:Post) (ps:KV),WfT T f at_→at_ < 48→SJ B H t ps→ps.length+(allD T f at_).length≤1000→(∀ H',SJ B H' t (ps++(allD T f at_).filter (inR lo hi))→Q (.tup []) H')→
  bc_.at E f [.g (.ptr (some (lp,0))),.g (.int .i64 (at_:Int)),.g (.fn gf [(lf,0),(lt,0),(B.length,0)])] H Q:=by
 intro f;induction f with
 | zero=>intro _ _ _ _ h; exact h.elim
 | succ f ih=>
  intro at_ H Q ps hg hat g hb hQ
  obtain⟨p,hp,hm,hkids⟩:=hg;obtain⟨l,o,c,p',rfl,hc,hp',hpc,g0,g1,g2,g3,g4⟩:=hT.get hat;rw[hp] at hp'; cases hp';obtain⟨hv1,hv2⟩:=wJ_ hm;have hswap:p.keys.zip p.vals++(p.kids.flatMap fun k=>allD T f k.toNat)=(p.kids.flatMap fun k=>allD T f k.toNat)++p.keys.zip p.vals:=by
   cases hl:p.leaf with
   | true=>rw[(hm.2.leaf hl).2.1]; simp
   | false=>rw[(hm.2.inner hl).2.1]; simp
  rw[yo_ hp,hswap] at hb hQ;rw[List.length_append,hv2] at hb;have hn1:=hpc.keys.len;have hn2:=hpc.vals.len;have hn3:=hpc.kids.len;have hl3:=hpc.kids.lim;have hl2:=hpc.vals.lim;have k48:∀ k∈p.kids,1≤k∧k < 48:=fun k hk=>by
   cases hlf:p.leaf with
   | true=>rw[(hm.2.leaf hlf).2.1] at hk; simp at hk
   | false=>exact (hm.2.inner hlf).2.2.2.1 k hk
  have etN:tN (at_:Int)=at_:=rfl
  have l7:∀ (F i:Nat) (H:Hp) (qs:KV),p.vals.length - i < F→i≤p.vals.length→SJ B H t qs→qs.length+(p.vals.length - i)≤1000→qs++((p.keys.zip p.vals).drop i).filter (inR lo hi)=ps++((p.kids.flatMap fun k=>allD T f k.toNat)++p.keys.zip p.vals).filter (inR lo hi)→
   bc_.l7 E (bc_.at E f) F gf [(lf,0),(lt,0),(B.length,0)] l (o+at_*5) c.a2 c.n2 (nI c.n2) (i:Int) H Q:=by
   intro F;induction F with
   | zero=>intro i _ _ h; omega
   | succ F ihF=>
    intro i H qs hF hi' g hb he;have hH:=h0B.trans g.pre;rw[bc_.l7_eq];by_cases hik:i < p.vals.length
    ·rw[aQ_ (by simp; omega),am_,(hpc.mono hH).vals.rd i rfl hik,ag_ (v:= .sl c.a1 c.n1 1) (by exact b5_ hH g2),as_,am_,(hpc.mono hH).keys.rd i rfl (by omega)];have e:(p.keys.zip p.vals).drop i=(p.keys[i]'(by omega),p.vals[i])::(p.keys.zip p.vals).drop (i+1):=by
      rw[List.drop_eq_getElem_cons (by omega)]; simp
     rw[e] at he;rw[hE];refine n7_ g hf ht (by omega) _ _ fun H' g'=> ?_;rw[ar_ (by omega)];have hfl:([(p.keys[i]'(by omega),p.vals[i])].filter (inR lo hi)).length≤1:=List.length_filter_le _ _;refine ihF (i+1) H' _ (by omega) (by omega) g' (by rw[List.length_append]; omega) ?_;rw[List.append_assoc,←List.filter_append];exact he
    ·rw[aL_ (by simp; omega)];rw[List.drop_of_length_le (by omega),List.filter_nil,List.append_nil] at he;subst he;exact hQ H g
  have l2:∀ (F i:Nat) (H:Hp) (qs:KV),p.kids.length - i+p.vals.length+2 < F→i≤p.kids.length→SJ B H t qs→qs.length+((p.kids.drop i).flatMap fun k=>allD T f k.toNat).length+p.vals.length≤1000→
   qs++(((p.kids.drop i).flatMap fun k=>allD T f k.toNat)++p.keys.zip p.vals).filter (inR lo hi)=ps++((p.kids.flatMap fun k=>allD T f k.toNat)++p.keys.zip p.vals).filter (inR lo hi)→
   bc_.l2 E (bc_.at E f) F (some (lp,0)) gf [(lf,0),(lt,0),(B.length,0)] l (o+at_*5) c.a3 c.n3 (nI c.n3) (i:Int) H Q:=by
   intro F;induction F with
   | zero=>intro i _ _ h; omega
   | succ F ihF=>
    intro i H qs hF hi' g hb he;have hH:=h0B.trans g.pre;rw[bc_.l2_eq];by_cases hik:i < p.kids.length
    ·rw[wv_ p.kids i hik] at hb he;rw[List.length_append] at hb;have hmem:=List.getElem_mem hik;have hk:=k48 _ hmem;have ek:p.kids[i]=((p.kids[i].toNat:Nat):Int):=by omega
     rw[aQ_ (by simp; omega),am_,(hpc.mono hH).kids.rd i rfl hik];generalize hkk:p.kids[i]=kk at*;rw[ek];refine ih kk.toNat H _ qs (hkids kk hmem) (by omega) g (by omega) fun H' g'=> ?_;rw[ar_ (by omega)];have hfl:((allD T f kk.toNat).filter (inR lo hi)).length≤(allD T f kk.toNat).length:=List.length_filter_le _ _;refine ihF (i+1) H' _ (by omega) (by omega) g' (by rw[List.length_append]; omega) ?_;rw[List.append_assoc,←List.filter_append,←List.append_assoc (allD T f kk.toNat)];exact he
    ·rw[aL_ (by simp; omega),ag_ (v:= .sl c.a2 c.n2 1) (by exact b5_ hH g3),as_];rw[List.drop_of_length_le (by omega),List.flatMap_nil,List.nil_append] at he;rw[List.drop_of_length_le (by omega)] at hb;exact l7 F 0 H qs (by omega) (by omega) g (by simp at hb; omega) (by rw[List.drop_zero]; exact he)
  have hH:=h0B.trans g.pre;refine⟨p.vals.length+p.kids.length+4,?_⟩;rw[vc_,ah_,ag_ (v:= .sl (some (l,o)) 48 5) (by exact b5_ g.pre hlp),as_,am_];refine ab_ (by simp; omega) ?_;rw[ah_,etN,ag_ (v:= .sl c.a3 c.n3 1) (by exact b5_ hH g4),as_];exact l2 _ 0 H ps (by omega) (by omega) g (by rw[List.drop_zero]; omega) (by rw[List.drop_zero])
end
section
variable {H:Hp} {Q:Post} {x:Pl} {n:Nat} {cs:List PC} {T:List Pg} {lo hi:ByteArray}
theorem rs_ (hT:Tr H x n cs T) (hQ:∀ a m H',H<+:H'→Own H' H.length tKV a (m*2) (bN_ (qC_ T lo hi))→(qC_ T lo hi).length=m→Q (.tup [.s (.sl a m 2),.s (.int .i64 (ks_ 1400 T))]) H'):fe_ [.agg [.sl x n 5],.g (.str lo),.g (.str hi)] H Q:=by
 refine⟨1,?_⟩;rw[t0_];simp only[fl_,e4_];generalize hB:(((H++[Obj.row true tTr [.sl x n 5]])++[Obj.row true tS [.str lo]])++[Obj.row true tS [.str hi]])=B0;have pB:H<+:B0:=by rw[←hB]; exact ((ce_ _ _).trans (ce_ _ _)).trans (ce_ _ _)
 have gp:gt B0 H.length 0=some (.sl x n 5):=by rw[←hB]; simp [gt]
 have gf:gt B0 (H++[Obj.row true tTr [.sl x n 5]]).length 0=some (.str lo):=by rw[←hB]; simp [gt]
 have gt':gt B0 ((H++[Obj.row true tTr [.sl x n 5]])++[Obj.row true tS [.str lo]]).length 0=some (.str hi):=by rw[←hB]; simp [gt]
 rw[ag_ gp,as_];refine qe_ (hT.mono pB) fun H1 p1=> ?_;simp only[aK_,al_];by_cases h:0 < aU_ T
 ·have e1:ks_ 1400 T=0:=by unfold ks_; rw[decide_eq_true h]
  have e2:dT_ T=dp_ T:=by unfold dT_; rw[decide_eq_true h]
  rw[e1] at hQ;rw[decide_eq_true h,aL_ (by decide)];obtain⟨st,s⟩:=SF.of h;have hn:n=48:=by have:=hT.lenT; have:=s.len; omega
  subst hn;refine⟨49,?_⟩;refine sz_ (B:=H1) (t:=D4_) (hT.mono (pB.trans p1)) (List.prefix_refl _) (b5_ p1 gp) (b5_ p1 gf) (b5_ p1 gt') (by rw[hS_]) 49 0 _ _ [] s.good (by omega)
   ⟨ce_ _ _,none,0,by simp,.inl ⟨rfl,rfl,rfl⟩,rfl⟩ (by have:=s.ents.2.2.2; unfold dp_ at this; simp; omega) fun H2 g=> ?_
  obtain⟨a,m,hrow,hO,hl⟩:=g.out;rw[ag_ (v:= .sl a m 2) (by rw[bO_ hrow]; rfl),as_];rw[List.nil_append] at hO hl;refine hQ a m H2 (pB.trans (p1.trans g.pre)) ?_ ?_
  ·unfold qC_; rw[e2]; exact hO.base (by have:=jq_ pB; have:=jq_ p1; omega)
  ·unfold qC_; rw[e2]; exact hl
 ·have e1:ks_ 1400 T=1400:=by unfold ks_; rw[decide_eq_false h]
  have e2:qC_ T lo hi=[]:=by unfold qC_ dT_; rw[decide_eq_false h]; rfl
  rw[e1,e2] at hQ;rw[decide_eq_false h,aQ_ (by decide)];exact hQ none 0 H1 (pB.trans p1) (.inl ⟨rfl,rfl,rfl⟩) rfl
theorem ud_ (hT:Tr H x n cs T) (hQ:∀ a m H',H<+:H'→Own H' H.length tKV a (m*2) (bN_ (dT_ T))→(dT_ T).length=m→Q (.tup [.s (.sl a m 2),.s (.int .i64 (ks_ 1400 T))]) H'):hs_ [.agg [.sl x n 5]] H Q:=by
 refine⟨1,?_⟩;rw[w7_];refine rs_ hT fun a m H' p o l=> ?_;rw[zG_] at o l;simp only[aR_,aG_,bP_,as_,ak_,aS_];exact hQ a m H' p o l
end
end Go.Am
end
namespace Go.Am
def snE (p:ByteArray × ByteArray):Option (ByteArray × SnapR):=match bZ_ p.1 with | some n=>(bu_ p.2).map fun x=>(n,x) | none=>none
def lnE (p:ByteArray × ByteArray):Option (LKey × LVal):=match bM_ p.1 with | some k=>(d1_ p.2).map fun x=>(k,x) | none=>none
def inE (p:ByteArray × ByteArray):Option (Int × InoR):=match ct_ p.1 with | some i=>(cl_ p.2).map fun x=>(i,x) | none=>none
def okE (p:ByteArray × ByteArray):Bool:=(snE p).isSome||((lnE p).isSome||(inE p).isSome)
theorem nw_ {k n:ByteArray} (h:bZ_ k=some n):bM_ k=none∧ct_ k=none:=by
 obtain⟨_,h0,_⟩:=eK_ h;constructor
 ·cases hp:bM_ k with
  | none=>rfl
  | some x=>have:=(eI_ hp).2.1; rw[h0] at this; cases this
 ·cases hp:ct_ k with
  | none=>rfl
  | some x=>have:=(fr_ hp).2.1; rw[h0] at this; cases this
theorem js_ {k:ByteArray} {x:LKey} (h:bM_ k=some x):bZ_ k=none∧ct_ k=none:=by
 obtain⟨_,h0,_⟩:=eI_ h;constructor
 ·cases hp:bZ_ k with
  | none=>rfl
  | some x=>have:=(eK_ hp).2.1; rw[h0] at this; cases this
 ·cases hp:ct_ k with
  | none=>rfl
  | some x=>have:=(fr_ hp).2.1; rw[h0] at this; cases this
theorem pZ_ {k:ByteArray} {x:Int} (h:ct_ k=some x):bZ_ k=none∧bM_ k=none:=by
 obtain⟨_,h0,_⟩:=fr_ h;constructor
 ·cases hp:bZ_ k with
  | none=>rfl
  | some x=>have:=(eK_ hp).2.1; rw[h0] at this; cases this
 ·cases hp:bM_ k with
  | none=>rfl
  | some x=>have:=(eI_ hp).2.1; rw[h0] at this; cases this
def CZ_ (st:StD) (p:ByteArray × ByteArray):StD:=⟨st.snaps++(snE p).toList,st.links++(lnE p).toList,st.inos++(inE p).toList⟩
theorem z3_ (st:StD) (p:ByteArray × ByteArray):hG_ st p=if okE p=true then some (CZ_ st p) else none:=by
 unfold hG_ okE CZ_ snE lnE inE;cases h1:bZ_ p.1 with
 | some n=>
  obtain⟨e1,e2⟩:=nw_ h1;simp only[e1,e2];cases bu_ p.2<;>simp
 | none=>
  dsimp only;cases h2:bM_ p.1 with
  | some k=>
   obtain⟨_,e2⟩:=js_ h2;simp only[e2];cases d1_ p.2<;>simp
  | none=>
   dsimp only;cases h3:ct_ p.1 with
   | some i=>dsimp only; cases cl_ p.2<;>simp
   | none=>simp
theorem wU_:∀ (ps:KV) (st:StD),gI_ hG_ st ps=if (ps.all okE)=true then some ⟨st.snaps++ps.filterMap snE,st.links++ps.filterMap lnE,st.inos++ps.filterMap inE⟩ else none
 | [],st=>by simp [gI_]
 | p::ps,st=>by
  unfold gI_;rw[z3_];by_cases h:okE p=true
  ·rw[if_pos h];dsimp only;rw[wU_ ps,List.all_cons,h,Bool.true_and];have fm:∀ {β:Type} (f:ByteArray × ByteArray→Option β),(p::ps).filterMap f=(f p).toList++ps.filterMap f:=fun f=>by
    rw[List.filterMap_cons]; cases f p<;>rfl
   simp only[fm,CZ_,List.append_assoc]
  ·rw[if_neg h,List.all_cons];simp [h]
theorem nk_ (ps:KV):dA_ ps=if (ps.all okE)=true then some ⟨ps.filterMap snE,ps.filterMap lnE,ps.filterMap inE⟩ else none:=by
 unfold dA_; rw[wU_]; rfl
theorem iw_ {ps:KV} {st:StD} (h:dA_ ps=some st):(∀ p∈ps,okE p=true)∧st=⟨ps.filterMap snE,ps.filterMap lnE,ps.filterMap inE⟩:=by
 rw[nk_] at h;split at h
 ·rename_i e;rw[List.all_eq_true] at e;cases h;exact⟨e,rfl⟩
 ·cases h
structure xD_ (st:StD):Prop where
 snaps:∀ x∈st.snaps,bm_ x.1 4=true∧eR_ x.2=true
 links:∀ x∈st.links,(1≤x.1.1∧x.1.1≤255)∧bm_ x.1.2 3=true∧0≤x.2.1∧x.2.1≤255
 inos:∀ x∈st.inos,(1≤x.1∧x.1≤255)∧d8_ x.2=true
theorem wG_ {s:ByteArray} {x:SnapR} (h:bu_ s=some x):eR_ x=true:=by
 unfold bu_ at h;split at h
 ·rename_i e;cases h;simp only[Bool.and_eq_true] at e;exact e.2.2
 ·cases h
theorem x7_ {s:ByteArray} {x:InoR} (h:cl_ s=some x):d8_ x=true:=by
 unfold cl_ at h;split at h
 ·rename_i e;cases h;simp only[Bool.and_eq_true] at e;exact e.2
 ·cases h
theorem ok_ {p:ByteArray × ByteArray} {x:ByteArray × SnapR} (h:snE p=some x):bZ_ p.1=some x.1∧bu_ p.2=some x.2:=by
 unfold snE at h;cases hn:bZ_ p.1 with
 | none=>rw[hn] at h; cases h
 | some n=>
  rw[hn] at h;dsimp only at h;cases hg:bu_ p.2 with
  | none=>rw[hg] at h; cases h
  | some y=>rw[hg] at h; cases h; exact⟨rfl,rfl⟩
theorem iV_ {p:ByteArray × ByteArray} {x:LKey × LVal} (h:lnE p=some x):bM_ p.1=some x.1∧d1_ p.2=some x.2:=by
 unfold lnE at h;cases hn:bM_ p.1 with
 | none=>rw[hn] at h; cases h
 | some n=>
  rw[hn] at h;dsimp only at h;cases hg:d1_ p.2 with
  | none=>rw[hg] at h; cases h
  | some y=>rw[hg] at h; cases h; exact⟨rfl,rfl⟩
theorem ss_ {p:ByteArray × ByteArray} {x:Int × InoR} (h:inE p=some x):ct_ p.1=some x.1∧cl_ p.2=some x.2:=by
 unfold inE at h;cases hn:ct_ p.1 with
 | none=>rw[hn] at h; cases h
 | some n=>
  rw[hn] at h;dsimp only at h;cases hg:cl_ p.2 with
  | none=>rw[hg] at h; cases h
  | some y=>rw[hg] at h; cases h; exact⟨rfl,rfl⟩
theorem zU_ {s:ByteArray} {x:LVal} (h:d1_ s=some x):0≤x.1∧x.1≤255:=by
 unfold d1_ at h;split at h
 ·cases h; exact iK_ _ _
 ·cases h
theorem hV_ {ps:KV} {st:StD} (h:dA_ ps=some st):xD_ st:=by
 obtain⟨_,rfl⟩:=iw_ h;refine⟨fun x hx=> ?_,fun x hx=> ?_,fun x hx=> ?_⟩
 ·obtain⟨p,_,e⟩:=List.mem_filterMap.1 hx;obtain⟨e1,e2⟩:=ok_ e;exact⟨(eK_ e1).2.2.1,wG_ e2⟩
 ·obtain⟨p,_,e⟩:=List.mem_filterMap.1 hx;obtain⟨e1,e2⟩:=iV_ e;obtain⟨_,_,q1,q2,q3⟩:=eI_ e1;refine⟨?_,q2,zU_ e2⟩;rw[q3];exact⟨q1,(iK_ _ _).2⟩
 ·obtain⟨p,_,e⟩:=List.mem_filterMap.1 hx;obtain⟨e1,e2⟩:=ss_ e;obtain⟨_,_,q1,q2⟩:=fr_ e1;refine⟨?_,x7_ e2⟩;rw[q2];exact⟨q1,(iK_ _ _).2⟩
theorem eU_ {ps:KV} {st:StD} (h:dA_ ps=some st):st.snaps.length≤ps.length∧st.links.length≤ps.length∧st.inos.length≤ps.length:=by
 obtain⟨_,rfl⟩:=iw_ h;exact⟨List.length_filterMap_le _ _,List.length_filterMap_le _ _,List.length_filterMap_le _ _⟩
theorem wj_ {ps:KV} {st:StD} (h:dA_ ps=some st):st.snaps.length+st.links.length+st.inos.length=ps.length:=by
 obtain⟨hok,rfl⟩:=iw_ h;clear h;induction ps with
 | nil=>rfl
 | cons p ps ih=>
  have ih:=ih fun q hq=>hok q (by simp [hq]);have hp:=hok p (by simp);dsimp only at ih ⊢;have one:(snE p).toList.length+(lnE p).toList.length+(inE p).toList.length=1:=by
   unfold okE at hp;cases h1:snE p with
   | some x=>
    obtain⟨e1,e2⟩:=nw_ (ok_ h1).1;simp [lnE,inE,e1,e2]
   | none=>
    cases h2:lnE p with
    | some x=>
     obtain⟨_,e2⟩:=js_ (iV_ h2).1;simp [inE,e2]
    | none=>
     rw[h1,h2] at hp;cases h3:inE p with
     | some x=>rfl
     | none=>rw[h3] at hp; cases hp
  have fm:∀ {β:Type} (f:ByteArray × ByteArray→Option β),((p::ps).filterMap f).length=(f p).toList.length+(ps.filterMap f).length:=fun f=>by
   rw[List.filterMap_cons]; cases f p<;>simp<;>omega
  rw[fm,fm,fm,List.length_cons]; omega
theorem et_ {s:ByteArray} {m:Int} (h:bm_ s m=true):1≤(s.size:Int)∧(s.size:Int)≤m:=by
 unfold bm_ at h;simp only[Bool.and_eq_true] at h;have h1:=h.2.1;have h2:=h.2.2;simp at h1 h2;omega
theorem yq_ {s:ByteArray} (h:1≤s.size):∃ b,bs s=b::bs (sub s 1 s.size)∧((b.toNat:Nat):Int)=byt s 0:=by
 have e:=pf_ s 0 (by omega);cases hb:bs s with
 | nil=>rw[hb] at e; simp at e
 | cons b t=>
  rw[hb] at e;refine⟨b,?_,by simpa using e⟩;rw[gT_,hb]; rfl
theorem or_ {s:ByteArray} (h:2≤s.size):∃ b c,bs s=b::c::bs (sub s 2 s.size)∧((b.toNat:Nat):Int)=byt s 0∧((c.toNat:Nat):Int)=byt s 1:=by
 have e:=pf_ s 0 (by omega);have e1:=pf_ s 1 (by omega);cases hb:bs s with
 | nil=>rw[hb] at e; simp at e
 | cons b t=>
  cases t with
  | nil=>rw[hb] at e1; simp at e1
  | cons c t=>
   rw[hb] at e e1;refine⟨b,c,?_,by simpa using e,by simpa using e1⟩;rw[gT_,hb]; rfl
end Go.Am
namespace Go.Am
theorem je_ (b c:UInt8) (s t:List UInt8):Op.bytesLess (b::s) (c::t)=(decide (b < c)||(b==c&&Op.bytesLess s t)):=rfl
theorem AE_ {k k' n n':ByteArray} (h:bZ_ k=some n) (h':bZ_ k'=some n'):blt k k'=blt n n':=by
 obtain⟨s1,s2,_,s3⟩:=eK_ h;obtain⟨t1,t2,_,t3⟩:=eK_ h';obtain⟨b,e1,e2⟩:=yq_ s1;obtain⟨c,f1,f2⟩:=yq_ t1;unfold blt;rw[e1,f1,je_,s3,t3];have:b=c:=UInt8.toNat_inj.1 (by rw[s2] at e2; rw[t2] at f2; omega);subst this;simp
theorem By_ {k k':ByteArray} {n n':Int} (h:ct_ k=some n) (h':ct_ k'=some n'):blt k k'=decide (n < n'):=by
 obtain⟨s1,s2,_,s3⟩:=fr_ h;obtain⟨t1,t2,_,t3⟩:=fr_ h';obtain⟨b,b1,e1,e2,e3⟩:=or_ (s:=k) (by omega);obtain⟨c,c1,f1,f2,f3⟩:=or_ (s:=k') (by omega);have z:bs (sub k 2 k.size)=[]:=by rw[gT_]; exact List.drop_eq_nil_of_le (by rw[cp_]; omega)
 have z':bs (sub k' 2 k'.size)=[]:=by rw[gT_]; exact List.drop_eq_nil_of_le (by rw[cp_]; omega)
 unfold blt;rw[e1,f1,je_,je_,z,z'];have:b=c:=UInt8.toNat_inj.1 (by rw[s2] at e2; rw[t2] at f2; omega);subst this;simp [Op.bytesLess,UInt8.lt_iff_toNat_lt];omega
theorem AF_ {k k':ByteArray} {x x':LKey} (h:bM_ k=some x) (h':bM_ k'=some x') (e:x.1=x'.1):blt k k'=blt x.2 x'.2:=by
 obtain⟨s1,s2,_,_,s3⟩:=eI_ h;obtain⟨t1,t2,_,_,t3⟩:=eI_ h';obtain⟨b,b1,e1,e2,e3⟩:=or_ (s:=k) (by omega);obtain⟨c,c1,f1,f2,f3⟩:=or_ (s:=k') (by omega);have he:byt k 1=byt k' 1:=by rw[s3,t3] at e; exact e
 have q1:b=c:=UInt8.toNat_inj.1 (by rw[s2] at e2; rw[t2] at f2; omega);have q2:b1=c1:=UInt8.toNat_inj.1 (by omega);subst q1; subst q2;unfold blt;rw[e1,f1,je_,je_,s3,t3];simp
structure wu_ (st:StD):Prop where
 snaps:st.snaps.Pairwise fun x y=>blt x.1 y.1=true
 links:st.links.Pairwise fun x y=>x.1≠y.1∧(x.1.1=y.1.1→blt x.1.2 y.1.2=true)
 inos:st.inos.Pairwise fun x y=>x.1 < y.1
theorem gm_ {α β:Type} {R:α→α→Prop} {S:β→β→Prop} {f:α→Option β} (hf:∀ a b x y,R a b→f a=some x→f b=some y→S x y):∀ {l:List α},l.Pairwise R→(l.filterMap f).Pairwise S
 | [],_=>List.Pairwise.nil
 | a::l,h=>by
  have hh:=List.pairwise_cons.1 h;rw[List.filterMap_cons];cases e:f a with
  | none=>exact gm_ hf hh.2
  | some x=>
   refine List.pairwise_cons.2 ⟨fun y hy=> ?_,gm_ hf hh.2⟩;obtain⟨b,hb,e2⟩:=List.mem_filterMap.1 hy;exact hf a b x y (hh.1 b hb) e e2
theorem fy_ {ps:KV} {st:StD} (ha:Asc ps) (h:dA_ ps=some st):wu_ st:=by
 obtain⟨_,rfl⟩:=iw_ h;refine⟨gm_ (fun a b x y r e1 e2=> ?_) ha,gm_ (fun a b x y r e1 e2=> ?_) ha,gm_ (fun a b x y r e1 e2=> ?_) ha⟩
 ·rw[←AE_ (ok_ e1).1 (ok_ e2).1]; exact r
 ·refine⟨fun q=> ?_,fun q=> ?_⟩
  ·have e1':=(iV_ e1).1;rw[q] at e1';have:=wN_ e1' (iV_ e2).1;have r':blt a.1 b.1=true:=r;rw[this,c4_] at r'; cases r'
  ·rw[←AF_ (iV_ e1).1 (iV_ e2).1 q]; exact r
 ·have r':blt a.1 b.1=true:=r;rw[By_ (ss_ e1).1 (ss_ e2).1] at r';simpa using r'
def pk_ (st:StD) (id:Int):List FileR:=(st.links.filter fun l=>decide (l.1.1=id)).map (bs_ st)
def aA_ (st:StD):List InfoR:=st.snaps.map fun x=>⟨x.1,x.2.kind,x.2.parent,x.2.label,pk_ st x.2.id⟩
theorem gv_ {α β:Type} [DecidableEq α] {ps:List (α × β)} {x:α × β} (hn:(ps.map (·.1)).Nodup) (hx:x∈ps):look ps x.1=some x.2:=by
 cases h:look ps x.1 with
 | none=>exact absurd rfl (lL_ h x hx)
 | some v=>
  have hv:=dl_ h;obtain⟨i,hi,e1⟩:=List.getElem_of_mem hx;obtain⟨j,hj,e2⟩:=List.getElem_of_mem hv;have:i=j:=(List.getElem_inj (h₀:=by simpa using hi) (h₁:=by simpa using hj) hn).1 (by rw[List.getElem_map,List.getElem_map,e1,e2]);subst this;rw[e1] at e2;rw[e2]
theorem r3_ (st:StD) (id:Int) (f:FileR):f∈pk_ st id↔∃ l∈st.links,l.1.1=id∧f=bs_ st l:=by
 unfold pk_;simp only[List.mem_map,List.mem_filter,decide_eq_true_eq];constructor
 ·rintro⟨l,⟨h1,h2⟩,h3⟩; exact⟨l,h1,h2,h3.symm⟩
 ·rintro⟨l,h1,h2,h3⟩; exact⟨l,⟨h1,h2⟩,h3.symm⟩
theorem x1_ {st:StD} (ha:wu_ st) (id:Int):ch_ st id (pk_ st id):=by
 refine⟨?_,r3_ st id⟩;unfold pk_ jF_;rw[List.pairwise_map];have h:=List.Pairwise.filter (fun l:LKey × LVal=>decide (l.1.1=id)) ha.links;refine List.Pairwise.imp_of_mem (fun {a b} ha hb h=> ?_) h;have h1:=(List.mem_filter.1 ha).2;have h2:=(List.mem_filter.1 hb).2;exact h.2 (by simp at h1 h2; omega)
theorem qM_ {st:StD} (ha:wu_ st):(st.snaps.map (·.1)).Nodup:=by
 refine List.Pairwise.map (R:=fun x y=>blt x.1 y.1=true) _ (fun a b h e=> ?_) ha.snaps;rw[e,c4_] at h; cases h
theorem gP_ {st:StD} (ha:wu_ st):cn_ st (aA_ st):=by
 have e:(aA_ st).map (·.name)=st.snaps.map (·.1):=by unfold aA_; rw[List.map_map]; rfl
 refine⟨by rw[e],?_,fun i hi=> ?_⟩
 ·rw[e,List.pairwise_map]; exact ha.snaps
 ·unfold aA_ at hi;obtain⟨x,hx,rfl⟩:=List.mem_map.1 hi;exact⟨x.2,gv_ (qM_ ha) hx,rfl,rfl,rfl,x1_ ha _⟩
theorem zb_ {α:Type} {R:α→α→Prop} (irr:∀ a,¬ R a a) (asy:∀ a b,R a b→ ¬ R b a):∀ {l m:List α},l.Pairwise R→m.Pairwise R→(∀ x,x∈l↔x∈m)→l=m
 | [],[],_,_,_=>rfl
 | [],g::gs,_,_,h=>absurd ((h g).2 List.mem_cons_self) List.not_mem_nil
 | f::fs,[],_,_,h=>absurd ((h f).1 List.mem_cons_self) List.not_mem_nil
 | f::fs,g::gs,h1,h2,h=>by
  have a1:=List.pairwise_cons.1 h1;have a2:=List.pairwise_cons.1 h2;have e:f=g:=by
   rcases List.mem_cons.1 ((h f).1 List.mem_cons_self) with q | q
   ·exact q
   ·rcases List.mem_cons.1 ((h g).2 List.mem_cons_self) with r | r
    ·exact r.symm
    ·exact absurd (a1.1 g r) (asy _ _ (a2.1 f q))
  subst e;congr 1;refine zb_ irr asy a1.2 a2.2 fun x=>⟨fun q=> ?_,fun q=> ?_⟩
  ·rcases List.mem_cons.1 ((h x).1 (List.mem_cons_of_mem _ q)) with r | r
   ·have:=a1.1 x q; rw[r] at this; exact absurd this (irr _)
   ·exact r
  ·rcases List.mem_cons.1 ((h x).2 (List.mem_cons_of_mem _ q)) with r | r
   ·have:=a2.1 x q; rw[r] at this; exact absurd this (irr _)
   ·exact r
theorem cn_.unique {st:StD} {is js:List InfoR} (h1:cn_ st is) (h2:cn_ st js):is=js:=by
 have hb:∀ a:ByteArray,¬ blt a a=true:=fun a q=>by rw[c4_] at q; cases q
 have hc:∀ a b:ByteArray,blt a b=true→ ¬ blt b a=true:=fun a b q r=>by rw[jD_ q] at r; cases r
 have hn:is.map (·.name)=js.map (·.name):=zb_ hb hc h1.asc h2.asc fun x=>h1.perm.mem_iff.trans h2.perm.mem_iff.symm;have hl:is.length=js.length:=by have:=congrArg List.length hn; simpa using this
 apply List.ext_getElem hl;intro k hk1 hk2;obtain⟨x,x1,x2,x3,x4,x5⟩:=(h1.info _ (List.getElem_mem hk1)).mem;obtain⟨y,y1,y2,y3,y4,y5⟩:=(h2.info _ (List.getElem_mem hk2)).mem;have e:is[k].name=js[k].name:=by
  have:=congrArg (fun l:List ByteArray=>l[k]?) hn;simpa [hk1,hk2] using this
 rw[e,y1] at x1;cases x1;have hf:=x5.unique y5;cases hi:is[k];cases hj:js[k];rw[hi] at e x2 x3 x4 hf;rw[hj] at e y2 y3 y4 hf;dsimp only at e x2 x3 x4 hf y2 y3 y4;simp only[InfoR.mk.injEq];exact⟨e,by rw[x2,y2],by rw[x3,y3],by rw[x4,y4],hf⟩
def hN_ (st:StD):Bool:=cW_ st&&(decide (st.snaps.map fun x=>x.2.id).Nodup&&bt_ (aA_ st) (aA_ st).length 0)
def dx_ (ps:KV):Option StD:=match dA_ ps with | some st=>(match hN_ st with | true=>some st | false=>none) | none=>none
def ofD (T:List Pg):Option StD:=match decide (0 < aU_ T) with | true=>dx_ (dT_ T) | false=>none
theorem ix_ {ps:KV} {st:StD}:dx_ ps=some st↔dA_ ps=some st∧hN_ st=true:=by
 unfold dx_;cases dA_ ps with
 | none=>simp
 | some s=>
  dsimp only;cases h:hN_ s with
  | true=>exact⟨fun e=>by cases e; exact⟨rfl,h⟩,fun e=>e.1⟩
  | false=>exact⟨fun e=>(by cases e),fun⟨e1,e2⟩=>(by cases e1; rw[h] at e2; cases e2)⟩
end Go.Am
namespace Go.Am
theorem cg_.hold {H H':Hp} {b:Nat} {a:Pl} {is:List InfoR} (h:cg_ H b a is) (hk:∀ l,b≤l→H'[l]? =H[l]?):cg_ H' b a is:=by
 rcases h with q | ⟨l,cs,rfl,hb,hr,hc⟩
 ·exact .inl q
 ·exact .inr ⟨l,cs,rfl,hb,by rw[hk l hb]; exact hr,hc.keep fun l' hb' hne _=>⟨hk l' hb',hne⟩⟩
theorem cn_.sizes {st:StD} {is:List InfoR} (ok:xD_ st) (h:cn_ st is) (hl:st.links.length≤1000):is.length=st.snaps.length∧∀ x∈is,x.name.size≤140737488351232∧x.files.length≤100000∧∀ f∈x.files,f.1.size≤140737488351232:=by
 refine⟨by have:=h.perm.length_eq; simpa using this,fun x hx=> ?_⟩;obtain⟨y,y1,_,_,_,y5⟩:=(h.info x hx).mem;refine⟨?_,?_,fun f hf=> ?_⟩
 ·have:=et_ (ok.snaps _ (dl_ y1)).1;dsimp only at this; omega
 ·have hnd:x.files.Nodup:=by
   refine List.Pairwise.imp (fun {a b} r e=> ?_) y5.asc;rw[e,c4_] at r; cases r
  have:=(dE_ (st.links.map (bs_ st)) x.files hnd fun f hf=>by
   obtain⟨l,hl,_,e⟩:=(y5.mem f).1 hf;exact List.mem_map.2 ⟨l,hl,e.symm⟩).1
  rw[List.length_map] at this; omega
 ·obtain⟨l,hl,_,e⟩:=(y5.mem f).1 hf;have:=et_ (ok.links l hl).2.1;rw[e]; unfold bs_; dsimp only; omega
section
variable {H:Hp} {Q:Post} {x:Pl} {n:Nat} {cs:List PC} {T:List Pg} {E:Nat→Sm}
theorem xP_ {ps:KV} {i:Nat} (hi:i < ps.length) (st:StD):gI_ iq_ st (ps.drop i)=match iq_ st ps[i] with | some st'=>gI_ iq_ st' (ps.drop (i+1)) | none=>none:=by
 rw[List.drop_eq_getElem_cons hi]; rfl
structure D0_ (H H':Hp) (x:Pl) (n sp ms ml mi b:Nat) (a:Pl) (st:StD):Prop where
 at_:kl_ H' sp (.sl x n 5) ms ml mi (.sl a (aA_ st).length 5) st
 row:∃ t,H'[sp]? =some (.row true t [.sl x n 5,.map (some ms),.map (some ml),.map (some mi),.sl a (aA_ st).length 5])
 infos:cg_ H' b a (aA_ st)
 pre:H<+:H'
 low:H.length≤ms∧H.length≤ml∧H.length≤mi∧H.length≤sp∧H.length≤b
 lowb:sp < b∧ms < b∧ml < b∧mi < b
theorem tY_ (hT:Tr H x n cs T)
 (h1:ofD T=none→∀ H' p,H<+:H'→Q (.tup [.s (.ptr p),.s (.bool false)]) H')
 (h2:∀ st,ofD T=some st→∀ H' sp ms ml mi b a,D0_ H H' x n sp ms ml mi b a st→Q (.tup [.s (.ptr (some (sp,0))),.s (.bool true)]) H'):
 dy_ E [.agg [.sl x n 5]] H Q:=by
 refine⟨(dT_ T).length+3,?_⟩;rw[xa_];refine ud_ hT fun a m H1 p1 o1 l1=> ?_;simp only[aR_,aG_,bP_,as_,ak_,aS_,fl_,e4_];have etn:∀ k:Nat,tN (k:Int)=k:=fun _=>rfl;have e0:(((H1++[Obj.map [] 0])++[Obj.map [] 0])++[Obj.map [] 0]).length=H1.length+3:=by simp
 have e1:((H1++[Obj.map [] 0])++[Obj.map [] 0]).length=H1.length+2:=by simp
 have e2:(H1++[Obj.map [] 0]).length=H1.length+1:=by simp
 rw[e0,e1,e2];have hl1:=p1.length_le;have hm60:=ie_ T;have hkv:=yV_ T;generalize hG:(((H1++[Obj.map [] 0])++[Obj.map [] 0])++[Obj.map [] 0])++[Obj.row true 102 [.sl x n 5,.map (some H1.length),.map (some (H1.length+1)),.map (some (H1.length+2)),.sl none 0 5]]=G0;have pG:H1<+:G0:=by rw[←hG]; exact (((ce_ _ _).trans (ce_ _ _)).trans (ce_ _ _)).trans (ce_ _ _)
 have lG:G0.length=H1.length+4:=by rw[←hG]; simp
 have atG:∀ (k:Nat),G0[H1.length+k]? =([Obj.map [] 0,Obj.map [] 0,Obj.map [] 0,Obj.row true 102 [.sl x n 5,.map (some H1.length),.map (some (H1.length+1)),.map (some (H1.length+2)),.sl none 0 5]]:List Obj)[k]? :=fun k=>by
  have:G0=H1++[Obj.map [] 0,Obj.map [] 0,Obj.map [] 0,Obj.row true 102 [.sl x n 5,.map (some H1.length),.map (some (H1.length+1)),.map (some (H1.length+2)),.sl none 0 5]]:=by rw[←hG]; simp
  rw[this,List.getElem?_append_right (by omega)];congr 1; omega
 have emp:∀ {α β:Type} {ek:α→RV} {ev:β→RV} (l:Nat),G0[l]? =some (.map [] 0)→gk_ ek ev G0 l ([]:List (α × β)):=fun l h=>
  ⟨⟨[],0,h,rfl,(fun e h=>absurd h List.not_mem_nil),List.nodup_nil⟩,List.nodup_nil⟩
 have S0:kl_ G0 (H1.length+3) (.sl x n 5) H1.length (H1.length+1) (H1.length+2) (.sl none 0 5) st0:=
  ⟨⟨102,by rw[atG 3]; rfl⟩,emp _ (by have:=atG 0; simpa using this),emp _ (by have:=atG 1; simpa using this),emp _ (by have:=atG 2; simpa using this),by omega,by omega,by omega⟩
 have hdec:gI_ iq_ st0 (dT_ T)=dA_ (dT_ T):=AI_ (zO_ (hi_ T));have go:∀ (f i:Nat) (G:Hp) (st:StD),m - i < f→i≤m→H1<+:G→G.length=H1.length+4→kl_ G (H1.length+3) (.sl x n 5) H1.length (H1.length+1) (H1.length+2) (.sl none 0 5) st→
  gI_ iq_ st ((dT_ T).drop i)=dA_ (dT_ T)→dy_.l4 E (f+1) (ks_ 1400 T) (H1.length+3) 0 (H1.length+3) 0 a m (nI m) ((i:Nat):Int) G Q:=by
  intro f;induction f with
  | zero=>intro i G st h; omega
  | succ f ih=>
   intro i G st hf hi hG1 hGl hS hd;rw[dy_.l4_eq];refine aa_ (fun e=> ?_) (fun e=> ?_)
   ·have him:i < m:=by simpa using e
    obtain⟨l,o,rfl,q1,q2⟩:=Kv.get (H:=G) (Kv.mono hG1 ⟨o1.cells,l1⟩) (i:=i) (by omega);refine ab_ rfl (ab_ (by simp; omega) ?_);simp only[ah_,etn];rw[ag_ q1,aB_,ag_ q2,aB_];have hmem:=hkv _ (List.getElem_mem (show i < (dT_ T).length by omega));rw[xP_ (by omega)] at hd;refine pF_ (by omega) (by omega) hS (fun hn G' hu=> ?_) (fun st' hs G' hu hS'=> ?_)
    ·simp only[aK_,al_];rw[show iq_ st (dT_ T)[i]=none from hn] at hd;refine aa_ (fun _=> ?_) (fun e=>by cases e);refine h1 ?_ G' none (p1.trans (gy_ hG1 hu.len fun l hl=>hu.row l (by omega)));unfold ofD dx_;rw[←hd];cases decide (0 < aU_ T)<;>rfl
    ·simp only[aK_,al_];rw[show iq_ st (dT_ T)[i]=some st' from hs] at hd;rw[ar_ (by omega)];refine aa_ (fun e=>by cases e) (fun _=> ?_);refine ih (i+1) G' st' (by omega) him (gy_ hG1 hu.len fun l hl=>hu.row l (by omega)) (by rw[hu.len,hGl]) hS' hd
   ·have him:i=m:=by have: ¬ i < m:=by simpa using e
                     omega
    subst him;rw[List.drop_eq_nil_of_le (by omega)] at hd;have hd':dA_ (dT_ T)=some st:=hd.symm;have pH:H<+:G:=p1.trans hG1;refine aa_ (fun e=> ?_) (fun e=> ?_)
    ·refine h1 ?_ G none pH;unfold ofD;cases hh:decide (0 < aU_ T) with
     | false=>rfl
     | true=>unfold ks_ at e; rw[hh] at e; cases e
    have hh:decide (0 < aU_ T)=true:=by
     cases hh:decide (0 < aU_ T) with
     | true=>rfl
     | false=>unfold ks_ at e; rw[hh] at e; cases e
    have hof:ofD T=match hN_ st with | true=>some st | false=>none:=by
     unfold ofD dx_; rw[hh,hd']<;>rfl
    obtain⟨n1,n2,n3⟩:=eU_ hd';have ok:=hV_ hd';have hasc:=fy_ (hi_ T) hd';refine np_ hS ⟨by omega,by omega⟩ (fun y hy=> ?_) fun G1 pG1=> ?_
    ·have:=(ok.inos y hy).2;unfold d8_ at this;simp only[Bool.and_eq_true] at this;simpa using this.1.1
    simp only[aK_,al_];refine aa_ (fun e=> ?_) (fun e=> ?_)
    ·refine h1 ?_ G1 none (pH.trans pG1);rw[hof,show hN_ st=false by unfold hN_; rw[cR_ e,Bool.false_and]]
    have k1:=c7_ e;have hS1:=hS.keep (H':=G1) fun l hl=>cd_ pG1 hl;refine n1_ hS1 (by omega) fun G2 pG2=> ?_;simp only[aK_,al_];refine aa_ (fun e=> ?_) (fun e=> ?_)
    ·refine h1 ?_ G2 none (pH.trans (pG1.trans pG2));rw[hof,show hN_ st=false by unfold hN_; rw[cR_ e,Bool.false_and,Bool.and_false]]
    have k2:=c7_ e;have hS2:=hS1.keep (H':=G2) fun l hl=>cd_ pG2 hl;refine pO_ hS2 (fun y hy=>by have:=et_ (ok.snaps y hy).1; omega) (by omega) (by omega) fun G3 b ia is pG3 hb hia hof3=> ?_;have his:is=aA_ st:=hof3.unique (gP_ hasc);subst his;have hS3:=hS2.keep (H':=G3) fun l hl=>cd_ pG3 hl;obtain⟨t,hr⟩:=hS3.row;simp only[aK_,as_];have gl:=pG1.length_le;have gl2:=pG2.length_le;have gl3:=pG3.length_le;have hne:H1.length+3 < b:=by omega
    refine c3_ hr (by simp) ?_;generalize hG4:G3.set (H1.length+3) (.row true t ([.sl x n 5,.map (some H1.length),.map (some (H1.length+1)),.map (some (H1.length+2)),.sl none 0 5].set (0+4) (.sl ia (aA_ st).length 5)))=G4;have r4:G4[H1.length+3]? =some (.row true t [.sl x n 5,.map (some H1.length),.map (some (H1.length+1)),.map (some (H1.length+2)),.sl ia (aA_ st).length 5]):=by
     rw[←hG4,List.getElem?_set_self (by omega)]; rfl
    have k4:∀ l,l≠H1.length+3→G4[l]? =G3[l]? :=fun l hl=>by rw[←hG4,List.getElem?_set_ne (Ne.symm hl)]
    have l4:G4.length=G3.length:=by rw[←hG4]; simp
    have hia4:=hia.hold (H':=G4) fun l hl=>k4 l (by omega);rw[ag_ (v:= .sl ia (aA_ st).length 5) (by rw[bO_ r4]; rfl),as_];have sz:=(gP_ hasc).sizes ok (by omega);refine ri_ hia4.rd (by omega) sz.2 ?_;simp only[aK_,al_];have p4:H<+:G4:=gy_ (pH.trans (pG1.trans (pG2.trans pG3))) l4 fun l hl=>k4 l (by omega);cases hf:bt_ (aA_ st) (aA_ st).length 0 with
    | false=>exact h1 (by rw[hof,show hN_ st=false by unfold hN_; rw[hf,Bool.and_false,Bool.and_false]]) G4 _ p4
    | true=>
     have hS4:kl_ G4 (H1.length+3) (.sl x n 5) H1.length (H1.length+1) (H1.length+2) (.sl ia (aA_ st).length 5) st:=
      ⟨⟨t,r4⟩,hS3.snaps.keep (k4 _ (by omega)),hS3.links.keep (k4 _ (by omega)),hS3.inos.keep (k4 _ (by omega)),hS3.d1,hS3.d2,hS3.d3⟩
     exact h2 st (by rw[hof,show hN_ st=true by unfold hN_; rw[k1,k2,hf]; rfl]) G4 _ _ _ _ b ia ⟨hS4,⟨t,r4⟩,hia4,p4,⟨by omega,by omega,by omega,by omega,by omega⟩,⟨by omega,by omega,by omega,by omega⟩⟩
 exact go _ 0 G0 st0 (by omega) (Nat.zero_le _) pG lG S0 (by rw[List.drop_zero]; exact hdec)
end
end Go.Am
namespace Go.Am
def d5_ (fs:List FileR):Nat:=fs.countP (·.2.2)
def e0_ (fs:List FileR):Nat:=((fs.filter (·.2.2)).map fun f=>f.2.1.size).sum
theorem lI_ (fs:List FileR) (f:FileR):d5_ (fs++[f])=d5_ fs+(match f.2.2 with | true=>1 | false=>0):=by
 unfold d5_;rw[List.countP_append,List.countP_singleton];cases f.2.2<;>simp
theorem lN_ (fs:List FileR) (f:FileR):e0_ (fs++[f])=e0_ fs+(match f.2.2 with | true=>f.2.1.size | false=>0):=by
 unfold e0_;rw[List.filter_append,List.map_append,List.sum_append,List.filter_cons];cases h:f.2.2<;>simp [h]
theorem pm_:∀ {fs:List FileR},(∀ f∈fs,f.2.1.size≤6)→d5_ fs≤fs.length∧e0_ fs≤6*fs.length
 | [],_=>⟨Nat.le_refl _,Nat.le_refl _⟩
 | f::fs,h=>by
  obtain⟨h1,h2⟩:=pm_ (fs:=fs) fun g hg=>h g (by simp [hg]);have hf:=h f (by simp);unfold d5_ e0_ at*;rw[List.countP_cons,List.filter_cons,List.length_cons];cases e:f.2.2<;>simp [e]<;>omega
theorem ip_ {st:StD} (ok:xD_ st):∀ i∈aA_ st,i.files.length≤st.links.length∧∀ f∈i.files,f.2.1.size≤6:=by
 intro i hi;unfold aA_ at hi;obtain⟨x,hx,rfl⟩:=List.mem_map.1 hi;dsimp only;refine⟨?_,fun f hf=> ?_⟩
 ·unfold pk_; rw[List.length_map]; exact List.length_filter_le _ _
 ·obtain⟨l,hl,_,rfl⟩:=(r3_ st _ f).1 hf;unfold bs_;dsimp only;cases hk:look st.inos l.2.1 with
  | none=>exact Nat.zero_le _
  | some y=>
   have:=(ok.inos _ (dl_ hk)).2;unfold d8_ at this;simp only[Bool.and_eq_true] at this;have:=this.2;simp at this;dsimp only; omega
def cv_ (is:List InfoR) (s:ByteArray):Option InfoR:=is.find? fun i=>decide (i.name=s)
def c2_ (T:List Pg) (s:ByteArray):Nat × Nat × Int:=match ofD T with
 | none=>(0,0,2000)
 | some st=>match bm_ s 4 with
  | false=>(0,0,1901)
  | true=>match cv_ (aA_ st) s with
   | none=>(0,0,1903)
   | some i=>(d5_ i.files,e0_ i.files,0)
theorem g6_ {T:List Pg} {st:StD} (h:ofD T=some st):0 < aU_ T∧dA_ (dT_ T)=some st∧hN_ st=true:=by
 unfold ofD at h;cases hh:decide (0 < aU_ T) with
 | false=>rw[hh] at h; cases h
 | true=>
  rw[hh] at h;exact⟨of_decide_eq_true hh,ix_.1 h⟩
theorem o3_ {st:StD} (h:wu_ st):gC_ (aA_ st):=by
 have:=(gP_ h).asc;rw[List.pairwise_map] at this;exact this
theorem iZ_ {is:List InfoR} {s:ByteArray} (ha:gC_ is):(is.any fun y=>decide (y.name=s))=(cv_ is s).isSome∧∀ i,cv_ is s=some i→is[dn_ is s]? =some i:=by
 constructor
 ·rw[Bool.eq_iff_iff,List.any_eq_true];unfold cv_;rw[List.find?_isSome]
 ·intro i hi;unfold cv_ at hi;have h1:=List.find?_some hi;have h2:=List.mem_of_find?_eq_some hi;obtain⟨k,hk,rfl⟩:=List.getElem_of_mem h2;have e:is[k].name=s:=by simpa using h1
  have:=rI_ ha hk;rw[e] at this;rw[this,List.getElem?_eq_getElem hk]
section
variable {H:Hp} {Q:Post} {x:Pl} {n:Nat} {cs:List PC} {T:List Pg} {E:Nat→Sm} {s:ByteArray}
theorem jg_ (hT:Tr H x n cs T)
 (h1:ofD T=none→∀ H',H<+:H'→Q (.tup [.s (.sl none 0 5),.s (.int .i64 2000)]) H')
 (h2:∀ st,ofD T=some st→∀ H' b a,H<+:H'→H.length≤b→cg_ H' b a (aA_ st)→Q (.tup [.s (.sl a (aA_ st).length 5),.s (.int .i64 0)]) H'):
 dR_ E [.agg [.sl x n 5]] H Q:=by
 refine⟨1,?_⟩;rw[to_];refine tY_ hT (fun e H' p hp=> ?_) (fun st e H' sp ms ml mi b a o=> ?_)
 ·simp only[aR_,aG_,bP_,gz_,al_,aS_];refine aa_ (fun _=>h1 e H' hp) (fun e=>by cases e)
 ·simp only[aR_,aG_,bP_,gz_,al_,aS_];refine aa_ (fun e=>by cases e) (fun _=> ?_);obtain⟨_,_,_,_,g4⟩:=o.at_.rd;simp only[ah_,Nat.zero_add];rw[ag_ g4,as_];exact h2 st e H' b a o.pre o.low.2.2.2.2 o.infos
theorem d9_ (hT:Tr H x n cs T)
 (h1:ofD T=none→∀ H',H<+:H'→Q (.tup [.s (.sl none 0 5),.s (.int .i64 2000)]) H')
 (h2:∀ st,ofD T=some st→∀ H' b a,H<+:H'→H.length≤b→cg_ H' b a (aA_ st)→Q (.tup [.s (.sl a (aA_ st).length 5),.s (.int .i64 0)]) H'):
 cw_ E [.agg [.sl x n 5]] H Q:=by
 refine⟨1,?_⟩;rw[tP_];refine jg_ hT (fun e H' hp=> ?_) (fun st e H' b a hp hb hi=> ?_)
 ·simp only[aR_,aG_,bP_,as_,ak_,aS_];exact h1 e H' hp
 ·simp only[aR_,aG_,bP_,as_,ak_,aS_];exact h2 st e H' b a hp hb hi
theorem q5_ (hT:Tr H x n cs T) (hs:s.size≤140737488351232)
 (h0:∀ e H',e≠0→c2_ T s=(0,0,e)→H<+:H'→Q (.tup [.a [.str (mkS []),.int .i64 0,.str (mkS []),.str (mkS []),.sl none 0 3],.s (.int .i64 e)]) H')
 (h1:∀ st i,ofD T=some st→bm_ s 4=true→cv_ (aA_ st) s=some i→∀ H' p,H<+:H'→eM_ H' p i.files→Q (.tup [.a [.str i.name,.int .i64 i.kind,.str i.parent,.str i.label,.sl p i.files.length 3],.s (.int .i64 0)]) H'):
 fv_ E [.agg [.sl x n 5],.g (.str s)] H Q:=by
 refine⟨1,?_⟩;rw[ug_];have etn:∀ k:Nat,tN (k:Int)=k:=fun _=>rfl;refine jg_ hT (fun e H' hp=> ?_) (fun st e H' b a hp hb hi=> ?_)
 ·simp only[aR_,aG_,bP_,as_,ak_,aS_];refine aa_ (fun _=>h0 2000 H' (by decide) (by unfold c2_; rw[e]) hp) (fun e=>by cases e)
 ·simp only[aR_,aG_,bP_,as_,ak_,aS_];refine aa_ (fun e=>by cases e) (fun _=> ?_);obtain⟨hh,hd,hok⟩:=g6_ e;have hasc:=fy_ (hi_ T) hd;have hia:=o3_ hasc;have hl:=eU_ hd;have h60:=ie_ T;have hlen:(aA_ st).length≤1000:=by unfold aA_; rw[List.length_map]; omega
  refine fZ_ hs ?_;simp only[aK_,al_];refine aa_ (fun e2=>h0 1901 H' (by decide) (by unfold c2_; rw[e,cR_ e2]) hp) (fun e2=> ?_);have e3:=c7_ e2;obtain⟨a1,a2⟩:=iZ_ (s:=s) hia;refine kC_ hi.rd hia hlen ?_;simp only[aR_,aG_,bP_,ak_,al_,aS_];rw[a1];cases hf:cv_ (aA_ st) s with
  | none=>
   refine aa_ (fun _=>h0 1903 H' (by decide) (by unfold c2_; rw[e,e3]; dsimp only; rw[hf]) hp) (fun e=>by cases e)
  | some i=>
   have hi2:=a2 i hf;have hp':dn_ (aA_ st) s < (aA_ st).length:=by
    refine Nat.lt_of_not_le fun q=> ?_;rw[List.getElem?_eq_none q] at hi2; cases hi2
   rw[List.getElem?_eq_getElem hp'] at hi2;have hi3:(aA_ st)[dn_ (aA_ st) s]=i:=Option.some.inj hi2;refine aa_ (fun e=>by cases e) (fun _=> ?_);refine ab_ rfl (ab_ (by simp; omega) ?_);obtain⟨l,o,p,rfl,r1,r2,r3,r4,r5,r6⟩:=hi.rd _ hp';rw[hi3] at r1 r2 r3 r4 r5 r6;simp only[ah_,etn];rw[ag_ r1,aB_,ag_ r2,ak_,ag_ r3,aB_,ag_ r4,aB_,ag_ r5];refine⟨.inr rfl,?_⟩;exact h1 st i e e3 hf H' p hp r6
theorem cu_ (hT:Tr H x n cs T) (hs:s.size≤140737488351232)
 (hQ:∀ H',H<+:H'→Q (.tup [.s (.int .i64 (((c2_ T s).1:Nat):Int)),.s (.int .i64 (((c2_ T s).2.1:Nat):Int)),.s (.int .i64 (c2_ T s).2.2)]) H'):
 bh_ E [.agg [.sl x n 5],.g (.str s)] H Q:=by
 refine⟨63,?_⟩;rw[sD_];have etn:∀ k:Nat,tN (k:Int)=k:=fun _=>rfl;refine q5_ hT hs (fun e H' he hu hp=> ?_) (fun st i e e2 e3 H' p hp hf=> ?_)
 ·simp only[aR_,aG_,gB_,bA_,ak_,aB_,as_,b0_,bP_,aS_];rw[hu] at hQ;refine aa_ (fun _=>hQ H' hp) (fun q=> ?_);have:e=0:=by simpa using q
  exact absurd this he
 ·simp only[aR_,aG_,gB_,bA_,ak_,aB_,as_,b0_,bP_,aS_];have hu:c2_ T s=(d5_ i.files,e0_ i.files,0):=by unfold c2_; rw[e,e2]; dsimp only; rw[e3]
  rw[hu] at hQ;refine aa_ (fun e=>by cases e) (fun _=> ?_);obtain⟨_,hd,hok⟩:=g6_ e;have ok:=hV_ hd;have hmem:i∈aA_ st:=by unfold cv_ at e3; exact List.mem_of_find?_eq_some e3
  obtain⟨b1,b2⟩:=ip_ ok i hmem;have hl:=eU_ hd;have h60:=ie_ T;have go:∀ (f k:Nat),i.files.length - k < f→k≤i.files.length→
   bh_.l6 E f ((d5_ (i.files.take k):Nat):Int) ((e0_ (i.files.take k):Nat):Int) p i.files.length ((i.files.length:Nat):Int) ((k:Nat):Int) H' Q:=by
   intro f;induction f with
   | zero=>intro k h; omega
   | succ f ih=>
    intro k hf' hk;rw[bh_.l6_eq];refine aa_ (fun e=> ?_) (fun e=> ?_)
    ·have hkl:k < i.files.length:=by simpa using e
     refine ab_ rfl (ab_ (by simp; omega) ?_);obtain⟨l,o,rfl,r1,r2,r3⟩:=hf _ hkl;simp only[ah_,etn];rw[ag_ r1,aB_,ag_ r2,aB_,ag_ r3,al_];have w1:ad_ .i64 (((k:Nat):Int)+1)=((k+1:Nat):Int):=ar_ (by omega);rw[w1];have bd:=pm_ (fs:=i.files.take k) fun f hf=>b2 f (List.mem_of_mem_take hf);have ht:(i.files.take k).length=k:=by rw[List.length_take]; omega
     have hsz:=b2 _ (List.getElem_mem hkl);have n1:=lI_ (i.files.take k) i.files[k];have n2:=lN_ (i.files.take k) i.files[k];rw[show i.files.take k++[i.files[k]]=i.files.take (k+1) from by rw[List.take_add_one,List.getElem?_eq_getElem hkl]; rfl] at n1 n2;refine aa_ (fun e=> ?_) (fun e=> ?_)
     ·rw[e] at n1 n2;dsimp only at n1 n2;have:=ih (k+1) (by omega) hkl;rw[n1,n2] at this;rw[show ad_ .i64 (((d5_ (i.files.take k):Nat):Int)+1)=((d5_ (i.files.take k)+1:Nat):Int) from ar_ (by omega)];rw[show ad_ .i64 (((e0_ (i.files.take k):Nat):Int)+sz i.files[k].2.1)=((e0_ (i.files.take k)+i.files[k].2.1.size:Nat):Int) by rw[cJ_ (by simp; omega) (by simp; omega)]; simp];exact this
     ·rw[e] at n1 n2;dsimp only at n1 n2;have:=ih (k+1) (by omega) hkl;rw[n1,n2] at this;exact this
    ·have:k=i.files.length:=by have: ¬ k < i.files.length:=by simpa using e
                               omega
     subst this;rw[List.take_length];exact hQ H' hp
  exact go 62 0 (by omega) (Nat.zero_le _)
end
end Go.Am
namespace Go.Am
theorem cY_ {α:Type} {f:α→List GV} {m:Nat} (hf:∀ x,(f x).length=m):∀ (l:List α) (i:Nat) (hi:i < l.length) (j:Nat),j < m→(l.flatMap f)[i*m+j]? =(f l[i])[j]?
 | [],i,hi,_,_=>by cases hi
 | x::l,0,hi,j,hj=>by
  rw[List.flatMap_cons,Nat.zero_mul,Nat.zero_add,List.getElem?_append_left (by rw[hf]; exact hj)]; rfl
 | x::l,i+1,hi,j,hj=>by
  rw[List.flatMap_cons,List.getElem?_append_right (by rw[hf,Nat.succ_mul]; omega)];rw[show (i+1)*m+j - (f x).length=i*m+j by rw[hf,Nat.succ_mul]; omega];rw[cY_ hf l i (by simpa using hi) j hj]; rfl
theorem vx_ {H:Hp} {b:Nat} {t:TypeId} {a:Pl} {n:Nat} {cs:List GV} (h:Own H b t a n cs) (hn:0 < n):∃ l,a=some (l,0)∧∀ j,gt H l j=cs[j]? :=by
 rcases h with⟨_,rfl,_⟩ | ⟨l,rfl,_,hr,_⟩
 ·cases hn
 ·exact⟨l,rfl,fun j=>bO_ hr⟩
section
variable {B H:Hp} {Q:Post} {sp n1 n2 n3:Nat} {a1 a2 a3:Pl} {st:StD}
theorem cA_.mono (h:cA_ B H sp a1 n1 a2 n2 a3 n3 st) {H':Hp} (p:H<+:H'):cA_ B H' sp a1 n1 a2 n2 a3 n3 st:=by
 obtain⟨t,hr⟩:=h.row;exact⟨⟨t,by rw[cd_ p (List.getElem?_eq_some_iff.1 hr).1]; exact hr⟩,h.pre.trans p,h.base,h.snaps.keep fun l e=>cd_ p (h.snaps.lt' e),h.links.keep fun l e=>cd_ p (h.links.lt' e),h.inos.keep fun l e=>cd_ p (h.inos.lt' e),h.l1,h.l2,h.l3,h.d12,h.d13,h.d23,h.s1,h.s2,h.s3⟩
theorem cA_.snapG (h:cA_ B H sp a1 n1 a2 n2 a3 n3 st) (i:Nat) (hi:i < st.snaps.length):∃ l,a1=some (l,0)∧gt H l (i*5)=some (.str st.snaps[i].1)∧gt H l (i*5+1)=some (.int .i64 st.snaps[i].2.id)∧gt H l (i*5+1+1)=some (.int .i64 st.snaps[i].2.kind)∧
 gt H l (i*5+1+1+1)=some (.str st.snaps[i].2.parent)∧gt H l (i*5+1+1+1+1)=some (.str st.snaps[i].2.label):=by
 obtain⟨l,e,hg⟩:=vx_ h.snaps (by have:=h.l1; omega);have hf:∀ x,(snapC x).length=5:=fun x=>rfl;refine⟨l,e,?_,?_,?_,?_,?_⟩<;>rw[hg]
 ·exact cY_ hf _ i hi 0 (by omega)
 ·exact cY_ hf _ i hi 1 (by omega)
 ·exact cY_ hf _ i hi 2 (by omega)
 ·exact cY_ hf _ i hi 3 (by omega)
 ·exact cY_ hf _ i hi 4 (by omega)
theorem cA_.linkG (h:cA_ B H sp a1 n1 a2 n2 a3 n3 st) (i:Nat) (hi:i < st.links.length):∃ l,a2=some (l,0)∧gt H l (i*4)=some (.int .i64 st.links[i].1.1)∧gt H l (i*4+1)=some (.str st.links[i].1.2)∧gt H l (i*4+1+1)=some (.int .i64 st.links[i].2.1)∧
 gt H l (i*4+1+1+1)=some (.bool st.links[i].2.2)∧gt H l (i*4+2)=some (.int .i64 st.links[i].2.1):=by
 obtain⟨l,e,hg⟩:=vx_ h.links (by have:=h.l2; omega);have hf:∀ x,(xy_ x).length=4:=fun x=>rfl;refine⟨l,e,?_,?_,?_,?_,?_⟩<;>rw[hg]
 ·exact cY_ hf _ i hi 0 (by omega)
 ·exact cY_ hf _ i hi 1 (by omega)
 ·exact cY_ hf _ i hi 2 (by omega)
 ·exact cY_ hf _ i hi 3 (by omega)
 ·exact cY_ hf _ i hi 2 (by omega)
theorem cA_.inoG (h:cA_ B H sp a1 n1 a2 n2 a3 n3 st) (i:Nat) (hi:i < st.inos.length):∃ l,a3=some (l,0)∧gt H l (i*3)=some (.int .i64 st.inos[i].1)∧gt H l (i*3+1)=some (.int .i64 st.inos[i].2.links)∧gt H l (i*3+1+1)=some (.str st.inos[i].2.content):=by
 obtain⟨l,e,hg⟩:=vx_ h.inos (by have:=h.l3; omega);have hf:∀ x,(inoC x).length=3:=fun x=>rfl;refine⟨l,e,?_,?_,?_⟩<;>rw[hg]
 ·exact cY_ hf _ i hi 0 (by omega)
 ·exact cY_ hf _ i hi 1 (by omega)
 ·exact cY_ hf _ i hi 2 (by omega)
def qP_ (l:List Int) (k:Int):Int:=match l.findIdx? (fun x=>decide (x=k)) with | some i=>(i:Int) | none=> -1
theorem rB_ {l:List Int} {k:Int} {i:Nat} (hi:i < l.length) (h:l[i]=k) (hl:∀ j (hj:j < l.length),j < i→l[j]≠k):qP_ l k=i:=by
 unfold qP_;have:l.findIdx? (fun x=>decide (x=k))=some i:=by
  rw[List.findIdx?_eq_some_iff_getElem];exact⟨hi,by simpa using h,fun j hj=>by simpa using hl j (by omega) hj⟩
 rw[this]
theorem ul_ {l:List Int} {k:Int} (h:∀ j (hj:j < l.length),l[j]≠k):qP_ l k= -1:=by
 unfold qP_;have:l.findIdx? (fun x=>decide (x=k))=none:=by
  rw[List.findIdx?_eq_none_iff];intro x hx;obtain⟨j,hj,rfl⟩:=List.getElem_of_mem hx;simpa using h j hj
 rw[this]
theorem hy_ (h:cA_ B H sp a1 n1 a2 n2 a3 n3 st) (hn:st.snaps.length≤1000) {k:Int} (hQ:Q (.g (.int .i64 (qP_ (st.snaps.map (·.2.id)) k))) H):a4_ [.g (.ptr (some (sp,0))),.g (.int .i64 k)] H Q:=by
 obtain⟨g1,g2,g3⟩:=h.rd;refine⟨st.snaps.length+2,?_⟩;rw[ma_];have etn:∀ k:Nat,tN (k:Int)=k:=fun _=>rfl;have hl:=h.l1;have go:∀ (f i:Nat),f=st.snaps.length - i→i≤st.snaps.length→(∀ j (hj:j < st.snaps.length),j < i→st.snaps[j].2.id≠k)→a4_.l2 (f+1) (some (sp,0)) k ((i:Nat):Int) H Q:=by
  intro f;induction f with
  | zero=>
   intro i hf hi hp;rw[a4_.l2_eq];simp only[ah_];rw[ag_ g1,as_];refine aa_ (fun e=> ?_) (fun e=> ?_)
   ·have:i < n1:=by simpa using e
    omega
   ·rw[ul_ (fun j hj=>by rw[List.getElem_map]; rw[List.length_map] at hj; exact hp j hj (by omega))] at hQ;exact hQ
  | succ f ih=>
   intro i hf hi hp;have hil:i < st.snaps.length:=by omega
   rw[a4_.l2_eq];simp only[ah_];rw[ag_ g1,as_];refine aa_ (fun e=> ?_) (fun e=>by simp at e; omega);rw[ag_ g1,as_];refine ab_ rfl (ab_ (by simp; omega) ?_);obtain⟨l,rfl,r1,r2,_⟩:=h.snapG i hil;simp only[ah_,etn,Nat.zero_add,Nat.add_zero];rw[ag_ r2,ak_];refine aa_ (fun e=> ?_) (fun e=> ?_)
   ·have e':st.snaps[i].2.id=k:=by simpa using e
    rw[rB_ (i:=i) (by simpa using hil) (by rw[List.getElem_map]; exact e') (fun j hj hji=>by rw[List.getElem_map]; exact hp j (by omega) hji)] at hQ;exact hQ
   ·have e': ¬ st.snaps[i].2.id=k:=by simpa using e
    rw[ar_ (by omega)];refine ih (i+1) (by omega) hil fun j hj hji=> ?_;rcases Nat.lt_or_eq_of_le (Nat.le_of_lt_succ hji) with q | q
    ·exact hp j hj q
    ·subst q; exact e'
 exact go _ 0 rfl (Nat.zero_le _) (fun j hj h=>by omega)
theorem ex_ (h:cA_ B H sp a1 n1 a2 n2 a3 n3 st) (hn:st.inos.length≤1000) {k:Int} (hQ:Q (.g (.int .i64 (qP_ (st.inos.map (·.1)) k))) H):aM_ [.g (.ptr (some (sp,0))),.g (.int .i64 k)] H Q:=by
 obtain⟨g1,g2,g3⟩:=h.rd;refine⟨st.inos.length+2,?_⟩;rw[kW_];have etn:∀ k:Nat,tN (k:Int)=k:=fun _=>rfl;have hl:=h.l3;have go:∀ (f i:Nat),f=st.inos.length - i→i≤st.inos.length→(∀ j (hj:j < st.inos.length),j < i→st.inos[j].1≠k)→aM_.l2 (f+1) (some (sp,0)) k ((i:Nat):Int) H Q:=by
  intro f;induction f with
  | zero=>
   intro i hf hi hp;rw[aM_.l2_eq];simp only[ah_];rw[ag_ g3,as_];refine aa_ (fun e=> ?_) (fun e=> ?_)
   ·have:i < n3:=by simpa using e
    omega
   ·rw[ul_ (fun j hj=>by rw[List.getElem_map]; rw[List.length_map] at hj; exact hp j hj (by omega))] at hQ;exact hQ
  | succ f ih=>
   intro i hf hi hp;have hil:i < st.inos.length:=by omega
   rw[aM_.l2_eq];simp only[ah_];rw[ag_ g3,as_];refine aa_ (fun e=> ?_) (fun e=>by simp at e; omega);rw[ag_ g3,as_];refine ab_ rfl (ab_ (by simp; omega) ?_);obtain⟨l,rfl,r1,r2,_⟩:=h.inoG i hil;simp only[ah_,etn,Nat.zero_add,Nat.add_zero];rw[ag_ r1,ak_];refine aa_ (fun e=> ?_) (fun e=> ?_)
   ·have e':st.inos[i].1=k:=by simpa using e
    rw[rB_ (i:=i) (by simpa using hil) (by rw[List.getElem_map]; exact e') (fun j hj hji=>by rw[List.getElem_map]; exact hp j (by omega) hji)] at hQ;exact hQ
   ·have e': ¬ st.inos[i].1=k:=by simpa using e
    rw[ar_ (by omega)];refine ih (i+1) (by omega) hil fun j hj hji=> ?_;rcases Nat.lt_or_eq_of_le (Nat.le_of_lt_succ hji) with q | q
    ·exact hp j hj q
    ·subst q; exact e'
 exact go _ 0 rfl (Nat.zero_le _) (fun j hj h=>by omega)
theorem rA_ {l:List Int} {k:Int}:ltI (qP_ l k) 0= !(l.any fun x=>decide (x=k)):=by
 unfold qP_;cases h:l.findIdx? (fun x=>decide (x=k)) with
 | none=>
  rw[List.findIdx?_eq_none_iff] at h;have:(l.any fun x=>decide (x=k))=false:=by rw[List.any_eq_false]; intro x hx; have:=h x hx; simpa using this
  rw[this]; rfl
 | some i=>
  rw[List.findIdx?_eq_some_iff_getElem] at h;obtain⟨hi,e,_⟩:=h;have:(l.any fun x=>decide (x=k))=true:=List.any_eq_true.2 ⟨_,List.getElem_mem hi,e⟩;rw[this]; simp
theorem nN_ (h:cA_ B H sp a1 n1 a2 n2 a3 n3 st) (hn:st.links.length≤1000∧st.inos.length≤1000) (hQ:Q (.g (.bool (cW_ st))) H):aw_ [.g (.ptr (some (sp,0)))] H Q:=by
 obtain⟨g1,g2,g3⟩:=h.rd;refine⟨st.links.length+(st.inos.length*(st.links.length+2)+1)+2,?_⟩;rw[ki_];have etn:∀ k:Nat,tN (k:Int)=k:=fun _=>rfl;have hl2:=h.l2;have hl3:=h.l3;have go7:∀ (f i F:Nat),f=st.inos.length - i→i≤st.inos.length→f*(st.links.length+2)+1≤F→(∀ l∈st.links,st.inos.any (fun x=>decide (x.1=l.2.1))=true)→(∀ j (hj:j < st.inos.length),j < i→((eD_ st st.inos[j].1:Nat):Int)=st.inos[j].2.links)→
  aw_.l7 F (some (sp,0)) ((i:Nat):Int) H Q:=by
  intro f;induction f with
  | zero=>
   intro i F hf hi hm ha hp;obtain⟨F,rfl⟩:∃ G,F=G+1:=⟨F - 1,by omega⟩;rw[aw_.l7_eq];simp only[ah_];rw[ag_ g3,as_];refine aa_ (fun e=> ?_) (fun e=> ?_)
   ·have:i < n3:=by simpa using e
    omega
   ·have:cW_ st=true:=by
     unfold cW_;rw[Bool.and_eq_true,List.all_eq_true,List.all_eq_true];refine⟨ha,fun x hx=> ?_⟩;obtain⟨j,hj,rfl⟩:=List.getElem_of_mem hx;simpa using hp j hj (by omega)
    rw[this] at hQ; exact hQ
  | succ f ih=>
   intro i F hf hi hm ha hp;have hil:i < st.inos.length:=by omega
   rw[Nat.succ_mul] at hm;generalize hW:f*(st.links.length+2)=W at hm ih;obtain⟨F,rfl⟩:∃ G,F=G+1:=⟨F - 1,by omega⟩;rw[aw_.l7_eq];simp only[ah_];rw[ag_ g3,as_];refine aa_ (fun e=> ?_) (fun e=>by simp at e; omega);obtain⟨l3,e3,q1,q2,q3⟩:=h.inoG i hil;have go11:∀ (g j F:Nat),g=st.links.length - j→j≤st.links.length→g+1+W+1≤F→
    aw_.l11 F (some (sp,0)) ((i:Nat):Int) ((((st.links.take j).countP fun l=>decide (l.2.1=st.inos[i].1)):Nat):Int) ((j:Nat):Int) H Q:=by
    intro g;induction g with
    | zero=>
     intro j F hg hj hF;obtain⟨F,rfl⟩:∃ G,F=G+1:=⟨F - 1,by omega⟩;rw[aw_.l11_eq];simp only[ah_];rw[ag_ g2,as_];refine aa_ (fun e=>by simp at e; omega) (fun e=> ?_);have hje:j=st.links.length:=by omega
     subst hje;rw[List.take_length];rw[ag_ g3,as_];refine ab_ rfl (ab_ (by simp; omega) ?_);subst e3;simp only[ah_,etn,Nat.zero_add,Nat.add_zero];rw[ag_ q2,ak_];refine aa_ (fun e=> ?_) (fun e=> ?_)
     ·have:cW_ st=false:=by
       unfold cW_;rw[Bool.and_eq_false_iff];right;rw[List.all_eq_false];refine⟨_,List.getElem_mem hil,?_⟩;unfold eD_;simpa using e
      rw[this] at hQ; exact hQ
     ·rw[ar_ (by omega)];refine ih (i+1) F (by omega) hil (by omega) ha fun j hj hji=> ?_;rcases Nat.lt_or_eq_of_le (Nat.le_of_lt_succ hji) with z | z
      ·exact hp j hj z
      ·subst z;unfold eD_;simpa using e
    | succ g ihF=>
     intro j F hg hj hF;have hjl:j < st.links.length:=by omega
     obtain⟨F,rfl⟩:∃ G,F=G+1:=⟨F - 1,by omega⟩;rw[aw_.l11_eq];simp only[ah_];rw[ag_ g2,as_];refine aa_ (fun e=> ?_) (fun e=>by simp at e; omega);rw[ag_ g2,as_];refine ab_ rfl (ab_ (by simp; omega) ?_);obtain⟨l2,rfl,_,_,p3,_,p5⟩:=h.linkG j hjl;simp only[ah_,etn,Nat.zero_add,Nat.add_zero];rw[ag_ p5,ak_];rw[ag_ g3,as_];refine ab_ rfl (ab_ (by simp; omega) ?_);subst e3;simp only[ah_,etn,Nat.zero_add,Nat.add_zero];rw[ag_ q1,ak_];have w1:ad_ .i64 (((j:Nat):Int)+1)=((j+1:Nat):Int):=ar_ (by omega);have hc:((st.links.take (j+1)).countP fun l=>decide (l.2.1=st.inos[i].1))=((st.links.take j).countP fun l=>decide (l.2.1=st.inos[i].1))+(if st.links[j].2.1=st.inos[i].1 then 1 else 0):=by
      rw[List.take_add_one,List.getElem?_eq_getElem hjl,List.countP_append];by_cases z:st.links[j].2.1=st.inos[i].1<;>simp [z]
     have hle:((st.links.take j).countP fun l=>decide (l.2.1=st.inos[i].1))≤st.links.length:=Nat.le_trans List.countP_le_length (by rw[List.length_take]; omega);refine aa_ (fun e=> ?_) (fun e=> ?_)
     ·have e':st.links[j].2.1=st.inos[i].1:=by simpa using e
      rw[if_pos e'] at hc;have:=ihF (j+1) F (by omega) hjl (by omega);rw[hc] at this;rw[w1,show ad_ .i64 (((((st.links.take j).countP fun l=>decide (l.2.1=st.inos[i].1)):Nat):Int)+1)=((((st.links.take j).countP fun l=>decide (l.2.1=st.inos[i].1))+1:Nat):Int) from ar_ (by omega)];exact this
     ·have e': ¬ st.links[j].2.1=st.inos[i].1:=by simpa using e
      rw[if_neg e',Nat.add_zero] at hc;have:=ihF (j+1) F (by omega) hjl (by omega);rw[hc] at this;rw[w1];exact this
   exact go11 _ 0 F rfl (Nat.zero_le _) (by omega)
 have go2:∀ (f i F:Nat),f=st.links.length - i→i≤st.links.length→f+(st.inos.length*(st.links.length+2)+1)+1≤F→(∀ j (hj:j < st.links.length),j < i→st.inos.any (fun x=>decide (x.1=st.links[j].2.1))=true)→
  aw_.l2 F (some (sp,0)) ((i:Nat):Int) H Q:=by
  intro f;induction f with
  | zero=>
   intro i F hf hi hF hp;obtain⟨F,rfl⟩:∃ G,F=G+1:=⟨F - 1,by omega⟩;rw[aw_.l2_eq];simp only[ah_];rw[ag_ g2,as_];refine aa_ (fun e=>by simp at e; omega) (fun e=> ?_);refine go7 _ 0 F rfl (Nat.zero_le _) (by rw[Nat.sub_zero]; omega) (fun l hl=> ?_) (fun j hj h=>by omega);obtain⟨j,hj,rfl⟩:=List.getElem_of_mem hl;exact hp j hj (by omega)
  | succ f ih=>
   intro i F hf hi hF hp;have hil:i < st.links.length:=by omega
   obtain⟨F,rfl⟩:∃ G,F=G+1:=⟨F - 1,by omega⟩;rw[aw_.l2_eq];simp only[ah_];rw[ag_ g2,as_];refine aa_ (fun e=> ?_) (fun e=>by simp at e; omega);rw[ag_ g2,as_];refine ab_ rfl (ab_ (by simp; omega) ?_);obtain⟨l2,rfl,_,_,p3,_,p5⟩:=h.linkG i hil;simp only[ah_,etn,Nat.zero_add,Nat.add_zero];rw[ag_ p5,ak_];refine ex_ h hn.2 ?_;simp only[aK_,ak_];rw[rA_,List.any_map];refine aa_ (fun e=> ?_) (fun e=> ?_)
   ·have:cW_ st=false:=by
     unfold cW_;rw[Bool.and_eq_false_iff];left;rw[List.all_eq_false];refine⟨_,List.getElem_mem hil,?_⟩;have e':=cR_ e;intro z;have:(st.inos.any ((fun x=>decide (x=st.links[i].2.1)) ∘ fun x=>x.1))=true:=z;rw[this] at e'; cases e'
    rw[this] at hQ; exact hQ
   ·rw[ar_ (by omega)];refine ih (i+1) F (by omega) hil (by omega) fun j hj hji=> ?_;rcases Nat.lt_or_eq_of_le (Nat.le_of_lt_succ hji) with z | z
    ·exact hp j hj z
    ·subst z; exact c7_ e
 exact go2 _ 0 _ rfl (Nat.zero_le _) (by omega) (fun j hj h=>by omega)
end
end Go.Am
section
namespace Go.Am
theorem mn_:∀ (fs gs:List FileR),b2_ (fs++gs)=b2_ fs++b2_ gs
 | [],_=>rfl
 | f::fs,gs=>by rw[List.cons_append,b2_,b2_,mn_ fs gs,List.append_assoc]
theorem zX_ {H:Hp} {b:Nat} {a:Pl} {fs:List FileR} (h:Own H b 51 a (fs.length*3) (b2_ fs)):cF_ H a fs∧∀ l o,a=some (l,o)→b≤l:=by
 rcases h with⟨rfl,hn,_⟩ | ⟨l,rfl,hb,hr,_⟩
 ·have:fs=[]:=List.length_eq_zero_iff.1 (by omega);exact⟨.inl ⟨rfl,this⟩,fun l o e=>by cases e⟩
 ·exact⟨.inr ⟨l,rfl,hr⟩,fun l' o e=>by cases e; exact hb⟩
theorem oB_ {α β:Type} [DecidableEq α] {ps:List (α × β)} {k:α}:(ps.any fun x=>decide (x.1=k))=(look ps k).isSome:=by
 unfold look;rw[Option.isSome_map,Bool.eq_iff_iff,List.find?_isSome,List.any_eq_true]
theorem qb_ {ps:List (Int × InoR)} {k:Int} {y:InoR} (h:look ps k=some y):∃ i,∃ hi:i < ps.length,qP_ (ps.map (·.1)) k=((i:Nat):Int)∧ps[i]=(k,y):=by
 unfold look at h;cases hf:ps.find? fun p=>decide (p.1=k) with
 | none=>rw[hf] at h; cases h
 | some p=>
  rw[hf] at h; cases h;rw[List.find?_eq_some_iff_getElem] at hf;obtain⟨h1,i,hi,e,hl⟩:=hf;have h1':p.1=k:=by simpa using h1
  refine⟨i,hi,rB_ (by simpa using hi) (by rw[List.getElem_map,e]; exact h1') (fun j hj hji=> ?_),by rw[e,←h1']⟩;rw[List.getElem_map];simpa using hl j hji
section
variable {B H:Hp} {Q:Post} {sp n1 n2 n3:Nat} {a1 a2 a3:Pl} {st:StD}
set_option maxRecDepth 10000 in
theorem ey_ (h:cA_ B H sp a1 n1 a2 n2 a3 n3 st) (hn:st.snaps.length≤900∧st.links.length≤900∧st.inos.length≤900) (hk:∀ l∈st.links,(st.inos.any fun x=>decide (x.1=l.2.1))=true)
 (hQ:∀ H' a,H<+:H'→cg_ H' H.length a (aA_ st)→Q (.g (.sl a (aA_ st).length 5)) H'):ax_ [.g (.ptr (some (sp,0)))] H Q:=by
 refine⟨st.snaps.length*(st.links.length+2)+1+1,?_⟩;rw[kL_];have etn:∀ k:Nat,tN (k:Int)=k:=fun _=>rfl;have hl1:=h.l1;have hl2:=h.l2;have hl3:=h.l3;have hlen:(aA_ st).length=st.snaps.length:=by unfold aA_; rw[List.length_map]
 have go3:∀ (f i F:Nat) (G:Hp) (a:Pl),f=st.snaps.length - i→i≤st.snaps.length→f*(st.links.length+2)+1≤F→H<+:G→cg_ G H.length a ((aA_ st).take i)→
  ax_.l3 F (some (sp,0)) a i ((i:Nat):Int) G Q:=by
  intro f;induction f with
  | zero=>
   intro i F G a hf hi hF hG ha;obtain⟨F,rfl⟩:∃ G,F=G+1:=⟨F - 1,by omega⟩;obtain⟨g1,g2,g3⟩:=(h.mono hG).rd;rw[ax_.l3_eq];simp only[ah_];rw[ag_ g1,as_];refine aa_ (fun e=>by simp at e; omega) (fun e=> ?_);have hie:i=(aA_ st).length:=by omega
   rw[hie,List.take_length] at ha;rw[hie];exact hQ G a hG ha
  | succ f ih=>
   intro i F G a hf hi hF hG ha;have hil:i < st.snaps.length:=by omega
   rw[Nat.succ_mul] at hF;generalize hW:f*(st.links.length+2)=W at hF ih;obtain⟨F,rfl⟩:∃ G,F=G+1:=⟨F - 1,by omega⟩;have hR:=h.mono hG;obtain⟨g1,g2,g3⟩:=hR.rd;rw[ax_.l3_eq];simp only[ah_];rw[ag_ g1,as_];refine aa_ (fun e=> ?_) (fun e=>by simp at e; omega);rw[ag_ g1,as_];refine ab_ rfl (ab_ (by simp; omega) ?_);obtain⟨l1,e1,r1,r2,r3,r4,r5⟩:=hR.snapG i hil;subst e1;simp only[ah_,etn,Nat.zero_add,Nat.add_zero];rw[ag_ r1,aB_,ag_ r2,ak_,ag_ r3,ak_,ag_ r4,aB_,ag_ r5,aB_];generalize hx:st.snaps[i]=x;have hGs0:=hG;generalize hGs:G=Gs at hGs0 ha;have go8:∀ (g j F:Nat) (G:Hp) (p:Pl) (fs:List FileR),g=st.links.length - j→j≤st.links.length→g+1+W+1≤F→Gs<+:G→Own G Gs.length 51 p (fs.length*3) (b2_ fs)→
    fs=((st.links.take j).filter fun l=>decide (l.1.1=x.2.id)).map (bs_ st)→
    ax_.l8 F (some (sp,0)) a i ((i:Nat):Int) x.1 x.2.id x.2.kind x.2.parent x.2.label x.1 x.2.kind x.2.parent x.2.label p fs.length ((j:Nat):Int) G Q:=by
    intro g;induction g with
    | zero=>
     intro j F G p fs hg hj hF hG' ho hfs;have hG:=hGs0.trans hG';obtain⟨F,rfl⟩:∃ G,F=G+1:=⟨F - 1,by omega⟩;have hR:=h.mono hG;obtain⟨g1,g2,g3⟩:=hR.rd;rw[ax_.l8_eq];simp only[ah_];rw[ag_ g2,as_];refine aa_ (fun e=>by simp at e; omega) (fun e=> ?_);have hje:j=st.links.length:=by omega
     rw[hje,List.take_length] at hfs;obtain⟨f1,f2⟩:=zX_ ho;have hi':i < (aA_ st).length:=by omega
     have hinf:(aA_ st)[i]=⟨x.1,x.2.kind,x.2.parent,x.2.label,fs⟩:=by
      have:(aA_ st)[i]? =some ⟨x.1,x.2.kind,x.2.parent,x.2.label,fs⟩:=by
       unfold aA_;rw[List.getElem?_map,List.getElem?_eq_getElem hil,hx,hfs]; rfl
      rw[List.getElem?_eq_getElem hi'] at this;exact Option.some.inj this
     refine ab_ rfl ?_;have hti:((aA_ st).take i).length=i:=by rw[List.length_take]; omega
     have key:=pQ_ (i:=⟨x.1,x.2.kind,x.2.parent,x.2.label,fs⟩) (K:=fun a' n' G'=>ax_.l3 F (some (sp,0)) a' n' (ad_ .i64 (((i:Nat):Int)+1)) G' Q) (ha.pre hG') hG.length_le f1 (fun l o e=>⟨Nat.le_trans hGs0.length_le (f2 l o e),fun o' q=>by subst q; have:=ha.lt; have:=f2 l o e; omega⟩) (by omega) fun a' G' ha' hk' hl'=>by
      rw[List.length_append,hti,List.length_singleton,ar_ (by omega)];refine ih (i+1) F G' a' (by omega) hil (by omega) (xI_ (Nat.le_trans hG.length_le hl') fun l hl=>by rw[hk' l hl,cd_ hG hl]) ?_;rw[List.take_add_one,List.getElem?_eq_getElem hi',hinf]; exact ha'
     rw[hti] at key;exact key
    | succ g ihg=>
     intro j F G p fs hg hj hF hG' ho hfs;have hG:=hGs0.trans hG';have hjl:j < st.links.length:=by omega
     obtain⟨F,rfl⟩:∃ G,F=G+1:=⟨F - 1,by omega⟩;have hR:=h.mono hG;obtain⟨g1,g2,g3⟩:=hR.rd;rw[ax_.l8_eq];simp only[ah_];rw[ag_ g2,as_];refine aa_ (fun e=> ?_) (fun e=>by simp at e; omega);rw[ag_ g2,as_];refine ab_ rfl (ab_ (by simp; omega) ?_);obtain⟨l2,e2,q1,q2,q3,q4,_⟩:=hR.linkG j hjl;subst e2;simp only[ah_,etn,Nat.zero_add,Nat.add_zero];rw[ag_ q1,ak_,ag_ q2,aB_,ag_ q3,ak_,ag_ q4,al_];refine ex_ hR (by omega) ?_;simp only[aK_,ak_];have hlk:=hk _ (List.getElem_mem hjl);rw[oB_] at hlk;obtain⟨y,hy⟩:=Option.isSome_iff_exists.1 hlk;obtain⟨m,hm,em,ey⟩:=qb_ hy;rw[em];have w1:ad_ .i64 (((j:Nat):Int)+1)=((j+1:Nat):Int):=ar_ (by omega);rw[w1];have hfile:bs_ st st.links[j]=(st.links[j].1.2,y.content,st.links[j].2.2):=by unfold bs_; rw[hy]
     have htk:(st.links.take (j+1)).filter (fun l=>decide (l.1.1=x.2.id))=(st.links.take j).filter (fun l=>decide (l.1.1=x.2.id))++(if st.links[j].1.1=x.2.id then [st.links[j]] else []):=by
      rw[List.take_add_one,List.getElem?_eq_getElem hjl,List.filter_append];congr 1;by_cases z:st.links[j].1.1=x.2.id<;>simp [z]
     refine aa_ (fun e=> ?_) (fun e=> ?_)
     ·have e':st.links[j].1.1=x.2.id:=by simpa using e
      rw[if_pos e'] at htk;refine aa_ (fun _=> ?_) (fun e=>by simp at e);rw[ag_ g3,as_];refine ab_ rfl (ab_ (by simp; omega) ?_);obtain⟨l3,e3,_,_,z3⟩:=hR.inoG m hm;subst e3;simp only[ah_,etn,Nat.zero_add,Nat.add_zero];rw[ag_ z3,aB_,ey];dsimp only;refine ab_ rfl ?_;have hfl:fs.length≤900:=by
       rw[hfs,List.length_map];exact Nat.le_trans (List.length_filter_le _ _) (by rw[List.length_take]; omega)
      have hH0:H<+:G:=hG;refine i6_ (H0:=Gs) (by omega) hG' ho (m:=1) rfl (by unfold Lim; omega) fun p' G' o' ex fr=> ?_;have hcs:b2_ fs++[.str st.links[j].1.2,.str y.content,.bool st.links[j].2.2]=b2_ (fs++[bs_ st st.links[j]]):=by
       rw[mn_,hfile]; rfl
      rw[hcs] at o';have hfl':(fs++[bs_ st st.links[j]]).length=fs.length+1:=by simp
      rw[←hfl'] at o' ⊢;exact ihg (j+1) F G' p' _ (by omega) hjl (by omega) ex.pre o' (by rw[hfs,htk,List.map_append]; rfl)
     ·have e': ¬ st.links[j].1.1=x.2.id:=by simpa using e
      rw[if_neg e',List.append_nil] at htk;exact ihg (j+1) F G p fs (by omega) hjl (by omega) hG' ho (by rw[htk]; exact hfs)
   subst hGs;exact go8 _ 0 F G none [] rfl (Nat.zero_le _) (by omega) (List.prefix_refl _) (.inl ⟨rfl,rfl,rfl⟩) rfl
 exact go3 _ 0 _ H none rfl (Nat.zero_le _) (by rw[Nat.sub_zero]; omega) (List.prefix_refl _) (.inl ⟨rfl,by simp⟩)
end
end Go.Am
end
namespace Go.Am
theorem sx_ {f:StD→ByteArray × ByteArray→Option StD}:∀ (l:KV) (st:StD) (x:ByteArray × ByteArray),gI_ f st (l++[x])=match gI_ f st l with | some s=>f s x | none=>none
 | [],st,x=>by
  simp only[List.nil_append,gI_];cases f st x<;>rfl
 | y::l,st,x=>by
  rw[List.cons_append];unfold gI_;cases f st y with
  | none=>rfl
  | some s=>dsimp only; exact sx_ l s x
theorem wk_ {ps:KV} {i:Nat} (hi:i < ps.length):dA_ (ps.take (i+1))=match dA_ (ps.take i) with | some s=>hG_ s ps[i] | none=>none:=by
 unfold dA_;rw[List.take_add_one,List.getElem?_eq_getElem hi];exact sx_ _ _ _
theorem pD_ {ps:KV} {i:Nat} (h:dA_ (ps.take i)=none):dA_ ps=none:=by
 rw[nk_] at h ⊢;split at h
 ·cases h
 ·rename_i e;rw[if_neg];intro q;apply e;rw[List.all_eq_true] at q ⊢;exact fun x hx=>q x (List.mem_of_mem_take hx)
theorem uu_ {l:List Int}:l.Nodup↔∀ i (hi:i < l.length),qP_ l l[i]=i:=by
 constructor
 ·intro h i hi;refine rB_ hi rfl fun j hj hji e=> ?_;have:=(List.getElem_inj (h₀:=hj) (h₁:=hi) h).1 e;omega
 ·intro h;unfold List.Nodup;rw[List.pairwise_iff_getElem];intro i j hi hj hij e;have h1:=h i hi;have h2:=h j hj;rw[e] at h1;omega
section
variable {H:Hp} {Q:Post} {x:Pl} {n:Nat} {cs:List PC} {T:List Pg} {s:ByteArray}
theorem fU_ (hT:Tr H x n cs T)
 (h1:ofD T=none→∀ H' p,H<+:H'→Q (.tup [.s (.ptr p),.s (.bool false)]) H')
 (h2:∀ st,ofD T=some st→∀ B H' sp a1 n1 a2 n2 a3 n3,H<+:B→cA_ B H' sp a1 n1 a2 n2 a3 n3 st→Q (.tup [.s (.ptr (some (sp,0))),.s (.bool true)]) H'):
 bB_ [.agg [.sl x n 5]] H Q:=by
 refine⟨200,?_⟩;rw[wQ_];refine tQ_ hT fun a m H1 p1 o1 l1=> ?_;simp only[aR_,aG_,bP_,as_,ak_,aS_,fl_,e4_];have etn:∀ k:Nat,tN (k:Int)=k:=fun _=>rfl;have hm60:=ie_ T;have hkv:=yV_ T;refine aa_ (fun e=> ?_) (fun e=> ?_)
 ·refine h1 ?_ _ _ (p1.trans (ce_ _ _));unfold ofD;cases hh:decide (0 < aU_ T) with
  | false=>rfl
  | true=>unfold ks_ at e; rw[hh] at e; cases e
 have hh:decide (0 < aU_ T)=true:=by
  cases hh:decide (0 < aU_ T) with
  | true=>rfl
  | false=>unfold ks_ at e; rw[hh] at e; cases e
 have hof:ofD T=dx_ (dT_ T):=by unfold ofD; rw[hh]
 have R0:cA_ H1 (H1++[.row true 78 [.sl none 0 5,.sl none 0 4,.sl none 0 3]]) H1.length none 0 none 0 none 0 st0:=
  ⟨⟨78,by rw[List.getElem?_concat_length]⟩,ce_ _ _,Nat.le_refl _,.inl ⟨rfl,rfl,rfl⟩,.inl ⟨rfl,rfl,rfl⟩,.inl ⟨rfl,rfl,rfl⟩,rfl,rfl,rfl,(fun l e=>by cases e),(fun l e=>by cases e),(fun l e=>by cases e),(by simp),(by simp),(by simp)⟩
 have go11:∀ (f i F:Nat) (G:Hp) (a1:Pl) (n1:Nat) (a2:Pl) (n2:Nat) (a3:Pl) (n3:Nat) (st:StD),f=st.snaps.length - i→i≤st.snaps.length→f+1≤F→dA_ (dT_ T)=some st→cA_ H1 G H1.length a1 n1 a2 n2 a3 n3 st→(∀ j (hj:j < st.snaps.length),j < i→qP_ (st.snaps.map (·.2.id)) st.snaps[j].2.id=j)→
  bB_.l11 F H1.length 0 ((i:Nat):Int) H1.length 0 G Q:=by
  intro f;induction f with
  | zero=>
   intro i F G a1 n1 a2 n2 a3 n3 st hf hi hF hd hR hp;obtain⟨F,rfl⟩:∃ G,F=G+1:=⟨F - 1,by omega⟩;have hl1:=hR.l1;obtain⟨g1,g2,g3⟩:=hR.rd;obtain⟨d1,d2,d3⟩:=eU_ hd;have hasc:=fy_ (hi_ T) hd;rw[bB_.l11_eq,ag_ g1,as_];refine aa_ (fun e=>by simp at e; omega) (fun e=> ?_);have hnd:(st.snaps.map fun x=>x.2.id).Nodup:=uu_.2 fun j hj=>by
    rw[List.length_map] at hj;rw[List.getElem_map];exact hp j hj (by omega)
   have hpre:=p1.trans hR.pre;refine nN_ hR ⟨by omega,by omega⟩ ?_;simp only[aK_,al_];refine aa_ (fun e=> ?_) (fun e=> ?_)
   ·have hlk:∀ l∈st.links,(st.inos.any fun x=>decide (x.1=l.2.1))=true:=by
     unfold cW_ at e;rw[Bool.and_eq_true,List.all_eq_true] at e;exact e.1
    refine ey_ hR ⟨by omega,by omega,by omega⟩ hlk fun G1 ia pG1 hia=> ?_;simp only[aK_,as_];have sz:=(gP_ hasc).sizes (hV_ hd) (by omega);refine ek_ hia.rd (o3_ hasc) (by omega) sz.2 ?_;simp only[aK_,al_];have hsok:hN_ st=bt_ (aA_ st) (aA_ st).length 0:=by unfold hN_; rw[e,decide_eq_true hnd]; rfl
    cases hf:bt_ (aA_ st) (aA_ st).length 0 with
    | false=>
     refine h1 ?_ _ _ (hpre.trans pG1);rw[hof]; unfold dx_; rw[hd]; dsimp only; rw[hsok,hf]
    | true=>
     exact h2 st (by rw[hof]; unfold dx_; rw[hd]; dsimp only; rw[hsok,hf]) H1 G1 H1.length a1 n1 a2 n2 a3 n3 p1 (hR.mono pG1)
   ·refine h1 ?_ _ _ hpre;rw[hof]; unfold dx_; rw[hd]; dsimp only; rw[show hN_ st=false by unfold hN_; rw[e,Bool.false_and]]
  | succ f ih=>
   intro i F G a1 n1 a2 n2 a3 n3 st hf hi hF hd hR hp;have hil:i < st.snaps.length:=by omega
   obtain⟨F,rfl⟩:∃ G,F=G+1:=⟨F - 1,by omega⟩;have hl1:=hR.l1;obtain⟨g1,g2,g3⟩:=hR.rd;obtain⟨d1,d2,d3⟩:=eU_ hd;rw[bB_.l11_eq,ag_ g1,as_];refine aa_ (fun e=> ?_) (fun e=>by simp at e; omega);rw[ag_ g1,as_];refine ab_ rfl (ab_ (by simp; omega) ?_);obtain⟨l,rfl,r1,r2,_⟩:=hR.snapG i hil;simp only[ah_,etn,Nat.zero_add,Nat.add_zero];rw[ag_ r2,ak_];refine hy_ hR (by omega) ?_;simp only[aK_,ak_];refine aa_ (fun e=> ?_) (fun e=> ?_)
   ·refine h1 ?_ _ _ (p1.trans hR.pre);rw[hof]; unfold dx_; rw[hd]; dsimp only;rw[show hN_ st=false by
     unfold hN_;rw[show decide (st.snaps.map fun x=>x.2.id).Nodup=false by
      rw[decide_eq_false_iff_not];intro q;have:=uu_.1 q i (by simpa using hil);rw[List.getElem_map] at this;rw[this] at e;simp at e]
     rw[Bool.false_and,Bool.and_false]]
   ·rw[ar_ (by omega)];refine ih (i+1) F G _ n1 a2 n2 a3 n3 st (by omega) hil (by omega) hd hR fun j hj hji=> ?_;rcases Nat.lt_or_eq_of_le (Nat.le_of_lt_succ hji) with z | z
    ·exact hp j hj z
    ·subst z; simpa using e
 have go6:∀ (f i F:Nat) (G:Hp) (a1:Pl) (n1:Nat) (a2:Pl) (n2:Nat) (a3:Pl) (n3:Nat) (st:StD),f=m - i→i≤m→f+100≤F→dA_ ((dT_ T).take i)=some st→cA_ H1 G H1.length a1 n1 a2 n2 a3 n3 st→
  bB_.l6 F a m H1.length 0 ((i:Nat):Int) H1.length 0 G Q:=by
  intro f;induction f with
  | zero=>
   intro i F G a1 n1 a2 n2 a3 n3 st hf hi hF hd hR;obtain⟨F,rfl⟩:∃ G,F=G+1:=⟨F - 1,by omega⟩;rw[bB_.l6_eq];refine aa_ (fun e=>by simp at e; omega) (fun e=> ?_);rw[List.take_of_length_le (by omega)] at hd;have:=eU_ hd;exact go11 _ 0 F G a1 n1 a2 n2 a3 n3 st rfl (Nat.zero_le _) (by omega) hd hR (fun j hj h=>by omega)
  | succ f ih=>
   intro i F G a1 n1 a2 n2 a3 n3 st hf hi hF hd hR;have him:i < m:=by omega
   obtain⟨F,rfl⟩:∃ G,F=G+1:=⟨F - 1,by omega⟩;rw[bB_.l6_eq];refine aa_ (fun e=> ?_) (fun e=>by simp at e; omega);obtain⟨l,o,rfl,q1,q2⟩:=Kv.get (H:=G) (Kv.mono hR.pre ⟨o1.cells,l1⟩) (i:=i) (by omega);refine ab_ rfl (ab_ (by simp; omega) ?_);simp only[ah_,etn];rw[ag_ q1,aB_,ag_ q2,aB_];have hmem:=hkv _ (List.getElem_mem (show i < (dT_ T).length by omega));have d:=eU_ hd;have ht:((dT_ T).take i).length≤i:=by rw[List.length_take]; omega
   have hl1:=hR.l1;have hl2:=hR.l2;have hl3:=hR.l3;have hstep:=wk_ (ps:=dT_ T) (i:=i) (by omega);rw[hd] at hstep;dsimp only at hstep;refine qQ_ (by omega) (by omega) hR ⟨by omega,by omega,by omega⟩ (fun hn a1 n1 a2 n2 a3 n3 st' G' hR'=> ?_) (fun st' hs a1 n1 a2 n2 a3 n3 G' hR'=> ?_)
   ·simp only[aK_,al_];rw[show hG_ st (dT_ T)[i]=none from hn] at hstep;refine aa_ (fun _=> ?_) (fun e=>by cases e);refine h1 ?_ _ _ (p1.trans hR'.pre);rw[hof]; unfold dx_; rw[pD_ hstep]
   ·simp only[aK_,al_];rw[show hG_ st (dT_ T)[i]=some st' from hs] at hstep;refine aa_ (fun e=>by cases e) (fun _=> ?_);rw[ar_ (by omega)];exact ih (i+1) F G' a1 n1 a2 n2 a3 n3 st' (by omega) him (by omega) hstep hR'
 exact go6 _ 0 _ _ none 0 none 0 none 0 st0 rfl (Nat.zero_le _) (by omega) rfl R0
theorem n4_ {st:StD} (h:hN_ st=true):∀ l∈st.links,(st.inos.any fun x=>decide (x.1=l.2.1))=true:=by
 unfold hN_ cW_ at h;rw[Bool.and_eq_true,Bool.and_eq_true,List.all_eq_true] at h;exact h.1.1
theorem gL_ (hT:Tr H x n cs T)
 (h1:ofD T=none→∀ H',H<+:H'→Q (.tup [.s (.sl none 0 5),.s (.int .i64 2000)]) H')
 (h2:∀ st,ofD T=some st→∀ H' b a,H<+:H'→H.length≤b→cg_ H' b a (aA_ st)→Q (.tup [.s (.sl a (aA_ st).length 5),.s (.int .i64 0)]) H'):
 dM_ [.agg [.sl x n 5]] H Q:=by
 refine⟨1,?_⟩;rw[s0_];refine fU_ hT (fun e H' p hp=> ?_) (fun st e B H' sp a1 n1 a2 n2 a3 n3 hB hR=> ?_)
 ·simp only[aR_,aG_,bP_,gz_,al_,aS_];refine aa_ (fun _=>h1 e H' hp) (fun e=>by cases e)
 ·simp only[aR_,aG_,bP_,gz_,al_,aS_];refine aa_ (fun e=>by cases e) (fun _=> ?_);obtain⟨_,hd,hok⟩:=g6_ e;have d:=eU_ hd;have h60:=ie_ T;refine ey_ hR ⟨by omega,by omega,by omega⟩ (n4_ hok) fun G a pG ha=> ?_;simp only[aK_,as_];have hp:=hB.trans hR.pre;exact h2 st e G _ a (hp.trans pG) hp.length_le ha
end
end Go.Am
namespace Go.Am
section
variable {H:Hp} {Q:Post} {x:Pl} {n:Nat} {cs:List PC} {T:List Pg} {s:ByteArray}
theorem p9_ (hT:Tr H x n cs T) (hs:s.size≤140737488351232)
 (hQ:∀ H',H<+:H'→Q (.tup [.s (.int .i64 (((c2_ T s).1:Nat):Int)),.s (.int .i64 (((c2_ T s).2.1:Nat):Int)),.s (.int .i64 (c2_ T s).2.2)]) H'):
 b7_ [.agg [.sl x n 5],.g (.str s)] H Q:=by
 refine⟨63,?_⟩;rw[sV_];have etn:∀ k:Nat,tN (k:Int)=k:=fun _=>rfl;refine gL_ hT (fun e H' hp=> ?_) (fun st e H' b a hp hb hi=> ?_)
 ·simp only[aR_,aG_,bP_,as_,ak_,aS_];refine mr_ (is:=[]) (fun i hi=>by cases hi) (by simp) (fun i hi=>by cases hi) (fun _=> ?_);simp only[aK_,ak_];refine aa_ (fun _=> ?_) (fun e=>by cases e);rw[show c2_ T s=(0,0,2000) by unfold c2_; rw[e]] at hQ;exact hQ H' hp
 ·simp only[aR_,aG_,bP_,as_,ak_,aS_];obtain⟨hh,hd,hok⟩:=g6_ e;have hasc:=fy_ (hi_ T) hd;have hia:=o3_ hasc;have ok:=hV_ hd;have hl:=eU_ hd;have h60:=ie_ T;have hlen:(aA_ st).length≤1000:=by unfold aA_; rw[List.length_map]; omega
  obtain⟨a1,a2⟩:=iZ_ (s:=s) hia;have hu:c2_ T s=match bm_ s 4 with
   | false=>(0,0,1901)
   | true=>match cv_ (aA_ st) s with
    | none=>(0,0,1903)
    | some i=>(d5_ i.files,e0_ i.files,0):=by unfold c2_; rw[e]<;>rfl
  refine eN_ hi.rd hia hlen (fun hin=> ?_) (fun hin=> ?_)
  ·simp only[aK_,ak_];refine aa_ (fun e=>by cases e) (fun _=> ?_);refine bR_ hs ?_;simp only[aK_,al_];refine aa_ (fun e2=> ?_) (fun e2=> ?_)
   ·rw[cR_ e2] at hu;rw[hu] at hQ; exact hQ H' hp
   rw[c7_ e2] at hu;refine aa_ (fun e=>by simp at e; omega) (fun _=> ?_);obtain⟨hp',hnm⟩:=k3_ hia hin;rw[a1] at hin;obtain⟨i,hf⟩:=Option.isSome_iff_exists.1 hin;have hi2:=a2 i hf;rw[List.getElem?_eq_getElem hp'] at hi2;have hi3:(aA_ st)[dn_ (aA_ st) s]=i:=Option.some.inj hi2;dsimp only at hu;rw[hf] at hu;dsimp only at hu;rw[hu] at hQ;have hmem:i∈aA_ st:=by unfold cv_ at hf; exact List.mem_of_find?_eq_some hf
   obtain⟨b1,b2⟩:=ip_ ok i hmem;obtain⟨l,o,p,rfl,r1,r2,r3,r4,r5,r6⟩:=hi.rd _ hp';rw[hi3] at r1 r2 r3 r4 r5 r6;have go:∀ (f k:Nat),i.files.length - k < f→k≤i.files.length→
    b7_.l11 f (some (l,o)) (aA_ st).length ((dn_ (aA_ st) s:Nat):Int) ((d5_ (i.files.take k):Nat):Int) ((e0_ (i.files.take k):Nat):Int) ((k:Nat):Int) H' Q:=by
    intro f;induction f with
    | zero=>intro k h; omega
    | succ f ih=>
     intro k hf' hk;rw[b7_.l11_eq];refine ab_ rfl (ab_ (by simp; omega) ?_);simp only[ah_,etn];have r5':gt H' l (o+dn_ (aA_ st) s*5+4)=some (.sl p i.files.length 3):=r5;rw[ag_ r5',as_];refine aa_ (fun e=> ?_) (fun e=> ?_)
     ·have hkl:k < i.files.length:=by simpa using e
      refine ab_ rfl (ab_ (by simp; omega) ?_);rw[ag_ r5',as_];refine ab_ rfl (ab_ (by simp; omega) ?_);obtain⟨l2,o2,rfl,q1,q2,q3⟩:=r6 _ hkl;have q3':gt H' l2 (o2+k*3+2)=some (.bool i.files[k].2.2):=q3;simp only[ah_,etn];rw[ag_ q3',al_];have w1:ad_ .i64 (((k:Nat):Int)+1)=((k+1:Nat):Int):=ar_ (by omega);rw[w1];have bd:=pm_ (fs:=i.files.take k) fun f hf=>b2 f (List.mem_of_mem_take hf);have ht:(i.files.take k).length=k:=by rw[List.length_take]; omega
      have hsz:=b2 _ (List.getElem_mem hkl);have n1:=lI_ (i.files.take k) i.files[k];have n2:=lN_ (i.files.take k) i.files[k];rw[show i.files.take k++[i.files[k]]=i.files.take (k+1) from by rw[List.take_add_one,List.getElem?_eq_getElem hkl]; rfl] at n1 n2;refine aa_ (fun e=> ?_) (fun e=> ?_)
      ·rw[e] at n1 n2;dsimp only at n1 n2;refine ab_ rfl (ab_ (by simp; omega) ?_);rw[ag_ r5',as_];refine ab_ rfl (ab_ (by simp; omega) ?_);simp only[ah_,etn];rw[ag_ q2,aB_];have:=ih (k+1) (by omega) hkl;rw[n1,n2] at this;rw[show ad_ .i64 (((d5_ (i.files.take k):Nat):Int)+1)=((d5_ (i.files.take k)+1:Nat):Int) from ar_ (by omega)];rw[show ad_ .i64 (((e0_ (i.files.take k):Nat):Int)+sz i.files[k].2.1)=((e0_ (i.files.take k)+i.files[k].2.1.size:Nat):Int) by rw[cJ_ (by simp; omega) (by simp; omega)]; simp];exact this
      ·rw[e] at n1 n2;dsimp only at n1 n2;have:=ih (k+1) (by omega) hkl;rw[n1,n2] at this;exact this
     ·have:k=i.files.length:=by have: ¬ k < i.files.length:=by simpa using e
                                omega
      subst this;rw[List.take_length];exact hQ H' hp
   exact go 62 0 (by omega) (Nat.zero_le _)
  ·simp only[aK_,ak_];refine aa_ (fun e=>by cases e) (fun _=> ?_);refine bR_ hs ?_;simp only[aK_,al_];refine aa_ (fun e2=> ?_) (fun e2=> ?_)
   ·rw[cR_ e2] at hu;rw[hu] at hQ; exact hQ H' hp
   rw[c7_ e2] at hu;refine aa_ (fun _=> ?_) (fun e=>by simp at e);rw[a1] at hin;have hf:cv_ (aA_ st) s=none:=by
    cases hf:cv_ (aA_ st) s with
    | none=>rfl
    | some i=>rw[hf] at hin; cases hin
   dsimp only at hu;rw[hf] at hu;dsimp only at hu;rw[hu] at hQ;exact hQ H' hp
theorem l6_ {a b:Pl} {fs:List FileR} (h1:eM_ H a fs) (h2:eM_ H b fs) (hn:fs.length≤100000) (hQ:Q (.g (.bool true)) H):bw_ [.g (.sl a fs.length 3),.g (.sl b fs.length 3)] H Q:=by
 refine⟨fs.length+2,?_⟩;rw[ot_];have etn:∀ k:Nat,tN (k:Int)=k:=fun _=>rfl;refine aa_ (fun e=>by simp at e) (fun _=> ?_);have go:∀ (f k:Nat),f=fs.length - k→k≤fs.length→bw_.l4 (f+1) a fs.length b fs.length ((k:Nat):Int) H Q:=by
  intro f;induction f with
  | zero=>
   intro k hf hk;rw[bw_.l4_eq];exact aa_ (fun e=>by simp at e; omega) (fun _=>hQ)
  | succ f ih=>
   intro k hf hk;have hkl:k < fs.length:=by omega
   rw[bw_.l4_eq];refine aa_ (fun e=> ?_) (fun e=>by simp at e; omega);obtain⟨l,o,rfl,q1,q2,q3⟩:=h1 _ hkl;obtain⟨l',o',rfl,q1',q2',q3'⟩:=h2 _ hkl;refine ab_ rfl (ab_ (by simp; omega) ?_);simp only[ah_,etn];rw[ag_ q1,aB_,ag_ q2,aB_,ag_ q3,al_];refine ab_ rfl (ab_ (by simp; omega) ?_);rw[ag_ q1',aB_,ag_ q2',aB_,ag_ q3',al_];refine aa_ (fun e=>by simp [eqB] at e) (fun _=> ?_);rw[ar_ (by omega)];exact ih (k+1) (by omega) hkl
 exact go _ 0 rfl (Nat.zero_le _)
theorem hI_ {a b:Pl} {is:List InfoR} (h1:dq_ H a is) (h2:dq_ H b is) (hn:is.length≤1000) (hf:∀ i∈is,i.files.length≤100000) (hQ:Q (.g (.bool true)) H):bx_ [.g (.sl a is.length 5),.g (.sl b is.length 5)] H Q:=by
 refine⟨is.length+2,?_⟩;rw[nz_];have etn:∀ k:Nat,tN (k:Int)=k:=fun _=>rfl;refine aa_ (fun e=>by simp at e) (fun _=> ?_);have go:∀ (f k:Nat),f=is.length - k→k≤is.length→bx_.l4 (f+1) a is.length b is.length ((k:Nat):Int) H Q:=by
  intro f;induction f with
  | zero=>
   intro k hf hk;rw[bx_.l4_eq];exact aa_ (fun e=>by simp at e; omega) (fun _=>hQ)
  | succ f ih=>
   intro k hf' hk;have hkl:k < is.length:=by omega
   rw[bx_.l4_eq];refine aa_ (fun e=> ?_) (fun e=>by simp at e; omega);obtain⟨l,o,p,rfl,r1,r2,r3,r4,r5,r6⟩:=h1 _ hkl;obtain⟨l',o',p',rfl,r1',r2',r3',r4',r5',r6'⟩:=h2 _ hkl;refine ab_ rfl (ab_ (by simp; omega) ?_);simp only[ah_,etn];rw[ag_ r1,aB_,ag_ r2,ak_,ag_ r3,aB_,ag_ r4,aB_,ag_ r5,as_];refine ab_ rfl (ab_ (by simp; omega) ?_);rw[ag_ r1',aB_,ag_ r2',ak_,ag_ r3',aB_,ag_ r4',aB_,ag_ r5',as_];refine⟨1,?_⟩;rw[pX_];refine aa_ (fun _=> ?_) (fun e=>by simp at e);refine aa_ (fun _=> ?_) (fun e=>by simp at e);refine aa_ (fun _=> ?_) (fun e=>by simp at e);refine aa_ (fun _=> ?_) (fun e=>by simp at e);refine l6_ r6 r6' (hf _ (List.getElem_mem hkl)) ?_;simp only[aK_,al_];refine aa_ (fun e=>by cases e) (fun _=> ?_);rw[ar_ (by omega)];exact ih (k+1) (by omega) hkl
 exact go _ 0 rfl (Nat.zero_le _)
theorem lb_ {l m:Nat} {t:TypeId} {cs:List GV} (hr:H[l]? =some (.row true t cs)) (hc:cs.length=m*3) (hm:m≤100000) (hQ:∀ H' cs',H'.length=H.length→(∀ k,k≠l→H'[k]? =H[k]?)→H'[l]? =some (.row true t cs')→cs'.length=cs.length→Q (.tup []) H'):
 bn_ [.g (.sl (some (l,0)) m 3)] H Q:=by
 refine⟨m+2,?_⟩;rw[h2_];have etn:∀ k:Nat,tN (k:Int)=k:=fun _=>rfl;have go:∀ (f k:Nat) (G:Hp) (ds:List GV),f=m - k→k≤m→G.length=H.length→(∀ j,j≠l→G[j]? =H[j]?)→G[l]? =some (.row true t ds)→ds.length=cs.length→bn_.l1 (f+1) (some (l,0)) m ((k:Nat):Int) G Q:=by
  intro f;induction f with
  | zero=>
   intro k G ds hf hk g1 g2 g3 g4;rw[bn_.l1_eq];exact aa_ (fun e=>by simp at e; omega) (fun _=>hQ G ds g1 g2 g3 g4)
  | succ f ih=>
   intro k G ds hf hk g1 g2 g3 g4;rw[bn_.l1_eq];refine aa_ (fun e=> ?_) (fun e=>by simp at e; omega);refine ab_ rfl (ab_ (by simp; omega) ?_);simp only[ah_,etn,Nat.zero_add,Nat.add_zero];rw[kV_ g3 (by omega),ar_ (by omega)];have hlt:=(List.getElem?_eq_some_iff.1 g3).1;refine ih (k+1) _ (ds.set (k*3) (.str (mkS [115,112,111,105,108,116]))) (by omega) (by omega) (by simp [g1]) (fun j hj=>by rw[List.getElem?_set_ne (Ne.symm hj),g2 j hj]) (by rw[List.getElem?_set_self hlt]) (by simp [g4])
 exact go _ 0 H cs rfl (Nat.zero_le _) rfl (fun _ _=>rfl) hr rfl
def rV_ (H:Hp) (b l0:Nat) (p:Pl) (m:Nat):Prop:=(p=none∧m=0)∨∃ l t cs,p=some (l,0)∧b≤l∧l≠l0∧H[l]? =some (.row true t cs)∧cs.length=m*3
theorem g2_ {b:Nat} {a:Pl} {is:List InfoR} (h:cg_ H b a is) (hn:is.length≤1000) (hf:∀ i∈is,i.files.length≤100000) (hQ:∀ H',H'.length=H.length→(∀ l,l < b→H'[l]? =H[l]?)→Q (.tup []) H'):
 bi_ [.g (.sl a is.length 5)] H Q:=by
 refine⟨is.length+2,?_⟩;rw[m6_];have etn:∀ k:Nat,tN (k:Int)=k:=fun _=>rfl;rcases h with⟨rfl,rfl⟩ | ⟨l,cs,rfl,hb,hr,hc⟩
 ·rw[bi_.l1_eq];exact aa_ (fun e=>by simp at e) (fun _=>hQ H rfl fun _ _=>rfl)
 ·have hlen:=hc.len;have shape:∀ i,i < is.length→∃ p m,cs[i*5+4]? =some (.sl p m 3)∧m≤100000∧rV_ H b l p m:=by
   have:∀ {cs:List GV} {is:List InfoR},eP_ H b (some (l,0)) cs is→(∀ i∈is,i.files.length≤100000)→∀ i,i < is.length→∃ p m,cs[i*5+4]? =some (.sl p m 3)∧m≤100000∧rV_ H b l p m:=by
    intro cs is hc;induction hc with
    | nil=>intro _ i hi; cases hi
    | @cons p y cs is h1 h2 _ ih=>
     intro hf i hi;cases i with
     | zero=>
      refine⟨p,y.files.length,rfl,hf _ (by simp),?_⟩;rcases h1 with⟨q1,q2⟩ | ⟨l',rfl,q⟩
      ·exact .inl ⟨q1,by rw[q2]; rfl⟩
      ·exact .inr ⟨l',51,_,rfl,(h2 l' 0 rfl).1,fun e=>(h2 l' 0 rfl).2 0 (by rw[e]),q,ff_ _⟩
     | succ i=>
      obtain⟨p',m,g1,g2,g3⟩:=ih (fun i hi=>hf i (by simp [hi])) i (by simpa using hi);refine⟨p',m,?_,g2,g3⟩;rw[List.getElem?_append_right (by simp [gi_]; omega),←g1];congr 1; simp [gi_]; omega
   exact this hc hf
  have go:∀ (f k:Nat) (G:Hp) (ds:List GV),f=is.length - k→k≤is.length→G.length=H.length→(∀ j,j < b→G[j]? =H[j]?)→G[l]? =some (.row true 49 ds)→ds.length=cs.length→
   (∀ i,i < is.length→∃ p m,ds[i*5+4]? =some (.sl p m 3)∧m≤100000∧rV_ G b l p m)→bi_.l1 (f+1) (some (l,0)) is.length ((k:Nat):Int) G Q:=by
   intro f;induction f with
   | zero=>
    intro k G ds hf hk g1 g2 g3 g4 g5;rw[bi_.l1_eq];exact aa_ (fun e=>by simp at e; omega) (fun _=>hQ G g1 g2)
   | succ f ih=>
    intro k G ds hf hk g1 g2 g3 g4 g5;have hkl:k < is.length:=by omega
    rw[bi_.l1_eq];refine aa_ (fun e=> ?_) (fun e=>by simp at e; omega);refine ab_ rfl (ab_ (by simp; omega) ?_);simp only[ah_,etn,Nat.zero_add,Nat.add_zero];obtain⟨p,m,e1,e2,e3⟩:=g5 k hkl;rw[ag_ (v:= .sl p m 3) (by rw[bO_ g3]; exact e1),as_];have hlt:=(List.getElem?_eq_some_iff.1 g3).1;have rest:∀ G':Hp,G'.length=G.length→(∀ j,j < b→G'[j]? =G[j]?)→G'[l]? =some (.row true 49 ds)→(∀ p m,rV_ G b l p m→rV_ G' b l p m)→
     chk true (chk ((leI 0 ((k:Nat):Int))&&(ltI ((k:Nat):Int) (nI is.length))) (wr G' l (k*5) (.str (mkS [115,112,111,105,108,116])) fun H9=>bi_.l1 (f+1) (some (l,0)) is.length (ad_ .i64 (((k:Nat):Int)+1)) H9 Q)):=by
     intro G' k1 k2 k3 k4;refine ab_ rfl (ab_ (by simp; omega) ?_);rw[kV_ k3 (by omega),ar_ (by omega)];have hlt':=(List.getElem?_eq_some_iff.1 k3).1;refine ih (k+1) _ (ds.set (k*5) (.str (mkS [115,112,111,105,108,116]))) (by omega) (by omega) (by simp [k1,g1]) (fun j hj=>by rw[List.getElem?_set_ne (by omega),k2 j hj,g2 j hj]) (by rw[List.getElem?_set_self hlt']) (by simp [g4]) (fun i hi=> ?_);obtain⟨p,m,e1,e2,e3⟩:=g5 i hi;refine⟨p,m,by rw[List.getElem?_set_ne (by omega)]; exact e1,e2,?_⟩;rcases k4 p m e3 with q | ⟨l',t,cs',q1,q2,q3,q4,q5⟩
     ·exact .inl q
     ·exact .inr ⟨l',t,cs',q1,q2,q3,by rw[List.getElem?_set_ne (Ne.symm q3)]; exact q4,q5⟩
    rcases e3 with⟨rfl,rfl⟩ | ⟨l',t,cs',rfl,q2,q3,q4,q5⟩
    ·refine⟨2,?_⟩;rw[h2_,bn_.l1_eq];refine aa_ (fun e=>by simp at e) (fun _=> ?_);exact rest G rfl (fun _ _=>rfl) g3 fun _ _ h=>h
    ·refine lb_ q4 q5 e2 fun G' ds' k1 k2 k3 k4=> ?_;refine rest G' k1 (fun j hj=>k2 j (by omega)) (by rw[k2 l (Ne.symm q3)]; exact g3) fun p m hw=> ?_;rcases hw with q | ⟨l'',t'',cs'',w1,w2,w3,w4,w5⟩
     ·exact .inl q
     ·by_cases z:l''=l'
      ·subst z;rw[q4] at w4;cases w4;exact .inr ⟨l'',_,ds',w1,w2,w3,k3,by rw[k4]; exact w5⟩
      ·exact .inr ⟨l'',t'',cs'',w1,w2,w3,by rw[k2 l'' z]; exact w4,w5⟩
  exact go _ 0 H cs rfl (Nat.zero_le _) rfl (fun _ _=>rfl) hr rfl shape
end
end Go.Am
namespace Go.Am
theorem jC_ {n:Int} (h1:0≤n) (h2:n≤255):((bof n).toNat:Int)=n:=by
 have:=qv_ h1 h2;rw[vX_ h1 h2] at this;injection this with _ h
 exact h.symm
theorem lh_ (a b:ByteArray):bs (a++b)=bs a++bs b:=by unfold bs; simp
theorem fw_ (a b:ByteArray):(a++b).size=a.size+b.size:=by
 rw[←cp_,lh_,List.length_append,cp_,cp_]
theorem c5_ (l:List UInt8):(mkS l).size=l.length:=by rw[←cp_]; rfl
theorem ib_ (s:ByteArray) (j:Nat) (b:UInt8) (h:(bs s)[j]? =some b):byt s j=(b.toNat:Int):=by
 have hj:j < s.size:=by rw[←cp_]; exact (List.getElem?_eq_some_iff.1 h).1
 have:=pf_ s j hj;rw[h] at this;exact (Option.some.inj this).symm
theorem uV_ (l:List UInt8) (n:ByteArray):sub (mkS l++n) l.length (mkS l++n).size=n:=by
 apply hA_;rw[gT_,lh_,xV_,List.drop_left' rfl]
theorem C9_ (s:ByteArray) (l h:Nat):bs (sub s l h)=((bs s).take h).drop l:=by
 unfold sub bs;rw[ByteArray.data_extract,Array.toList_extract];simp [List.extract,List.drop_take]
def rd_ (n:ByteArray):ByteArray:=mkS [115]++n
def jj_ (x:SnapR):ByteArray:=(mkS [bof x.id,bof x.kind,bof (sz x.parent)]++x.parent)++x.label
def oE_ (k:LKey):ByteArray:=mkS [102,bof k.1]++k.2
def we_ (v:LVal):ByteArray:=mkS [bof v.1,match v.2 with | true=>1 | false=>0]
def tD_ (i:Int):ByteArray:=mkS [105,bof i]
def pP_ (x:InoR):ByteArray:=mkS [bof x.links]++x.content
theorem tC_ {n:ByteArray} (h:bm_ n 4=true):bZ_ (rd_ n)=some n:=by
 unfold bZ_ rd_;have e0:byt (mkS [115]++n) 0=115:=by rw[ib_ _ 0 115 (by rw[lh_]; rfl)]; rfl
 have e1:sub (mkS [115]++n) 1 (mkS [115]++n).size=n:=uV_ [115] n;have e2:leI 1 (sz (mkS [115]++n))=true:=by simp [fw_,c5_]; omega
 rw[e0,e1,e2,h];rfl
theorem tc_ {k:LKey} (h1:1≤k.1) (h2:k.1≤255) (h:bm_ k.2 3=true):bM_ (oE_ k)=some k:=by
 unfold bM_ oE_;have e0:byt (mkS [102,bof k.1]++k.2) 0=102:=by rw[ib_ _ 0 102 (by rw[lh_]; rfl)]; rfl
 have e1:byt (mkS [102,bof k.1]++k.2) 1=k.1:=by rw[ib_ _ 1 (bof k.1) (by rw[lh_]; rfl)]; exact jC_ (by omega) h2
 have e2:sub (mkS [102,bof k.1]++k.2) 2 (mkS [102,bof k.1]++k.2).size=k.2:=uV_ [102,bof k.1] k.2;have e3:leI 2 (sz (mkS [102,bof k.1]++k.2))=true:=by simp [fw_,c5_]; omega
 have e4:leI 1 k.1=true:=by simpa using h1
 rw[e0,e1,e2,e3,h,e4];rfl
theorem uq_ {i:Int} (h1:1≤i) (h2:i≤255):ct_ (tD_ i)=some i:=by
 unfold ct_ tD_;have e0:byt (mkS [105,bof i]) 0=105:=by rw[ib_ _ 0 105 rfl]; rfl
 have e1:byt (mkS [105,bof i]) 1=i:=by rw[ib_ _ 1 (bof i) rfl]; exact jC_ (by omega) h2
 have e3:eqI (sz (mkS [105,bof i])) 2=true:=rfl;have e4:leI 1 i=true:=by simpa using h1
 rw[e0,e1,e3,e4];rfl
def BR_ (o:Bool):UInt8:=match o with | true=>1 | false=>0
theorem yd_ {v:LVal} (h1:0≤v.1) (h2:v.1≤255):d1_ (we_ v)=some v:=by
 have e0:byt (we_ v) 0=v.1:=by rw[ib_ _ 0 (bof v.1) rfl]; exact jC_ h1 h2
 have e1:byt (we_ v) 1=((BR_ v.2).toNat:Int):=ib_ _ 1 _ rfl;have e3:eqI (sz (we_ v)) 2=true:=rfl;unfold d1_;rw[e0,e1,e3];obtain⟨i,o⟩:=v;cases o<;>rfl
theorem yb_ {x:InoR} (h:d8_ x=true):cl_ (pP_ x)=some x:=by
 have h':=h;unfold d8_ at h';simp only[Bool.and_eq_true] at h';have b1:1≤x.links:=by simpa using h'.1.1
 have b2:x.links≤255:=by simpa using h'.1.2
 have e0:byt (pP_ x) 0=x.links:=by unfold pP_; rw[ib_ _ 0 (bof x.links) (by rw[lh_]; rfl)]; exact jC_ (by omega) b2
 have e1:sub (pP_ x) 1 (pP_ x).size=x.content:=uV_ [bof x.links] x.content;have e2:qx_ (pP_ x)=x:=by unfold qx_; rw[e0,e1]
 have e3:leI 1 (sz (pP_ x))=true:=by simp [pP_,fw_,c5_]; omega
 unfold cl_;rw[e2,e3,h];rfl
theorem ou_ {x:SnapR} (h:eR_ x=true):(1≤x.id∧x.id≤255)∧(0≤x.kind∧x.kind≤2)∧x.parent.size≤4∧x.label.size≤3:=by
 unfold eR_ at h;simp only[Bool.and_eq_true,Bool.or_eq_true] at h;obtain⟨⟨h1,h2⟩,⟨h3,h4⟩,h5,h6⟩:=h;refine⟨⟨by simpa using h1,by simpa using h2⟩,⟨by simpa using h3,by simpa using h4⟩,?_,by simp at h6; omega⟩;rcases h5 with q | q
 ·have:x.parent=mkS []:=by simpa using q
  rw[this]; decide
 ·have:=et_ q; omega
theorem wg_ {x:SnapR} (h:eR_ x=true):bu_ (jj_ x)=some x:=by
 obtain⟨⟨b1,b2⟩,⟨b3,b4⟩,b5,b6⟩:=ou_ h;have hb:bs (jj_ x)=[bof x.id,bof x.kind,bof (sz x.parent)]++(bs x.parent++bs x.label):=by unfold jj_; rw[lh_,lh_,List.append_assoc]; rfl
 have hs:(jj_ x).size=3+(x.parent.size+x.label.size):=by unfold jj_; rw[fw_,fw_,c5_]; simp; omega
 have e0:byt (jj_ x) 0=x.id:=by rw[ib_ _ 0 (bof x.id) (by rw[hb]; rfl)]; exact jC_ (by omega) b2
 have e1:byt (jj_ x) 1=x.kind:=by rw[ib_ _ 1 (bof x.kind) (by rw[hb]; rfl)]; exact jC_ (by omega) (by omega)
 have e2:byt (jj_ x) 2=sz x.parent:=by rw[ib_ _ 2 (bof (sz x.parent)) (by rw[hb]; rfl)]; exact jC_ (by simp) (by simp; omega)
 have e3:tN (3+byt (jj_ x) 2)=3+x.parent.size:=by rw[e2]; show (3+(x.parent.size:Int)).toNat=_; omega
 have e4:sub (jj_ x) 3 (3+x.parent.size)=x.parent:=by
  apply hA_;rw[C9_,hb,List.drop_take];rw[show List.drop 3 ([bof x.id,bof x.kind,bof (sz x.parent)]++(bs x.parent++bs x.label))=bs x.parent++bs x.label from rfl];rw[show 3+x.parent.size - 3=(bs x.parent).length by rw[cp_]; omega,List.take_left' rfl]
 have e5:sub (jj_ x) (3+x.parent.size) (jj_ x).size=x.label:=by
  apply hA_;rw[gT_,hb,←List.append_assoc,List.drop_left'];simp; omega
 have e6:kG_ (jj_ x)=x:=by
  unfold kG_;rw[e0,e1,e3,e4,e5]
 unfold bu_;rw[e6,e2,h];have c1:leI 3 (sz (jj_ x))=true:=by simp [hs]; omega
 have c2:leI (3+sz x.parent) (sz (jj_ x))=true:=by simp [hs]; omega
 rw[c1,c2]; rfl
def hZ_ (x:ByteArray × SnapR):ByteArray × ByteArray:=(rd_ x.1,jj_ x.2)
def kh_ (x:LKey × LVal):ByteArray × ByteArray:=(oE_ x.1,we_ x.2)
def q1_ (x:Int × InoR):ByteArray × ByteArray:=(tD_ x.1,pP_ x.2)
def uU_ (st:StD):KV:=st.snaps.map hZ_++(st.links.map kh_++st.inos.map q1_)
section
variable {H:Hp} {Q:Post}
theorem nd_ {n:ByteArray} (h:bm_ n 4=true) (hQ:Q (.tup [.s (.str (rd_ n)),.s (.int .i64 0)]) H):dK_ [.g (.str n)] H Q:=by
 have hs:=et_ h;refine⟨1,?_⟩;rw[p4_];refine bR_ (by omega) ?_;simp only[aK_,al_];refine aa_ (fun e=>by rw[h] at e; cases e) (fun _=> ?_);exact⟨by rw[c5_]; simp; omega,hQ⟩
theorem nf_ {x:SnapR} (h:eR_ x=true) (hQ:∀ H',H<+:H'→Q (.tup [.s (.str (jj_ x)),.s (.int .i64 0)]) H'):dJ_ [.agg [.int .i64 x.id,.int .i64 x.kind,.str x.parent,.str x.label]] H Q:=by
 obtain⟨⟨b1,b2⟩,⟨b3,b4⟩,b5,b6⟩:=ou_ h;refine⟨1,?_⟩;rw[p5_];refine h3_ (by omega) ?_;simp only[aK_,al_];refine aa_ (fun e=>by rw[h] at e; cases e) (fun _=> ?_);simp only[fl_,e4_];rw[qv_ (by omega) b2,qv_ (by omega) (show x.kind≤255 by omega),qv_ (show 0≤sz x.parent by simp) (by simp; omega)];rw[gM_ (cs:=u8s [bof x.id,bof x.kind,bof (sz x.parent)]) (by simp [cells?,u8s]),ol_];refine⟨by rw[c5_]; simp; omega,?_⟩;refine⟨by rw[fw_,c5_]; simp; omega,?_⟩;exact hQ _ (ce_ _ _)
theorem mO_ {k:LKey} (h1:1≤k.1) (h2:k.1≤255) (h:bm_ k.2 3=true) (hQ:∀ H',H<+:H'→Q (.tup [.s (.str (oE_ k)),.s (.int .i64 0)]) H'):dP_ [.g (.int .i64 k.1),.g (.str k.2)] H Q:=by
 have hs:=et_ h;refine⟨1,?_⟩;rw[oX_];refine fM_ ?_;simp only[aK_,al_];refine aa_ (fun e=>by simp at e; omega) (fun _=> ?_);refine eO_ (by omega) ?_;simp only[aK_,al_];refine aa_ (fun e=>by rw[h] at e; cases e) (fun _=> ?_);simp only[fl_,e4_];rw[qv_ (by omega) h2];rw[gM_ (cs:=u8s [102,bof k.1]) (by simp [cells?,u8s]),ol_];exact⟨by rw[c5_]; simp; omega,hQ _ (ce_ _ _)⟩
theorem mc_ {i:Int} (h1:1≤i) (h2:i≤255) (hQ:∀ H',H<+:H'→Q (.tup [.s (.str (tD_ i)),.s (.int .i64 0)]) H'):dm_ [.g (.int .i64 i)] H Q:=by
 refine⟨1,?_⟩;rw[ox_];refine fM_ ?_;simp only[aK_,al_];refine aa_ (fun e=>by simp at e; omega) (fun _=> ?_);simp only[fl_,e4_];rw[qv_ (by omega) h2];rw[gM_ (cs:=u8s [105,bof i]) (by simp [cells?,u8s]),ol_];exact hQ _ (ce_ _ _)
theorem mf_ {x:InoR} (h:d8_ x=true) (hQ:∀ H',H<+:H'→Q (.tup [.s (.str (pP_ x)),.s (.int .i64 0)]) H'):dh_ [.agg [.int .i64 x.links,.str x.content]] H Q:=by
 have h':=h;unfold d8_ at h';simp only[Bool.and_eq_true] at h';have b1:1≤x.links:=by simpa using h'.1.1
 have b2:x.links≤255:=by simpa using h'.1.2
 have b3:x.content.size≤6:=by have:=h'.2; simp at this; omega
 refine⟨1,?_⟩;rw[nJ_];refine hE_ ?_;simp only[aK_,al_];refine aa_ (fun e=>by rw[h] at e; cases e) (fun _=> ?_);simp only[fl_,e4_];rw[qv_ (by omega) b2];rw[gM_ (cs:=u8s [bof x.links]) (by simp [cells?,u8s]),ol_];exact⟨by rw[c5_]; simp; omega,hQ _ (ce_ _ _)⟩
end
end Go.Am
