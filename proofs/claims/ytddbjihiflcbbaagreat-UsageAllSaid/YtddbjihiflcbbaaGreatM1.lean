import Derived.Test.YtddbjihiflcbbaaGreatM0
import Derived.MapKept
import Derived.WideKeyRuns
import Derived.Lib.Strings
import Derived.Maps.RangeRun
set_option linter.unusedVariables false
set_option linter.unusedSimpArgs false
namespace Go.Am
open Go.MapKept (IsKey)
def n2_:GV→Value
 | .bool b=> .bool b | .int k n=> .int k n | .str s=> .string s | _=> .bool false
theorem A8_ {φ:List LI} {k:LK} {v:GV} {x:Value} (h:hz_ k v=true) (hx:v.is φ x):x=n2_ v:=by
 cases v<;>cases k<;>simp [hz_] at h<;>exact hx
theorem sE_ {φ:List LI}:∀ {lv:List LK} {cs:List GV} {xs:List Value},in_ lv cs=true→Is2 φ cs xs→xs=cs.map n2_
 | [],[],xs,_,his=>by cases his.nil_inv; rfl
 | [],_::_,_,h,_=>by cases h
 | _::_,[],_,h,_=>by cases h
 | k::lv,c::cs,xs,h,his=>by
  obtain⟨x,xs,rfl,hx,his⟩:=his.cons_inv;unfold in_ at h;split at h
  ·rename_i e; rw[A8_ e hx,sE_ h his]; rfl
  ·cases h
theorem x2_ {a b:ByteArray} (h:a.toList=b.toList):a=b:=by
 rw[Lib.toList_data,Lib.toList_data] at h;obtain⟨⟨x⟩⟩:=a;obtain⟨⟨y⟩⟩:=b;simp at h;rw[h]
theorem BP_ {k:LK} {a b:GV} (ha:hz_ k a=true) (hb:hz_ k b=true):∃ e,eqC a b=some e∧(e=true↔a=b):=by
 cases a<;>cases k<;>simp [hz_] at ha<;>cases b<;>simp [hz_] at hb
 ·rename_i x y; exact⟨_,rfl,by simp [eqB]⟩
 ·rename_i k1 n1 k0 k2 n2;subst ha; subst hb;exact⟨_,rfl,by simp [eqI]⟩
 ·rename_i x y;refine⟨_,rfl,?_⟩;simp only[co_,beq_iff_eq,GV.str.injEq];exact⟨x2_,fun h=>by rw[h]⟩
theorem hT_:∀ {lv:List LK} {a b:List GV},in_ lv a=true→in_ lv b=true→∃ e,jh_ a b=some e∧(e=true↔a=b)
 | [],[],[],_,_=>⟨true,rfl,by simp⟩
 | [],[],_::_,_,h=>by cases h
 | [],_::_,_,h,_=>by cases h
 | _::_,[],_,h,_=>by cases h
 | _::_,_::_,[],_,h=>by cases h
 | k::lv,a::as,b::bs,ha,hb=>by
  unfold in_ at ha hb;split at ha
  ·rename_i e1;split at hb
   ·rename_i e2;obtain⟨e,he,hi⟩:=BP_ e1 e2;obtain⟨r,hr,hi2⟩:=hT_ ha hb;exact⟨e&&r,by simp [jh_,he,hr],by simp [hi,hi2]⟩
   ·cases hb
  ·cases ha
theorem hY_ {φ:List LI} {ag:Bool} {lv:List LK} {k:RV} {x:Value} (h:kD_ ag lv k=true) (hx:k.is φ x):(ag=false∧∃ v,k= .s v∧x=n2_ v∧in_ lv [v]=true)∨(ag=true∧∃ cs,k= .a cs∧x= .agg (cs.map n2_).toArray∧in_ lv cs=true):=by
 cases ag with
 | false=>
  cases k with
  | s v=>
   refine .inl ⟨rfl,v,rfl,?_,h⟩;have h':in_ lv [v]=true:=h;have his:Is2 φ [v] [x]:= .cons hx .nil;have:=sE_ h' his;simpa using this
  | a cs=>cases h
 | true=>
  cases k with
  | s v=>cases h
  | a cs=>
   obtain⟨us,rfl,hu⟩:=hx;refine .inr ⟨rfl,cs,rfl,?_,h⟩;rw[←sE_ h hu]
theorem yx_ {φ:List LI} {ag:Bool} {lv:List LK} {k k':RV} {x x':Value} (h:kD_ ag lv k=true) (h':kD_ ag lv k'=true) (hx:k.is φ x) (hx':k'.is φ x'):∃ e,jh_ k.cells k'.cells=some e∧(e=true→x=x'):=by
 rcases hY_ h hx with⟨e1,v,rfl,rfl,f1⟩ | ⟨e1,cs,rfl,rfl,f1⟩<;>rcases hY_ h' hx' with⟨e2,v',rfl,rfl,f2⟩ | ⟨e2,cs',rfl,rfl,f2⟩
 ·obtain⟨e,he,hi⟩:=hT_ f1 f2;exact⟨e,he,fun q=>by have:=hi.1 q; cases this; rfl⟩
 ·rw[e1] at e2; cases e2
 ·rw[e1] at e2; cases e2
 ·obtain⟨e,he,hi⟩:=hT_ f1 f2;exact⟨e,he,fun q=>by have:=hi.1 q; rw[this]⟩
theorem oy_ {lv:LK} {v:GV} (n:Nat) (h:hz_ lv v=true):Instr.sameBits n (n2_ v) (n2_ v)=true:=by
 cases v<;>cases lv<;>simp [hz_] at h<;>simp [n2_,Instr.sameBits,MapKept.bytes_beq]
theorem jb_:∀ {lv:List LK} {cs:List GV},in_ lv cs=true→∀ v∈cs,∃ k,hz_ k v=true
 | [],[],_,v,hv=>by cases hv
 | [],_::_,h,_,_=>by cases h
 | _::_,[],h,_,_=>by cases h
 | k::lv,c::cs,h,v,hv=>by
  unfold in_ at h;split at h
  ·rename_i e;cases hv with
   | head=>exact⟨k,e⟩
   | tail _ hv=>exact jb_ h v hv
  ·cases h
theorem xz_ {α:Type}:∀ (l:List α) (p:α × α),p∈l.zip l→p.1=p.2∧p.1∈l
 | [],p,h=>by cases h
 | a::l,p,h=>by
  rw[List.zip_cons_cons] at h;cases h with
  | head=>exact⟨rfl,by simp⟩
  | tail _ h=>obtain⟨h1,h2⟩:=xz_ l p h; exact⟨h1,by simp [h2]⟩
theorem xr_ {P:Program} {w:World} {φ:List LI} {ag:Bool} {lv:List LK} {k:RV} {x:Value} (h:kD_ ag lv k=true) (hx:k.is φ x):(Instr.keyThatStays x x).run P w= .ok x w:=by
 have hs:Instr.sameBits 10000 x x=true:=by
  rcases hY_ h hx with⟨_,v,rfl,rfl,f⟩ | ⟨_,cs,rfl,rfl,f⟩
  ·obtain⟨q,hq⟩:=jb_ f v (by simp);exact oy_ _ hq
  ·show Instr.sameBits (9999+1) _ _=true;simp only[Instr.sameBits,beq_self_eq_true,Bool.true_and,List.all_eq_true];rintro⟨a,b⟩ hm;obtain⟨e,hmem⟩:=xz_ _ _ hm;simp only at e hmem;subst e;simp only[List.mem_map] at hmem;obtain⟨v,hv,rfl⟩:=hmem;obtain⟨q,hq⟩:=jb_ f v hv;exact oy_ _ hq
 simp [Instr.keyThatStays,hs]
section
variable {P:Program} {cx:Cx} {φ:List LI} {H:Hp} {w:World}
theorem gc_ {t:Nat} (h:cx.isMap t=true):(cx.ty t).isA 5=true∧cx.okT (cx.ty t).el=true∧cx.okT (cx.ty t).an=true∧
 (((cx.ty (cx.ty t).an).agg=false∧((cx.ty (cx.ty t).an).lv=[.bool]∨(∃ k,(cx.ty (cx.ty t).an).lv=[.int k])∨(cx.ty (cx.ty t).an).lv=[.str]))∨((cx.ty (cx.ty t).an).agg=true∧(cx.ty (cx.ty t).an).cmp=true)):=by
 unfold Cx.isMap at h;split at h
 ·rename_i e1 e2 e3 e4;refine⟨e1,e2,e3,.inl ⟨e4,?_⟩⟩;split at h
  ·rename_i e; exact .inl e
  ·rename_i k e; exact .inr (.inl ⟨k,e⟩)
  ·rename_i e; exact .inr (.inr e)
  ·cases h
 ·rename_i e1 e2 e3 e4;exact⟨e1,e2,e3,.inr ⟨e4,h⟩⟩
 ·cases h
theorem uw_ (hT:b8_ P cx.tys) {u:Nat} (ho:cx.okT u=true) (ha:(cx.ty u).agg=false) (hl:(cx.ty u).lv=[.bool]∨(∃ k,(cx.ty u).lv=[.int k])∨(cx.ty u).lv=[.str]):
 ∃ d,P.underlying u=some d∧∀ v,in_ (cx.ty u).lv [v]=true→IsKey d (n2_ v):=by
 obtain⟨d,hd,hok⟩:=fK_ hT ho;refine⟨d,hd,fun v hv=> ?_⟩;generalize cx.ty u=x at*;rcases hl with e | ⟨k,e⟩ | e<;>rw[e] at hv<;>cases v<;>simp [in_,hz_] at hv<;>cases d<;>simp [c8_,mG_,rK_,e,ha] at hok<;>simp_all [IsKey,n2_]<;>(split at hv<;>simp_all)
theorem lx_ (hT:b8_ P cx.tys) {t:Nat} (hm:cx.isMap t=true) {k:RV} {x:Value} (hf:kD_ (cx.ty (cx.ty t).an).agg (cx.ty (cx.ty t).an).lv k=true) (hx:k.is φ x) (em:Bool):(Instr.checkKey em 10000 (cx.ty t).an x).run P w= .ok () w:=by
 obtain⟨_,_,h3,h4⟩:=gc_ hm;rcases h4 with⟨ha,hl⟩ | ⟨ha,hc⟩
 ·obtain⟨d,hd,hk⟩:=uw_ hT h3 ha hl;rcases hY_ hf hx with⟨_,v,rfl,rfl,f⟩ | ⟨e,_⟩
  ·exact MapKept.run_checkKey hd (hk v f) em 9999
  ·rw[ha] at e; cases e
 ·obtain⟨fs,hd,hfl,hst,hgd⟩:=hT.2.1 _ hc;rcases hY_ hf hx with⟨e,_⟩ | ⟨_,cs,rfl,rfl,f⟩
  ·rw[ha] at e; cases e
  ·show (Instr.checkKey em (9999+1) _ _).run P w=_;unfold Instr.checkKey;simp only[Sem.run_bind,run_underlying hd,Result.andThen_ok];rw[←Array.forIn_toList];change kI_ P (cx.ty (cx.ty t).an).lv 0 fs.toList=true at hfl;generalize fs.toList=L at hfl;generalize (0:Nat)=n at hfl;induction L generalizing n with
   | nil=>simp
   | cons g L ih=>
    unfold kI_ at hfl;simp only[Bool.and_eq_true,bne_iff_ne,ne_eq] at hfl;obtain⟨⟨⟨hname,hoff⟩,hg⟩,hrest⟩:=hfl;have hoff:=fk_ hoff;have hk:∃ q,(cx.ty (cx.ty t).an).lv[n]? =some q:=by
     unfold uE_ at hg;rw[hoff] at hg;cases hq:(cx.ty (cx.ty t).an).lv[n]? with
     | none=>rw[hq] at hg; simp at hg
     | some q=>exact⟨q,rfl⟩
    obtain⟨q,hq⟩:=hk;obtain⟨c,hc',fc⟩:=(lR_ f).2 n q hq;have h1:((cs.map n2_).toArray)[g.offset]? =some (n2_ c):=by rw[hoff]; simp [hc']
    have key:∃ d,P.underlying g.type=some d∧IsKey d (n2_ c)∧P.plainKey g.type=true:=by
     unfold uE_ at hg;rw[hoff,hq] at hg;split at hg
     ·rename_i q1 q2; cases q1; cases c<;>simp [hz_] at fc; exact⟨_,q2,trivial,by simp [Program.plainKey,q2]⟩
     ·rename_i k1 k2 q1 q2;cases q1; cases c<;>simp [hz_] at fc;have hg:k1=k2:=by simpa using hg
      subst fc; subst hg;exact⟨_,q2,rfl,by simp [Program.plainKey,q2]⟩
     ·rename_i q1 q2; cases q1; cases c<;>simp [hz_] at fc; exact⟨_,q2,trivial,by simp [Program.plainKey,q2]⟩
     ·cases hg
    obtain⟨d,hd',hik,hp⟩:=key;have p1:=run_part_plain (P:=P) w hp h1;have p2:=MapKept.run_checkKey (P:=P) (w:=w) hd' hik em 9998;simp only[List.forIn_cons,Sem.run_bind,hname,ne_eq,not_false_eq_true,if_true,Result.andThen_ok,p1,p2,Sem.run_pure];exact ih (n+1) hrest
def sF_ (P:Program) (w:World) (φ:List LI) (u:Nat) (x:Value) (es:List Ent) (xs:List MapEntry):Option Nat→Prop
 | none=>(Instr.findKey u x xs).run P w= .ok none w
 | some j=>∃ e y,es[j]? =some e∧xs[j]? =some y∧fj_ φ e y∧y.key=x∧(Instr.findKey u x xs).run P w= .ok (some (j,y.val)) w
theorem se_ {d:TypeDesc} {lv:List LK} {k:RV} {x:Value} (hkey:∀ v,in_ lv [v]=true→IsKey d (n2_ v)) (hf:kD_ false lv k=true) (hx:k.is φ x):∀ {es:List Ent} {xs:List MapEntry} {i:Nat} {r:Option Nat},me_ false lv k es i=some r→b6_ (fj_ φ) es xs→
 match r with | none=>Instr.findNow d x xs i=some none | some j=>∃ m e y,j=i+m∧es[m]? =some e∧xs[m]? =some y∧fj_ φ e y∧y.key=x∧Instr.findNow d x xs i=some (some (j,y.val))
 | [],xs,i,r,h,ha=>by cases ha.nil_inv; cases h; rfl
 | e::es,xs,i,r,h,ha=>by
  obtain⟨y,xs,rfl,hy,ha⟩:=ha.cons_inv;unfold me_ at h;split at h
  ·rename_i hfe;obtain⟨q,hq,himp⟩:=yx_ hf hfe hx hy.2.1;have hsn:Instr.sameNow d x y.key=some q:=by
    rcases hY_ hf hx with⟨_,v,rfl,rfl,f1⟩ | ⟨z,_⟩
    rotate_left
    ·cases z
    rcases hY_ hfe hy.2.1 with⟨_,v',e1,e2,f2⟩ | ⟨z,_⟩
    rotate_left
    ·cases z
    obtain⟨s,hs,hiff⟩:=MapKept.sameNow_of_keys (hkey v f1) (hkey v' f2);rw[e2,hs];rw[e1] at hq;obtain⟨s',hs',hiff'⟩:=hT_ f1 f2;have:jh_ (RV.s v).cells (RV.s v').cells=jh_ [v] [v']:=rfl;rw[this,hs'] at hq;cases hq;congr 1;rw[Bool.eq_iff_iff,hiff,hiff'];constructor
    ·intro z;obtain⟨q1,z1⟩:=jb_ f1 v (by simp);obtain⟨q2,z2⟩:=jb_ f2 v' (by simp);cases v<;>cases q1<;>simp [hz_] at z1<;>cases v'<;>cases q2<;>simp [hz_] at z2<;>simp_all [n2_]
    ·intro z; cases z; rfl
   rw[hq] at h;cases q with
   | true=>
    cases h;exact⟨0,e,y,by omega,by simp,by simp,hy,(himp rfl).symm,by simp [Instr.findNow,hsn]⟩
   | false=>
    have ih:=se_ hkey hf hx h ha;cases r with
    | none=>simp only at ih ⊢; simp [Instr.findNow,hsn,ih]
    | some j=>
     obtain⟨m,e',y',rfl,h1,h2,h3,h4,h5⟩:=ih;exact⟨m+1,e',y',by omega,by simpa using h1,by simpa using h2,h3,h4,by simp [Instr.findNow,hsn,h5]⟩
  ·cases h
theorem wt_ (hT:b8_ P cx.tys) {u:Nat} (hc:(cx.ty u).cmp=true) {k:RV} {x:Value} (hf:kD_ true (cx.ty u).lv k=true) (hx:k.is φ x):∀ {es:List Ent} {xs:List MapEntry} {i:Nat} {r:Option Nat},me_ true (cx.ty u).lv k es i=some r→b6_ (fj_ φ) es xs→
 match r with | none=>(Instr.findAsking u x xs i).run P w= .ok none w | some j=>∃ m e y,j=i+m∧es[m]? =some e∧xs[m]? =some y∧fj_ φ e y∧y.key=x∧(Instr.findAsking u x xs i).run P w= .ok (some (j,y.val)) w
 | [],xs,i,r,h,ha=>by cases ha.nil_inv; cases h; simp [Instr.findAsking]
 | e::es,xs,i,r,h,ha=>by
  obtain⟨y,xs,rfl,hy,ha⟩:=ha.cons_inv;unfold me_ at h;split at h
  ·rename_i hfe;obtain⟨q,hq,himp⟩:=yx_ hf hfe hx hy.2.1;have heq:(Op.equal u x y.key).run P w= .ok q w:=by
    obtain⟨fs,hd,hfl,hst,hgd⟩:=hT.2.1 u hc;have hfo:P.fieldsOf u=fs:=by simp [Program.fieldsOf,hd]
    cases k with
    | s v=>cases hf
    | a cs=>
     obtain⟨us,rfl,ix⟩:=hx;have hky:=hy.2.1;cases hek:e.2.1 with
     | s v=>rw[hek] at hfe; cases hfe
     | a cs'=>
      rw[hek] at hfe hky hq;obtain⟨vs,hvs,iy⟩:=hky;rw[hvs];show (Op.equalIn 10000 u (.agg us) (.agg vs)).run P w= .ok q w;rw[run_equalIn_struct w 9999 u us vs (by rw[hfo]; exact hd) hst,hfo];exact ll_ (d:=9998) hf hfe ix iy fs.toList 0 q hfl (by simpa [RV.cells] using hq)
   rw[hq] at h;cases q with
   | true=>
    cases h;exact⟨0,e,y,by omega,by simp,by simp,hy,(himp rfl).symm,by simp [Instr.findAsking,heq]⟩
   | false=>
    have ih:=wt_ hT hc hf hx h ha;cases r with
    | none=>simp only at ih ⊢; simp [Instr.findAsking,heq,ih]
    | some j=>
     obtain⟨m,e',y',rfl,h1,h2,h3,h4,h5⟩:=ih;exact⟨m+1,e',y',by omega,by simpa using h1,by simpa using h2,h3,h4,by simp [Instr.findAsking,heq,h5]⟩
  ·cases h
theorem hQ_ (hT:b8_ P cx.tys) {t:Nat} (hm:cx.isMap t=true) {k:RV} {x:Value} (hf:kD_ (cx.ty (cx.ty t).an).agg (cx.ty (cx.ty t).an).lv k=true) (hx:k.is φ x) {es:List Ent} {xs:List MapEntry} {r:Option Nat}
 (h:me_ (cx.ty (cx.ty t).an).agg (cx.ty (cx.ty t).an).lv k es 0=some r) (ha:b6_ (fj_ φ) es xs):sF_ P w φ (cx.ty t).an x es xs r:=by
 obtain⟨_,_,h3,h4⟩:=gc_ hm;rcases h4 with⟨hag,hl⟩ | ⟨hag,hc⟩
 ·obtain⟨d,hd,hk⟩:=uw_ hT h3 hag hl;rw[hag] at hf h;have:=se_ hk hf hx h ha;cases r with
  | none=>exact MapKept.run_findKey hd this
  | some j=>
   obtain⟨m,e,y,rfl,h1,h2,h3,h4,h5⟩:=this;rw[Nat.zero_add] at h5 ⊢;exact⟨e,y,h1,h2,h3,h4,MapKept.run_findKey hd h5⟩
 ·obtain⟨fs,hd,hfl,hst,hgd⟩:=hT.2.1 _ hc;rw[hag] at hf h;have e:=run_findKey_eq (P:=P) w (k:=(cx.ty t).an) (by
   have hd:P.underlying (cx.ty t).an=some (.struct fs):=hd;rw[hd]) x xs
  have:=wt_ (w:=w) hT hc hf hx h ha;cases r with
  | none=>exact e.trans this
  | some j=>
   obtain⟨m,e1,y,rfl,h1,h2,h3,h4,h5⟩:=this;rw[Nat.zero_add] at h5 ⊢;exact⟨e1,y,h1,h2,h3,h4,e.trans h5⟩
end
end Go.Am
namespace Go.Am
section
variable {P:Program} {cx:Cx} {φ:List LI} {H:Hp} {w:World}
theorem xC_ (hT:b8_ P cx.tys) {t:Nat} (h:cx.okT t=true):∃ z,(zeroValue t).run P w= .ok z w∧RV.is φ (un_ (cx.ty t)) z:=by
 obtain⟨i,z,h1,h2,h3,h4,h5⟩:=ez_ hT h;have hz:sk_ z=(cx.ty t).agg:=hT.2.2.2 t h i z h1 h3;refine⟨z,by simp [zeroValue,typeInfo,h1,h3],?_⟩;unfold un_;cases ha:(cx.ty t).agg with
 | true=>
  rw[ha] at hz;cases z<;>simp [sk_] at hz;rename_i us;refine⟨us,rfl,?_⟩;have:us.toList=(cx.ty t).lv.map zV:=h4;rw[this];exact kN_ φ _
 | false=>
  rw[ha] at hz;have hc:z.cells.toList=[z]:=by cases z<;>first | rfl | (simp [sk_] at hz)
  rw[hc] at h4;cases hl:(cx.ty t).lv with
  | nil=>rw[hl] at h4; simp at h4
  | cons k ks=>
   rw[hl] at h4;simp only[List.map_cons,List.cons.injEq] at h4;obtain⟨h6,h7⟩:=h4;have h7:ks=[]:=by cases ks with | nil=>rfl | cons=>simp at h7
   subst h7;rw[h6];exact yK_ φ k
theorem vu_ {ti:TI} {r:RV} {K:RV→Prop} (h:lvR ti r K):∃ r',K r'∧∀ φ x,r.is φ x→r'.is φ x:=by
 unfold lvR at h;split at h
 ·exact⟨r,h,fun _ _ q=>q⟩
 ·split at h
  ·cases r with
   | s v=>exact h.elim
   | a cs=>
    obtain⟨cs',h1,hc⟩:=jz_ h;exact⟨_,h1,fun φ x ⟨us,e,q⟩=>⟨us,e,hc φ _ q⟩⟩
  ·cases r with
   | a cs=>exact h.elim
   | s v=>
    have h':(match ti.lv with | [k]=>fO_ k v fun v=>K (.s v) | _=>False):=h;split at h'
    ·obtain⟨v',h1,hv⟩:=jf_ h';exact⟨_,h1,fun φ x q=>hv φ x q⟩
    ·exact h'.elim
theorem oO_ {x:FV} {K:RV→Prop} (h:rvK x K):∃ r,K r∧∀ {n0:Nat} {φ:List LI} {H:Hp} {lam:Nat→Nat} {fr:List FV} {w:World} {u:Value},VOK n0 φ H lam fr w x u→r.is φ u:=by
 cases x with
 | g v=>exact⟨.s v,h,fun q=>q⟩
 | agg cs=>exact⟨.a cs,h,fun q=>q⟩
 | _=>exact h.elim
theorem C5_ {n0:Nat} {lam:Nat→Nat} {fr:List FV} {r:RV} {x:Value} (h:r.is φ x):VOK n0 φ H lam fr w (fvR r) x:=by
 cases r with
 | s v=>exact h
 | a cs=>exact h
theorem cq_.map (hr:cq_ φ H w) {l c:Nat} {es:List Ent} (h:H[l]? =some (.map es c)):∃ i,φ[l]? =some i∧CA_ φ w es c i:=hr.obj l _ h rfl
theorem kH_ {l:Nat} {i:LI} {u:Value} (hi:φ[l]? =some i) (hu:(GV.map (some l)).is φ u):u= .map (some i.b):=by
 obtain⟨j,hj,e⟩:=hu;rw[hi] at hj; cases hj; exact e
theorem u4_ {es:List Ent} {xs:List MapEntry} (ha:b6_ (fj_ φ) es xs) {j:Nat} {e:Ent} {y:MapEntry} (h1:es[j]? =some e) (h2:xs[j]? =some y):fj_ φ e y:=by
 obtain⟨y',h3,h4⟩:=ha.get h1;rw[h2] at h3; cases h3; exact h4
theorem BE_ (hT:b8_ P cx.tys) (hr:cq_ φ H w) {t:Nat} (hm:cx.isMap t=true) {m:Option Nat} {k:RV} {um x:Value} {K:RV→Bool→Prop} (hu:(GV.map m).is φ um)
 (hf:kD_ (cx.ty (cx.ty t).an).agg (cx.ty (cx.ty t).an).lv k=true) (hx:k.is φ x)
 (h:nB_ H m (cx.ty (cx.ty t).an).agg (cx.ty (cx.ty t).an).lv k (un_ (cx.ty (cx.ty t).el)) K):
 ∃ v b uv,K v b∧v.is φ uv∧(Instr.lookup t um x true).run P w= .ok (.tuple #[uv,.bool b]) w∧(Instr.lookup t um x false).run P w= .ok uv w:=by
 have hd:=h9_ hT (gc_ hm).1;obtain⟨z,hz,hzi⟩:=xC_ (φ:=φ) (w:=w) hT (gc_ hm).2.1;cases m with
 | none=>
  cases hu;have hc:=lx_ (w:=w) hT hm hf hx true;have hF:sF_ P w φ (cx.ty t).an x [] [] none:=hQ_ hT hm hf hx rfl .nil;unfold sF_ at hF;refine⟨_,false,z,h,hzi,?_,?_⟩<;>simp [Instr.lookup,run_underlying hd,hc,hF,hz]
 | some l=>
  unfold nB_ at h;simp only at h;split at h
  ·rename_i es c hl;obtain⟨i,hi,hb,xs,hblk,ha⟩:=hr.map hl;cases kH_ hi hu;have hc:=fun em=>lx_ (w:=w) hT hm hf hx em;split at h
   ·rename_i j hfd;split at h
    ·rename_i e he;obtain⟨e',y,h1,h2,h3,h4,h5⟩:=hQ_ (w:=w) hT hm hf hx hfd ha;rw[he] at h1; cases h1;refine⟨_,true,y.val,h,h3.2.2,?_,?_⟩<;>simp [Instr.lookup,run_underlying hd,MapKept.run_getObj_map hblk,hc,h5]
    ·exact h.elim
   ·rename_i hfd;have hF:=hQ_ (w:=w) hT hm hf hx hfd ha;unfold sF_ at hF;refine⟨_,false,z,h,hzi,?_,?_⟩<;>simp [Instr.lookup,run_underlying hd,MapKept.run_getObj_map hblk,hc,hF,hz]
   ·exact h.elim
  ·exact h.elim
theorem nA_ (w:World) (b:Nat) (o:Go.Obj):c9_ (fun b'=>b'=b) w { w with heap:=w.heap.setIfInBounds b o }:=
 ⟨rfl,rfl,rfl,by simp,fun b' _ hn=>by
  show (w.heap.setIfInBounds b o)[b']? =_;rw[Array.getElem?_setIfInBounds_ne (fun q=>hn q.symm)]⟩
theorem bH_.mapTurn (hr:cq_ φ H w) {l c c':Nat} {es es':List Ent} {i:LI} (hl:H[l]? =some (.map es c)) (hi:φ[l]? =some i) (hb:i.b < w.heap.size) {ys:Array MapEntry} (ha:b6_ (fj_ φ) es' ys.toList):
 bH_ φ H w φ (H.set l (.map es' c')) { w with heap:=w.heap.setIfInBounds i.b (.map ys c') }:=by
 refine bH_.turnO hr hl rfl rfl hi trivial trivial (nA_ _ _ _) ⟨by simpa using hb,ys,?_,ha⟩;show (w.heap.setIfInBounds i.b (.map ys c'))[i.b]? =_;simp [hb]
theorem lp_ {xs:Array MapEntry} {j:Nat} {y:MapEntry} {f:MapEntry→MapEntry} (h:xs.toList[j]? =some y):(xs.modify j f).toList=xs.toList.set j (f y):=by
 apply List.ext_getElem?;intro n;rw[Array.getElem?_toList,Array.getElem?_modify,List.getElem?_set,Array.getElem?_toList];rw[Array.getElem?_toList] at h;by_cases hn:j=n
 ·subst hn;obtain⟨hlt,he⟩:=Array.getElem?_eq_some_iff.1 h;simp [hlt,he]
 ·simp [hn]
theorem w8_ {xs:Array MapEntry} {j:Nat} {y:MapEntry} {f:MapEntry→MapEntry} (h:xs.toList[j]? =some y) (hf:f y=y):xs.modify j f=xs:=by
 apply Array.ext';rw[lp_ h,hf];apply List.ext_getElem?;intro n;rw[List.getElem?_set];by_cases hn:j=n
 ·subst hn; rw[h]; simpa using (List.getElem?_eq_some_iff.1 h).1
 ·simp [hn]
theorem qo_ {b:Nat} {o:Go.Obj} (h:w.heap[b]? =some o):({ w with heap:=w.heap.setIfInBounds b o }:World)=w:=by
 have:w.heap.setIfInBounds b o=w.heap:=by
  apply Array.ext';rw[Array.toList_setIfInBounds];apply List.ext_getElem?;intro n;rw[List.getElem?_set];by_cases hn:b=n
  ·subst hn;have h':w.heap.toList[b]? =some o:=by rw[Array.getElem?_toList]; exact h
   rw[h']; simpa using (List.getElem?_eq_some_iff.1 h').1
  ·simp [hn]
 rw[this]
theorem BB_ (hT:b8_ P cx.tys) (hr:cq_ φ H w) {t:Nat} (hm:cx.isMap t=true) {m:Option Nat} {k v:RV} {um x uv:Value} {K:Hp→Prop} (hu:(GV.map m).is φ um)
 (hf:kD_ (cx.ty (cx.ty t).an).agg (cx.ty (cx.ty t).an).lv k=true) (hx:k.is φ x) (hv:v.is φ uv)
 (h:sf_ H m (cx.ty (cx.ty t).an).agg (cx.ty (cx.ty t).an).lv k v K):
 ∃ H' w',K H'∧(Instr.mapUpdate t um x uv).run P w= .ok () w'∧bH_ φ H w φ H' w':=by
 have hd:=h9_ hT (gc_ hm).1;cases m with
 | none=>exact h.elim
 | some l=>
  unfold sf_ at h;simp only at h;split at h
  ·rename_i es c hl;obtain⟨i,hi,hb,xs,hblk,ha⟩:=hr.map hl;cases kH_ hi hu;have hc:=fun em=>lx_ (w:=w) hT hm hf hx em;split at h
   ·rename_i j hfd;split at h
    ·rename_i e he;obtain⟨e',y,h1,h2,h3,h4,h5⟩:=hQ_ (w:=w) hT hm hf hx hfd ha;rw[he] at h1; cases h1;have hky:((xs[j]?).map (·.key)).getD x=x:=by rw[←Array.getElem?_toList,h2]; exact h4
     refine⟨_,_,h,?_,bH_.mapTurn hr hl hi hb (ys:=xs.modify j fun e=>{ e with key:=x,val:=uv }) (c':=c) ?_⟩
     ·simp [Instr.mapUpdate,run_underlying hd,MapKept.run_getObj_map hblk,hc,h5,hky,xr_ hf hx,MapKept.run_setObj_map _ hblk]
     ·rw[lp_ h2];have q:fj_ φ (e.1,e.2.1,v) { key:=x,val:=uv,born:=y.born }:=⟨h3.1,h4▸h3.2.1,hv⟩;exact ha.set q j
    ·exact h.elim
   ·rename_i hfd;have hF:=hQ_ (w:=w) hT hm hf hx hfd ha;unfold sF_ at hF;refine⟨_,_,h,?_,bH_.mapTurn hr hl hi hb (ys:=xs.push { key:=x,val:=uv,born:=c }) (c':=c+1) ?_⟩
    ·simp [Instr.mapUpdate,run_underlying hd,MapKept.run_getObj_map hblk,hc,hF,MapKept.run_setObj_map _ hblk]
    ·rw[Array.toList_push];exact ha.append (.cons ⟨rfl,hx,hv⟩ .nil)
   ·exact h.elim
  ·exact h.elim
theorem BQ_ (hT:b8_ P cx.tys) (hr:cq_ φ H w) {t:Nat} (hm:cx.isMap t=true) {m:Option Nat} {k:RV} {um x:Value} {K:RV→Nat→Hp→Prop} (hu:(GV.map m).is φ um)
 (hf:kD_ (cx.ty (cx.ty t).an).agg (cx.ty (cx.ty t).an).lv k=true) (hx:k.is φ x)
 (h:CI_ H m (cx.ty (cx.ty t).an).agg (cx.ty (cx.ty t).an).lv k (un_ (cx.ty (cx.ty t).el)) K):
 ∃ v n H' w' uv,K v n H'∧(Instr.mapEntry t um x).run P w= .ok (.tuple #[uv,.int .i64 (nI n)]) w'∧v.is φ uv∧bH_ φ H w φ H' w':=by
 have hd:=h9_ hT (gc_ hm).1;obtain⟨z,hz,hzi⟩:=xC_ (φ:=φ) (w:=w) hT (gc_ hm).2.1;cases m with
 | none=>exact h.elim
 | some l=>
  unfold CI_ at h;simp only at h;split at h
  ·rename_i es c hl;obtain⟨i,hi,hb,xs,hblk,ha⟩:=hr.map hl;cases kH_ hi hu;have hc:=fun em=>lx_ (w:=w) hT hm hf hx em;split at h
   ·rename_i j hfd;split at h
    ·rename_i e he;obtain⟨e',y,h1,h2,h3,h4,h5⟩:=hQ_ (w:=w) hT hm hf hx hfd ha;rw[he] at h1; cases h1;have h2':xs[j]? =some y:=by rw[←Array.getElem?_toList]; exact h2
     have hky:((xs[j]?).map (·.key)).getD x=x:=by rw[h2']; exact h4
     have hbo:(Option.map (fun x:MapEntry=>(x.born:Int)) xs[j]?).getD 0=(e.1:Int):=by rw[h2']; show (y.born:Int)=_; rw[h3.1]
     have hms:xs.modify j (fun e=>{ e with key:=x })=xs:=w8_ h2 (by rw[←h4]);refine⟨_,_,_,w,y.val,h,?_,h3.2.2,bH_.refl hr⟩;simp [Instr.mapEntry,run_underlying hd,MapKept.run_getObj_map hblk,hc,h5,hky,hbo,xr_ hf hx,MapKept.run_setObj_map _ hblk,hms,qo_ hblk,goInt,nI]
    ·exact h.elim
   ·rename_i hfd;have hF:=hQ_ (w:=w) hT hm hf hx hfd ha;unfold sF_ at hF;refine⟨_,_,_,_,z,h,?_,hzi,bH_.mapTurn hr hl hi hb (ys:=xs.push { key:=x,val:=z,born:=c }) (c':=c+1) ?_⟩
    ·simp [Instr.mapEntry,run_underlying hd,MapKept.run_getObj_map hblk,hc,hF,hz,MapKept.run_setObj_map _ hblk,goInt,nI]
    ·rw[Array.toList_push];exact ha.append (.cons ⟨rfl,hx,hzi⟩ .nil)
   ·exact h.elim
  ·exact h.elim
theorem yw_ {n:Int}:∀ {es:List Ent} {xs:List MapEntry} {i j:Nat},Cf_ n es i=some j→b6_ (fj_ φ) es xs→∃ m y,j=i+m∧xs[m]? =some y∧xs.findIdx? (fun e=>(e.born:Int)==n)=some m
 | [],xs,i,j,h,ha=>by cases h
 | e::es,xs,i,j,h,ha=>by
  obtain⟨y,xs,rfl,hy,ha⟩:=ha.cons_inv;unfold Cf_ at h;split at h
  ·rename_i q;cases h;exact⟨0,y,by omega,by simp,by rw[List.findIdx?_cons]; rw[hy.1,q]; simp⟩
  ·rename_i q;obtain⟨m,y',rfl,h1,h2⟩:=yw_ h ha;exact⟨m+1,y',by omega,by simpa using h1,by rw[List.findIdx?_cons,hy.1,q,h2]; simp⟩
theorem Bx_ (hr:cq_ φ H w) {t:Nat} {m:Option Nat} {kk:IntKind} {n:Int} {v:RV} {um uv:Value} {K:Hp→Prop} (hu:(GV.map m).is φ um) (hv:v.is φ uv)
 (h:CW_ H m n v K):∃ H' w',K H'∧(Instr.entryStore t um (.int kk n) uv).run P w= .ok () w'∧bH_ φ H w φ H' w':=by
 cases m with
 | none=>exact h.elim
 | some l=>
  unfold CW_ at h;simp only at h;split at h
  ·rename_i es c hl;obtain⟨i,hi,hb,xs,hblk,ha⟩:=hr.map hl;cases kH_ hi hu;split at h
   ·rename_i j hfd;split at h
    ·rename_i e he;obtain⟨m,y,rfl,h1,h2⟩:=yw_ hfd ha;rw[Nat.zero_add] at he h;have h3:=u4_ ha he h1;refine⟨_,_,h,?_,bH_.mapTurn hr hl hi hb (ys:=xs.modify m fun e=>{ e with val:=uv }) (c':=c) ?_⟩
     ·have h2':xs.findIdx? (fun e=>(e.born:Int)==n)=some m:=by
       have:=List.findIdx?_toArray (fun e:MapEntry=>(e.born:Int)==n) xs.toList;rw[h2] at this; exact this
      simp [Instr.entryStore,MapKept.run_getObj_map hblk,asInt,asIntOf,h2',MapKept.run_setObj_map _ hblk]
     ·rw[lp_ h1];have q:fj_ φ (e.1,e.2.1,v) { key:=y.key,val:=uv,born:=y.born }:=⟨h3.1,h3.2.1,hv⟩;exact ha.set q m
    ·exact h.elim
   ·exact h.elim
  ·exact h.elim
theorem BK_ (hT:b8_ P cx.tys) (hr:cq_ φ H w) {t:Nat} (hm:cx.isMap t=true) {m:Option Nat} {k:RV} {um x:Value} {K:Hp→Prop} (hu:(GV.map m).is φ um)
 (hf:kD_ (cx.ty (cx.ty t).an).agg (cx.ty (cx.ty t).an).lv k=true) (hx:k.is φ x)
 (h:CT_ H m (cx.ty (cx.ty t).an).agg (cx.ty (cx.ty t).an).lv k K) (ts:List TypeId) (ty:TypeId):
 ∃ H' w',K H'∧(Builtin.delete_ (t::ts).toArray ty #[um,x]).run P w= .ok (.tuple #[]) w'∧bH_ φ H w φ H' w':=by
 have hd:=h9_ hT (gc_ hm).1;have hc:=fun em=>lx_ (w:=w) hT hm hf hx em;cases m with
 | none=>
  cases hu;exact⟨H,w,h,by simp [Builtin.delete_,run_underlying hd,hc],bH_.refl hr⟩
 | some l=>
  unfold CT_ at h;simp only at h;split at h
  ·rename_i es c hl;obtain⟨i,hi,hb,xs,hblk,ha⟩:=hr.map hl;cases kH_ hi hu;split at h
   ·rename_i j hfd;obtain⟨e',y,h1,h2,h3,h4,h5⟩:=hQ_ (w:=w) hT hm hf hx hfd ha;refine⟨_,_,h,?_,bH_.mapTurn hr hl hi hb (ys:=xs.eraseIdxIfInBounds j) (c':=c) ?_⟩
    ·simp [Builtin.delete_,run_underlying hd,MapKept.run_getObj_map hblk,hc,h5,MapKept.run_setObj_map _ hblk]
    ·have hlt:=(List.getElem?_eq_some_iff.1 h2).1;rw[Array.length_toList] at hlt;have:(xs.eraseIdxIfInBounds j).toList=xs.toList.eraseIdx j:=by
      unfold Array.eraseIdxIfInBounds;rw[dif_pos hlt,Array.toList_eraseIdx]
     rw[this,List.eraseIdx_eq_take_drop_succ,List.eraseIdx_eq_take_drop_succ];exact (ha.take j).append (ha.drop (j+1))
   ·rename_i hfd;have hF:=hQ_ (w:=w) hT hm hf hx hfd ha;unfold sF_ at hF;refine⟨H,w,h,?_,bH_.refl hr⟩;simp [Builtin.delete_,run_underlying hd,MapKept.run_getObj_map hblk,hc,hF,MapKept.run_setObj_map _ hblk,qo_ hblk]
   ·exact h.elim
  ·exact h.elim
theorem B9_ (hT:b8_ P cx.tys) (hr:cq_ φ H w) {t:Nat} (hm:(cx.ty t).isA 5=true) {m:Option Nat} {um:Value} {K:Nat→Prop} (hu:(GV.map m).is φ um) (h:pW_ H m K) (ts:List TypeId) (ty:TypeId):
 ∃ n,K n∧(Builtin.len_ (t::ts).toArray ty #[um]).run P w= .ok (.int .i64 (nI n)) w:=by
 have hd:=h9_ hT hm;cases m with
 | none=>cases hu; exact⟨0,h,by simp [Builtin.len_,run_underlying hd,goInt,nI]⟩
 | some l=>
  unfold pW_ at h;simp only at h;split at h
  ·rename_i es c hl;obtain⟨i,hi,hb,xs,hblk,ha⟩:=hr.map hl;cases kH_ hi hu;have hle:es.length=xs.size:=by have:=ha.length; simpa using this
   exact⟨_,h,by simp [Builtin.len_,run_underlying hd,MapKept.run_getObj_map hblk,goInt,nI,hle]⟩
  ·exact h.elim
theorem Bc_ (hr:cq_ φ H w):bH_ φ H w (φ++[⟨w.heap.size,0,true,0,0⟩]) (pu H (.map [] 0)) (w.alloc (.map #[] 0))∧(GV.map (some (ln H))).is (φ++[⟨w.heap.size,0,true,0,0⟩]) (.map (some w.heap.size)):=by
 refine⟨bH_.snocO hr (fo_ _ _ _) (fun b hb=>heap_alloc_old w _ (hr.blockLt hb)) ⟨by simp,#[],heap_alloc_new w _,.nil⟩ (Nat.le_refl _),⟨w.heap.size,0,true,0,0⟩,?_,rfl⟩;simp only[ln,←hr.len]; exact List.getElem?_concat_length
theorem CO_ (hT:b8_ P cx.tys) (hr:cq_ φ H w) {t:Nat} (hm:(cx.ty t).isA 5=true) {m:Option Nat} {um:Value} {K:Hp→Prop} (hu:(GV.map m).is φ um) (h:rng H m K):
 ∃ H' w',K H'∧(Instr.range t um).run P w= .ok (.pointer (some ⟨w.heap.size,0,none⟩)) w'∧bH_ φ H w (φ++[⟨w.heap.size,0,true,0,0⟩]) H' w'∧(GV.ptr (some (ln H,0))).is (φ++[⟨w.heap.size,0,true,0,0⟩]) (.pointer (some ⟨w.heap.size,0,none⟩)):=by
 have hd:=h9_ hT hm;have hp:(GV.ptr (some (ln H,0))).is (φ++[⟨w.heap.size,0,true,0,0⟩]) (.pointer (some ⟨w.heap.size,0,none⟩)):=⟨_,by simp only[ln,←hr.len]; exact List.getElem?_concat_length,rfl⟩;cases m with
 | none=>
  cases hu;exact⟨_,_,h,run_range_nilMap w t _ _ hd,bH_.snocO hr (fo_ _ _ _) (fun b hb=>heap_alloc_old w _ (hr.blockLt hb)) ⟨by simp,rfl,heap_alloc_new w _⟩ (Nat.le_refl _),hp⟩
 | some l=>
  unfold rng at h;simp only at h;split at h
  ·rename_i es c hl;obtain⟨i,hi,hb,xs,hblk,ha⟩:=hr.map hl;cases kH_ hi hu;exact⟨_,_,h,run_range_map w t _ _ _ _ _ hd hblk,bH_.snocO hr (fo_ _ _ _) (fun b hb=>heap_alloc_old w _ (hr.blockLt hb)) ⟨by simp,rfl,i,iz_ (List.prefix_append _ _) hi,heap_alloc_new w _⟩ (Nat.le_refl _),hp⟩
  ·exact h.elim
theorem wi_ (n:Nat) (h:0 < n):∃ (j:Nat) (w1:World),j < n∧(w1=w∨w1=w.drew)∧(choose (Question.mapNext n)).run P w= .ok j w1:=by
 by_cases hf:n≤1
 ·exact⟨0,w,by omega,.inl rfl,by simp [choose,Sem.run,Question.forced,hf]⟩
 ·exact⟨_,w.drew,Nat.mod_lt _ h,.inr rfl,by
   simp only[choose,Sem.run,Question.forced,decide_eq_true_eq,hf,if_false,Question.cut];rfl⟩
theorem CE_ (hr:cq_ φ H w) {l o:Nat} {u:Value} {ty:TypeId} {K1:RV→RV→Hp→Prop} {K2:Hp→Prop} (hu:(GV.ptr (some (l,o))).is φ u) (h:nxt H l o K1 K2):
 (∃ w',K2 H∧(Instr.next u false ty).run P w= .ok (.tuple #[.bool false]) w'∧bH_ φ H w φ H w')∨
 ∃ k v uk uv H' w',K1 k v H'∧k.is φ uk∧v.is φ uv∧(Instr.next u false ty).run P w= .ok (.tuple #[.bool true,uk,uv]) w'∧bH_ φ H w φ H' w':=by
 obtain⟨rfl,h⟩:=h;obtain⟨i,hi,rfl⟩:=hu;split at h
 ·rename_i since seen last hl;obtain⟨i',hi',hb,hp,hblk⟩:=hr.obj l _ hl rfl;rw[hi] at hi'; cases hi';refine .inl ⟨w,h,?_,bH_.refl hr⟩;have e:(⟨i.b,i.p+0,none⟩:Addr)=⟨i.b,0,none⟩:=by rw[hp]
  rw[e];simp only at hblk;simp [Instr.next,getObj,Sem.run_bind,Sem.run,hblk,Result.andThen]
 ·rename_i m since seen last hl;obtain⟨i',hi',hb,hp,j,hj,hblk⟩:=hr.obj l _ hl rfl;rw[hi] at hi'; cases hi';have e:(⟨i.b,i.p+0,none⟩:Addr)=⟨i.b,0,none⟩:=by rw[hp]
  rw[e];split at h
  ·rename_i es c hm;obtain⟨j',hj',hbm,xs,hblkm,ha⟩:=hr.map hm;rw[hj] at hj'; cases hj';obtain⟨hsafe,hsome,hend⟩:=h;have toE:∀ y∈xs.toList,∃ e∈es,fj_ φ e y:=by
    intro y hy;obtain⟨n,hn,rfl⟩:=List.getElem_of_mem hy;have hle:=ha.length;have h1:es[n]? =some es[n]:=List.getElem?_eq_getElem (by omega);exact⟨es[n],List.getElem_mem _,u4_ ha h1 (List.getElem?_eq_getElem hn)⟩
   have toX:∀ e∈es,∃ y∈xs.toList,fj_ φ e y:=by
    intro e he;obtain⟨n,hn,rfl⟩:=List.getElem_of_mem he;obtain⟨y,h1,h2⟩:=ha.get (List.getElem?_eq_getElem hn);exact⟨y,List.mem_of_getElem? h1,h2⟩
   have htest:(!seen.toArray.isEmpty&& !xs.isEmpty&&xs.all (fun x=>decide (x.born≥last)))=false:=by
    rcases hsafe with rfl | rfl | ⟨e,he,hlt⟩
    ·simp
    ·have:xs.toList=[]:=ha.nil_inv;have:xs= #[]:=Array.ext' this;subst this; simp
    ·obtain⟨y,hy,hey⟩:=toX e he;have:xs.all (fun x=>decide (x.born≥last))=false:=by
      rw[Bool.eq_false_iff];intro q;rw[Array.all_eq_true_iff_forall_mem] at q;have:=q y (Array.mem_toList_iff.1 hy);simp only[decide_eq_true_eq] at this;rw[hey.1] at this;omega
     simp [this]
   simp only[Instr.next,getObj,Sem.run_bind,Sem.run,hblk,hblkm,Result.andThen,htest,Bool.false_eq_true,if_false];generalize hL:Array.filter (fun e=> !seen.toArray.contains e.born) xs=L;have hLm:∀ y∈L.toList,y∈xs.toList∧y.born∉seen:=by
    intro y hy;rw[←hL] at hy;simp at hy;exact⟨by simpa using hy.1,hy.2⟩
   have hLi:∀ y∈xs.toList,y.born∉seen→y∈L.toList:=by
    intro y hy hn;rw[←hL];simp;exact⟨by simpa using hy,hn⟩
   generalize hO:L.filter (fun x=>decide (x.born < since))=O;generalize hN:L.filter (fun x=>decide (x.born≥since))=N;generalize hC:((if O.isEmpty then #[none] else #[])++(O++N).map some:Array (Option MapEntry))=C;have hpos:0 < C.size:=by
    rw[←hC];cases hO0:O.isEmpty with
    | true=>simp; omega
    | false=>
     have:O.size≠0:=by intro q; simp [Array.isEmpty,q] at hO0
     simp; omega
   obtain⟨n,w1,hn,hw1,hrun⟩:=wi_ (P:=P) (w:=w) C.size hpos;simp only[hrun,Array.getElem?_eq_getElem hn];have hmem:C[n]∈C:=Array.getElem_mem hn;have B1:bH_ φ H w φ H w1:=by rcases hw1 with rfl | rfl; exact bH_.refl hr; exact bH_.drew hr
   cases hc:C[n] with
   | none=>
    rw[hc,←hC] at hmem;have hO0:O.isEmpty=true:=by
     cases q:O.isEmpty with
     | true=>rfl
     | false=>rw[q] at hmem; simp at hmem
    refine .inl ⟨w1,hend fun e he hne=> ?_,rfl,B1⟩;obtain⟨y,hy,hey⟩:=toX e he;have hyL:=hLi y hy (by rw[hey.1]; exact hne);have hOe:O= #[]:=by simpa using hO0
    rw[hOe,Array.filter_eq_empty_iff] at hO;have:=hO y (by simpa using hyL);rw[←hey.1];simpa using this
   | some y=>
    rw[hc,←hC] at hmem;have hyL:y∈L.toList:=by
     have:y∈O∨y∈N:=by
      cases q:O.isEmpty<;>rw[q] at hmem<;>simp at hmem<;>exact hmem
     rcases this with q | q
     ·rw[←hO] at q; simp at q; simpa using q.1
     ·rw[←hN] at q; simp at q; simpa using q.1
    obtain⟨hyx,hys⟩:=hLm y hyL;obtain⟨e,he,hey⟩:=toE y hyx;have h1:w1.heap[i.b]? =some (.mapIter (some j.b) since seen.toArray last):=by rcases hw1 with rfl | rfl<;>exact hblk
    have hK:=hsome e he (by rw[←hey.1]; exact hys);refine .inr ⟨e.2.1,e.2.2,y.key,y.val,_,{ w1 with heap:=w1.heap.setIfInBounds i.b (.mapIter (some j.b) since (seen.toArray.push y.born) c) },hK,hey.2.1,hey.2.2,?_,?_⟩
    ·simp [setObj,Sem.run,h1,Sem.run_bind,Result.andThen]
    ·refine B1.trans (bH_.turnO B1.rep hl rfl rfl hi trivial trivial (nA_ _ _ _) ?_);have hb1:i.b < w1.heap.size:=by rcases hw1 with rfl | rfl<;>exact hb
     refine⟨by simpa using hb1,hp,j,hj,?_⟩;show (w1.heap.setIfInBounds i.b _)[i.b]? =_;rw[←hey.1];simp [hb1]
  ·exact h.elim
 ·exact h.elim
theorem Bs_ (hr:cq_ φ H w) {l o:Nat} {u:Value} {K:RV→RV→Prop} (hu:(GV.ptr (some (l,o))).is φ u) (h:vi_ H l o K):
 ∃ k v uk uv,K k v∧k.is φ uk∧v.is φ uv∧(Instr.entry u).run P w= .ok (.tuple #[uk,uv]) w:=by
 obtain⟨rfl,h⟩:=h;obtain⟨i,hi,rfl⟩:=hu;split at h
 ·rename_i m since seen last hl;obtain⟨i',hi',hb,hp,j,hj,hblk⟩:=hr.obj l _ hl rfl;rw[hi] at hi'; cases hi';have e:(⟨i.b,i.p+0,none⟩:Addr)=⟨i.b,0,none⟩:=by rw[hp]
  rw[e];split at h
  ·rename_i b es c hs hm;obtain⟨j',hj',hbm,xs,hblkm,ha⟩:=hr.map hm;rw[hj] at hj'; cases hj';obtain⟨rfl,h⟩:=h;split at h
   ·rename_i en hf;have key:∀ {es:List Ent} {xs:List MapEntry},b6_ (fj_ φ) es xs→es.find? (fun e=>e.1==b)=some en→∃ y,xs.find? (fun y=>y.born==b)=some y∧fj_ φ en y:=by
     intro es xs ha;induction ha with
     | nil=>intro h; cases h
     | cons hab _ ih=>
      intro h;rw[List.find?_cons] at h;split at h
      ·rename_i q;cases h;exact⟨_,by rw[List.find?_cons,hab.1,q],hab⟩
      ·rename_i q;obtain⟨y,hy,hey⟩:=ih h;exact⟨y,by rw[List.find?_cons,hab.1,q]; exact hy,hey⟩
    obtain⟨y,hy,hey⟩:=key ha hf;have hy':xs.find? (fun y=>y.born==b)=some y:=by rw[←Array.find?_toList]; exact hy
    have hsb:seen.toArray.back? =some b:=by simpa using hs
    refine⟨_,_,y.key,y.val,h,hey.2.1,hey.2.2,?_⟩;simp only[Instr.entry,getObj,Sem.run_bind,Sem.run,hblk,hblkm,Result.andThen,hsb,bne_self_eq_false,Bool.false_eq_true,if_false,hy'];rfl
   ·exact h.elim
  ·exact h.elim
 ·exact h.elim
theorem BM_ {d:Option Nat} {k v:RV} {K:FV→Prop} (h:u5_ cx d k v K):∃ k' v',K (.tup [k',v'])∧(∀ φ x,k.is φ x→k'.is φ x)∧∀ φ x,v.is φ x→v'.is φ x:=by
 unfold u5_ at h;split at h
 ·obtain⟨k',h,hk⟩:=vu_ h;obtain⟨v',h,hv⟩:=vu_ h;exact⟨k',v',h,hk,hv⟩
 ·exact⟨k,v,h,fun _ _ q=>q,fun _ _ q=>q⟩
end
end Go.Am
namespace Go.Am
theorem FV.is.mono {φ φ':List LI} (h:φ<+:φ') {v:FV} {x:Value} (hv:v.is φ x):v.is φ' x:=by
 cases v with
 | g v=>exact GV.is.mono h hv
 | agg cs=>obtain⟨us,h1,h2⟩:=hv; exact⟨us,h1,Is2.mono h h2⟩
 | tup vs=>obtain⟨us,h1,h2⟩:=hv; exact⟨us,h1,h2.imp fun _ _=>RV.is.mono h⟩
 | _=>exact hv.elim
def so_ (φ:List LI) (H:Hp) (w:World) (Q:Post):Ending→World→Prop:=fun e w'=>∃ r H' φ' x,Q r H'∧e= .returned x∧r.is φ' x∧bH_ φ H w φ' H' w'
def yj_ (P:Program) (f:FuncId) (args:Array Value) (w:World) (R:Ending→World→Prop):Prop:=
 ((callFunc f args).run P w= .ok (.enter f args) w∧Calls P f args w R)∨∃ x w',(callFunc f args).run P w= .ok (.value x) w'∧R (.returned x) w'
def bG_ (P:Program) (f:FuncId) (s:Sm):Prop:=
 ∀ as H Q,s as H Q→∀ φ w vs,cq_ φ H w→b6_ (FV.is φ) as vs→yj_ P f vs.toArray w (so_ φ H w Q)
def CX_ (P:Program) (f:FuncId):Prop:=∃ fn,P.funcs[f]? =some fn∧(fn.name== "runtime.NumGoroutine")=false∧fn.body.isNone=false
theorem ay_.c {P:Program} {f:FuncId} {s:Sm} (h:ay_ P f s) (hb:CX_ P f):bG_ P f s:=by
 intro as H Q hs φ w vs hr ha;obtain⟨fn,h1,h2,h3⟩:=hb;have h2': ¬ fn.name= "runtime.NumGoroutine" :=by simpa using h2
 have h3': ¬ fn.body=none:=by intro e; rw[e] at h3; cases h3
 exact .inl ⟨by simp [callFunc,h1,h2',h3'],h as H Q hs φ w vs hr ha⟩
section
variable {P:Program} {cx:Cx} {φ:List LI} {H:Hp} {lam:Nat→Nat} {fr:List FV} {w:World} {φ0:List LI} {H0:Hp} {w0:World} {tmps:Array Value}
theorem rZ_ (I:Inv φ0 H0 w0 φ H lam fr tmps w) (df:List Deferred) (t:Nat) (x:Operand):VOK w0.heap.size φ H lam fr w (evT cx t (ev fr) x) (Act.eval ⟨tmps,df⟩ x):=by
 unfold evT;split
 ·exact⟨rfl,rfl⟩
 ·exact I.ev df x
theorem ja_ (df:List Deferred):∀ {xs:List Operand} {ts:List Nat} {φ:List LI} {H:Hp} {K:List FV→Hp→Prop},Inv φ0 H0 w0 φ H lam fr tmps w→g3_ cx (ev fr) xs ts H K→
 ∃ as H' φ',K as H'∧b6_ (FV.is φ') as (xs.map (Act.eval ⟨tmps,df⟩))∧Inv φ0 H0 w0 φ' H' lam fr tmps w∧φ<+:φ'
 | [],ts,φ,H,K,I,h=>⟨[],H,φ,h,.nil,I,List.prefix_refl _⟩
 | x::xs,ts,φ,H,K,I,h=>by
  have hv:=rZ_ (cx:=cx) I df (hdN ts) x;have h':(match evT cx (hdN ts) (ev fr) x with
   | .g v=>g3_ cx (ev fr) xs (tlN ts) H fun r H=>K (.g v::r) H
   | .agg cs=>g3_ cx (ev fr) xs (tlN ts) H fun r H=>K (.agg cs::r) H
   | .bs cs n z=>g3_ cx (ev fr) xs (tlN ts) (pu H (.row false mo_ cs)) fun r H'=>K (.g (.sl (some (ln H,0)) n z)::r) H'
   | _=>False):=h
  split at h'
  ·rename_i v e;rw[e] at hv;obtain⟨as,H',φ',h1,h2,h3,h4⟩:=ja_ df I h';exact⟨_,H',φ',h1,.cons (FV.is.mono (v:= .g v) h4 hv) h2,h3,h4⟩
  ·rename_i v e;rw[e] at hv;obtain⟨as,H',φ',h1,h2,h3,h4⟩:=ja_ df I h';exact⟨_,H',φ',h1,.cons (FV.is.mono (v:= .agg v) h4 hv) h2,h3,h4⟩
  ·rename_i cs n z e;rw[e] at hv;obtain⟨b,c,t,fz,e1,hb0,hblk,hcis,⟨hl,rfl⟩,hno,hnb⟩:=hv;obtain⟨R,o1,o2⟩:=I.rep.snoc (w':=w) (own:=false) (t:=mo_) (cs:=cs) (i:=⟨b,0,false,cs.length,0⟩) (Nat.le_refl _) (fun _ _=>rfl)
    ⟨rfl,rfl,(Array.getElem?_eq_some_iff.1 hblk).1,fun j v hj=>by
     obtain⟨x,hx,hvx⟩:=hcis.get hj;exact⟨x,by rw[Nat.zero_add,fa_ hblk]; simpa using hx,GV.is.mono (List.prefix_append _ _) hvx⟩,fun _=>⟨rfl,_,_,hblk⟩⟩ (fun q=>by cases q) hno
   have I2:=I.go (List.prefix_append _ _) R (c9_.refl _ _) (fun b' q=>(o1 b' q).imp_right fun q=>by cases q.1) (fun b' q=>(o2 b' q).imp_right fun q=>by rw[q]; exact⟨hb0,hnb⟩);obtain⟨as,H',φ',h1,h2,h3,h4⟩:=ja_ df I2 h';refine⟨_,H',φ',h1,.cons ?_ h2,h3,(List.prefix_append _ _).trans h4⟩;rw[e1];exact⟨⟨b,0,false,cs.length,0⟩,_,n,iz_ h4 (by simp only[ln,←I.rep.len]; exact List.getElem?_concat_length),rfl,.inl rfl,Nat.le_refl _,by show cs.length≤_; omega,fun q=>by cases q⟩
  ·exact h'.elim
theorem e5_ {o:Oper} {a:Act} {next:Act→World→Prop} {Q:Exit→Act→World→Prop} {u:Value} {w':World} (h:(execOp a.eval o).run P w= .ok (.value u) w') (hn:next (a.put o.dst u) w'):o.wp P a w next Q:=by
 unfold Oper.wp; rw[h]; exact hn
theorem vF_ {o:Oper} {a:Act} {next:Act→World→Prop} {Q:Exit→Act→World→Prop} {w':World} (h:(execOp a.eval o).run P w= .ok .skip w') (hn:next (a.put o.dst undef) w'):o.wp P a w next Q:=by
 unfold Oper.wp; rw[h]; exact hn
theorem n9_ (I:Inv φ0 H0 w0 φ H lam fr tmps w) {o:Oper} {df:List Deferred} {f:FuncId} {s:Sm} {as:List FV} {vs:List Value} {K:FV→Hp→Prop} (hS:bG_ P f s) (hs:cl s as H fun r H=>pV_ cx o.type r fun r=>K r H)
 (ha:b6_ (FV.is φ) as vs) (hx:(execOp (Act.eval ⟨tmps,df⟩) o).run P w=(callFunc f vs.toArray).run P w) {next:Act→World→Prop} {Q:Exit→Act→World→Prop}
 (hn:∀ v H' u w',K v H'→Res φ0 H0 w0 o.dst v fr H' tmps u w'→next ((⟨tmps,df⟩:Act).put o.dst u) w'):o.wp P ⟨tmps,df⟩ w next Q:=by
 have fin:∀ e w',so_ φ H w (fun r H=>pV_ cx o.type r fun r=>K r H) e w'→∃ x,e= .returned x∧next ((⟨tmps,df⟩:Act).put o.dst x) w':=by
  intro e w' ⟨r,H',φ',x,hq,he,hr,B⟩;obtain⟨r',hk,hr'⟩:=BG_ cx hq;exact⟨x,he,hn _ _ _ _ hk (Res.of (I.back B) (hr' _ _ _ _ _ _ _ hr) o.dst)⟩
 rcases hS as H _ hs φ w vs I.rep ha with⟨h1,h2⟩ | ⟨x,w',h1,h2⟩
 ·unfold Oper.wp;rw[hx,h1,Oper.upon_enter];refine h2.mono fun e w' q=> ?_;obtain⟨x,rfl,hq⟩:=fin e w' q;exact hq
 ·obtain⟨x',e,hq⟩:=fin _ _ h2;cases e;exact e5_ (by rw[hx,h1]) hq
theorem BS_ {caps:List (Nat × Nat)} {xs:List Value} (h:b6_ (mw_ φ) caps xs):b6_ (FV.is φ) (caps.map DR_) xs:=by
 induction h with
 | nil=>exact .nil
 | cons h _ ih=>exact .cons h ih
theorem qu_ (b:Bool):(asBool (.bool b)).run P w= .ok b w:=rfl
theorem yl_ {t:TypeId} {n:String} {i:TypeInfo} {m:Method} {e:TypeId} {f:FuncId} {u:Value} (hi:P.info? t=some i) (hf:i.methods.find? (·.name==n)=some m) (hp:m.path= #[]) (hm:m.func=some (f,true)) (hd:P.underlying t=some (.pointer e)):
 (method (P.types.size+Made.depth) t u n).run P w= .ok (f,u) w:=by
 show (method ((P.types.size+99)+1) t u n).run P w=_;unfold method;simp [typeInfo,hi,hf,hp,hm,follow,receiverAt,run_underlying hd,Place.get]
theorem Bt_ {xt t:TypeId} {ad:Addr} {a b:ByteArray}:(Builtin.ssaWrapNilChk_ #[xt] t #[.pointer (some ad),.string a,.string b]).run P w= .ok (.pointer (some ad)) w:=rfl
theorem xQ_ {t:TypeId} {n:String} {i:TypeInfo} {m:Method} {e:TypeId} {f:FuncId} {ad:Addr} {x:Value} (hi:P.info? t=some i) (hf:i.methods.find? (·.name==n)=some m) (hp:m.path= #[]) (hm:m.func=some (f,false)) (hd:P.underlying t=some (.pointer e)) (hl:(loadVar e ad).run P w= .ok x w):
 (method (P.types.size+Made.depth) t (.pointer (some ad)) n).run P w= .ok (f,x) w:=by
 show (method ((P.types.size+99)+1) t (.pointer (some ad)) n).run P w=_;unfold method;simp [typeInfo,hi,hf,hp,hm,follow,receiverAt,run_underlying hd,Place.get,Bt_,strVal,asAddr,hl]
theorem Dj_ {cx:Cx} {t:Nat} {v:GV} {B:Nat→FV} {H:Hp} {K:FV→Prop} (h:i0_ cx t (.g v) B H K):∃ q,v= .ptr (some q):=by
 cases v with
 | ptr a=>cases a with
  | none=>exact h.elim
  | some q=>exact⟨q,rfl⟩
 | _=>exact h.elim
theorem rW_ {t:TypeId} {n:String} {f:FuncId} {u x:Value} {args:Array Value} (hm:(method (P.types.size+Made.depth) t u n).run P w= .ok (f,x) w):
 (invoke { target:= .fn (.method n) #[],args:= #[.iface t u]++args:Deferred }.target (#[.iface t u]++args)).run P w=(callFunc f (#[x]++args)).run P w:=by
 have e0:(#[Value.iface t u]++args)[0]? =some (.iface t u):=by simp [Array.getElem?_append]
 have e1:(#[Value.iface t u]++args).extract 1 (#[Value.iface t u]++args).size=args:=by
  apply Array.ext';simp
 simp only[invoke,e0,e1,callMethod,Sem.run_bind];simp [hm]
theorem Da_ (hT:b8_ P cx.tys) (hE:∀ f s,cx.env.lookup f=some s→bG_ P f s) (hD:∀ f,bG_ P f (cx.dyn f)) (I:Inv φ0 H0 w0 φ H lam fr tmps w) (df:List Deferred) {o:Oper} {K:FV→Hp→Prop} (h:opE cx o (ev fr) (fun s=>fr.getD s .bad) H K)
 {next:Act→World→Prop} {Q:Exit→Act→World→Prop} (hn:∀ v H' u w',K v H'→Res φ0 H0 w0 o.dst v fr H' tmps u w'→next ((⟨tmps,df⟩:Act).put o.dst u) w'):o.wp P ⟨tmps,df⟩ w next Q:=by
 have pure1:∀ {v u},K v H→(execOp (Act.eval ⟨tmps,df⟩) o).run P w= .ok (.value u) w→VOK w0.heap.size φ H lam fr w v u→o.wp P ⟨tmps,df⟩ w next Q:=fun hk hr hv=>e5_ hr (hn _ _ _ _ hk (Res.of I hv o.dst));unfold opE at h;cases ho:o.op with
 | move x=>
  rw[ho] at h;exact pure1 h (by simp [execOp,ho]) (rZ_ I df _ _)
 | assign x=>
  rw[ho] at h;exact pure1 h (by simp [execOp,ho]) (rZ_ I df _ _)
 | pick c a b=>
  rw[ho] at h;replace h:(match ev fr c with | .g (.bool t)=>af_ t (K (ev fr a) H) (K (ev fr b) H) | _=>False):=h;have hc:=I.ev df c;split at h
  ·rename_i t e;rw[e] at hc;have hc:Act.eval ⟨tmps,df⟩ c= .bool t:=hc;cases t with
   | true=>exact pure1 h (by simp [execOp,ho,hc,qu_]) (I.ev df a)
   | false=>exact pure1 h (by simp [execOp,ho,hc,qu_]) (I.ev df b)
  ·exact h.elim
 | build t parts=>
  rw[ho] at h;obtain⟨ht,h⟩:=aj_.1 h;obtain⟨hk0,h⟩:=aj_.1 h;obtain⟨hfs,h⟩:=aj_.1 h;obtain⟨cs,u,hk,hr,hv⟩:=AB_ (P:=P) hT I df ht (fk_ hk0) hfs h;exact pure1 hk (by simp [execOp,ho,hr]) hv
 | buildSlice t n parts=>
  rw[ho] at h;obtain⟨ht,h⟩:=aj_.1 h;obtain⟨hz,h⟩:=aj_.1 h;obtain⟨hn2,h⟩:=aj_.1 h;obtain⟨cs,cells,hk,hl,hl2,his,hr⟩:=tm_ (P:=P) hT I df ht (Nat.le_of_ble_eq_true hz) (Nat.le_of_ble_eq_true hn2) h;have hw:(execOp (Act.eval ⟨tmps,df⟩) o).run P w= .ok (.value (.slice (some ⟨w.heap.size,0,none⟩) n n)) (w.alloc (.cells cells (cx.ty t).el)):=by simp [execOp,ho,hr]
  split at hk
  ·have B:=bH_.new I.rep (cx.ty t).el cs cells (0,0) (by omega) (by rw[List.take_of_length_le (by simp; omega)]; exact his) (fun j _ h=>by omega);refine e5_ hw (hn _ _ _ _ hk (Res.of (v:= .g (.sl (some (ln H,0)) n _)) (I.back B) ?_ o.dst));refine⟨_,_,n,by simp only[ln,←I.rep.len]; exact List.getElem?_concat_length,rfl,.inl rfl,Nat.le_refl _,?_,fun _=>⟨rfl,?_,?_⟩⟩
   ·show cs.length≤_; omega
   ·show 0+_≤cells.size; omega
   ·have h1:=Nat.le_of_ble_eq_true hn2;have h2:n*1≤n*(cx.ty (cx.ty t).el).lv.length:=Nat.mul_le_mul_left _ (Nat.le_of_ble_eq_true hz);omega
  ·refine e5_ hw (hn _ _ _ _ hk (Res.of (I.alloc _) ?_ o.dst));refine⟨w.heap.size,cells,(cx.ty t).el,(0,0),rfl,I.keeps.size,heap_alloc_new w _,his,⟨hl,rfl⟩,fun q=> ?_,fun q=> ?_⟩
   ·have:=I.rep.blockLt q.row; omega
   ·have:=(I.boxLt q).1; omega
 | load t a=>
  rw[ho] at h;obtain⟨ht,h⟩:=aj_.1 h;obtain⟨v,u,hk,hr,hv⟩:=vY_ (P:=P) hT I ht h (I.ev df a);exact pure1 hk (by simp [execOp,ho,hr]) hv
 | nilCheck x=>
  rw[ho] at h;replace h:(match ev fr x with
   | .lp s p=>K (.lp s p) H
   | .g (.ptr a)=>pS a fun l p=>K (.g (.ptr (some (l,p)))) H
   | _=>False):=h
  have hv:=I.ev df x;split at h
  ·rename_i s p e;rw[e] at hv;have hv':Act.eval ⟨tmps,df⟩ x= .pointer (some ⟨lam s,p,none⟩):=hv;exact pure1 h (u:=Act.eval ⟨tmps,df⟩ x) (by simp [execOp,ho,hv']) hv
  ·rename_i a e;rw[e] at hv;cases a with
   | none=>exact h.elim
   | some p=>
    obtain⟨i,hi,hv'⟩:=id hv;exact pure1 h (u:=Act.eval ⟨tmps,df⟩ x) (by simp [execOp,ho,hv']) hv
  ·exact h.elim
 | binOp op t x y yt=>
  rw[ho] at h;obtain⟨v,u,hk,hr,hv⟩:=BX_ (P:=P) (ox:=x) (oy:=y) hT h (I.ev df x) (I.ev df y);refine pure1 hk ?_ hv;simp only[execOp,ho];rw[Sem.run_bind,hr]; rfl
 | unOp op t x=>
  rw[ho] at h;obtain⟨v,u,hk,hr,hv⟩:=CR_ (P:=P) h (I.ev df x);exact pure1 hk (by simp [execOp,ho,hr]) hv
 | convert s d x=>
  rw[ho] at h;obtain⟨v,H',u,w',hk,hr,hres⟩:=AM_ (P:=P) hT I h (I.ev df x) o.dst;exact e5_ (by simp [execOp,ho,hr]) (hn _ _ _ _ hk hres)
 | makeInterface t x=>
  rw[ho] at h;obtain⟨ht,h⟩:=aj_.1 h;obtain⟨hi,h⟩:=aj_.1 h;have hv:=I.ev df x;split at h
  ·rename_i v e;rw[e] at hv;obtain⟨d,hd,hok⟩:=fK_ hT ht;refine pure1 h (u:= .iface t (Act.eval ⟨tmps,df⟩ x)) ?_ ⟨_,rfl,hv⟩;cases d with
   | interface ms=>
    simp [c8_] at hok;have:=vn_ hok.2;simp [TI.isIface,this,hok.1] at hi
   | _=>simp [execOp,ho,Instr.makeInterface,run_underlying hd]
  ·exact h.elim
 | makeFunc fn first caps=>
  rw[ho] at h;dsimp only at h;split at h
  ·rename_i f e;obtain⟨cs,hk,hcs⟩:=wX_ I df h;have e':first= #[]:=by simpa using e
   subst e';refine pure1 hk (u:= .func (.func f) #[] (caps.map (Act.eval ⟨tmps,df⟩))) (by simp [execOp,ho,Instr.makeFunc]) ⟨_,?_,hcs⟩;congr 1;apply Array.ext';simp
  ·exact h.elim
 | makeSlice t l c=>
  rw[ho] at h;dsimp only at h;split at h
  ·obtain⟨v,H',u,w',hk,hr,hres⟩:=A6_ (P:=P) hT I h (I.ev df l) (I.ev df c) o.dst;exact e5_ (by simp [execOp,ho,hr]) (hn _ _ _ _ hk hres)
  ·obtain⟨v,u,w',hk,hr,hres⟩:=Aw_ (P:=P) hT I h (I.ev df l) (I.ev df c) o.dst;exact e5_ (by simp [execOp,ho,hr]) (hn _ _ _ _ hk hres)
 | slice t x lo hi mx=>
  rw[ho] at h;cases mx with
  | some m=>
   obtain⟨v,u,hk,hr,hv⟩:=xE_ (P:=P) hT I df h (I.ev df x);refine pure1 hk ?_ hv;simp only[execOp,ho];rw[Sem.run_bind,hr]; rfl
  | none=>
   obtain⟨v,u,hk,hr,hv⟩:=z1_ (P:=P) hT I df h (I.ev df x);refine pure1 hk ?_ hv;simp only[execOp,ho];rw[Sem.run_bind,Option.map_none,hr]; rfl
 | fieldAddr t x f=>
  rw[ho] at h;replace h:(match (cx.ty t).fs[f]? with
   | some (p,e)=>ck (cx.ty t).agg <| ck (cx.okT e) <| ck (Nat.ble 1 (cx.ty e).lv.length) <| xW_ (ev fr x) p fun v=>K v H
   | none=>False):=h
  split at h
  ·rename_i p e hf;obtain⟨ht,h⟩:=aj_.1 h;obtain⟨he,h⟩:=aj_.1 h;obtain⟨hp,h⟩:=aj_.1 h;obtain⟨v,u,hk,hr,hv⟩:=Bz_ (P:=P) hT ht he (Nat.le_of_ble_eq_true hp) hf h (I.ev df x);exact pure1 hk (by simp [execOp,ho,hr]) hv
  ·exact h.elim
 | field t x f=>
  rw[ho] at h;replace h:(match (cx.ty t).fs[f]?,ev fr x with
   | some (p,t'),.agg cs=>ck (cx.ty t).agg <| ck (cx.okT t') <| sY_ cs p (cx.ty t').lv.length (cx.ty t').agg fun v=>K v H
   | _,_=>False):=h
  have hv:=I.ev df x;split at h
  ·rename_i p t' cs hf e;rw[e] at hv;obtain⟨ht,h⟩:=aj_.1 h;obtain⟨he,h⟩:=aj_.1 h;obtain⟨v,u,hk,hr,hv⟩:=AK_ (P:=P) hT ht he hf h hv;exact pure1 hk (by simp [execOp,ho,hr]) hv
  ·exact h.elim
 | indexAddr t x i=>
  rw[ho] at h;obtain⟨v,u,hk,hr,hv⟩:=Bo_ (P:=P) hT h (I.ev df x) (I.ev df i);exact pure1 hk (by simp [execOp,ho,hr]) hv
 | index t x i=>
  rw[ho] at h;replace h:(match ev fr x,ev fr i with
   | .g (.str s),.g (.int _ j)=>ck ((cx.ty t).isA 3) <| chk (leI 0 j&&ltI j (sz s)) (K (gi .u8 (byt s (tN j))) H)
   | _,_=>False):=h
  have hv:=I.ev df x;have hvi:=I.ev df i;split at h
  ·rename_i s k j e1 e2;rw[e1] at hv; rw[e2] at hvi;have hv:Act.eval ⟨tmps,df⟩ x= .string s:=hv;have hvi:Act.eval ⟨tmps,df⟩ i= .int k j:=hvi;obtain⟨ht,h⟩:=aj_.1 h;obtain⟨hj,h⟩:=bf_.1 h;rw[Bool.and_eq_true] at hj;have hr:=Bf_ (P:=P) (w:=w) (k:=k) hT ht (gY_.1 hj.1) (vz_.1 hj.2);exact pure1 h (by simp [execOp,ho,hv,hvi,hr]) rfl
  ·exact h.elim
 | extract x i=>
  rw[ho] at h;replace h:(match ev fr x with
   | .tup vs=>match vs[i]? with | some (.s v)=>K (.g v) H | some (.a cs)=>K (.agg cs) H | none=>False
   | _=>False):=h
  have hv:=I.ev df x;split at h
  ·rename_i vs e;rw[e] at hv;obtain⟨us,hu,hall⟩:=hv;split at h
   ·rename_i v hg;obtain⟨u,hr,hru⟩:=sj_ (P:=P) (w:=w) hall hg;exact pure1 h (by simp [execOp,ho,hu,hr]) hru
   ·rename_i cs hg;obtain⟨u,hr,hru⟩:=sj_ (P:=P) (w:=w) hall hg;exact pure1 h (by simp [execOp,ho,hu,hr]) hru
   ·exact h.elim
  ·exact h.elim
 | call c=>
  rw[ho] at h;dsimp only at h;have dyn:∀ f,c.callee= .value f→(match ev fr f with
   | .g v=>dF v fun f caps=>g3_ cx (ev fr) c.args.toList c.argTypes.toList H fun as H=>cl (cx.dyn f) (cpl as caps) H fun r H=>pV_ cx o.type r fun r=>K r H
   | _=>False)→o.wp P ⟨tmps,df⟩ w next Q:=by
   intro f hc h;have hv:=I.ev df f;split at h
   ·rename_i v e;rw[e] at hv;cases v<;>first | exact h.elim | skip
    rename_i g caps;replace h:g3_ cx (ev fr) c.args.toList c.argTypes.toList H fun as H=>cl (cx.dyn g) (cpl as caps) H fun r H=>pV_ cx o.type r fun r=>K r H:=h;obtain⟨xs,hv,hcaps⟩:=hv;obtain⟨as,H',φ',hk,has,I',hpre⟩:=ja_ df I h;refine n9_ (vs:=c.args.toList.map (Act.eval ⟨tmps,df⟩)++xs) I' (hD g) hk (has.append (BS_ (hcaps.imp fun _ _=>mw_.mono hpre))) ?_ hn;simp [execOp,ho,resolve,hc,hv,Deferred.ofValue,invoke];congr 2;apply Array.ext';simp
   ·exact h.elim
  cases hc:c.callee with
  | value f=>
   rw[hc] at h;cases f with
   | func f=>
    replace h:(match cx.env.lookup f with
     | some sem=>g3_ cx (ev fr) c.args.toList c.argTypes.toList H fun as H=>cl sem as H fun r H=>pV_ cx o.type r fun r=>K r H
     | none=>False):=h
    split at h
    ·rename_i sem he;obtain⟨as,H',φ',hk,has,I',_⟩:=ja_ df I h;refine n9_ I' (hE f sem he) hk has ?_ hn;simp [execOp,ho,resolve,hc,Act.eval,Deferred.ofValue,invoke];congr 2;apply Array.ext';simp
    ·exact h.elim
   | tmp t=>exact dyn _ hc h
   | const v=>exact dyn _ hc h
   | global g=>exact dyn _ hc h
  | builtin b=>
   rw[hc] at h;dsimp only at h;have arr:∀ {α:Type} {xs:Array α} {l:List α},xs.toList=l→xs=l.toArray:=by
    intro α xs l e; rw[←e]
   split at h
   ·rename_i x ha;have ha:=arr ha;split at h
    ·rename_i t e;have e:=arr e;unfold u8_ at h;have hx:=I.ev df x;split at h
     ·rename_i m em;rw[em] at hx;obtain⟨hm,h⟩:=aj_.1 h;obtain⟨n,hk,hr⟩:=B9_ (P:=P) hT I.rep hm hx h [] o.type;exact pure1 hk (by simp [execOp,ho,resolve,hc,ha,e,invoke,builtin,hr]) rfl
     ·obtain⟨v,u,hk,hr,hv⟩:=B1_ (P:=P) (ty:=o.type) hT h hx;exact pure1 hk (by simp [execOp,ho,resolve,hc,ha,e,invoke,builtin,hr]) hv
    ·exact h.elim
   ·rename_i x y ha;have ha:=arr ha;split at h
    ·rename_i t t' e;have e:=arr e;unfold DK_ at h;obtain⟨hm,h⟩:=aj_.1 h;have hx:=I.ev df x;have hy:=I.ev df y;split at h
     ·rename_i m em;rw[em] at hx;unfold s2_ at h;obtain⟨k,h,hk⟩:=oO_ h;obtain⟨hf,h⟩:=aj_.1 h;obtain⟨H',w',h,hr,B⟩:=BK_ (P:=P) hT I.rep hm hx hf (hk hy) h [t'] o.type;exact e5_ (u:= .tuple #[]) (by simp [execOp,ho,resolve,hc,ha,e,invoke,builtin,hr]) (hn _ _ _ _ h (Res.of (v:= .bad) (I.back B) trivial o.dst))
     ·exact h.elim
    ·exact h.elim
   ·rename_i x ha;have ha:=arr ha;split at h
    ·rename_i t e;have e:=arr e;obtain⟨v,H',u,w',hk,hr,hres⟩:=B6_ (P:=P) (ty:=o.type) hT I h (I.ev df x) o.dst;exact e5_ (by simp [execOp,ho,resolve,hc,ha,e,invoke,builtin,hr]) (hn _ _ _ _ hk hres)
    ·exact h.elim
   ·rename_i x y ha;have ha:=arr ha;obtain⟨v,u,hk,hr,hv⟩:=v4_ (P:=P) h (I.ev df x) (I.ev df y);exact pure1 hk (by simp [execOp,ho,resolve,hc,ha,invoke,builtin,Builtin.min_,hr]) hv
   ·rename_i x y ha;have ha:=arr ha;obtain⟨v,u,hk,hr,hv⟩:=v4_ (P:=P) h (I.ev df x) (I.ev df y);exact pure1 hk (by simp [execOp,ho,resolve,hc,ha,invoke,builtin,Builtin.max_,hr]) hv
   ·rename_i x y ha;have ha:=arr ha;split at h
    ·rename_i t t' e;have e:=arr e;obtain⟨h1,h⟩:=aj_.1 h;obtain⟨h2,h⟩:=aj_.1 h;obtain⟨h3,h⟩:=aj_.1 h;obtain⟨v,H',u,w',hk,hr,hres⟩:=BT_ (P:=P) (ty:=o.type) hT I h1 h2 h3 h (I.ev df x) (I.ev df y) o.dst;exact e5_ (by simp [execOp,ho,resolve,hc,ha,e,invoke,builtin,hr]) (hn _ _ _ _ hk hres)
    ·exact h.elim
   ·exact h.elim
  | invoke r n=>
   rw[hc] at h;replace h:(match ev fr r with
    | .g (.iface t wv)=>match mth (cx.ty t).ms n with
     | some (f,b)=>match cx.env.lookup f with
      | some sem=>g3_ cx (ev fr) c.args.toList c.argTypes.toList H fun as H'=>ur_ cx t b wv (fun s=>fr.getD s .bad) H fun x=>cl sem (x::as) H' fun r H=>pV_ cx o.type r fun r=>K r H
      | none=>False
     | none=>False
    | _=>False):=h
   have hv:=I.ev df r;split at h
   ·rename_i t wv e;rw[e] at hv;obtain⟨u,hu,hw⟩:=hv;split at h
    ·rename_i f b hm;split at h
     ·rename_i sem he;obtain⟨as,H',φ',hk,has,I',hpre⟩:=ja_ df I h;obtain⟨i,m,hi,hfind,hpath,hfunc⟩:=hT.2.2.1 t n f b hm;unfold ur_ at hk;split at hk
      ·rename_i hptr;have hd:=oe_ hT hptr;split at hk
       ·refine n9_ (vs:=u::c.args.toList.map (Act.eval ⟨tmps,df⟩)) I' (hE f sem he) hk (.cons (GV.is.mono hpre hw) has) ?_ hn;have e:=rW_ (args:=c.args.map (Act.eval ⟨tmps,df⟩)) (yl_ (w:=w) (u:=u) hi hfind hpath hfunc hd);simp only[execOp,ho,resolve,hc,hu,Sem.run_bind,Sem.run_pure,Result.andThen_ok];refine e.trans ?_;congr 2;apply Array.ext';simp
       ·obtain⟨ht,hk⟩:=aj_.1 hk;have hk2:∃ pl,wv= .ptr (some pl)∧i0_ cx (cx.ty t).el (.g (.ptr (some pl))) (fun s=>fr.getD s .bad) H (fun x=>match x with
         | .g v=>cl sem (.g v::as) H' fun r H=>pV_ cx o.type r fun r=>K r H
         | .agg cs=>cl sem (.agg cs::as) H' fun r H=>pV_ cx o.type r fun r=>K r H
         | _=>False):=by
         clear hw hu;revert hk;cases wv with
         | ptr a=>
          intro hk;cases a with
          | none=>exact hk.elim
          | some q=>obtain⟨l,o'⟩:=q; exact⟨(l,o'),rfl,hk⟩
         | bool _=>intro hk; exact hk.elim
         | int _ _=>intro hk; exact hk.elim
         | str _=>intro hk; exact hk.elim
         | sl _ _ _=>intro hk; exact hk.elim
         | map _=>intro hk; exact hk.elim
         | fn _ _=>intro hk; exact hk.elim
         | nilfn=>intro hk; exact hk.elim
         | iface _ _=>intro hk; exact hk.elim
         | nilif=>intro hk; exact hk.elim
        obtain⟨pl,rfl,hk3⟩:=hk2;obtain⟨x,xu,hk4,hr,hx⟩:=vY_ (P:=P) hT I ht hk3 (show VOK _ _ _ _ _ _ (.g (.ptr (some pl))) u from hw);obtain⟨li,hli,rfl⟩:=hw;rw[ju_] at hr;have e:=rW_ (args:=c.args.map (Act.eval ⟨tmps,df⟩)) (xQ_ (w:=w) hi hfind hpath hfunc hd hr);cases x<;>first | exact hk4.elim | skip
        ·refine n9_ (vs:=xu::c.args.toList.map (Act.eval ⟨tmps,df⟩)) I' (hE f sem he) hk4 (.cons (GV.is.mono hpre hx) has) ?_ hn;simp only[execOp,ho,resolve,hc,hu,Sem.run_bind,Sem.run_pure,Result.andThen_ok];refine e.trans ?_;congr 2;apply Array.ext';simp
        ·obtain⟨us,rfl,hx⟩:=hx;refine n9_ (vs:= .agg us::c.args.toList.map (Act.eval ⟨tmps,df⟩)) I' (hE f sem he) hk4 (.cons ⟨us,rfl,Is2.mono hpre hx⟩ has) ?_ hn;simp only[execOp,ho,resolve,hc,hu,Sem.run_bind,Sem.run_pure,Result.andThen_ok];refine e.trans ?_;congr 2;apply Array.ext';simp
      ·exact hk.elim
     ·exact h.elim
    ·exact h.elim
   ·exact h.elim
 | typeAssert x xt a ok=>
  rw[ho] at h;dsimp only at h;cases ok with
  | true=>exact h.elim
  | false=>
   obtain⟨ht,h⟩:=aj_.1 h;obtain⟨hi,h⟩:=aj_.1 h;have hv:=I.ev df x;split at h
   ·rename_i v e;rw[e] at hv;cases v<;>first | exact h.elim | skip
    rename_i t' wv;change t'=a∧(match (cx.ty a).lv with | [k]=>fO_ k wv fun w=>K (.g w) H | _=>False) at h;obtain⟨e1,h2⟩:=h;subst e1;obtain⟨u,hu,hw⟩:=hv;obtain⟨d,hd,hok⟩:=fK_ hT ht;split at h2
    rotate_left
    ·exact h2.elim
    obtain⟨v',hk',hv'⟩:=jf_ h2;refine pure1 hk' (u:=u) ?_ (hv' _ _ hw);cases d with
    | interface ms=>
     simp [c8_] at hok;have:=vn_ hok.2;simp [TI.isIface,this,hok.1] at hi
    | _=>simp [execOp,ho,hu,Instr.typeAssert,run_underlying hd]
   ·exact h.elim
 | makeMap t r=>
  rw[ho] at h;obtain⟨hm,h⟩:=aj_.1 h;obtain⟨B,hv⟩:=Bc_ I.rep;cases r with
  | none=>exact e5_ (u:= .map (some w.heap.size)) (w':=w.alloc (.map #[] 0)) (by simp [execOp,ho,Instr.makeMap]) (hn (.g (.map (some (ln H)))) _ _ _ h (Res.of (v:= .g (.map (some (ln H)))) (u:= .map (some w.heap.size)) (I.back B) hv o.dst))
  | some x=>
   have hx:=I.ev df x;dsimp only at h;unfold Cq_ at h;split at h
   ·rename_i e; cases e
   ·rename_i k n e;have e:ev fr x= .g (.int k n):=Option.some.inj e;rw[e] at hx;have hx:Act.eval ⟨tmps,df⟩ x= .int k n:=hx;have hd:=h9_ hT hm;exact e5_ (u:= .map (some w.heap.size)) (w':=w.alloc (.map #[] 0)) (by simp [execOp,ho,Instr.makeMap,hx,run_underlying hd,asInt,asIntOf]) (hn (.g (.map (some (ln H)))) _ _ _ h (Res.of (v:= .g (.map (some (ln H)))) (u:= .map (some w.heap.size)) (I.back B) hv o.dst))
   ·exact h.elim
 | lookup t x i ok=>
  rw[ho] at h;dsimp only at h;unfold A3_ at h;obtain⟨hm,h⟩:=aj_.1 h;have hx:=I.ev df x;split at h
  ·rename_i m e;rw[e] at hx;unfold s2_ at h;obtain⟨k,h,hk⟩:=oO_ h;obtain⟨hf,h⟩:=aj_.1 h;obtain⟨v,b,uv,h,hv,r1,r2⟩:=BE_ (P:=P) hT I.rep hm hx hf (hk (I.ev df i)) h;obtain⟨v',h,hv'⟩:=vu_ h;have hv':=hv' _ _ hv;cases ok with
   | true=>exact pure1 h (u:= .tuple #[uv,.bool b]) (by simp [execOp,ho,r1]) ⟨#[uv,.bool b],rfl,.cons hv' (.cons rfl .nil)⟩
   | false=>exact pure1 h (by simp [execOp,ho,r2]) (C5_ hv')
  ·exact h.elim
 | mapUpdate t m k v=>
  rw[ho] at h;dsimp only at h;unfold DT_ at h;obtain⟨hm,h⟩:=aj_.1 h;have hx:=I.ev df m;split at h
  ·rename_i m' e;rw[e] at hx;unfold s2_ at h;obtain⟨kk,h,hk⟩:=oO_ h;obtain⟨hf,h⟩:=aj_.1 h;obtain⟨vv,h,hv⟩:=oO_ h;obtain⟨H',w',h,hr,B⟩:=BB_ (P:=P) hT I.rep hm hx hf (hk (I.ev df k)) (hv (rZ_ I df _ v)) h;exact vF_ (by simp [execOp,ho,hr]) (hn _ _ _ _ h (Res.of (v:= .bad) (I.back B) trivial o.dst))
  ·exact h.elim
 | mapEntry t m k=>
  rw[ho] at h;dsimp only at h;unfold Du_ at h;obtain⟨hm,h⟩:=aj_.1 h;have hx:=I.ev df m;split at h
  ·rename_i m' e;rw[e] at hx;unfold s2_ at h;obtain⟨kk,h,hk⟩:=oO_ h;obtain⟨hf,h⟩:=aj_.1 h;obtain⟨v,n,H',w',uv,h,hr,hv,B⟩:=BQ_ (P:=P) hT I.rep hm hx hf (hk (I.ev df k)) h;obtain⟨v',h,hv'⟩:=vu_ h;exact e5_ (by simp [execOp,ho,hr]) (hn _ _ _ _ h (Res.of (v:= .tup [v',.s (.int .i64 (nI n))]) (I.back B) ⟨#[uv,.int .i64 (nI n)],rfl,.cons (hv' _ _ hv) (.cons rfl .nil)⟩ o.dst))
  ·exact h.elim
 | entryStore t m s v=>
  rw[ho] at h;dsimp only at h;unfold DH_ at h;have hx:=I.ev df m;have hs:=I.ev df s;split at h
  ·rename_i m' kk n e1 e2;rw[e1] at hx;rw[e2] at hs;have hs:Act.eval ⟨tmps,df⟩ s= .int kk n:=hs;obtain⟨vv,h,hv⟩:=oO_ h;obtain⟨H',w',h,hr,B⟩:=Bx_ (P:=P) (t:=t) (kk:=kk) I.rep hx (hv (rZ_ I df _ v)) h;exact vF_ (by simp [execOp,ho,hs,hr]) (hn _ _ _ _ h (Res.of (v:= .bad) (I.back B) trivial o.dst))
  ·exact h.elim
 | range t x=>
  rw[ho] at h;dsimp only at h;unfold Dp_ at h;obtain⟨hm,h⟩:=aj_.1 h;have hx:=I.ev df x;split at h
  ·rename_i m e;rw[e] at hx;obtain⟨H',w',h,hr,B,hv⟩:=CO_ (P:=P) hT I.rep hm hx h;exact e5_ (by simp [execOp,ho,hr]) (hn _ _ _ _ h (Res.of (v:= .g (.ptr (some (ln H,0)))) (u:= .pointer (some ⟨w.heap.size,0,none⟩)) (I.back B) hv o.dst))
  ·exact h.elim
 | next x isS=>
  rw[ho] at h;dsimp only at h;unfold Dv_ at h;have hx:=I.ev df x;split at h
  ·rename_i l p e2;rw[e2] at hx;rcases CE_ (P:=P) (ty:=o.type) I.rep hx h with⟨w',h,hr,B⟩ | ⟨k,v,uk,uv,H',w',h,hk,hv,hr,B⟩
   ·exact e5_ (by simp [execOp,ho,hr]) (hn _ _ _ _ h (Res.of (v:= .tup [.s (.bool false)]) (I.back B) ⟨#[.bool false],rfl,.cons rfl .nil⟩ o.dst))
   ·exact e5_ (by simp [execOp,ho,hr]) (hn _ _ _ _ h (Res.of (v:= .tup [.s (.bool true),k,v]) (I.back B) ⟨#[.bool true,uk,uv],rfl,.cons rfl (.cons (RV.is.mono B.pre hk) (.cons (RV.is.mono B.pre hv) .nil))⟩ o.dst))
  ·exact h.elim
 | entry x=>
  rw[ho] at h;dsimp only at h;unfold vZ_ at h;have hx:=I.ev df x;split at h
  ·rename_i l p e;rw[e] at hx;obtain⟨k,v,uk,uv,h,hk,hv,hr⟩:=Bs_ (P:=P) I.rep hx h;obtain⟨k',v',h,hk',hv'⟩:=BM_ h;exact pure1 h (u:= .tuple #[uk,uv]) (by simp [execOp,ho,hr]) ⟨#[uk,uv],rfl,.cons (hk' _ _ hk) (.cons (hv' _ _ hv) .nil)⟩
  ·exact h.elim
 | _=>rw[ho] at h; exact h.elim
theorem ve_ (hT:b8_ P cx.tys) (hE:∀ f s,cx.env.lookup f=some s→bG_ P f s) (hD:∀ f,bG_ P f (cx.dyn f)) (I:Inv φ0 H0 w0 φ H lam fr tmps w) (df:List Deferred) {o:Oper} {K:FV→List FV→Hp→Prop} (h:opK cx o fr H K)
 {next:Act→World→Prop} {Q:Exit→Act→World→Prop} (hn:∀ v fr' H' u w',K v fr' H'→Res φ0 H0 w0 o.dst v fr' H' tmps u w'→next ((⟨tmps,df⟩:Act).put o.dst u) w'):o.wp P ⟨tmps,df⟩ w next Q:=by
 unfold opK at h;cases ho:o.op with
 | alloc t=>
  rw[ho] at h;obtain⟨ht,h⟩:=aj_.1 h;obtain⟨z,hz,hr⟩:=zI_ (P:=P) (w:=w) hT ht;obtain⟨v,fr',H',hk,hres⟩:=AQ_ (c:=z.cells) I (by rw[hz]; exact kN_ φ _) h;exact e5_ (by simp [execOp,ho,hr]) (hn _ _ _ _ _ hk hres)
 | box t x=>
  rw[ho] at h;obtain⟨cs,hk,hcs⟩:=lE_ h (I.ev df x);obtain⟨v,fr',H',hk,hres⟩:=AQ_ (t:=t) I hcs hk;exact e5_ (by simp [execOp,ho,Bh_]) (hn _ _ _ _ _ hk hres)
 | store t a x=>
  rw[ho] at h;obtain⟨ns,h,his⟩:=lE_ h (I.ev df x);obtain⟨ht,h⟩:=aj_.1 h;obtain⟨hl,h⟩:=aj_.1 h;obtain⟨fr',H',w',hk,hr,I'⟩:=zM_ (P:=P) hT I ht (fk_ hl) h (I.ev df a) his;exact vF_ (by simp [execOp,ho,hr]) (hn _ _ _ _ _ hk (Res.of (v:= .bad) I' trivial o.dst))
 | _=>
  rw[ho] at h;exact Da_ hT hE hD I df h (fun v H' u w' hk hr=>hn v fr H' u w' hk hr)
end
end Go.Am
namespace Go.Am
section
variable {P:Program} {cx:Cx} {φ:List LI} {H:Hp} {lam:Nat→Nat} {fr:List FV} {w:World} {φ0:List LI} {H0:Hp} {w0:World} {tmps:Array Value}
theorem lr_ {α:Type} {l:List α} {d:Nat} {v:α} (h:l[d]? =some v):l.set d v=l:=by
 apply List.ext_getElem?;intro j;rw[List.getElem?_set];split
 ·rename_i e; subst e; split
  ·exact h.symm
  ·rename_i q; exact (q (fA_ h)).elim
 ·rfl
theorem qH_ {ops:Array Oper} {tmps:Array Value} {j d:Nat} (hd:(ops[j]?).bind (·.dst)=some d) (hl:d < tmps.size) (hv:tmps.getD d undef=undef):yielded ops tmps j=none:=by
 unfold yielded;rw[hd];have:tmps[d]? =some undef:=by
  rw[Array.getElem?_eq_getElem hl];simpa [Array.getD,hl] using hv
 simp [this,undef]
theorem wZ_ (I:Inv φ0 H0 w0 φ H lam fr tmps w) {ops:Array Oper} {o:Oper} {yes no:List FV→Prop} (h:ms_ ops fr o.guard yes no):
 (Region.wanted o (yielded ops tmps)=true∧yes fr)∨(Region.wanted o (yielded ops tmps)=false∧no fr):=by
 unfold ms_ at h;unfold Region.wanted;cases hg:o.guard with
 | none=>rw[hg] at h; exact .inl ⟨rfl,h⟩
 | some jw=>
  obtain⟨j,want⟩:=jw;rw[hg] at h;dsimp only at h ⊢;split at h
  ·rename_i d hd;split at h
   ·rename_i b hb;have hs:=gS_ hb (by simp);have hv:=I.slot d _ hs;have hlt:=fA_ hs;have hv:tmps.getD d undef= .bool b:=hv;have hy:yielded ops tmps j=some b:=by
     unfold yielded;rw[hd];have:tmps[d]? =some (.bool b):=by
      rw[Array.getElem?_eq_getElem (by rw[←I.size]; exact hlt)];simpa [Array.getD,show d < tmps.size by rw[←I.size]; exact hlt] using hv
     simp [this]
    rw[hy];cases b with
    | true=>
     rw[n3_,if_pos rfl,gl_,lr_ hs] at h;cases want with
     | true=>exact .inl ⟨rfl,h⟩
     | false=>exact .inr ⟨rfl,h⟩
    | false=>
     rw[n3_,if_neg (by simp),gl_,lr_ hs] at h;cases want with
     | true=>exact .inr ⟨rfl,h⟩
     | false=>exact .inl ⟨rfl,h⟩
   ·rename_i hb;have hs:=gS_ hb (by simp);have hv:tmps.getD d undef=undef:=I.slot d _ hs;rw[qH_ hd (by rw[←I.size]; exact fA_ hs) hv];exact .inr ⟨rfl,h⟩
   ·exact h.elim
  ·exact h.elim
def eS_ (fr:List FV):Option Nat→FV→List FV
 | some d,v=>fr.set d v
 | none,_=>fr
theorem ry_ (fr:List FV) (d:Option Nat) (v:FV) (K:List FV→Prop):v2_ fr d v K=K (eS_ fr d v):=by
 cases d with
 | none=>rfl
 | some d=>simp [v2_,xL_,gl_,eS_]
theorem Res.put {dst:Option Tmp} {v:FV} {u:Value} {df:List Deferred} (h:Res φ0 H0 w0 dst v fr H tmps u w):∃ φ lam tmps',(⟨tmps,df⟩:Act).put dst u=⟨tmps',df⟩∧Inv φ0 H0 w0 φ H lam (eS_ fr dst v) tmps' w:=by
 obtain⟨φ,lam,h⟩:=h;cases dst with
 | none=>exact⟨φ,lam,tmps,rfl,h⟩
 | some d=>exact⟨φ,lam,_,rfl,h⟩
structure sW_ (P:Program) (cx:Cx):Prop where
 tys:b8_ P cx.tys
 env:∀ f s,cx.env.lookup f=some s→bG_ P f s
 dyn:∀ f,bG_ P f (cx.dyn f)
theorem vy_ (hC:sW_ P cx) {ops:Array Oper} {Q:Exit→Act→World→Prop} {df:List Deferred}:∀ {os:List Oper} {is:List Nat},b6_ (fun o i=>ops[i]? =some o) os is→∀ {φ:List LI} {H:Hp} {lam:Nat→Nat} {fr:List FV} {w:World} {tmps:Array Value} {K:List FV→Hp→Prop},
 kr_ cx ops os fr H K→Inv φ0 H0 w0 φ H lam fr tmps w→(∀ fr' H' φ' lam' tmps' w',K fr' H'→Inv φ0 H0 w0 φ' H' lam' fr' tmps' w'→Q .normal ⟨tmps',df⟩ w')→wpOps P ops Q is ⟨tmps,df⟩ w
 | [],_,hal,φ,H,lam,fr,w,tmps,K,h,I,hQ=>by
  cases hal.nil_inv;exact hQ _ _ _ _ _ _ h I
 | o::os,_,hal,φ,H,lam,fr,w,tmps,K,h,I,hQ=>by
  obtain⟨i,is,rfl,hi,hal⟩:=hal.cons_inv;simp only[wpOps,hi];have h':ms_ ops fr o.guard
   (fun fr=>opK cx o fr H fun v fr H=>v2_ fr o.dst v fun fr=>kr_ cx ops os fr H K)
   (fun fr=>v2_ fr o.dst .und fun fr=>kr_ cx ops os fr H K):=h
  rcases wZ_ I h' with⟨hw,h'⟩ | ⟨hw,h'⟩
  ·rw[if_pos hw];refine .inl (ve_ hC.tys hC.env hC.dyn I df h' fun v fr' H' u w' hk hres=> ?_);rw[ry_] at hk;obtain⟨φ',lam',tmps',e,I'⟩:=hres.put (df:=df);rw[e];exact vy_ hC hal hk I' hQ
  ·rw[if_neg (by rw[hw]; simp)];rw[ry_] at h';obtain⟨φ',lam',tmps',e,I'⟩:=(Res.of I (v:= .und) (u:=undef) rfl o.dst).put (df:=df);rw[e];exact vy_ hC hal h' I' hQ
theorem yg_ (ops:Array Oper):b6_ (fun (o:Oper) i=>ops[i]? =some o) ops.toList (List.range ops.size):=by
 apply b6_.of_get
 ·simp
 ·intro j a b h1 h2;rw[List.getElem?_range (by have:=fA_ h1; simpa using this)] at h2;cases h2;simpa using h1
def zQ_ (P:Program) (cx:Cx):Prop:=
 ∀ (ops:Array Oper) (fr:List FV) (H:Hp) (K:List FV→Hp→Prop) φ0 H0 w0 φ lam tmps w (Q:Exit→Act→World→Prop),drK cx ops fr H K→Inv φ0 H0 w0 φ H lam fr tmps w→
  (∀ fr' H' φ' lam' tmps' w',K fr' H'→Inv φ0 H0 w0 φ' H' lam' fr' tmps' w'→Q .normal ⟨tmps',[]⟩ w')→∀ t,wpOps P ops Q (Region.schedule (P.follows .mixedOrders) ops t) ⟨tmps,[]⟩ w
theorem y8_ (hC:sW_ P cx) (hd:zQ_ P cx) {id:Nat} {ops:Array Oper} {d:Bool} {K:List FV→Hp→Prop} (h:C2_ cx (drK cx) ops d fr H K) (I:Inv φ0 H0 w0 φ H lam fr tmps w) (b:Frame) (k:List Item) (cs:List Frame):
 ∃ fr' H' φ' lam' tmps' w',K fr' H'∧Inv φ0 H0 w0 φ' H' lam' fr' tmps' w'∧Steps P (lone (b.at ⟨tmps,[]⟩ (.code (.region id ops d)::k)) cs w) (lone (b.at ⟨tmps',[]⟩ k) cs w'):=by
 let Q:Exit→Act→World→Prop:=fun e a w=>e= .normal∧∃ fr' H' φ' lam' tmps',a=⟨tmps',[]⟩∧K fr' H'∧Inv φ0 H0 w0 φ' H' lam' fr' tmps' w
 have fin:(Code.region id ops d).wp P Q ⟨tmps,[]⟩ w→∃ fr' H' φ' lam' tmps' w',K fr' H'∧Inv φ0 H0 w0 φ' H' lam' fr' tmps' w'∧Steps P (lone (b.at ⟨tmps,[]⟩ (.code (.region id ops d)::k)) cs w) (lone (b.at ⟨tmps',[]⟩ k) cs w'):=by
  intro hw;obtain⟨e,a',w',⟨rfl,fr',H',φ',lam',tmps',rfl,hk,I'⟩,harr⟩:=hw b k cs;exact⟨fr',H',φ',lam',tmps',w',hk,I',harr⟩
 cases d with
 | false=>exact fin (wp_region (vy_ hC (yg_ ops) h I fun fr' H' φ' lam' tmps' w' hk I'=>⟨rfl,fr',H',φ',lam',tmps',rfl,hk,I'⟩))
 | true=>
  refine fin (wp_region_draw fun t=> ?_);exact hd ops fr H K φ0 H0 w0 φ lam tmps w.drew Q h (I.back (bH_.drew I.rep)) (fun fr' H' φ' lam' tmps' w' hk I'=>⟨rfl,fr',H',φ',lam',tmps',rfl,hk,I'⟩) t
theorem Inv.weaken (I:Inv φ0 H0 w0 φ H lam fr tmps w) {fr':List FV} (hl:fr'.length=fr.length) (hp:∀ (t:Nat) v,fr'[t]? =some v→v= .bad∨fr[t]? =some v):Inv φ0 H0 w0 φ H lam fr' tmps w where
 pre:=I.pre
 rep:=I.rep
 keeps:=I.keeps
 own:=I.own
 row:=I.row
 size:=by rw[hl,I.size]
 slot d v hd:=by
  have hb:∀ b,p8_ fr' lam b→p8_ fr lam b:=fun b ⟨s,cs,hs,e⟩=>by
   rcases hp s _ hs with q | q
   ·cases q
   ·exact⟨s,cs,q,e⟩
  rcases hp d v hd with q | q
  ·subst q; trivial
  ·have hs:=I.slot d v q;cases v with
   | bx cs=>exact hs
   | _=>exact FOK.of (VOK.step (List.prefix_refl _) (fun _ _ _=>rfl) (fun b _ _ h1 h2=>⟨rfl,h1,fun q=>h2 (hb b q)⟩) hs)
 apart s s' cs cs' hs hs' hne:=by
  rcases hp s _ hs with q | q
  ·cases q
  rcases hp s' _ hs' with q' | q'
  ·cases q'
  exact I.apart s s' cs cs' q q' hne
theorem kR_:∀ {fr:List FV} {i:Nat} {l:List Nat} {K:List FV→Prop},r6_ fr i l K→∃ fr',K fr'∧fr'.length=fr.length∧∀ (t:Nat) v,fr'[t]? =some v→v= .bad∨fr[t]? =some v
 | [],i,l,K,h=>⟨[],h,rfl,by simp⟩
 | x::xs,i,l,K,h=>by
  have h':(match l.contains i with
   | true=>r6_ xs (i+1) l fun ys=>K (x::ys)
   | false=>r6_ xs (i+1) l fun ys=>K (.bad::ys)):=h
  split at h'
  ·obtain⟨ys,hk,hl,hp⟩:=kR_ h';refine⟨_,hk,by simp [hl],fun t v ht=> ?_⟩;cases t with
   | zero=>right; simpa using ht
   | succ t=>simpa using hp t v (by simpa using ht)
  ·obtain⟨ys,hk,hl,hp⟩:=kR_ h';refine⟨_,hk,by simp [hl],fun t v ht=> ?_⟩;cases t with
   | zero=>left; simp at ht; exact ht.symm
   | succ t=>simpa using hp t v (by simpa using ht)
theorem tj_ {id:Nat}:∀ {k k':List Item},uJ_ id k=some k'→exitTo id k=some k'
 | [],k',h=>by simp [uJ_] at h
 | x::k,k',h=>by
  cases x<;>simp only[uJ_] at h<;>first
   | (cases h; done)
   | (simp only[exitTo]
      split at h
      ·rename_i e; rw[if_pos e]; exact h
      ·rename_i e; rw[if_neg e]; exact tj_ h)
   | (simp only[exitTo]; exact tj_ h)
theorem ye_ {b:Frame} {a:Act} {k:List Item} {cs:List Frame} {c:Code}:Go.step P (lone (b.at a (.code (.scope c)::k)) cs w)= .next (lone (b.at a (.code c:: .inScope c::k)) cs w):=
 step_lone_go (by simp [stepG,stepG.exec,Frame.at])
theorem vd_ {b:Frame} {a:Act} {k:List Item} {cs:List Frame} {c:Code}:Go.step P (lone (b.at a (.inScope c::k)) cs w)= .next (lone (b.at a k) cs w):=
 step_lone_go (by simp [stepG,stepG.exec,Frame.at])
theorem xk_ (I:Inv φ0 H0 w0 φ H lam fr tmps w) {c:Operand} {b:Bool} {K:List FV→Prop} (he:ev fr c= .g (.bool b)) (h:ys_ fr c b K):K fr:=by
 cases c with
 | tmp d=>
  rw[ys_,gl_] at h;have:fr[d]? =some (.g (.bool b)):=by
   have he:oT_ fr d= .g (.bool b):=he;unfold oT_ at he;split at he
   ·cases he
   ·exact gS_ he (by simp)
  rwa [lr_ this] at h
 | _=>exact h
def gE_ (P:Program) (f:FuncId) (cs:List Frame) (m:Machine) (R:Ending→World→Prop):Prop:=
 ∃ v w' fr,R (.returned v) w'∧Steps P m (lone fr cs w')∧fr.fn=f∧fr.leaving P w' (.returned v)
theorem gE_.of_steps {f:FuncId} {cs:List Frame} {m m':Machine} {R:Ending→World→Prop} (h:Steps P m m') (h':gE_ P f cs m' R):gE_ P f cs m R:=by
 obtain⟨v,w',fr,h1,h2,h3⟩:=h';exact⟨v,w',fr,h1,h.trans h2,h3⟩
theorem gE_.of_step {f:FuncId} {cs:List Frame} {m m':Machine} {R:Ending→World→Prop} (h:Go.step P m= .next m') (h':gE_ P f cs m' R):gE_ P f cs m R:=gE_.of_steps (.one h) h'
theorem gE_.skip {f:FuncId} {cs:List Frame} {b:Frame} {a:Act} {k:List Item} {m':Machine} {R:Ending→World→Prop} (h:Go.step P (lone (b.at a k) cs w)= .next m') (h':gE_ P f cs (lone (b.at a k) cs w) R):gE_ P f cs m' R:=by
 obtain⟨v,w',fr,h1,⟨n,hn⟩,h3,h4⟩:=h';refine⟨v,w',fr,h1,?_,h3,h4⟩;cases n with
 | zero=>
  simp only[runN,Stepped.next.injEq] at hn;have e:b.at a k=fr:=by
   have:=congrArg (fun m:Machine=>m.gs.map (·.frame)) hn;simpa [lone] using this
  have:=h4.1;rw[←e] at this;simp [Frame.at] at this
 | succ n=>
  simp only[runN,h] at hn;exact⟨n,hn⟩
def zn_ (tmps:Array Value):ResultVar→Sem Value
 | .tmp t=>pure (tmps.getD t undef)
 | .cell a t=>do loadVar t (←asAddr (tmps.getD a undef))
theorem oq_ (hT:b8_ P cx.tys) (I:Inv φ0 H0 w0 φ H lam fr tmps w):∀ {rs:List ResultVar} {K:List RV→Prop},ua_ cx fr rs K→
 ∃ vs us,K vs∧(rs.mapM (zn_ tmps)).run P w= .ok us w∧b6_ (RV.is φ) vs us
 | [],K,h=>⟨[],[],h,by simp,.nil⟩
 | .tmp t::rs,K,h=>by
  have hv:=I.at t;have h':(match oT_ fr t with
   | .g v=>ua_ cx fr rs fun vs=>K (.s v::vs)
   | .agg cs=>ua_ cx fr rs fun vs=>K (.a cs::vs)
   | _=>False):=h
  split at h'
  ·rename_i v e;rw[e] at hv;obtain⟨vs,us,h1,h2,h3⟩:=oq_ hT I h';exact⟨_,_,h1,by simp [List.mapM_cons,zn_,h2],.cons (a:= .s v) hv h3⟩
  ·rename_i v e;rw[e] at hv;obtain⟨vs,us,h1,h2,h3⟩:=oq_ hT I h';exact⟨_,_,h1,by simp [List.mapM_cons,zn_,h2],.cons (a:= .a v) hv h3⟩
  ·exact h'.elim
 | .cell a t::rs,K,h=>by
  have hv:=I.at a;have h':(match oT_ fr a with
   | .lp s p=>match fr.getD s .bad with
    | .bx cs=>ck (cx.okT t) <| sY_ cs p (cx.ty t).lv.length (cx.ty t).agg fun v=>match v with
     | .g v=>ua_ cx fr rs fun vs=>K (.s v::vs)
     | .agg cs=>ua_ cx fr rs fun vs=>K (.a cs::vs)
     | _=>False
    | _=>False
   | _=>False):=h
  split at h'
  ·rename_i s p e;rw[e] at hv;have hv:tmps.getD a undef= .pointer (some ⟨lam s,p,none⟩):=hv;split at h'
   ·rename_i cs hcs;obtain⟨e2,_,_,c,t',hb,his⟩:=I.slot s _ (gS_ hcs (by simp));rw[aj_] at h';obtain⟨ht,h'⟩:=h';obtain⟨v,u,hk,hr,hvv⟩:=xq_ (P:=P) (H:=H) hT ht his (w:=w) (b:=lam s) (o:=p) (fun j y hy=>by rw[fa_ hb]; simpa using hy) h';have hres:(zn_ tmps (.cell a t)).run P w= .ok u w:=by
     simp only[zn_,hv,Sem.run_bind,asAddr,Sem.run_pure,Result.andThen_ok,hr]
    have hvv:=hvv 0 lam fr w;split at hk
    ·obtain⟨vs,us,h1,h2,h3⟩:=oq_ hT I hk;exact⟨_,_,h1,by simp [List.mapM_cons,hres,h2],.cons (a:= .s _) hvv h3⟩
    ·obtain⟨vs,us,h1,h2,h3⟩:=oq_ hT I hk;exact⟨_,_,h1,by simp [List.mapM_cons,hres,h2],.cons (a:= .a _) hvv h3⟩
    ·exact hk.elim
   ·exact h'.elim
  ·exact h'.elim
theorem BV_ (hT:b8_ P cx.tys) (I:Inv φ0 H0 w0 φ H lam fr tmps w) {fn:Func} (hres:fn.results=cx.res.toArray) {Q:Post} (h:CN_ cx fr H Q):
 ∃ r u,Q r H∧(results fn tmps).run P w= .ok u w∧r.is φ u:=by
 obtain⟨vs,us,hk,hr,hall⟩:=oq_ hT I h;have hrun:(results fn tmps).run P w= .ok (if h:us.toArray.size=1 then us.toArray[0] else .tuple us.toArray) w:=by
  have e:results fn tmps=(do let vs←fn.results.mapM (zn_ tmps); pure (if h:vs.size=1 then vs[0] else .tuple vs)):=rfl;rw[e,hres,Array.mapM_eq_mapM_toList];simp [hr]
 have hlen:=hall.length;split at hk
 ·obtain⟨u,us',rfl,hu,hn⟩:=hall.cons_inv;cases hn.nil_inv;exact⟨_,u,hk,by simpa using hrun,hu⟩
 ·obtain⟨u,us',rfl,hu,hn⟩:=hall.cons_inv;cases hn.nil_inv;exact⟨_,u,hk,by simpa using hrun,hu⟩
 ·rename_i hn1 hn2;refine⟨_,.tuple us.toArray,hk,?_,⟨_,rfl,hall⟩⟩;rw[hrun];have:us.length≠1:=by
   intro e1;rw[e1] at hlen
   match vs,hlen with
   | [.s v],_=>exact hn1 v rfl
   | [.a v],_=>exact hn2 v rfl
  simp [this]
section walk
variable {f:FuncId} {fn:Func} {Q:Post} {cs:List Frame} {b:Frame}
def zq_ (P:Program) (f:FuncId) (b:Frame) (cs:List Frame) (φ0:List LI) (H0:Hp) (w0:World) (Q:Post) (go:List Item→List FV→Hp→Prop):Prop:=
 ∀ k fr H φ lam tmps w,go k fr H→Inv φ0 H0 w0 φ H lam fr tmps w→gE_ P f cs (lone (b.at ⟨tmps,[]⟩ k) cs w) (so_ φ0 H0 w0 Q)
theorem z6_ (hC:sW_ P cx) (hf:P.funcs[f]? =some fn) (hres:fn.results=cx.res.toArray) (hbf:b.fn=f) (hbk:b.kind= .normal) {fr:List FV} {H:Hp} {φ:List LI} {lam:Nat→Nat} {tmps:Array Value} {w:World} (k:List Item) (h:CN_ cx fr H Q) (I:Inv φ0 H0 w0 φ H lam fr tmps w):
 gE_ P f cs (lone { b.at ⟨tmps,[]⟩ k with mode:= .returning } cs w) (so_ φ0 H0 w0 Q):=by
 obtain⟨r,u,hq,hr,hru⟩:=BV_ hC.tys I hres h;exact⟨u,w,_,⟨r,H,φ,u,hq,rfl,hru,⟨I.pre,I.rep,I.keeps,I.own,I.row⟩⟩,Steps.refl _ _,hbf,rfl,rfl,hbk,fn,by show P.funcs[b.fn]? =_; rw[hbf]; exact hf,hr⟩
theorem B8_ (hC:sW_ P cx) (hd:zQ_ P cx) (hf:P.funcs[f]? =some fn) (hres:fn.results=cx.res.toArray) (hbf:b.fn=f) (hbk:b.kind= .normal) {rec go:List Item→List FV→Hp→Prop} (hrec:zq_ P f b cs φ0 H0 w0 Q rec) (hgo:zq_ P f b cs φ0 H0 w0 Q go):zq_ P f b cs φ0 H0 w0 Q (step cx Q (drK cx) rec go):=by
 intro k fr H φ lam tmps w h I;unfold step at h;split at h
 ·exact gE_.of_step step_end (z6_ hC hf hres hbf hbk [] h I)
 ·exact gE_.of_step step_ret (z6_ hC hf hres hbf hbk _ h I)
 ·exact gE_.of_step step_skip (hgo _ _ _ _ _ _ _ h I)
 ·exact gE_.of_step step_label (hgo _ _ _ _ _ _ _ h I)
 ·exact gE_.of_step step_inBlock (hgo _ _ _ _ _ _ _ h I)
 ·exact gE_.of_step vd_ (hgo _ _ _ _ _ _ _ h I)
 ·exact gE_.of_step step_seq (hgo _ _ _ _ _ _ _ h I)
 ·rename_i c x y k;have hv:=I.ev [] c;split at h
  ·rename_i t e;rw[e] at hv;refine gE_.of_step (step_cond (t:=t) hv) ?_;cases t with
   | true=>exact hgo _ _ _ _ _ _ _ (xk_ I e h) I
   | false=>exact hgo _ _ _ _ _ _ _ (xk_ I e h) I
  ·exact h.elim
 ·exact gE_.of_step step_block (hgo _ _ _ _ _ _ _ h I)
 ·obtain⟨fr',hk,hl,hp⟩:=kR_ h;have:=hrec _ _ _ _ _ _ _ hk (I.weaken hl hp);exact gE_.of_step step_loop (gE_.skip step_inLoop this)
 ·obtain⟨fr',hk,hl,hp⟩:=kR_ h;exact hrec _ _ _ _ _ _ _ hk (I.weaken hl hp)
 ·exact gE_.of_step ye_ (hgo _ _ _ _ _ _ _ h I)
 ·split at h
  ·rename_i k' e;exact gE_.of_step (step_exit (tj_ e)) (hgo _ _ _ _ _ _ _ h I)
  ·exact h.elim
 ·split at h
  ·obtain⟨fr',hk,hl,hp⟩:=kR_ h;exact hrec _ _ _ _ _ _ _ hk (I.weaken hl hp)
  ·obtain⟨fr',H',φ',lam',tmps',w',hk,I',hs⟩:=y8_ hC hd h I b _ cs;exact gE_.of_steps hs (hgo _ _ _ _ _ _ _ hk I')
 ·exact h.elim
theorem yR_ (hC:sW_ P cx) (hd:zQ_ P cx) (hf:P.funcs[f]? =some fn) (hres:fn.results=cx.res.toArray) (hbf:b.fn=f) (hbk:b.kind= .normal) {rec:List Item→List FV→Hp→Prop} (hrec:zq_ P f b cs φ0 H0 w0 Q rec):∀ g,zq_ P f b cs φ0 H0 w0 Q (walk cx Q rec g)
 | 0=>fun k fr H φ lam tmps w h I=>h.elim
 | g+1=>B8_ hC hd hf hres hbf hbk hrec (yR_ hC hd hf hres hbf hbk hrec g)
theorem yZ_ (hC:sW_ P cx) (hd:zQ_ P cx) (hf:P.funcs[f]? =some fn) (hres:fn.results=cx.res.toArray) (hbf:b.fn=f) (hbk:b.kind= .normal):∀ n,zq_ P f b cs φ0 H0 w0 Q (Bi_ cx Q n)
 | 0=>fun k fr H φ lam tmps w h I=>h.elim
 | n+1=>by
  have ih:=yR_ hC hd hf hres hbf hbk (yZ_ hC hd hf hres hbf hbk n) gas;intro k fr H φ lam tmps w h I;change CY_ cx Q (Bi_ cx Q n) k fr H at h;unfold CY_ at h;split at h
  ·exact gE_.of_step step_inLoop (ih _ _ _ _ _ _ _ h I)
  ·obtain⟨fr',H',φ',lam',tmps',w',hk,I',hs⟩:=y8_ hC hd h I b _ cs;exact gE_.of_steps hs (ih _ _ _ _ _ _ _ hk I')
  ·exact ih _ _ _ _ _ _ _ h I
end walk
theorem zt_ {as:List FV} {vs:List Value} {n:Nat} (hr:cq_ φ H w) (ha:b6_ (FV.is φ) as vs):
 Inv φ H w φ H (fun _=>0) (as++List.replicate (n - as.length) .bad) (vs.toArray++Array.replicate (n - vs.toArray.size) undef) w where
 pre:=List.prefix_refl _
 rep:=hr
 keeps:=c9_.refl _ _
 own _ h:= .inl h
 row _ h:= .inl h
 size:=by have:=ha.length; simp [this]
 slot d v hd:=by
  have hl:=ha.length;rcases Nat.lt_or_ge d as.length with q | q
  ·rw[List.getElem?_append_left q] at hd;obtain⟨u,hu,hvu⟩:=ha.get hd;have e:(vs.toArray++Array.replicate (n - vs.toArray.size) undef).getD d undef=u:=by
    have:vs[d]? =some u:=hu;have hlt:d < vs.length:=by omega
    have:vs[d]=u:=by simpa [List.getElem?_eq_getElem hlt] using this
    simp [Array.getElem?_append,hlt,this]
   rw[e];cases v with
   | g v=>exact hvu
   | agg cs=>exact hvu
   | tup vs=>exact hvu
   | _=>exact hvu.elim
  ·rw[List.getElem?_append_right q,List.getElem?_replicate] at hd;split at hd
   ·cases hd; trivial
   ·cases hd
 apart s s' cs cs' hs hs' hne:=by
  have:∀ {s:Nat} {cs:List GV},(as++List.replicate (n - as.length) .bad)[s]? =some (FV.bx cs)→False:=by
   intro s cs hs;rcases Nat.lt_or_ge s as.length with q | q
   ·rw[List.getElem?_append_left q] at hs;obtain⟨u,hu,hvu⟩:=ha.get hs;exact hvu
   ·rw[List.getElem?_append_right q,List.getElem?_replicate] at hs;split at hs<;>cases hs
  exact (this hs).elim
theorem AH_ {f:FuncId} {fn:Func} (hC:sW_ P cx) (hd:zQ_ P cx) (hf:P.funcs[f]? =some fn) (hres:fn.results=cx.res.toArray) (n:Nat):ay_ P f (ai_ cx fn n):=by
 intro as H Q h φ w vs hr ha cs;unfold ai_ at h;split at h
 ·rename_i c hb
  let b:Frame:={ (default:Frame) with fn:=f,kind:= .normal }
  have henter:Frame.enter P f vs.toArray .normal=b.at { tmps:=vs.toArray++Array.replicate (fn.ntmps - vs.toArray.size) undef,defers:=[] } [.code c]:=by
   simp [Frame.enter,Frame.at,hf,hb,b]
  obtain⟨v,w',fr,h1,h2,h3,h4⟩:=yZ_ (P:=P) (cs:=cs) (b:=b) hC hd hf hres rfl rfl n _ _ _ _ _ _ _ h (zt_ hr ha);refine⟨.returned v,w',fr,h1,?_,h3,h4⟩;rw[henter];exact h2
 ·exact h.elim
theorem ay_.ex {f:FuncId} {s:Nat→Sm} (h:∀ n,ay_ P f (s n)):ay_ P f (fun xs H Q=>∃ k,s k xs H Q):=by
 intro as H Q ⟨k,hk⟩;exact h k as H Q hk
end
end Go.Am
namespace Go.Am
def One {α:Type} (X:(α→Prop)→Prop) (v:α):Prop:=∀ K:α→Prop,K v→X K
theorem D2_ {α:Type} {b:Bool} {X:(α→Prop)→Prop} {K:α→Prop} (hX:∀ {K},X K→∃ v,K v∧One X v) (h:ck b (X K)):∃ v,K v∧One (fun K=>ck b (X K)) v:=by
 obtain⟨hb,h⟩:=aj_.1 h;obtain⟨v,h1,h2⟩:=hX h;exact⟨v,h1,fun K hK=>aj_.2 ⟨hb,h2 K hK⟩⟩
theorem lV_ {k:LK} {v:GV} {K:GV→Prop} (h:fO_ k v K):∃ v',K v'∧One (fO_ k v) v':=by
 cases k<;>cases v<;>first
  | exact h.elim
  | exact⟨_,h,fun K hK=>hK⟩
  | exact⟨_,h.2,fun K hK=>⟨h.1,hK⟩⟩
theorem nE_ {H:Hp} {l:Nat}:∀ {ks:List LK} {p:Nat} {K:List GV→Prop},he_ H l p ks K→∃ cs,K cs∧One (he_ H l p ks) cs
 | [],p,K,h=>⟨_,h,fun K hK=>hK⟩
 | k::ks,p,K,h=>by
  have h':rd H l p fun c=>fO_ k c fun c=>he_ H l (p+1) ks fun r=>K (c::r):=h;unfold rd at h';split at h'
  ·rename_i v hv;obtain⟨c,h1,h2⟩:=lV_ h';obtain⟨cs,h3,h4⟩:=nE_ h1;refine⟨_,h3,fun K hK=> ?_⟩;show rd H l p fun c=>fO_ k c fun c=>he_ H l (p+1) ks fun r=>K (c::r);unfold rd;rw[hv];exact h2 _ (h4 _ hK)
  ·exact h'.elim
theorem AA_ {cs:List GV} {agg:Bool} {K:FV→Prop} (h:BI_ cs agg K):∃ v,K v∧One (BI_ cs agg) v:=by
 cases agg with
 | true=>exact⟨_,h,fun K hK=>hK⟩
 | false=>match cs,h with
  | [v],h=>exact⟨_,h,fun K hK=>hK⟩
theorem wy_ {cs:List GV} {p n:Nat} {agg:Bool} {K:FV→Prop} (h:sY_ cs p n agg K):∃ v,K v∧One (sY_ cs p n agg) v:=by
 rcases u0_ h with⟨rfl,h1,h2⟩ | ⟨rfl,v,h1,h2⟩
 ·exact⟨_,h2,fun K hK=>aj_.2 ⟨Nat.ble_eq_true_of_le h1,hK⟩⟩
 ·refine⟨_,h2,fun K hK=> ?_⟩;show (match cs[p]? with | some v=>K (.g v) | none=>False);rw[h1]; exact hK
theorem zr_ {cx:Cx} {t:Nat} {x:FV} {B:Nat→FV} {H:Hp} {K:FV→Prop} (h:i0_ cx t x B H K):∃ v,K v∧One (i0_ cx t x B H) v:=by
 unfold i0_ at h;split at h
 ·rename_i s p;split at h
  ·rename_i cs hb;obtain⟨v,h1,h2⟩:=wy_ h;exact⟨v,h1,fun K hK=>by simp only[i0_,hb]; exact h2 K hK⟩
  ·exact h.elim
 ·obtain⟨cs,h1,h2⟩:=nE_ h;obtain⟨v,h3,h4⟩:=AA_ h1;exact⟨v,h3,fun K hK=>h2 _ (h4 K hK)⟩
 ·exact h.elim
theorem ii_ {x:FV} {K:List GV→Prop} (h:gN_ x K):∃ v,K v∧One (gN_ x) v:=by
 cases x<;>first | exact h.elim | exact⟨_,h,fun K hK=>hK⟩
theorem iW_:∀ {zs:List GV} {p:Nat} {cs:List GV} {K:List GV→Prop},hl_ zs p cs K→∃ v,K v∧One (hl_ zs p cs) v
 | zs,p,[],K,h=>by cases zs<;>cases p<;>exact⟨_,h,fun K hK=>hK⟩
 | [],p,c::cs,K,h=>by cases p<;>exact h.elim
 | z::zs,p+1,c::cs,K,h=>by
  have h':hl_ zs p (c::cs) fun r=>K (z::r):=h;obtain⟨v,h1,h2⟩:=iW_ h';exact⟨_,h1,fun K hK=>h2 (fun r=>K (z::r)) hK⟩
 | _::zs,0,c::cs,K,h=>by
  have h':hl_ zs 0 cs fun r=>K (c::r):=h;obtain⟨v,h1,h2⟩:=iW_ h';exact⟨_,h1,fun K hK=>h2 (fun r=>K (c::r)) hK⟩
theorem xi_ {cx:Cx} {E:Operand→FV} {t:Nat}:∀ {ps:List (Nat × Operand)} {zs:List GV} {K:List GV→Prop},q8_ cx E t zs ps K→∃ v,K v∧One (q8_ cx E t zs ps) v
 | [],zs,K,h=>⟨_,h,fun K hK=>hK⟩
 | (i,x)::ps,zs,K,h=>by
  have h':(match (cx.ty t).fs[i]? with
   | some (p,e)=>gN_ (E x) fun cs=>ck (cx.okT e) (ck (Nat.beq cs.length (cx.ty e).lv.length) (hl_ zs p cs fun zs=>q8_ cx E t zs ps K))
   | none=>False):=h
  split at h'
  ·rename_i p e hf;obtain⟨cs,h1,h2⟩:=ii_ h';obtain⟨b1,h1⟩:=aj_.1 h1;obtain⟨b2,h1⟩:=aj_.1 h1;obtain⟨zs',h3,h4⟩:=iW_ h1;obtain⟨v,h5,h6⟩:=xi_ h3;refine⟨v,h5,fun K hK=> ?_⟩;show (match (cx.ty t).fs[i]? with
    | some (p,e)=>gN_ (E x) fun cs=>ck (cx.okT e) (ck (Nat.beq cs.length (cx.ty e).lv.length) (hl_ zs p cs fun zs=>q8_ cx E t zs ps K))
    | none=>False)
   rw[hf];exact h2 _ (aj_.2 ⟨b1,aj_.2 ⟨b2,h4 _ (h6 K hK)⟩⟩)
  ·exact h'.elim
theorem v6_ {E:Operand→FV} {z:Nat}:∀ {ps:List (Nat × Operand)} {zs:List GV} {K:List GV→Prop},sr_ E z zs ps K→∃ v,K v∧One (sr_ E z zs ps) v
 | [],zs,K,h=>⟨_,h,fun K hK=>hK⟩
 | (i,x)::ps,zs,K,h=>by
  have h':gN_ (E x) fun cs=>ck (Nat.beq cs.length z) (hl_ zs (i*z) cs fun zs=>sr_ E z zs ps K):=h;obtain⟨cs,h1,h2⟩:=ii_ h';obtain⟨b1,h1⟩:=aj_.1 h1;obtain⟨zs',h3,h4⟩:=iW_ h1;obtain⟨v,h5,h6⟩:=v6_ h3;exact⟨v,h5,fun K hK=>h2 _ (aj_.2 ⟨b1,h4 _ (h6 K hK)⟩)⟩
theorem uS_ {E:Operand→FV}:∀ {xs:List Operand} {K:List (Nat × Nat)→Prop},la_ E xs K→∃ v,K v∧One (la_ E xs) v
 | [],K,h=>⟨_,h,fun K hK=>hK⟩
 | x::xs,K,h=>by
  have h':(match E x with | .g (.ptr (some p))=>la_ E xs fun r=>K (p::r) | _=>False):=h;split at h'
  ·rename_i p e;obtain⟨v,h1,h2⟩:=uS_ h';refine⟨_,h1,fun K hK=> ?_⟩;show (match E x with | .g (.ptr (some p))=>la_ E xs fun r=>K (p::r) | _=>False);rw[e]; exact h2 (fun r=>K (p::r)) hK
  ·exact h'.elim
theorem y9_ {α:Type} {b:Bool} {v:α} {K:α→Prop} (h:chk b (K v)):K v∧One (fun K=>chk b (K v)) v:=⟨(bf_.1 h).2,fun K hK=>bf_.2 ⟨(bf_.1 h).1,hK⟩⟩
theorem A4_ {cx:Cx} {t:Nat} {op:BinOp} {x y:FV} {K:FV→Prop} (h:xm_ cx t op x y K):∃ v,K v∧One (xm_ cx t op x y) v:=by
 unfold xm_ at h;split at h
 ·rename_i k a k' b;split at h
  ·obtain⟨h1,h2⟩:=y9_ h; exact⟨_,h1,h2⟩
  ·obtain⟨h1,h2⟩:=y9_ h; exact⟨_,h1,h2⟩
  ·split at h
   ·rename_i e;subst e;cases op<;>dsimp only at h<;>first
     | exact h.elim
     | (obtain⟨h1,h2⟩:=bf_.1 h; exact⟨_,h2,fun K hK=>by simp only[xm_,if_pos]; exact bf_.2 ⟨h1,hK⟩⟩)
     | exact⟨_,h,fun K hK=>by simpa only[xm_,if_pos] using hK⟩
     | (rename_i q _; exact (q rfl).elim)
   ·exact h.elim
 ·cases op<;>first
   | exact h.elim
   | exact⟨_,h.2,fun K hK=>⟨h.1,hK⟩⟩
   | exact⟨_,h,fun K hK=>hK⟩
 ·obtain⟨hb,h⟩:=aj_.1 h;cases op<;>first
   | exact h.elim
   | exact⟨_,h,fun K hK=>aj_.2 ⟨hb,hK⟩⟩
 ·obtain⟨hb,h⟩:=aj_.1 h;cases op<;>first
   | exact h.elim
   | exact⟨_,h,fun K hK=>aj_.2 ⟨hb,hK⟩⟩
 ·obtain⟨hb,h⟩:=aj_.1 h;cases op<;>first
   | exact h.elim
   | exact⟨_,h,fun K hK=>aj_.2 ⟨hb,hK⟩⟩
 ·obtain⟨h1,h⟩:=aj_.1 h;obtain⟨h2,h⟩:=aj_.1 h;obtain⟨h3,h⟩:=aj_.1 h;split at h
  ·rename_i e he;cases op<;>first
    | exact h.elim
    | exact⟨_,h,fun K hK=>aj_.2 ⟨h1,aj_.2 ⟨h2,aj_.2 ⟨h3,by rw[he]; exact hK⟩⟩⟩⟩
  ·exact h.elim
 ·exact h.elim
theorem BU_ {op:UnOp} {x:FV} {K:FV→Prop} (h:unK op x K):∃ v,K v∧One (unK op x) v:=by
 unfold unK at h;split at h
 ·exact⟨_,h,fun K hK=>hK⟩
 ·exact⟨_,h,fun K hK=>hK⟩
 ·exact⟨_,h,fun K hK=>hK⟩
 ·exact h.elim
theorem mF_:∀ {cs:List GV} {K:List UInt8→Prop},jM_ cs K→∃ v,K v∧One (jM_ cs) v
 | [],K,h=>⟨_,h,fun K hK=>hK⟩
 | c::cs,K,h=>by
  cases c<;>first | exact h.elim | skip
  rename_i k n;obtain⟨e,h'⟩:k= .u8∧jM_ cs fun r=>K (bof n::r):=h;obtain⟨v,h1,h2⟩:=mF_ h';exact⟨_,h1,fun K hK=>⟨e,h2 (fun r=>K (bof n::r)) hK⟩⟩
theorem fW_ {E:Operand→FV} {x:Option Operand} {d:Nat} {K:Nat→Prop} (h:l2_ E x d K):∃ v,K v∧One (l2_ E x d) v:=by
 cases x with
 | none=>exact⟨_,h,fun K hK=>hK⟩
 | some x=>
  have h':(match E x with | .g (.int _ n)=>chk (leI 0 n) (K (tN n)) | _=>False):=h;split at h'
  ·rename_i k n e;obtain⟨h1,h2⟩:=bf_.1 h';refine⟨_,h2,fun K hK=> ?_⟩;show (match E x with | .g (.int _ n)=>chk (leI 0 n) (K (tN n)) | _=>False);rw[e]; exact bf_.2 ⟨h1,hK⟩
  ·exact h'.elim
theorem ya_ {cx:Cx} {t:Nat} {x:FV} {lo hi:Option Operand} {E:Operand→FV} {H:Hp} {K:FV→Prop} (h:nn_ cx t x lo hi E H K):∃ v,K v∧One (nn_ cx t x lo hi E H) v:=by
 unfold nn_ at h;split at h
 ·obtain⟨b1,h⟩:=aj_.1 h;obtain⟨v1,h,o1⟩:=fW_ h;obtain⟨v2,h,o2⟩:=fW_ h;obtain⟨b2,h⟩:=bf_.1 h;exact⟨_,h,fun K hK=>aj_.2 ⟨b1,o1 _ (o2 _ (bf_.2 ⟨b2,hK⟩))⟩⟩
 ·obtain⟨b1,h⟩:=aj_.1 h;obtain⟨b2,h⟩:=aj_.1 h;obtain⟨b3,h⟩:=bf_.1 h;split at h
  ·obtain⟨v2,h,o2⟩:=fW_ h;obtain⟨b4,h⟩:=bf_.1 h;exact⟨_,h,fun K hK=>aj_.2 ⟨b1,aj_.2 ⟨b2,bf_.2 ⟨b3,o2 _ (bf_.2 ⟨b4,hK⟩)⟩⟩⟩⟩
  ·obtain⟨v1,h,o1⟩:=fW_ h;obtain⟨v2,h,o2⟩:=fW_ h;obtain⟨b4,h⟩:=bf_.1 h;exact⟨_,h,fun K hK=>aj_.2 ⟨b1,aj_.2 ⟨b2,bf_.2 ⟨b3,o1 _ (o2 _ (bf_.2 ⟨b4,hK⟩))⟩⟩⟩⟩
 ·obtain⟨b1,h⟩:=aj_.1 h;obtain⟨b2,h⟩:=aj_.1 h;obtain⟨b3,h⟩:=aj_.1 h;obtain⟨b5,h⟩:=aj_.1 h;obtain⟨v1,h,o1⟩:=fW_ h;obtain⟨v2,h,o2⟩:=fW_ h;obtain⟨b4,h⟩:=bf_.1 h;exact⟨_,h,fun K hK=>aj_.2 ⟨b1,aj_.2 ⟨b2,aj_.2 ⟨b3,aj_.2 ⟨b5,o1 _ (o2 _ (bf_.2 ⟨b4,hK⟩))⟩⟩⟩⟩⟩
 ·exact h.elim
theorem wS_ {cx:Cx} {t:Nat} {x:FV} {lo hi:Option Operand} {mx:Operand} {E:Operand→FV} {H:Hp} {K:FV→Prop} (h:jo_ cx t x lo hi mx E H K):∃ v,K v∧One (jo_ cx t x lo hi mx E H) v:=by
 unfold jo_ at h;split at h
 ·obtain⟨b1,h⟩:=aj_.1 h;obtain⟨b2,h⟩:=aj_.1 h;obtain⟨b3,h⟩:=bf_.1 h;obtain⟨v0,h,o0⟩:=fW_ h;obtain⟨v1,h,o1⟩:=fW_ h;obtain⟨v2,h,o2⟩:=fW_ h;obtain⟨b4,h⟩:=bf_.1 h;exact⟨_,h,fun K hK=>aj_.2 ⟨b1,aj_.2 ⟨b2,bf_.2 ⟨b3,o0 _ (o1 _ (o2 _ (bf_.2 ⟨b4,hK⟩)))⟩⟩⟩⟩
 ·exact h.elim
theorem zg_ {cx:Cx} {t:Nat} {l c:FV} {K:FV→Prop} (h:uC_ cx t l c K):∃ v,K v∧One (uC_ cx t l c) v:=by
 unfold uC_ at h;split at h
 ·obtain⟨b1,h⟩:=aj_.1 h;obtain⟨b2,h⟩:=aj_.1 h;obtain⟨b3,h⟩:=bf_.1 h;exact⟨_,h,fun K hK=>aj_.2 ⟨b1,aj_.2 ⟨b2,bf_.2 ⟨b3,hK⟩⟩⟩⟩
 ·exact h.elim
theorem AJ_ {x:FV} {p:Nat} {K:FV→Prop} (h:xW_ x p K):∃ v,K v∧One (xW_ x p) v:=by
 unfold xW_ at h;split at h
 ·exact⟨_,h,fun K hK=>hK⟩
 ·exact⟨_,h,fun K hK=>hK⟩
 ·exact h.elim
theorem AR_ {cx:Cx} {t:Nat} {x i:FV} {K:FV→Prop} (h:zB_ cx t x i K):∃ v,K v∧One (zB_ cx t x i) v:=by
 unfold zB_ at h;split at h
 ·rename_i a n z' k j;obtain⟨b1,h⟩:=aj_.1 h;obtain⟨b2,h⟩:=bf_.1 h;obtain⟨b3,h⟩:=bf_.1 h;cases a with
  | none=>exact h.elim
  | some p=>exact⟨_,h,fun K hK=>aj_.2 ⟨b1,bf_.2 ⟨b2,bf_.2 ⟨b3,hK⟩⟩⟩⟩
 ·obtain⟨b1,h⟩:=aj_.1 h;obtain⟨b2,h⟩:=aj_.1 h;obtain⟨b3,h⟩:=bf_.1 h;exact⟨_,h,fun K hK=>aj_.2 ⟨b1,aj_.2 ⟨b2,bf_.2 ⟨b3,hK⟩⟩⟩⟩
 ·exact h.elim
theorem Ao_ {cx:Cx} {t:Nat} {x:FV} {K:FV→Prop} (h:zT_ cx t x K):∃ v,K v∧One (zT_ cx t x) v:=by
 unfold zT_ at h;split at h
 ·obtain⟨b,h⟩:=aj_.1 h; exact⟨_,h,fun K hK=>aj_.2 ⟨b,hK⟩⟩
 ·obtain⟨b,h⟩:=aj_.1 h; exact⟨_,h,fun K hK=>aj_.2 ⟨b,hK⟩⟩
 ·obtain⟨b,h⟩:=aj_.1 h; exact⟨_,h,fun K hK=>aj_.2 ⟨b,hK⟩⟩
 ·exact h.elim
theorem um_ {mx:Bool} {x y:FV} {K:FV→Prop} (h:sL_ mx x y K):∃ v,K v∧One (sL_ mx x y) v:=by
 unfold sL_ at h;split at h
 ·exact⟨_,h,fun K hK=>hK⟩
 ·exact h.elim
theorem qA_:∀ {ks:List LK} {cs:List GV} {K:List GV→Prop},gn_ ks cs K→∃ v,K v∧One (gn_ ks cs) v
 | [],[],K,h=>⟨_,h,fun K hK=>hK⟩
 | [],_::_,K,h=>h.elim
 | k::ks,[],K,h=>h.elim
 | k::ks,c::cs,K,h=>by
  have h':fO_ k c fun c=>gn_ ks cs fun r=>K (c::r):=h;obtain⟨c',h1,o1⟩:=lV_ h';obtain⟨cs',h2,o2⟩:=qA_ h1;exact⟨_,h2,fun K' hK=>o1 (fun c=>gn_ ks cs fun r=>K' (c::r)) (o2 (fun r=>K' (c'::r)) hK)⟩
theorem vw_ {ti:TI} {r:RV} {K:RV→Prop} (h:lvR ti r K):∃ v,K v∧One (lvR ti r) v:=by
 unfold lvR at h;split at h
 ·rename_i e; exact⟨_,h,fun K hK=>by unfold lvR; rw[e]; exact hK⟩
 ·rename_i e;split at h
  ·rename_i e2;cases r with
   | s v=>exact h.elim
   | a cs=>
    obtain⟨v,h1,o1⟩:=qA_ h;exact⟨_,h1,fun K hK=>by unfold lvR; rw[e]; dsimp only; rw[e2]; exact o1 (fun cs=>K (.a cs)) hK⟩
  ·rename_i e2;cases r with
   | a cs=>exact h.elim
   | s v=>
    have h':(match ti.lv with | [k]=>fO_ k v fun v=>K (.s v) | _=>False):=h;split at h'
    ·rename_i k e3;obtain⟨v',h1,o1⟩:=lV_ h';exact⟨_,h1,fun K hK=>by unfold lvR; rw[e]; dsimp only; rw[e2]; show (match ti.lv with | [k]=>fO_ k v fun v=>K (.s v) | _=>False); rw[e3]; exact o1 (fun v=>K (.s v)) hK⟩
    ·exact h'.elim
theorem Br_ {x:FV} {K:RV→Prop} (h:rvK x K):∃ v,K v∧One (rvK x) v:=by
 cases x<;>first | exact h.elim | exact⟨_,h,fun K hK=>hK⟩
theorem z4_ {cx:Cx} {t:Nat} {x:FV} {K:RV→Prop} (h:s2_ cx t x K):∃ v,K v∧One (s2_ cx t x) v:=by
 unfold s2_ at h;obtain⟨k,h,o1⟩:=Br_ h;obtain⟨b,h⟩:=aj_.1 h;exact⟨k,h,fun K hK=>o1 _ (aj_.2 ⟨b,hK⟩)⟩
theorem Ab_ {H:Hp} {m:Option Nat} {ag:Bool} {lv:List LK} {k z:RV} {K:RV→Bool→Prop} (h:nB_ H m ag lv k z K):∃ v b,K v b∧∀ K':RV→Bool→Prop,K' v b→nB_ H m ag lv k z K':=by
 unfold nB_ at h;cases m with
 | none=>exact⟨_,_,h,fun K' hK=>hK⟩
 | some l=>
  dsimp only at h;split at h
  ·rename_i es c e1;split at h
   ·rename_i i e2;split at h
    ·rename_i e e3;exact⟨_,_,h,fun K' hK=>by unfold nB_; dsimp only; rw[e1]; dsimp only; rw[e2]; dsimp only; rw[e3]; exact hK⟩
    ·exact h.elim
   ·rename_i e2;exact⟨_,_,h,fun K' hK=>by unfold nB_; dsimp only; rw[e1]; dsimp only; rw[e2]; exact hK⟩
   ·exact h.elim
  ·exact h.elim
theorem AV_ {H:Hp} {m:Option Nat} {K:Nat→Prop} (h:pW_ H m K):∃ v,K v∧One (pW_ H m) v:=by
 unfold pW_ at h;cases m with
 | none=>exact⟨_,h,fun K hK=>hK⟩
 | some l=>
  dsimp only at h;split at h
  ·rename_i es c e1;exact⟨_,h,fun K hK=>by unfold pW_; dsimp only; rw[e1]; exact hK⟩
  ·exact h.elim
theorem z9_ {cx:Cx} {t:Nat} {x i:FV} {ok:Bool} {H:Hp} {K:FV→Prop} (h:A3_ cx t x i ok H K):∃ v,K v∧One (A3_ cx t x i ok H) v:=by
 unfold A3_ at h;obtain⟨b,h⟩:=aj_.1 h;split at h
 ·rename_i m;obtain⟨k,h,o1⟩:=z4_ h;obtain⟨v,bb,h,o2⟩:=Ab_ h;obtain⟨v',h,o3⟩:=vw_ h;cases ok with
  | true=>exact⟨_,h,fun K hK=>aj_.2 ⟨b,o1 _ (o2 _ (o3 _ hK))⟩⟩
  | false=>exact⟨_,h,fun K hK=>aj_.2 ⟨b,o1 _ (o2 _ (o3 _ hK))⟩⟩
 ·exact h.elim
theorem z5_ {cx:Cx} {t:Nat} {x:FV} {H:Hp} {K:FV→Prop} (h:u8_ cx t x H K):∃ v,K v∧One (u8_ cx t x H) v:=by
 unfold u8_ at h;split at h
 ·rename_i m;obtain⟨b,h⟩:=aj_.1 h;obtain⟨n,h,o1⟩:=AV_ h;exact⟨_,h,fun K hK=>aj_.2 ⟨b,o1 _ hK⟩⟩
 ·rename_i x hne;obtain⟨v,h1,o1⟩:=Ao_ h;refine⟨v,h1,fun K hK=> ?_⟩;unfold u8_;split
  ·rename_i m;exact (hne m rfl).elim
  ·exact o1 K hK
theorem AG_ {H:Hp} {l o:Nat} {K:RV→RV→Prop} (h:vi_ H l o K):∃ k v,K k v∧∀ K':RV→RV→Prop,K' k v→vi_ H l o K':=by
 obtain⟨e0,h⟩:=h;split at h
 ·rename_i m since seen last e1;split at h
  ·rename_i b es c e2 e3;obtain⟨e4,h⟩:=h;split at h
   ·rename_i e e5;exact⟨_,_,h,fun K' hK=>⟨e0,by rw[e1]; dsimp only; rw[e2,e3]; dsimp only; rw[e5]; exact⟨e4,hK⟩⟩⟩
   ·exact h.elim
  ·exact h.elim
 ·exact h.elim
theorem AC_ {cx:Cx} {d:Option Nat} {k v:RV} {K:FV→Prop} (h:u5_ cx d k v K):∃ u,K u∧One (u5_ cx d k v) u:=by
 unfold u5_ at h;split at h
 ·rename_i t e;obtain⟨k',h,o1⟩:=vw_ h;obtain⟨v',h,o2⟩:=vw_ h;exact⟨_,h,fun K hK=>by unfold u5_; rw[e]; exact o1 _ (o2 _ hK)⟩
 ·rename_i hne;refine⟨_,h,fun K hK=> ?_⟩;unfold u5_;split
  ·rename_i t e; exact (hne t e).elim
  ·exact hK
theorem zW_ {cx:Cx} {d:Option Nat} {x:FV} {H:Hp} {K:FV→Prop} (h:vZ_ cx d x H K):∃ v,K v∧One (vZ_ cx d x H) v:=by
 unfold vZ_ at h;split at h
 ·obtain⟨k,v,h,o1⟩:=AG_ h;obtain⟨u,h,o2⟩:=AC_ h;exact⟨u,h,fun K hK=>o1 (fun k v=>u5_ cx d k v K) (o2 K hK)⟩
 ·exact h.elim
end Go.Am
namespace Go.Am
theorem zE_ {cx:Cx} {s d:Nat} {x:FV} {H:Hp} {K:FV→Hp→Prop} (hk:Nat.beq (cx.ty d).k 1=false) (h:qF_ cx s d x H K):∃ v,K v H∧∀ K':FV→Hp→Prop,K' v H→qF_ cx s d x H K':=by
 unfold qF_ at h;rw[aj_,aj_] at h;obtain⟨b1,b2,h⟩:=h;have key:∀ {K':FV→Hp→Prop},_→qF_ cx s d x H K':=fun {K'} q=>aj_.2 ⟨b1,aj_.2 ⟨b2,q⟩⟩;split at h
 ·rename_i e1 e2;obtain⟨b,h⟩:=aj_.1 h;exact⟨_,h,fun K' hK=>key (by rw[e1,e2]; exact aj_.2 ⟨b,hK⟩)⟩
 ·rename_i e1;exact⟨_,h,fun K' hK=>key (by rw[e1]; exact hK)⟩
 ·rename_i e1;obtain⟨b3,h⟩:=aj_.1 h;obtain⟨b4,h⟩:=aj_.1 h;unfold rdN at h;split at h
  ·rename_i cs hc;obtain⟨bs,h,o⟩:=mF_ h;refine⟨_,h,fun K' hK=>key ?_⟩;rw[e1];refine aj_.2 ⟨b3,aj_.2 ⟨b4,?_⟩⟩;unfold rdN; rw[hc]; exact o (fun s=>K' (.g (.str (mkS s))) H) hK
  ·exact h.elim
 ·rename_i e1;obtain⟨b3,h⟩:=aj_.1 h;obtain⟨b4,h⟩:=aj_.1 h;obtain⟨b5,h⟩:=aj_.1 h;obtain⟨bs,h,o⟩:=mF_ h;refine⟨_,h,fun K' hK=>key ?_⟩;rw[e1];exact aj_.2 ⟨b3,aj_.2 ⟨b4,aj_.2 ⟨b5,o (fun s=>K' (.g (.str (mkS s))) H) hK⟩⟩⟩
 ·rename_i e1;rw[e1] at hk; cases hk
 ·exact h.elim
theorem rH_ {cx:Cx} {o:Oper} {E:Operand→FV} {B:Nat→FV} {H:Hp} {K:FV→Hp→Prop} (he:cL_ cx o=false) (h:opE cx o E B H K):∃ v,K v H∧∀ K':FV→Hp→Prop,K' v H→opE cx o E B H K':=by
 have key:∀ {K':FV→Hp→Prop} {X:Prop},X→X=opE cx o E B H K'→opE cx o E B H K':=fun hX e=>e▸hX;unfold opE at h;unfold cL_ at he;cases ho:o.op with
 | move x=>rw[ho] at h; exact⟨_,h,fun K' hK=>by unfold opE; rw[ho]; exact hK⟩
 | assign x=>rw[ho] at h; exact⟨_,h,fun K' hK=>by unfold opE; rw[ho]; exact hK⟩
 | pick c a b=>
  rw[ho] at h; dsimp only at h;split at h
  ·rename_i t e;cases t with
   | true=>exact⟨_,h,fun K' hK=>by unfold opE; rw[ho]; dsimp only; rw[e]; exact hK⟩
   | false=>exact⟨_,h,fun K' hK=>by unfold opE; rw[ho]; dsimp only; rw[e]; exact hK⟩
  ·exact h.elim
 | build t ps=>
  rw[ho] at h;obtain⟨b1,h⟩:=aj_.1 h;obtain⟨b2,h⟩:=aj_.1 h;obtain⟨b3,h⟩:=aj_.1 h;obtain⟨v,h1,h2⟩:=xi_ h;exact⟨_,h1,fun K' hK=>by unfold opE; rw[ho]; exact aj_.2 ⟨b1,aj_.2 ⟨b2,aj_.2 ⟨b3,h2 (fun cs=>K' (.agg cs) H) hK⟩⟩⟩⟩
 | buildSlice t n ps=>
  rw[ho] at h he;have he:cx.isEsc o.dst=false:=he;obtain⟨b1,h⟩:=aj_.1 h;obtain⟨b2,h⟩:=aj_.1 h;obtain⟨b3,h⟩:=aj_.1 h;obtain⟨v,h1,h2⟩:=v6_ h;rw[he] at h1;refine⟨_,h1,fun K' hK=> ?_⟩;unfold opE; rw[ho];exact aj_.2 ⟨b1,aj_.2 ⟨b2,aj_.2 ⟨b3,h2 _ (by rw[he]; exact hK)⟩⟩⟩
 | load t a=>
  rw[ho] at h;obtain⟨b1,h⟩:=aj_.1 h;obtain⟨v,h1,h2⟩:=zr_ h;exact⟨_,h1,fun K' hK=>by unfold opE; rw[ho]; exact aj_.2 ⟨b1,h2 (fun v=>K' v H) hK⟩⟩
 | nilCheck x=>
  rw[ho] at h; dsimp only at h;split at h
  ·rename_i s p e;exact⟨_,h,fun K' hK=>by unfold opE; rw[ho]; dsimp only; rw[e]; exact hK⟩
  ·rename_i a e;cases a with
   | none=>exact h.elim
   | some p=>exact⟨_,h,fun K' hK=>by unfold opE; rw[ho]; dsimp only; rw[e]; exact hK⟩
  ·exact h.elim
 | binOp op t x y yt=>
  rw[ho] at h;obtain⟨v,h1,h2⟩:=A4_ h;exact⟨_,h1,fun K' hK=>by unfold opE; rw[ho]; exact h2 (fun v=>K' v H) hK⟩
 | unOp op t x=>
  rw[ho] at h;obtain⟨v,h1,h2⟩:=BU_ h;exact⟨_,h1,fun K' hK=>by unfold opE; rw[ho]; exact h2 (fun v=>K' v H) hK⟩
 | convert s d x=>
  rw[ho] at h he;obtain⟨v,h1,h2⟩:=zE_ he h;exact⟨_,h1,fun K' hK=>by unfold opE; rw[ho]; exact h2 K' hK⟩
 | makeInterface t x=>
  rw[ho] at h;obtain⟨b1,h⟩:=aj_.1 h;obtain⟨b2,h⟩:=aj_.1 h;split at h
  ·rename_i v e;exact⟨_,h,fun K' hK=>by unfold opE; rw[ho]; refine aj_.2 ⟨b1,aj_.2 ⟨b2,?_⟩⟩; rw[e]; exact hK⟩
  ·exact h.elim
 | makeFunc fn first caps=>
  rw[ho] at h; dsimp only at h;split at h
  ·rename_i f e;obtain⟨v,h1,h2⟩:=uS_ h;exact⟨_,h1,fun K' hK=>by unfold opE; rw[ho]; dsimp only; rw[e]; exact h2 (fun cs=>K' (.g (.fn f cs)) H) hK⟩
  ·exact h.elim
 | makeSlice t l c=>
  rw[ho] at h he;have he:cx.isEsc o.dst=false:=he;dsimp only at h;rw[he] at h;obtain⟨v,h1,h2⟩:=zg_ h;refine⟨v,h1,fun K' hK=> ?_⟩;unfold opE; rw[ho]; dsimp only; rw[he];exact h2 (fun v=>K' v H) hK
 | slice t x lo hi mx=>
  rw[ho] at h;cases mx with
  | some m=>
   obtain⟨v,h1,h2⟩:=wS_ h;exact⟨_,h1,fun K' hK=>by unfold opE; rw[ho]; exact h2 (fun v=>K' v H) hK⟩
  | none=>
   obtain⟨v,h1,h2⟩:=ya_ h;exact⟨_,h1,fun K' hK=>by unfold opE; rw[ho]; exact h2 (fun v=>K' v H) hK⟩
 | entry x=>
  rw[ho] at h;obtain⟨v,h1,h2⟩:=zW_ h;exact⟨_,h1,fun K' hK=>by unfold opE; rw[ho]; exact h2 (fun v=>K' v H) hK⟩
 | lookup t x i ok=>
  rw[ho] at h;obtain⟨v,h1,h2⟩:=z9_ h;exact⟨_,h1,fun K' hK=>by unfold opE; rw[ho]; exact h2 (fun v=>K' v H) hK⟩
 | fieldAddr t x f=>
  rw[ho] at h; dsimp only at h;split at h
  ·rename_i p e hf;obtain⟨b1,h⟩:=aj_.1 h;obtain⟨b2,h⟩:=aj_.1 h;obtain⟨b3,h⟩:=aj_.1 h;obtain⟨v,h1,h2⟩:=AJ_ h;exact⟨_,h1,fun K' hK=>by unfold opE; rw[ho]; dsimp only; rw[hf]; exact aj_.2 ⟨b1,aj_.2 ⟨b2,aj_.2 ⟨b3,h2 (fun v=>K' v H) hK⟩⟩⟩⟩
  ·exact h.elim
 | field t x f=>
  rw[ho] at h; dsimp only at h;split at h
  ·rename_i p t' cs hf e;obtain⟨b1,h⟩:=aj_.1 h;obtain⟨b2,h⟩:=aj_.1 h;obtain⟨v,h1,h2⟩:=wy_ h;exact⟨_,h1,fun K' hK=>by unfold opE; rw[ho]; dsimp only; rw[hf,e]; exact aj_.2 ⟨b1,aj_.2 ⟨b2,h2 (fun v=>K' v H) hK⟩⟩⟩
  ·exact h.elim
 | indexAddr t x i=>
  rw[ho] at h;obtain⟨v,h1,h2⟩:=AR_ h;exact⟨_,h1,fun K' hK=>by unfold opE; rw[ho]; exact h2 (fun v=>K' v H) hK⟩
 | index t x i=>
  rw[ho] at h; dsimp only at h;split at h
  ·rename_i s k j e1 e2;obtain⟨b1,h⟩:=aj_.1 h;obtain⟨b2,h⟩:=bf_.1 h;exact⟨_,h,fun K' hK=>by unfold opE; rw[ho]; dsimp only; rw[e1,e2]; exact aj_.2 ⟨b1,bf_.2 ⟨b2,hK⟩⟩⟩
  ·exact h.elim
 | extract x i=>
  rw[ho] at h; dsimp only at h;split at h
  ·rename_i vs e;split at h
   ·rename_i v hg;exact⟨_,h,fun K' hK=>by unfold opE; rw[ho]; dsimp only; rw[e]; dsimp only; rw[hg]; exact hK⟩
   ·rename_i cs hg;exact⟨_,h,fun K' hK=>by unfold opE; rw[ho]; dsimp only; rw[e]; dsimp only; rw[hg]; exact hK⟩
   ·exact h.elim
  ·exact h.elim
 | typeAssert x xt a ok=>
  rw[ho] at h; dsimp only at h;cases ok with
  | true=>exact h.elim
  | false=>
   obtain⟨b1,h⟩:=aj_.1 h;obtain⟨b2,h⟩:=aj_.1 h;split at h
   ·rename_i v e;cases v<;>first | exact h.elim | skip
    rename_i t w;have h':t=a∧(match (cx.ty a).lv with | [k]=>fO_ k w fun w=>K (.g w) H | _=>False):=h;obtain⟨e1,h2⟩:=h';split at h2
    ·rename_i k el;obtain⟨v,h3,h4⟩:=lV_ h2;exact⟨_,h3,fun K' hK=>by unfold opE; rw[ho]; dsimp only; refine aj_.2 ⟨b1,aj_.2 ⟨b2,?_⟩⟩; rw[e]; refine⟨e1,?_⟩; rw[el]; exact h4 (fun w=>K' (.g w) H) hK⟩
    ·exact h2.elim
   ·exact h.elim
 | call c=>
  rw[ho] at h he;dsimp only at h he;cases hc:c.callee with
  | value f=>rw[hc] at he; cases he
  | invoke r n=>rw[hc] at he; cases he
  | builtin b=>
   rw[hc] at h he;dsimp only at h;split at h
   ·rename_i x ha;split at h
    ·rename_i t e;obtain⟨v,h1,h2⟩:=z5_ h;exact⟨_,h1,fun K' hK=>by unfold opE; rw[ho]; dsimp only; rw[hc]; dsimp only; rw[ha]; dsimp only; rw[e]; exact h2 (fun v=>K' v H) hK⟩
    ·exact h.elim
   ·cases he
   ·cases he
   ·rename_i x y ha;obtain⟨v,h1,h2⟩:=um_ h;exact⟨_,h1,fun K' hK=>by unfold opE; rw[ho]; dsimp only; rw[hc]; dsimp only; rw[ha]; exact h2 (fun v=>K' v H) hK⟩
   ·rename_i x y ha;obtain⟨v,h1,h2⟩:=um_ h;exact⟨_,h1,fun K' hK=>by unfold opE; rw[ho]; dsimp only; rw[hc]; dsimp only; rw[ha]; exact h2 (fun v=>K' v H) hK⟩
   ·cases he
   ·exact h.elim
 | _=>rw[ho] at h he; first | exact h.elim | (cases he; done)
end Go.Am
namespace Go.Am
section
variable {E E':Operand→FV}
theorem i3_ {cx:Cx} {t:Nat} {x:Operand} (h:E' x=E x):evT cx t E' x=evT cx t E x:=by
 unfold evT; split
 ·rfl
 ·exact h
theorem qq_ {cx:Cx}:∀ {xs:List Operand} {ts:List Nat},(∀ x∈xs,E' x=E x)→∀ (H:Hp) (K:List FV→Hp→Prop),g3_ cx E' xs ts H K=g3_ cx E xs ts H K
 | [],_,_,H,K=>rfl
 | x::xs,ts,h,H,K=>by
  have hx:=i3_ (cx:=cx) (t:=hdN ts) (h x (by simp));have ih:=qq_ (cx:=cx) (xs:=xs) (ts:=tlN ts) (fun y hy=>h y (by simp [hy]));simp only[g3_,hx,ih]
theorem sb_ {cx:Cx} {t:Nat}:∀ {ps:List (Nat × Operand)},(∀ x∈ps.map (·.2),E' x=E x)→∀ (zs:List GV) (K:List GV→Prop),q8_ cx E' t zs ps K=q8_ cx E t zs ps K
 | [],_,zs,K=>rfl
 | (i,x)::ps,h,zs,K=>by
  have hx:=h x (by simp);have ih:=sb_ (cx:=cx) (t:=t) (ps:=ps) (fun y hy=>h y (by simp at hy ⊢; exact .inr hy));simp only[q8_,hx,ih]
theorem rM_ {z:Nat}:∀ {ps:List (Nat × Operand)},(∀ x∈ps.map (·.2),E' x=E x)→∀ (zs:List GV) (K:List GV→Prop),sr_ E' z zs ps K=sr_ E z zs ps K
 | [],_,zs,K=>rfl
 | (i,x)::ps,h,zs,K=>by
  have hx:=h x (by simp);have ih:=rM_ (z:=z) (ps:=ps) (fun y hy=>h y (by simp at hy ⊢; exact .inr hy));simp only[sr_,hx,ih]
theorem qN_:∀ {xs:List Operand},(∀ x∈xs,E' x=E x)→∀ (K:List (Nat × Nat)→Prop),la_ E' xs K=la_ E xs K
 | [],_,K=>rfl
 | x::xs,h,K=>by
  have hx:=h x (by simp);have ih:=qN_ (xs:=xs) (fun y hy=>h y (by simp [hy]));simp only[la_,hx,ih]
theorem no_ {x:Option Operand} {d:Nat} (h:∀ y,x=some y→E' y=E y) (K:Nat→Prop):l2_ E' x d K=l2_ E x d K:=by
 cases x with
 | none=>rfl
 | some x=>simp only[l2_,h x rfl]
theorem Dr_ {cx:Cx} {t:Nat} {w:GV} {B B':Nat→FV} {H:Hp} {K:FV→Prop}:i0_ cx t (.g w) B' H K=i0_ cx t (.g w) B H K:=by
 cases w<;>first | rfl | (rename_i q; cases q<;>rfl)
theorem A2_ {cx:Cx} {t:Nat} {b:Bool} {w:GV} {B B':Nat→FV} {H:Hp} {K:FV→Prop}:ur_ cx t b w B' H K=ur_ cx t b w B H K:=by
 unfold ur_;cases (cx.ty t).isA 2 with
 | false=>rfl
 | true=>cases b with
  | true=>rfl
  | false=>cases w<;>first | rfl | (rename_i a; cases a<;>rfl)
theorem uT_ {cx:Cx} {o:Oper} {B B':Nat→FV} (H:Hp) (K:FV→Hp→Prop) (h:∀ x∈o.op.operands,E' x=E x) (hB:∀ t a s p,o.op= .load t a→E a= .lp s p→B' s=B s):opE cx o E' B' H K=opE cx o E B H K:=by
 unfold opE;cases ho:o.op<;>rw[ho] at h<;>simp only[Op.operands] at h<;>dsimp only
 case move x=>rw[i3_ (h x (by simp))]
 case assign x=>rw[i3_ (h x (by simp))]
 case pick c a b=>rw[h c (by simp),h a (by simp),h b (by simp)]
 case build t ps=>
  have:=sb_ (cx:=cx) (t:=t) (ps:=ps.toList) (E:=E) (E':=E') (fun x hx=>h x (by simpa using hx));simp only[this]
 case buildSlice t n ps=>
  have:=fun z=>rM_ (z:=z) (ps:=ps.toList) (E:=E) (E':=E') (fun x hx=>h x (by simpa using hx));simp only[this]
 case load t a=>
  have ha:=h a (by simp);rw[ha];congr 1;cases he:E a with
  | lp s p=>simp only[i0_,hB t a s p ho he]
  | g v=>cases v<;>first | rfl | (rename_i q; cases q<;>rfl)
  | _=>rfl
 case nilCheck x=>rw[h x (by simp)]
 case binOp op t x y yt=>rw[h x (by simp),h y (by simp)]
 case unOp op t x=>rw[h x (by simp)]
 case convert s d x=>rw[h x (by simp)]
 case makeInterface t x=>rw[h x (by simp)]
 case makeFunc fn first caps=>
  have:=qN_ (xs:=caps.toList) (E:=E) (E':=E') (fun x hx=>h x (by simp; right; simpa using hx));simp only[this]
 case makeSlice t l c=>rw[h l (by simp),h c (by simp)]
 case slice t x lo hi mx=>
  have hx:=h x (by simp);have h1:=fun d=>no_ (x:=lo) (d:=d) (E:=E) (E':=E') (fun y e=>h y (by simp [e]));have h2:=fun d=>no_ (x:=hi) (d:=d) (E:=E) (E':=E') (fun y e=>h y (by simp [e]));rw[hx];cases mx with
  | some m=>
   have h3:=fun d=>no_ (x:=some m) (d:=d) (E:=E) (E':=E') (fun y e=>h y (by cases e; simp));cases hi with
   | none=>cases E x<;>first | rfl | (rename_i g; cases g<;>rfl)
   | some y=>
    cases E x with
    | g g=>cases g with
     | sl a n z=>simp only[jo_,h1,h2,h3]
     | _=>rfl
    | _=>rfl
  | none=>simp only[nn_,h1,h2]
 case makeMap t r=>
  cases r with
  | none=>rfl
  | some x=>dsimp only; rw[h x (by simp)]
 case lookup t x i ok=>rw[h x (by simp),h i (by simp)]
 case mapUpdate t m k v=>rw[h m (by simp),h k (by simp),i3_ (h v (by simp))]
 case mapEntry t m k=>rw[h m (by simp),h k (by simp)]
 case entryStore t m s v=>rw[h m (by simp),h s (by simp),i3_ (h v (by simp))]
 case range t x=>rw[h x (by simp)]
 case next x isS=>rw[h x (by simp)]
 case entry x=>rw[h x (by simp)]
 case fieldAddr t x f=>rw[h x (by simp)]
 case field t x f=>rw[h x (by simp)]
 case indexAddr t x i=>rw[h x (by simp),h i (by simp)]
 case index t x i=>rw[h x (by simp),h i (by simp)]
 case extract x i=>rw[h x (by simp)]
 case typeAssert x xt a ok=>rw[h x (by simp)]
 case call c=>
  simp only[Call.operands] at h;have hargs:∀ x∈c.args.toList,E' x=E x:=fun x hx=>h x (by simp; right; simpa using hx);have h1:=qq_ (cx:=cx) (xs:=c.args.toList) (ts:=c.argTypes.toList) (E:=E) (E':=E') hargs;cases hc:c.callee with
  | value f=>
   rw[hc] at h;have hf:=h f (by simp);cases f<;>dsimp only<;>simp only[h1,hf]
  | builtin b=>
   dsimp only;split
   ·rename_i x ha;rw[hargs x (by rw[ha]; simp)]
   ·rename_i x y ha;rw[hargs x (by rw[ha]; simp),hargs y (by rw[ha]; simp)]
   ·rename_i x ha;rw[hargs x (by rw[ha]; simp)]
   ·rename_i x y ha;rw[hargs x (by rw[ha]; simp),hargs y (by rw[ha]; simp)]
   ·rename_i x y ha;rw[hargs x (by rw[ha]; simp),hargs y (by rw[ha]; simp)]
   ·rename_i x y ha;rw[hargs x (by rw[ha]; simp),hargs y (by rw[ha]; simp)]
   ·rfl
  | invoke r n=>
   rw[hc] at h;have hr:=h r (by simp);dsimp only;rw[hr];have h2:=fun (t:Nat) (b:Bool) (w:GV) (H:Hp) (K:FV→Prop)=>A2_ (cx:=cx) (t:=t) (b:=b) (w:=w) (B:=B) (B':=B') (H:=H) (K:=K);simp only[h1,h2]
theorem zm_ {cx:Cx} {t:Nat} {x:FV} {H H':Hp} {K:FV→Prop} (h:∀ m,x≠ .g (.map m)):u8_ cx t x H K=u8_ cx t x H' K:=by
 unfold u8_;split
 ·rename_i m; exact (h m rfl).elim
 ·rfl
theorem AL_ {cx:Cx} {o:Oper} {B:Nat→FV} {H H':Hp} {v:FV} (he:cL_ cx o=false) (hr:nr_ o E=false) (h:∀ K:FV→Hp→Prop,K v H→opE cx o E B H K):∀ K:FV→Hp→Prop,K v H'→opE cx o E B H' K:=by
 intro K hK;have h1:=h (fun v' h'=>v'=v∧h'=H) ⟨rfl,rfl⟩;obtain⟨v2,⟨rfl,_⟩,_⟩:=rH_ he h1;have h2:=h (fun v' h'=>v'=v2) rfl;have h3:opE cx o E B H' (fun v' h'=>v'=v2):=by
  unfold opE at h2 ⊢;unfold nr_ at hr;unfold cL_ at he;cases ho:o.op with
  | buildSlice t n ps=>
   rw[ho] at h2 he; dsimp only at h2 he ⊢;simp only[he] at h2 ⊢; exact h2
  | load t a=>
   rw[ho] at h2 hr; dsimp only at h2 hr ⊢;cases hx:E a with
   | g v=>rw[hx] at hr; cases hr
   | _=>rw[hx] at h2; exact h2
  | convert s d x=>
   rw[ho] at h2 hr he; dsimp only at h2 hr he ⊢;have hk:(cx.ty d).k≠1:=fun e=>by rw[e] at he; cases he
   unfold qF_ at h2 ⊢;rw[aj_,aj_] at h2 ⊢;refine⟨h2.1,h2.2.1,?_⟩;have h3:=h2.2.2;split at h3
   ·exact h3
   ·exact h3
   ·rename_i e1 e2; rw[e2] at hr; cases hr
   ·exact h3
   ·rename_i e1 e2; exact (hk e1).elim
   ·exact h3.elim
  | slice t x lo hi mx=>
   rw[ho] at h2 hr; dsimp only at h2 ⊢;cases mx with
   | some m=>
    cases hi with
    | none=>
     dsimp only at h2;cases hx:E x with
     | g g=>rw[hx] at h2; cases g<;>exact h2.elim
     | _=>rw[hx] at h2; exact h2.elim
    | some y=>
     dsimp only at hr;cases hx:E x with
     | g g=>
      rw[hx] at h2 hr;cases g<;>first | exact h2.elim | cases hr
     | _=>rw[hx] at h2; exact h2.elim
   | none=>
    cases hi with
    | none=>
     dsimp only at hr;cases hx:E x with
     | g g=>
      rw[hx] at h2 hr;cases g<;>first | exact h2 | cases hr
     | _=>rw[hx] at h2; exact h2
    | some y=>
     dsimp only at hr;cases hx:E x with
     | g g=>
      rw[hx] at h2 hr;cases g<;>first | exact h2 | cases hr
     | _=>rw[hx] at h2; exact h2
  | lookup t x i ok=>rw[ho] at hr; cases hr
  | entry x=>rw[ho] at hr; cases hr
  | call c=>
   rw[ho] at h2 he hr; dsimp only at h2 he hr ⊢;cases hc:c.callee with
   | value f=>rw[hc] at he; cases he
   | invoke r n=>rw[hc] at he; cases he
   | builtin b=>
    rw[hc] at h2 he;rw[hc] at hr;dsimp only at h2 he hr ⊢;rcases hl:c.args.toList with _ | ⟨x,_ | ⟨y,_ | ⟨z,l⟩⟩⟩<;>rw[hl] at h2 hr<;>cases b<;>first | exact h2 | (cases he; done) | exact h2.elim | skip
    dsimp only at h2 hr ⊢;split at h2
    ·rename_i t e;have hne:∀ m,E x≠ .g (.map m):=fun m q=>by rw[q] at hr; cases hr
     rw[zm_ (H':=H) hne]; exact h2
    ·exact h2.elim
  | makeSlice t l c=>
   rw[ho] at h2 he; dsimp only at h2 he ⊢;simp only[he] at h2 ⊢; exact h2
  | _=>rw[ho] at h2 he; first | exact h2 | (cases he; done)
 obtain⟨v3,rfl,h4⟩:=rH_ (K:=fun v' _=>v'=v2) (by exact he) h3;exact h4 K hK
end
end Go.Am
namespace Go.Am
theorem mem_iff {i:Nat}:∀ {l:List Nat},mem i l=true↔i∈l
 | []=>by simp [mem]
 | j::l=>by
  unfold mem;split
  ·rename_i e; simp [fk_ e]
  ·rename_i e;have:i≠j:=by intro q; subst q; simp at e
   simp [this,mem_iff (l:=l)]
theorem nl_:∀ {l:List Nat},tx_ l=true→l.Nodup
 | [],_=>List.nodup_nil
 | i::l,h=>by
  unfold tx_ at h;split at h
  ·cases h
  ·rename_i e;refine List.nodup_cons.2 ⟨fun q=> ?_,nl_ h⟩;rw[mem_iff.2 q] at e; cases e
def Lis (L:Array Bool) (i:Nat):Prop:=L.getD i false=true
theorem qk_ {acc:List Nat} {b:Nat}:∀ {es:List Edge} {s:Nat},(tB_ acc es s).testBit b=true→s.testBit b=true∨∃ e∈es,Region.binds .any e=true∧(b=e.on∨(acc.getD e.on 0).testBit b=true)
 | [],s,h=> .inl h
 | e::es,s,h=>by
  unfold tB_ at h;rcases qk_ h with q | ⟨e',h1,h2⟩
  ·split at q
   ·rename_i hb;simp only[Nat.testBit_or,Bool.or_eq_true] at q;rcases q with (q | q) | q
    ·exact .inl q
    ·rw[Nat.testBit_two_pow] at q;exact .inr ⟨e,by simp,hb,.inl (by simpa using q:e.on=b).symm⟩
    ·exact .inr ⟨e,by simp,hb,.inr q⟩
   ·exact .inl q
  ·exact .inr ⟨e',by simp [h1],h2⟩
def Az_ (os:List Oper) (W:List Nat):Prop:=∀ i b,(W.getD i 0).testBit b=true→∃ o e,os[i]? =some o∧e∈o.after∧Region.binds .any e=true∧(b=e.on∨(e.on < i∧(W.getD e.on 0).testBit b=true))
theorem oc_:∀ (os pre:List Oper) (acc:List Nat),acc.length=pre.length→Az_ (pre++os) acc→Az_ (pre++os) (rw_ acc os)
 | [],pre,acc,_,h=>h
 | o::os,pre,acc,hl,h=>by
  have:=oc_ os (pre++[o]) (acc++[tB_ acc o.after.toList 0]) (by simp [hl]) (by
   simp only[List.append_assoc,List.singleton_append];intro i b hb;rcases Nat.lt_trichotomy i acc.length with q | q | q
   ·rw[List.getD_eq_getElem?_getD,List.getElem?_append_left q,←List.getD_eq_getElem?_getD] at hb;obtain⟨o',e,h1,h2,h3,h4⟩:=h i b hb;refine⟨o',e,h1,h2,h3,h4.imp_right fun r=>⟨r.1,?_⟩⟩;rw[List.getD_eq_getElem?_getD,List.getElem?_append_left (by omega),←List.getD_eq_getElem?_getD];exact r.2
   ·subst q;rw[List.getD_eq_getElem?_getD,List.getElem?_append_right (Nat.le_refl _)] at hb;simp at hb;rcases qk_ hb with q | ⟨e,h1,h2,h3⟩
    ·simp at q
    ·refine⟨o,e,by rw[List.getElem?_append_right (by omega)]; simp [hl],by simpa using h1,h2,h3.imp_right fun r=> ?_⟩;have hlt:e.on < acc.length:=by
      rcases Nat.lt_or_ge e.on acc.length with q | q
      ·exact q
      ·rw[List.getD_eq_getElem?_getD,List.getElem?_eq_none q] at r; simp at r
     refine⟨hlt,?_⟩;rw[List.getD_eq_getElem?_getD,List.getElem?_append_left hlt,←List.getD_eq_getElem?_getD];exact r
   ·rw[List.getD_eq_getElem?_getD,List.getElem?_eq_none (by simp; omega)] at hb;simp at hb)
  simpa [rw_] using this
theorem x6_ (ops:Array Oper):Az_ ops.toList (ds_ ops):=by
 have:=oc_ ops.toList [] [] rfl (fun i b h=>by simp at h);simpa [ds_] using this
def kS_ (ops:Array Oper) (L:Array Bool):Prop:=∀ (i:Nat) o,ops[i]? =some o→Lis L i→∀ e∈o.after,Region.binds .any e=true→Lis L e.on
theorem uY_ {ops:Array Oper} {L:Array Bool} (hc:kS_ ops L):∀ (i:Nat),(∀ o,ops[i]? =some o→∀ e∈o.after,Region.binds .any e=true→Lis L e.on)→∀ b,has ((ds_ ops).getD i 0) b=true→Lis L b:=by
 intro i;induction i using Nat.strongRecOn with
 | _ i ih=>
  intro hd b hb;obtain⟨o,e,h1,h2,h3,h4⟩:=x6_ ops i b hb;have h1':ops[i]? =some o:=by simpa using h1
  have hl:=hd o h1' e h2 h3;rcases h4 with rfl | ⟨h5,h6⟩
  ·exact hl
  ·exact ih e.on h5 (fun o' ho' e' he' hb'=>hc e.on o' ho' hl e' he' hb') b h6
structure e7_ (cx:Cx) (ops:Array Oper) (m:Nat) (σ al:List Nat):Prop where
 all:∀ i,i < m→i∈σ
 lt:∀ i,i∈σ→i < m
 le:m≤ops.size
 nodup:σ.Nodup
 eff:ls_ cx ops (ds_ ops) σ=true
 dst:∀ i j,i < m→j < m→∀ d,d∈iB_ ops i→d∈iB_ ops j→i=j
 op:∀ i,i < m→∃ o,ops[i]? =some o∧(∀ t∈o.looksAt ops,(fY_ o=false→t∉al)∧∀ j,j < m→t∈iB_ ops j→has ((ds_ ops).getD i 0) j=true∨(hP_ ops j false (cL_ cx)=true∧has ((ds_ ops).getD j 0) i=true))∧(fY_ o=true→o.dst=none)∧
  (∀ g w,o.guard=some (g,w)→has ((ds_ ops).getD i 0) g=true)∧(m2_ cx o=true→∀ d,o.dst=some d→d∈al)
 edge:∀ (i:Nat) o,ops[i]? =some o→∀ e∈o.after,Region.binds .any e=true→e.on < i
 tail:∀ i,i < ops.size→m≤i→∀ j,j < i→has ((ds_ ops).getD i 0) j=true
theorem tE_ {f:Nat→List Nat}:∀ {l:List Nat},(l.flatMap f).Nodup→l.Nodup→∀ i j,i∈l→j∈l→∀ d,d∈f i→d∈f j→i=j
 | [],_,_,i,j,hi,_,d,_,_=>by cases hi
 | a::l,h,hl,i,j,hi,hj,d,hdi,hdj=>by
  rw[List.flatMap_cons,List.nodup_append] at h;obtain⟨_,h2,h3⟩:=h;rw[List.nodup_cons] at hl;cases hi with
  | head=>
   cases hj with
   | head=>rfl
   | tail _ hj=>exact (h3 d hdi d (List.mem_flatMap.2 ⟨j,hj,hdj⟩) rfl).elim
  | tail _ hi=>
   cases hj with
   | head=>exact (h3 d hdj d (List.mem_flatMap.2 ⟨i,hi,hdi⟩) rfl).elim
   | tail _ hj=>exact tE_ h2 hl.2 i j hi hj d hdi hdj
theorem pB_ {ops:Array Oper} {i:Nat} {f:Oper→Bool} (h:hP_ ops i false f=true):∃ o,ops[i]? =some o∧f o=true:=by
 unfold hP_ at h;split at h
 ·rename_i o e; exact⟨o,e,h⟩
 ·cases h
theorem Bn_ {cx:Cx} {ops:Array Oper} {m:Nat} {σ al:List Nat} (h:Av_ cx ops (ds_ ops) m σ al=true):e7_ cx ops m σ al:=by
 unfold Av_ at h;simp only[Bool.and_eq_true,List.all_eq_true,List.mem_range] at h;obtain⟨⟨⟨⟨⟨⟨⟨h1,h2⟩,h3⟩,h4⟩,h5⟩,h6⟩,h7⟩,h8⟩:=h;refine⟨fun i hi=>mem_iff.1 (h1 i hi),fun i hi=>by have:=h2 i hi; exact (show i+1≤m by simpa [Nat.blt] using this),Nat.le_of_ble_eq_true h3,nl_ h4,h5,?_,?_,?_,?_⟩
 ·intro i j hi hj d hdi hdj;exact tE_ (nl_ h6) List.nodup_range i j (List.mem_range.2 hi) (List.mem_range.2 hj) d hdi hdj
 ·intro i hi;obtain⟨h9,h10⟩:=h7 i hi;obtain⟨o,ho,h11⟩:=pB_ h10;obtain⟨o',ho',h12⟩:=pB_ h9;rw[ho] at ho'; cases ho';simp only[Bool.and_eq_true] at h11;obtain⟨⟨h13,h14⟩,h15⟩:=h11;refine⟨o,ho,fun t ht=> ?_,fun hs=>by rw[hs] at h13; unfold CC_ at h13; cases hd:o.dst with | none=>rfl | some d=>rw[hd] at h13; simp at h13,fun g w hg=> ?_,fun ha d hd=> ?_⟩
  ·rw[List.all_eq_true] at h12;have:=h12 t ht;simp only[Bool.and_eq_true,List.all_eq_true,List.mem_range] at this;obtain⟨q1,q2⟩:=this;refine⟨fun hs q=>by rw[mem_iff.2 q,hs] at q1; simp at q1,fun j hj hjt=> ?_⟩;have:=q2 j hj;rw[mem_iff.2 hjt] at this;simpa using this
  ·unfold yO_ at h14; rw[hg] at h14; exact h14
  ·rw[ha] at h15;have:d∈iB_ ops i:=by simp [iB_,ho,hd]
   exact mem_iff.1 (List.all_eq_true.1 h15 d this)
 ·intro i o ho e he hb;have hi:i < ops.size:=(Array.getElem?_eq_some_iff.1 ho).1;obtain⟨h9,_⟩:=h8 i hi;obtain⟨o',ho',h10⟩:=pB_ h9;rw[ho] at ho'; cases ho';unfold yA_ at h10;have:=List.all_eq_true.1 h10 e (by simpa using he);rw[hb] at this;exact (show e.on+1≤i by simpa [Nat.blt] using this)
 ·intro i hi hm j hj;obtain⟨_,h9⟩:=h8 i hi;rw[Bool.or_eq_true] at h9;rcases h9 with q | q
  ·have:i+1≤m:=by simpa [Nat.blt] using q
   omega
  ·exact List.all_eq_true.1 q j (List.mem_range.2 hj)
theorem ih_ {cx:Cx} {ops:Array Oper} {W:List Nat}:∀ {pre post:List Nat} {i:Nat},ls_ cx ops W (pre++i::post)=true→
 (hP_ ops i false (cL_ cx)=true→(∀ j∈post,has (W.getD j 0) i=true)∨zK_ cx ops W i post=true)∧has (W.getD i 0) i=false∧(∀ j∈pre,has (W.getD j 0) i=false)
 | [],post,i,h=>by
  simp only[List.nil_append,ls_,Bool.and_eq_true] at h;obtain⟨⟨⟨h1,h2⟩,h3⟩,h4⟩:=h;refine⟨fun he=> ?_,by simpa using h2,fun j hj=>by cases hj⟩;rw[he] at h1;rcases (Bool.or_eq_true _ _).mp h1 with h1 | h1
  ·exact .inl fun j hj=>List.all_eq_true.1 h1 j hj
  ·exact .inr h1
 | a::pre,post,i,h=>by
  simp only[List.cons_append,ls_,Bool.and_eq_true] at h;obtain⟨⟨⟨h1,h2⟩,h3⟩,h4⟩:=h;obtain⟨g1,g2,g3⟩:=ih_ h4;refine⟨g1,g2,fun j hj=> ?_⟩;cases hj with
  | head=>have:=List.all_eq_true.1 h3 i (by simp); simpa using this
  | tail _ hj=>exact g3 j hj
theorem hU_ {cx:Cx} {ops:Array Oper} {W:List Nat} {i j:Nat}:split cx ops W i j=true↔hP_ ops i false (cL_ cx)=true∧hP_ ops j false (cL_ cx)=true∧has (W.getD i 0) j=false∧has (W.getD j 0) i=false:=by
 simp [split,and_assoc]
theorem tp_ {cx:Cx} {ops:Array Oper} {W:List Nat} {i j:Nat} (h:split cx ops W i j=true):split cx ops W j i=true:=by
 obtain⟨h1,h2,h3,h4⟩:=hU_.1 h;exact hU_.2 ⟨h2,h1,h4,h3⟩
theorem g8_ {cx:Cx} {ops:Array Oper} {W:List Nat} {i j:Nat} {l:List Nat}:zK_ cx ops W i (j::l)=true↔split cx ops W i j=true∧(∀ k∈l,has (W.getD k 0) i=true)∧∀ k∈l,has (W.getD k 0) j=true:=by
 simp only[zK_,Bool.and_eq_true,List.all_eq_true,and_assoc]
theorem sI_ {cx:Cx} {ops:Array Oper} {W:List Nat}:∀ {pre post:List Nat} {i j:Nat},ls_ cx ops W (pre++i::j::post)=true→zK_ cx ops W i (j::post)=true→ls_ cx ops W (pre++j::i::post)=true
 | [],post,i,j,h,ht=>by
  simp only[List.nil_append,ls_,Bool.and_eq_true,List.all_cons] at h ⊢;obtain⟨⟨⟨h1,h2⟩,h3a,h3⟩,⟨⟨h4,h5⟩,h6⟩,h7⟩:=h;obtain⟨hs,hi,hj⟩:=g8_.1 ht;obtain⟨e1,e2,e3,e4⟩:=hU_.1 hs;refine⟨⟨⟨?_,h5⟩,by rw[e4]; rfl,h6⟩,⟨⟨?_,h2⟩,h3⟩,h7⟩
  ·rw[e2]; exact (Bool.or_eq_true _ _).mpr (.inr (g8_.2 ⟨tp_ hs,hj,hi⟩))
  ·rw[e1]; exact (Bool.or_eq_true _ _).mpr (.inl (List.all_eq_true.2 hi))
 | a::pre,post,i,j,h,ht=>by
  simp only[List.cons_append,ls_,Bool.and_eq_true] at h ⊢;obtain⟨⟨⟨h1,h2⟩,h3⟩,h4⟩:=h;refine⟨⟨⟨?_,h2⟩,?_⟩,sI_ h4 ht⟩
  ·cases he:hP_ ops a false (cL_ cx) with
   | false=>rfl
   | true=>
    rw[he] at h1;rcases (Bool.or_eq_true _ _).mp h1 with h1 | h1
    ·refine (Bool.or_eq_true _ _).mpr (.inl (List.all_eq_true.2 fun k hk=>List.all_eq_true.1 h1 k ?_));simp only[List.mem_append,List.mem_cons] at hk ⊢;grind
    ·obtain⟨hs,_,_⟩:=g8_.1 ht;obtain⟨e1,e2,e3,e4⟩:=hU_.1 hs;cases pre with
     | nil=>
      obtain⟨_,_,h5⟩:=g8_.1 h1;rw[h5 j (by simp)] at e4; cases e4
     | cons b pre=>
      obtain⟨h5,h6,h7⟩:=g8_.1 h1;have hm:∀ k,k∈pre++j::i::post→k∈pre++i::j::post:=fun k hk=>by
       simp only[List.mem_append,List.mem_cons] at hk ⊢;grind
      exact (Bool.or_eq_true _ _).mpr (.inr (g8_.2 ⟨h5,fun k hk=>h6 k (hm k hk),fun k hk=>h7 k (hm k hk)⟩))
  ·refine List.all_eq_true.2 fun k hk=>List.all_eq_true.1 h3 k ?_;simp only[List.mem_append,List.mem_cons] at hk ⊢;grind
theorem wM_ {pre post:List Nat} {i j k:Nat}:k∈pre++j::i::post↔k∈pre++i::j::post:=by
 simp only[List.mem_append,List.mem_cons];grind
theorem e7_.swap {cx:Cx} {ops:Array Oper} {m:Nat} {pre post al:List Nat} {i j:Nat} (F:e7_ cx ops m (pre++i::j::post) al) (ht:zK_ cx ops (ds_ ops) i (j::post)=true):e7_ cx ops m (pre++j::i::post) al:=
 ⟨fun k hk=>wM_.2 (F.all k hk),fun k hk=>F.lt k (wM_.1 hk),F.le,by
  have:=F.nodup;simp only[List.nodup_append,List.nodup_cons,List.mem_cons,not_or] at this ⊢;obtain⟨h1,⟨⟨h2,h3⟩,h4,h5⟩,h6⟩:=this;refine⟨h1,⟨⟨Ne.symm h2,h4⟩,h3,h5⟩,fun a ha b hb=>h6 a ha b ?_⟩;grind,sI_ F.eff ht,F.dst,F.op,F.edge,F.tail⟩
theorem pC_ {cx:Cx} {ops:Array Oper} {W:List Nat} {al σ seen:List Nat} {i:Nat} {fr:List FV} {H:Hp} {K:List FV→Hp→Prop} (h:∀ j∈σ,split cx ops W i j=false):goK cx ops W al (i::σ) seen fr H K=stp cx ops W al i seen fr H fun fr H=>goK cx ops W al σ (i::seen) fr H K:=by
 cases σ with
 | nil=>simp only[goK]
 | cons j σ=>simp only[goK,h j (by simp)]
theorem qn_ {cx:Cx} {ops:Array Oper} {W:List Nat} {i j:Nat} (h:has (W.getD j 0) i=true):split cx ops W i j=false:=by
 cases q:split cx ops W i j with
 | false=>rfl
 | true=>rw[(hU_.1 q).2.2.2] at h; cases h
theorem y3_ {cx:Cx} {ops:Array Oper} {W:List Nat} {al pre σ seen:List Nat} {i:Nat} {fr:List FV} {H:Hp} {K:List FV→Hp→Prop} (he:ls_ cx ops W (pre++i::σ)=true) (h:goK cx ops W al (i::σ) seen fr H K):stp cx ops W al i seen fr H fun fr H=>goK cx ops W al σ (i::seen) fr H K:=by
 cases hE:hP_ ops i false (cL_ cx) with
 | false=>
  rw[pC_ fun j _=> ?_] at h
  ·exact h
  ·unfold split; rw[hE]; rfl
 | true=>
  rcases (ih_ he).1 hE with q | q
  ·rw[pC_ fun j hj=>qn_ (q j hj)] at h;exact h
  ·cases σ with
   | nil=>cases q
   | cons j σ=>
    obtain⟨hs,h1,h2⟩:=g8_.1 q;simp only[goK,hs,Dc_] at h;have:(fun fr H=>goK cx ops W al (j::σ) (i::seen) fr H K)=fun fr H=>stp cx ops W al j (i::seen) fr H fun fr H=>goK cx ops W al σ (j::i::seen) fr H K:=by
     funext fr H;exact pC_ fun k hk=>qn_ (h2 k hk)
    rw[this];exact h.1
theorem BN_ {cx:Cx} {ops:Array Oper} {W:List Nat} {al σ seen:List Nat} {i j:Nat} {fr:List FV} {H:Hp} {K:List FV→Hp→Prop} (hs:split cx ops W i j=true) (h:goK cx ops W al (i::j::σ) seen fr H K):goK cx ops W al (j::i::σ) seen fr H K:=by
 simp only[goK,hs,tp_ hs,Dc_] at h ⊢;exact⟨h.2,h.1⟩
end Go.Am
namespace Go.Am
def jI_ (p:Nat→Bool) (fr:List FV):List FV:=fr.mapIdx fun t v=>match p t with | true=> .bad | false=>v
theorem ft_ (p:Nat→Bool) (fr:List FV):(jI_ p fr).length=fr.length:=by simp [jI_]
theorem fV_ (p:Nat→Bool) (fr:List FV) (t:Nat):(jI_ p fr)[t]? =match p t with | true=>(fr[t]?).map fun _=> .bad | false=>fr[t]? :=by
 unfold jI_;rw[List.getElem?_mapIdx];cases p t<;>simp
theorem pg_ {p:Nat→Bool} {fr:List FV} {t:Nat} (h:p t=false):(jI_ p fr).getD t .bad=fr.getD t .bad:=by
 rw[List.getD_eq_getElem?_getD,fV_,h,←List.getD_eq_getElem?_getD]
theorem Dk_ {fr fr':List FV} {x:Operand} (h:∀ t,x= .tmp t→fr'.getD t .bad=fr.getD t .bad):ev fr' x=ev fr x:=by
 cases x with
 | tmp t=>simp only[ev,oT_,h t rfl]
 | _=>rfl
theorem h6_ {fr:List FV} {d t:Nat} {v:FV} (h:t≠d):(fr.set d v).getD t .bad=fr.getD t .bad:=by
 rw[List.getD_eq_getElem?_getD,List.getElem?_set_ne (Ne.symm h),←List.getD_eq_getElem?_getD]
theorem yv_ {d:Nat}:∀ {fr fr':List FV},fr'.length=fr.length→(∀ (t:Nat) v,fr'[t]? =some v→v= .bad∨fr[t]? =some v)→if_ d fr=true→if_ d fr'=true
 | [],[],_,_,_=>rfl
 | [],_::_,h,_,_=>by simp at h
 | _::_,[],h,_,_=>by simp at h
 | x::xs,y::ys,hl,hp,h=>by
  have h1:x.isLp d=false∧if_ d xs=true:=by
   unfold if_ at h;split at h
   ·cases h
   ·rename_i e; exact⟨e,h⟩
  have h2:y.isLp d=false:=by
   rcases hp 0 y (by simp) with e | e
   ·subst e; rfl
   ·simp at e; subst e; exact h1.1
  unfold if_;rw[h2];exact yv_ (by simpa using hl) (fun t v ht=>by have:=hp (t+1) v (by simpa using ht); simpa using this) h1.2
theorem zR_ (p:Nat→Bool) (fr:List FV):∀ (t:Nat) v,(jI_ p fr)[t]? =some v→v= .bad∨fr[t]? =some v:=by
 intro t v h;rw[fV_] at h;cases hp:p t<;>rw[hp] at h
 ·exact .inr h
 ·left;cases hx:fr[t]? <;>rw[hx] at h<;>simp at h;exact h.symm
theorem lU_ {fr:List FV}:∀ {al:List Nat},j8_ fr al=true→∀ d∈al,if_ d fr=true
 | [],_,d,h=>by cases h
 | a::al,hn,d,h=>by
  unfold j8_ at hn;split at hn
  ·rename_i e;cases h with
   | head=>exact e
   | tail _ h=>exact lU_ hn d h
  ·cases hn
section
variable {P:Program} {cx:Cx}
theorem yr_ {o:Oper} (h1:m2_ cx o=false) (h2:cL_ cx o=false) (h3:fY_ o=false) (fr:List FV) (H:Hp) (K:FV→List FV→Hp→Prop):opK cx o fr H K=opE cx o (ev fr) (fun s=>fr.getD s .bad) H fun v H=>K v fr H:=by
 unfold opK;unfold m2_ at h1;unfold cL_ at h2;unfold fY_ at h3;cases ho:o.op<;>rw[ho] at h1 h2 h3<;>dsimp only at h1 h2 h3<;>first
  | rfl
  | (cases h3; done)
  | (rw[h2] at h1; cases h1; done)
def PV (cx:Cx) (o:Oper) (fr:List FV) (H:Hp) (v:FV):Prop:=
 (m2_ cx o=false∧∀ K:FV→Hp→Prop,K v H→opE cx o (ev fr) (fun s=>fr.getD s .bad) H K)∨
 (m2_ cx o=true∧∃ d,o.dst=some d∧d < fr.length∧∀ fr',fr'.length=fr.length→if_ d fr'=true→(∀ x∈o.op.operands,ev fr' x=ev fr x)→∀ H' K,K v fr' H'→opK cx o fr' H' K)
theorem Ca_ {o:Oper} {fr:List FV} {H:Hp} {K:FV→List FV→Hp→Prop} (he:cL_ cx o=false) (hs:fY_ o=false) (h:opK cx o fr H K):∃ v,K v fr H∧PV cx o fr H v:=by
 cases ha:m2_ cx o with
 | false=>
  rw[yr_ ha he hs] at h;obtain⟨v,h1,h2⟩:=rH_ he h;exact⟨v,h1,.inl ⟨ha,h2⟩⟩
 | true=>
  have mk:∀ {t:Nat} {cs:List GV},cx.isEsc o.dst=false→mkK cx o fr H t cs K→∃ d,o.dst=some d∧d < fr.length∧K (.bx cs) fr H∧∀ fr',fr'.length=fr.length→if_ d fr'=true→∀ H' (K':FV→List FV→Hp→Prop),K' (.bx cs) fr' H'→mkK cx o fr' H' t cs K':=by
   intro t cs hesc hm;unfold mkK at hm;rw[hesc] at hm;dsimp only at hm;cases hd:o.dst with
   | none=>rw[hd] at hm; exact hm.elim
   | some d=>
    rw[hd] at hm hesc;obtain⟨h1,hm⟩:=aj_.1 hm;obtain⟨h2,hm⟩:=aj_.1 hm;refine⟨d,rfl,by exact (show d+1≤fr.length by simpa [Nat.blt] using h2),hm,fun fr' hl hn H' K' hK=> ?_⟩;unfold mkK;rw[hd,hesc];exact aj_.2 ⟨hn,aj_.2 ⟨by rw[hl]; exact h2,hK⟩⟩
  unfold m2_ at ha;unfold cL_ at he;cases ho:o.op<;>rw[ho] at ha he<;>dsimp only at ha he<;>try (cases ha; done)
  case alloc t=>
   unfold opK at h;rw[ho] at h;obtain⟨b,h⟩:=aj_.1 h;obtain⟨d,hd,hl,hk,hall⟩:=mk he h;refine⟨_,hk,.inr ⟨by unfold m2_; rw[ho]; exact ha,d,hd,hl,fun fr' h1 h2 h3 H' K' hK=> ?_⟩⟩;unfold opK; rw[ho];exact aj_.2 ⟨b,hall fr' h1 h2 H' K' hK⟩
  case box t x=>
   unfold opK at h;rw[ho] at h;obtain⟨cs,h,hone⟩:=ii_ h;obtain⟨d,hd,hl,hk,hall⟩:=mk he h;refine⟨_,hk,.inr ⟨by unfold m2_; rw[ho]; exact ha,d,hd,hl,fun fr' h1 h2 h3 H' K' hK=> ?_⟩⟩;unfold opK; rw[ho];have hx:=h3 x (by rw[ho]; simp [Op.operands]);show gN_ (ev fr' x) fun cs=>mkK cx o fr' H' t cs K';rw[hx];exact hone _ (hall fr' h1 h2 H' K' hK)
theorem PV.box {o:Oper} {fr:List FV} {H:Hp} {v:FV} (h:PV cx o fr H v) {t:TypeId} {a:Operand} {s p:Nat} (ho:o.op= .load t a) (he:ev fr a= .lp s p):∃ cs,fr.getD s .bad= .bx cs:=by
 rcases h with⟨_,h⟩ | ⟨ha,_⟩
 ·have:=h (fun _ _=>True) trivial;unfold opE at this;rw[ho] at this;have h2:=(aj_.1 this).2;rw[he] at h2;have h3:(match fr.getD s .bad with | .bx cs=>sY_ cs p (cx.ty t).lv.length (cx.ty t).agg fun _=>True | _=>False):=h2;split at h3
  ·rename_i cs e; exact⟨cs,e⟩
  ·exact h3.elim
 ·unfold m2_ at ha; rw[ho] at ha; cases ha
theorem PV.move {o:Oper} {fr fr':List FV} {H:Hp} {v:FV} (h:PV cx o fr H v) (hl:fr'.length=fr.length) (hev:∀ x∈o.op.operands,ev fr' x=ev fr x)
 (hb:∀ t a s p cs,o.op= .load t a→ev fr a= .lp s p→fr.getD s .bad= .bx cs→fr'.getD s .bad= .bx cs):PV cx o fr' H v:=by
 have hbox:=fun {t a s p}=>h.box (t:=t) (a:=a) (s:=s) (p:=p);rcases h with⟨ha,h⟩ | ⟨ha,d,hd,hlt,h⟩
 ·refine .inl ⟨ha,fun K hK=> ?_⟩;rw[uT_ (E:=ev fr) (B:=fun s=>fr.getD s .bad) H K hev (fun t a s p ho he=>by
   obtain⟨cs,e⟩:=hbox ho he;show fr'.getD s .bad=fr.getD s .bad;rw[hb t a s p cs ho he e,e])]
  exact h K hK
 ·exact .inr ⟨ha,d,hd,by rw[hl]; exact hlt,fun fr2 h1 h2 h3=>h fr2 (by rw[h1,hl]) h2 (fun x hx=>by rw[h3 x hx,hev x hx])⟩
theorem PV.heap {o:Oper} {fr:List FV} {H H':Hp} {v:FV} (h:PV cx o fr H v) (he:cL_ cx o=false) (hr:nr_ o (ev fr)=false):PV cx o fr H' v:=by
 rcases h with⟨ha,h⟩ | h
 ·exact .inl ⟨ha,AL_ he hr h⟩
 ·exact .inr h
theorem PV.run {o:Oper} {fr:List FV} {H:Hp} {v:FV} (h:PV cx o fr H v) (he:cL_ cx o=false) (hs:fY_ o=false) (hn:m2_ cx o=true→∀ d,o.dst=some d→if_ d fr=true) (K:FV→List FV→Hp→Prop) (hK:K v fr H):opK cx o fr H K:=by
 rcases h with⟨ha,h⟩ | ⟨ha,d,hd,_,h⟩
 ·rw[yr_ ha he hs]; exact h _ hK
 ·exact h fr rfl (hn ha d hd) (fun _ _=>rfl) H K hK
theorem yE_ {o:Oper} (h:cL_ cx o=false):fY_ o=false:=by
 unfold cL_ at h;unfold fY_;cases ho:o.op<;>rw[ho] at h<;>first | rfl | cases h
def kQ_ (fr:List FV):Option (Nat × List GV)→List FV
 | none=>fr
 | some (s,cs)=>fr.set s (.bx cs)
theorem oa_ {l:Nat} {K K':Hp→Prop} (hk:∀ H,K H→K' H):∀ (ns:List GV) (H:Hp) (p:Nat),it_ l H p ns K→it_ l H p ns K'
 | [],H,p,h=>hk H h
 | c::cs,H,p,h=>by
  have h':wr H l p c fun H=>it_ l H (p+1) cs K:=h;show wr H l p c fun H=>it_ l H (p+1) cs K';unfold wr at h' ⊢;split at h'
  ·exact oa_ hk cs _ _ h'
  ·exact h'.elim
theorem D5_ {o:Oper} {fr fr':List FV} {H:Hp} {K:FV→List FV→Hp→Prop} (he:cL_ cx o=true) (hev:∀ x∈o.op.operands,ev fr' x=ev fr x) (hbx:∀ s,f6_ o (ev fr)=some s→(∃ cs,fr.getD s .bad= .bx cs)→fr'.getD s .bad=fr.getD s .bad) (h:opK cx o fr H K):
 opK cx o fr' H fun v f H'=>∃ u,f=kQ_ fr' u∧K v (kQ_ fr u) H'∧((u=none∧f6_ o (ev fr)=none)∨∃ s cs cs0,u=some (s,cs)∧f6_ o (ev fr)=some s∧fr.getD s .bad= .bx cs0∧H'=H):=by
 unfold opK at h ⊢;have gen:∀ (h:opE cx o (ev fr) (fun s=>fr.getD s .bad) H fun v H=>K v fr H),(∀ t a,o.op≠ .load t a)→f6_ o (ev fr)=none→opE cx o (ev fr') (fun s=>fr'.getD s .bad) H fun v H'=>
  ∃ u,fr'=kQ_ fr' u∧K v (kQ_ fr u) H'∧((u=none∧f6_ o (ev fr)=none)∨∃ s cs cs0,u=some (s,cs)∧f6_ o (ev fr)=some s∧fr.getD s .bad= .bx cs0∧H'=H):=by
  intro h hn hs;have e:(fun (v:FV) (H':Hp)=>∃ u,fr'=kQ_ fr' u∧K v (kQ_ fr u) H'∧((u=none∧f6_ o (ev fr)=none)∨∃ s cs cs0,u=some (s,cs)∧f6_ o (ev fr)=some s∧fr.getD s .bad= .bx cs0∧H'=H))=fun v H'=>K v fr H':=by
   funext v H';apply propext;constructor
   ·rintro⟨u,_,hk,⟨rfl,_⟩ | ⟨s,cs,cs0,_,h2,_⟩⟩
    ·exact hk
    ·rw[hs] at h2; cases h2
   ·exact fun q=>⟨none,rfl,q,.inl ⟨rfl,hs⟩⟩
  rw[e];rw[uT_ (E:=ev fr) (B:=fun s=>fr.getD s .bad) H _ hev (fun t a s p ho=>(hn t a ho).elim)];exact h
 unfold cL_ at he;cases ho:o.op<;>rw[ho] at h he<;>dsimp only at h he ⊢ <;>try (cases he; done)
 case alloc t=>
  obtain⟨b,h⟩:=aj_.1 h;refine aj_.2 ⟨b,?_⟩;unfold mkK at h ⊢;rw[he] at h ⊢;exact⟨none,rfl,h,.inl ⟨rfl,by simp [f6_,ho]⟩⟩
 case box t x=>
  obtain⟨cs,h,hone⟩:=ii_ h;rw[hev x (by rw[ho]; simp [Op.operands])];refine hone _ ?_;unfold mkK at h ⊢;rw[he] at h ⊢;exact⟨none,rfl,h,.inl ⟨rfl,by simp [f6_,ho]⟩⟩
 case store t a x=>
  obtain⟨ns,h,hone⟩:=ii_ h;rw[hev x (by rw[ho]; simp [Op.operands])];refine hone _ ?_;obtain⟨b1,h⟩:=aj_.1 h;obtain⟨b2,h⟩:=aj_.1 h;refine aj_.2 ⟨b1,aj_.2 ⟨b2,?_⟩⟩;rw[hev a (by rw[ho]; simp [Op.operands])];unfold vC_ at h ⊢;split at h
  ·rename_i s p e1;have hst:f6_ o (ev fr)=some s:=by simp [f6_,ho,e1]
   split at h
   ·rename_i cs0 e2;obtain⟨cs',h,one⟩:=iW_ h;rw[gl_] at h;have hb:=hbx s hst ⟨cs0,e2⟩;rw[hb,e2];refine one _ ?_;rw[gl_];exact⟨some (s,cs'),rfl,h,.inr ⟨s,cs',cs0,rfl,hst,e2,rfl⟩⟩
   ·exact h.elim
  ·rename_i l p e1;exact oa_ (fun H' q=>⟨none,rfl,q,.inl ⟨rfl,by simp [f6_,ho,e1]⟩⟩) _ _ _ h
  ·exact h.elim
 all_goals exact gen h (fun t a q=>by rw[ho] at q; cases q) (by simp [f6_,ho])
theorem y7_ {ops:Array Oper} {fr:List FV} {g:Option (Nat × Bool)} {yes no:List FV→Prop} (h:ms_ ops fr g yes no):(gw_ ops fr g=some true∧yes fr)∨(gw_ ops fr g=some false∧no fr):=by
 unfold ms_ at h;unfold gw_;cases g with
 | none=>exact .inl ⟨rfl,h⟩
 | some jw=>
  obtain⟨j,want⟩:=jw;dsimp only at h ⊢;split at h
  ·rename_i d hd;split at h
   ·rename_i b hb;have hs:=gS_ hb (by simp);cases b with
    | true=>
     rw[n3_,if_pos rfl,gl_,lr_ hs] at h;cases want with
     | true=>exact .inl ⟨by simp [hb],h⟩
     | false=>exact .inr ⟨by simp [hb],h⟩
    | false=>
     rw[n3_,if_neg (by simp),gl_,lr_ hs] at h;cases want with
     | true=>exact .inr ⟨by simp [hb],h⟩
     | false=>exact .inl ⟨by simp [hb],h⟩
   ·rename_i hb;exact .inr ⟨by simp [hb],h⟩
   ·exact h.elim
  ·exact h.elim
theorem nK_ {φ0 φ:List LI} {H0 H:Hp} {w0 w:World} {lam:Nat→Nat} {fr:List FV} {tmps:Array Value} (I:Inv φ0 H0 w0 φ H lam fr tmps w) {ops:Array Oper} {o:Oper} {b:Bool} (h:gw_ ops fr o.guard=some b):Region.wanted o (yielded ops tmps)=b:=by
 unfold gw_ at h;unfold Region.wanted;cases hg:o.guard with
 | none=>rw[hg] at h; simp at h; simp [h]
 | some jw=>
  obtain⟨j,want⟩:=jw;rw[hg] at h;dsimp only at h ⊢;split at h
  ·rename_i d hd;split at h
   ·rename_i b' hb;have hs:=gS_ hb (by simp);have hv:tmps.getD d undef= .bool b':=I.slot d _ hs;have hlt:=fA_ hs;have hy:yielded ops tmps j=some b':=by
     unfold yielded;rw[hd];have:tmps[d]? =some (.bool b'):=by
      rw[Array.getElem?_eq_getElem (by rw[←I.size]; exact hlt)];simpa [Array.getD,show d < tmps.size by rw[←I.size]; exact hlt] using hv
     simp [this]
    rw[hy];simp only[Option.some.injEq] at h;rw[←h];cases b'<;>cases want<;>rfl
   ·rename_i hb;have hs:=gS_ hb (by simp);have hv:tmps.getD d undef=undef:=I.slot d _ hs;simp only[Option.some.injEq] at h;rw[←h,qH_ hd (by rw[←I.size]; exact fA_ hs) hv];rfl
   ·cases h
  ·cases h
theorem oG_ {ops:Array Oper} {fr fr':List FV} {o:Oper} (h:∀ t∈o.looksAt ops,fr'.getD t .bad=fr.getD t .bad):gw_ ops fr' o.guard=gw_ ops fr o.guard:=by
 unfold gw_;cases hg:o.guard with
 | none=>rfl
 | some jw=>
  obtain⟨j,want⟩:=jw;dsimp only;cases hd:(ops[j]?).bind (·.dst) with
  | none=>rfl
  | some d=>
   dsimp only;rw[h d (by simp [Oper.looksAt,hg,hd])]
theorem sG_ {ops:Array Oper} {o:Oper} {t:Nat} (h:Operand.tmp t∈o.op.operands):t∈o.looksAt ops:=
 List.mem_append_left _ (List.mem_filterMap.2 ⟨.tmp t,by simpa using h,rfl⟩)
theorem kz_ {ops:Array Oper} {fr fr':List FV} {o:Oper} (h:∀ t∈o.looksAt ops,fr'.getD t .bad=fr.getD t .bad):∀ x∈o.op.operands,ev fr' x=ev fr x:=by
 intro x hx;exact Dk_ fun t e=>h t (sG_ (by rw[←e]; exact hx))
theorem nF_ {al:List Nat} {dst:Option Nat} {v:FV} {fr:List FV} {K:List FV→Prop} (h:x3_ al dst v fr K):K (eS_ fr dst v)∧
 ∀ d,dst=some d→(∀ cs,fr.getD d .bad≠ .bx cs)∧(∀ cs,v= .bx cs→d∈al)∧j8_ (eS_ fr dst v) al=true:=by
 cases dst with
 | none=>exact⟨h,fun d e=>by cases e⟩
 | some d=>
  obtain⟨h1,h⟩:=aj_.1 h;obtain⟨h2,h⟩:=aj_.1 h;rw[xL_,gl_] at h;obtain⟨h3,h⟩:=aj_.1 h;refine⟨h,fun d' e=> ?_⟩;cases e;exact⟨fun cs e=>(by rw[e] at h1; cases h1),fun cs e=>(by subst e; exact mem_iff.1 h2),h3⟩
end
end Go.Am
namespace Go.Am
def hM_ (ops:Array Oper) (L:Array Bool) (seen:List Nat) (t:Nat):Bool:=seen.any fun i=> !(L.getD i false)&&mem t (iB_ ops i)
theorem dX_ {ops:Array Oper} {L:Array Bool} {seen:List Nat} {t:Nat}:hM_ ops L seen t=true↔∃ i∈seen,L.getD i false=false∧t∈iB_ ops i:=by
 simp [hM_,mem_iff]
theorem eA_ {ops:Array Oper} {i d:Nat} {o:Oper} (ho:ops[i]? =some o):d∈iB_ ops i↔o.dst=some d:=by
 unfold iB_; rw[ho]; dsimp only;cases o.dst with
 | none=>simp
 | some d'=>simp [eq_comm]
def vt_ (cx:Cx) (ops:Array Oper) (fr:List FV) (H:Hp) (i:Nat):Prop:=
 ∃ o,ops[i]? =some o∧cL_ cx o=false∧((gw_ ops fr o.guard=some true∧∃ v,(∀ d,o.dst=some d→d < fr.length→fr.getD d .bad=v)∧PV cx o fr H v)∨(gw_ ops fr o.guard=some false∧∀ d,o.dst=some d→d < fr.length→fr.getD d .bad= .und))
structure Sim (P:Program) (cx:Cx) (ops:Array Oper) (m:Nat) (σ0 al:List Nat) (φ0:List LI) (H0:Hp) (w0:World) (K:List FV→Hp→Prop) (L:Array Bool) (seen σ:List Nat) (fr:List FV) (H:Hp) (tmps:Array Value) (w:World):Prop where
 ord:σ0=seen.reverse++σ
 rest:∀ i∈σ,L.getD i false=false
 go:goK cx ops (ds_ ops) al σ seen fr H K
 inv:∃ φ lam,Inv φ0 H0 w0 φ H lam (jI_ (hM_ ops L seen) fr) tmps w
 told:∀ i∈seen,L.getD i false=false→vt_ cx ops fr H i
 lps:j8_ fr al=true
 box:∀ i∈seen,∀ d,d∈iB_ ops i→∀ cs,fr.getD d .bad= .bx cs→d∈al
section
variable {P:Program} {cx:Cx} {ops:Array Oper} {m:Nat} {σ0 al:List Nat} {φ0:List LI} {H0:Hp} {w0:World} {K:List FV→Hp→Prop}
theorem fi_ (fr:List FV) (dst:Option Nat) (v:FV):(eS_ fr dst v).length=fr.length:=by cases dst<;>simp [eS_]
theorem f7_ {fr:List FV} {dst:Option Nat} {v:FV} {t:Nat} (h:∀ d,dst=some d→t≠d):(eS_ fr dst v).getD t .bad=fr.getD t .bad:=by
 cases dst with
 | none=>rfl
 | some d=>exact h6_ (h d rfl)
theorem vt_.set {fr:List FV} {H:Hp} {j:Nat} (F:e7_ cx ops m σ0 al) {i:Nat} (hi:i < m) {oi:Oper} (hoi:ops[i]? =some oi) (hj:j < m) (hne:j≠i) (hw:has ((ds_ ops).getD j 0) i=false) (hx:hP_ ops i false (cL_ cx)=true→has ((ds_ ops).getD i 0) j=false) (h:vt_ cx ops fr H j) {v:FV}
 (hb:∀ d,oi.dst=some d→∀ cs,fr.getD d .bad≠ .bx cs):vt_ cx ops (eS_ fr oi.dst v) H j:=by
 obtain⟨o,ho,he,h⟩:=h;obtain⟨o',ho',hl,_⟩:=F.op j hj;rw[ho] at ho'; cases ho';have hlook:∀ t∈o.looksAt ops,(eS_ fr oi.dst v).getD t .bad=fr.getD t .bad:=fun t ht=>f7_ fun d hd e=>by
  subst e;rcases (hl t ht).2 i hi ((eA_ hoi).2 hd) with this | ⟨q1,q2⟩
  ·rw[hw] at this; cases this
  ·rw[hx q1] at q2; cases q2
 have hdst:∀ d,o.dst=some d→(eS_ fr oi.dst v).getD d .bad=fr.getD d .bad:=fun d hd=>f7_ fun d' hd' e=>by
  subst e;exact hne (F.dst j i hj hi d ((eA_ ho).2 hd) ((eA_ hoi).2 hd'))
 refine⟨o,ho,he,?_⟩;rw[oG_ hlook];rcases h with⟨h1,u,h2,h3⟩ | ⟨h1,h2⟩
 ·refine .inl ⟨h1,u,fun d hd hlt=>by rw[hdst d hd]; exact h2 d hd (by rw[fi_] at hlt; exact hlt),h3.move (fi_ _ _ _) (kz_ hlook) (fun t a s p cs _ _ hs=> ?_)⟩;rw[f7_ fun d hd e=>by subst e; exact hb s hd cs hs];exact hs
 ·exact .inr ⟨h1,fun d hd hlt=>by rw[hdst d hd]; exact h2 d hd (by rw[fi_] at hlt; exact hlt)⟩
theorem Sim.advance (F:e7_ cx ops m σ0 al) {L:Array Bool}:∀ {σ seen:List Nat} {fr:List FV} {H:Hp} {tmps:Array Value} {w:World},Sim P cx ops m σ0 al φ0 H0 w0 K L seen σ fr H tmps w→
 ∃ seen' σ' fr',Sim P cx ops m σ0 al φ0 H0 w0 K L seen' σ' fr' H tmps w∧(σ'=[]∨∃ e rest,σ'=e::rest∧hP_ ops e false (cL_ cx)=true)
 | [],seen,fr,H,tmps,w,S=>⟨seen,[],fr,S,.inl rfl⟩
 | i::σ,seen,fr,H,tmps,w,S=>by
  cases hE:hP_ ops i false (cL_ cx) with
  | true=>exact⟨seen,i::σ,fr,S,.inr ⟨i,σ,rfl,hE⟩⟩
  | false=>
   have hi0:i∈σ0:=by rw[S.ord]; simp
   have hi:=F.lt i hi0;obtain⟨o,ho,hl,hst,hg,hal⟩:=F.op i hi;have he:cL_ cx o=false:=by unfold hP_ at hE; rw[ho] at hE; exact hE
   obtain⟨_,hself,hbefore⟩:=ih_ (pre:=seen.reverse) (post:=σ) (i:=i) (by rw[←S.ord]; exact F.eff);have hseen:∀ j∈seen,j < m∧j≠i∧has ((ds_ ops).getD j 0) i=false:=fun j hj=>by
    have hj0:j∈σ0:=by rw[S.ord]; simp [hj]
    refine⟨F.lt j hj0,fun e=> ?_,hbefore j (by simpa using hj)⟩;subst e;have:=F.nodup;rw[S.ord,List.nodup_append] at this;exact this.2.2 j (by simpa using hj) j (by simp) rfl
   have hLi:=S.rest i (by simp);have fin:∀ v,goK cx ops (ds_ ops) al σ (i::seen) (eS_ fr o.dst v) H K→(∀ d,o.dst=some d→(∀ cs,fr.getD d .bad≠ .bx cs)∧(∀ cs,v= .bx cs→d∈al)∧j8_ (eS_ fr o.dst v) al=true)→
    vt_ cx ops (eS_ fr o.dst v) H i→Sim P cx ops m σ0 al φ0 H0 w0 K L (i::seen) σ (eS_ fr o.dst v) H tmps w:=by
    intro v hgo hput hp;refine⟨by rw[S.ord]; simp,fun j hj=>S.rest j (by simp [hj]),hgo,?_,?_,?_,?_⟩
    ·obtain⟨φ,lam,I⟩:=S.inv;refine⟨φ,lam,I.weaken (by simp [ft_,fi_]) (fun t u ht=> ?_)⟩;rw[fV_] at ht;cases hp':hM_ ops L (i::seen) t with
     | true=>
      rw[hp'] at ht;left;cases hx:(eS_ fr o.dst v)[t]? <;>rw[hx] at ht<;>simp at ht;exact ht.symm
     | false=>
      rw[hp'] at ht;right;have hp2:hM_ ops L seen t=false:=by
       cases q:hM_ ops L seen t with
       | false=>rfl
       | true=>
        obtain⟨j,hj,h1,h2⟩:=dX_.1 q;rw[dX_.2 ⟨j,by simp [hj],h1,h2⟩] at hp'; cases hp'
      rw[fV_,hp2];have htd:∀ d,o.dst=some d→t≠d:=fun d hd e=>by
       subst e;rw[dX_.2 ⟨i,by simp,hLi,(eA_ ho).2 hd⟩] at hp'; cases hp'
      cases hd:o.dst with
      | none=>rw[hd] at ht; exact ht
      | some d=>rw[hd] at ht; simp only[eS_] at ht; rw[List.getElem?_set_ne (Ne.symm (htd d hd))] at ht; exact ht
    ·intro j hj hLj;rcases List.mem_cons.1 hj with e | hj
     ·subst e; exact hp
     ·obtain⟨h1,h2,h3⟩:=hseen j hj;exact vt_.set F hi ho h1 h2 h3 (fun q=>by rw[hE] at q; cases q) (S.told j hj hLj) (fun d hd=>(hput d hd).1)
    ·cases hd:o.dst with
     | none=>exact S.lps
     | some d=>rw[←hd]; exact (hput d hd).2.2
    ·intro j hj d hdj cs hcs;rcases List.mem_cons.1 hj with e | hj
     ·subst e;have hd:=(eA_ ho).1 hdj;rw[hd] at hcs;simp only[eS_] at hcs;by_cases q:d < fr.length
      ·rw[List.getD_eq_getElem?_getD,List.getElem?_set_self q] at hcs;exact (hput d hd).2.1 cs (by simpa using hcs)
      ·rw[List.getD_eq_getElem?_getD,List.getElem?_eq_none (by simp; omega)] at hcs;cases hcs
     ·obtain⟨h1,h2,h3⟩:=hseen j hj;refine S.box j hj d hdj cs ?_;rw[f7_ (fun d' hd' e=>by
       subst e;exact h2 (F.dst j i h1 hi d hdj ((eA_ ho).2 hd')))] at hcs
      exact hcs
   have hlook:∀ (v:FV),∀ t∈o.looksAt ops,(eS_ fr o.dst v).getD t .bad=fr.getD t .bad:=fun v t ht=>f7_ fun d hd e=>by
    subst e;rcases (hl t ht).2 i hi ((eA_ ho).2 hd) with this | ⟨_,this⟩
    ·rw[hself] at this; cases this
    ·rw[hself] at this; cases this
   have hgo:=S.go;have hgo':ms_ ops fr o.guard
    (fun fr=>opK cx o fr H fun v fr H'=>x3_ al o.dst v fr fun fr=>reK cx ops (ds_ ops) i H' fr (match cL_ cx o with | true=>seen | false=>[]) (goK cx ops (ds_ ops) al σ (i::seen) fr H' K))
    (fun fr=>x3_ al o.dst .und fr fun fr=>goK cx ops (ds_ ops) al σ (i::seen) fr H K):=by
    have:=y3_ (pre:=seen.reverse) (by rw[←S.ord]; exact F.eff) hgo
    simp only[stp,ho] at this
    exact this
   rcases y7_ hgo' with⟨hw,h⟩ | ⟨hw,h⟩
   ·obtain⟨v,h1,hpv⟩:=Ca_ he (yE_ he) h;rw[he] at h1;obtain⟨h2,h3⟩:=nF_ h1;refine Sim.advance F (fin v h2 h3 ⟨o,ho,he,.inl ⟨by rw[oG_ (hlook v)]; exact hw,v,fun d hd hlt=> ?_,hpv.move (fi_ _ _ _) (kz_ (hlook v)) (fun t a s p cs _ _ hs=> ?_)⟩⟩)
    ·rw[hd] at hlt ⊢;simp only[eS_] at hlt ⊢;rw[List.getD_eq_getElem?_getD,List.getElem?_set_self (by simpa using hlt)]; rfl
    ·rw[f7_ fun d hd e=>by subst e; exact (h3 s hd).1 cs hs];exact hs
   ·obtain⟨h2,h3⟩:=nF_ h;refine Sim.advance F (fin .und h2 h3 ⟨o,ho,he,.inr ⟨by rw[oG_ (hlook .und)]; exact hw,fun d hd hlt=> ?_⟩⟩);rw[hd] at hlt ⊢;simp only[eS_] at hlt ⊢;rw[List.getD_eq_getElem?_getD,List.getElem?_set_self (by simpa using hlt)]; rfl
end
end Go.Am
namespace Go.Am
section
variable {P:Program} {cx:Cx} {ops:Array Oper} {m:Nat} {σ0 al:List Nat} {φ0:List LI} {H0:Hp} {w0:World} {K:List FV→Hp→Prop}
theorem yz_ {L:Array Bool} {i:Nat} (h:L.getD i true=false):i < L.size∧L.getD i false=false:=by
 rcases Nat.lt_or_ge i L.size with q | q
 ·simp [q] at h ⊢; exact h
 ·simp [Array.getElem?_eq_none q] at h
theorem rE_ {L:Array Bool} {i j:Nat} (h:(L.setIfInBounds i true).getD j false=false):L.getD j false=false:=by
 cases hx:L.getD j false with
 | false=>rfl
 | true=>rw[getD_set_true hx] at h; cases h
theorem wT_ {L:Array Bool} {i:Nat} (h:i < L.size):(L.setIfInBounds i true).getD i false=true:=by simp [h]
theorem pn_ {L:Array Bool} {i j:Nat} (hi:i < L.size) (h:(L.setIfInBounds i true).getD j false=false):j≠i:=by
 intro e; subst e; rw[wT_ hi] at h; cases h
theorem o5_ {L:Array Bool} {i:Nat} (h:i∈Region.ready .any ops L):i < L.size∧L.getD i false=false∧∃ o,ops[i]? =some o∧∀ e∈o.after,Region.binds .any e=true→Lis L e.on:=by
 obtain⟨h1,o,h2,h3⟩:=mem_ready.1 h;exact⟨(yz_ h1).1,(yz_ h1).2,o,h2,h3⟩
theorem sZ_ {L:Array Bool} {i:Nat} {o:Oper} (hc:kS_ ops L) (ho:ops[i]? =some o) (hr:∀ e∈o.after,Region.binds .any e=true→Lis L e.on):kS_ ops (L.setIfInBounds i true):=by
 intro j oj hoj hl e he hb;by_cases q:j=i
 ·subst q;rw[ho] at hoj; cases hoj;exact getD_set_true (hr e he hb)
 ·have hl':Lis L j:=by
   unfold Lis at hl ⊢;rwa [getD_set_ne false (Ne.symm q)] at hl
  exact getD_set_true (hc j oj hoj hl' e he hb)
theorem sK_ (F:e7_ cx ops m σ0 al) {L:Array Bool} (hs:L.size=ops.size) (h:Region.ready .any ops L=[]):∀ i,i < ops.size→Lis L i:=by
 intro i;induction i using Nat.strongRecOn with
 | _ i ih=>
  intro hi;cases hx:L.getD i false with
  | true=>exact hx
  | false=>
   exfalso;have:i∈Region.ready .any ops L:=by
    rw[mem_ready];refine⟨by simp [hs,hi] at hx ⊢; exact hx,ops[i],by simp [hi],fun e he hb=> ?_⟩;have:=F.edge i ops[i] (by simp [hi]) e he hb;exact ih e.on this (by omega)
   rw[h] at this; cases this
theorem eB_ {L:Array Bool} (hc:kS_ ops L) {i:Nat} {o:Oper} (ho:ops[i]? =some o) (hr:∀ e∈o.after,Region.binds .any e=true→Lis L e.on):∀ b,has ((ds_ ops).getD i 0) b=true→Lis L b:=
 uY_ hc i fun o' ho'=>by rw[ho] at ho'; cases ho'; exact hr
theorem yk_ {W:List Nat} {i:Nat} {H:Hp} {fr:List FV}:∀ {js:List Nat} {X:Prop},reK cx ops W i H fr js X→X∧∀ j∈js,∀ o,ops[j]? =some o→cL_ cx o=false→has (W.getD i 0) j=false→qr_ ops[i]? o (ev fr)=true→gw_ ops fr o.guard=some true→
 ∃ v,Bp_ fr o.dst=v∧∀ K:FV→Hp→Prop,K v H→opE cx o (ev fr) (fun s=>fr.getD s .bad) H K
 | [],X,h=>⟨h,fun j hj=>by cases hj⟩
 | j::js,X,h=>by
  unfold reK at h;have rest:∀ {X':Prop},reK cx ops W i H fr js X'→(∀ o,ops[j]? =some o→cL_ cx o=false→has (W.getD i 0) j=false→qr_ ops[i]? o (ev fr)=true→gw_ ops fr o.guard=some true→
   ∃ v,Bp_ fr o.dst=v∧∀ K:FV→Hp→Prop,K v H→opE cx o (ev fr) (fun s=>fr.getD s .bad) H K)→X'∧∀ j'∈j::js,∀ o,ops[j']? =some o→cL_ cx o=false→has (W.getD i 0) j'=false→qr_ ops[i]? o (ev fr)=true→gw_ ops fr o.guard=some true→
   ∃ v,Bp_ fr o.dst=v∧∀ K:FV→Hp→Prop,K v H→opE cx o (ev fr) (fun s=>fr.getD s .bad) H K:=by
   intro X' h hj;obtain⟨h1,h2⟩:=yk_ h;refine⟨h1,fun j' hj'=> ?_⟩;rcases List.mem_cons.1 hj' with e | e
   ·subst e; exact hj
   ·exact h2 j' e
  split at h
  ·rename_i o ho;split at h
   ·rename_i hc;refine rest h fun o' ho' h1 h2 h3 _=> ?_;rw[ho] at ho'; cases ho';rw[h1,h2,h3] at hc; cases hc
   ·rename_i hc;split at h
    ·rename_i hw;have he:cL_ cx o=false:=by
      cases q:cL_ cx o with
      | false=>rfl
      | true=>rw[q] at hc; cases hc
     obtain⟨v,h1,h2⟩:=rH_ he h;rw[xL_] at h1;obtain⟨e,h1⟩:=h1;refine rest h1 fun o' ho' _ _ _ _=> ?_;rw[ho] at ho'; cases ho';exact⟨v,e,h2⟩
    ·rename_i hw;refine rest h fun o' ho' _ _ _ h4=> ?_;rw[ho] at ho'; cases ho';exact (hw h4).elim
  ·rename_i ho;refine rest h fun o' ho'=> ?_;rw[ho] at ho'; cases ho'
theorem Inv.masked {φ:List LI} {H:Hp} {lam:Nat→Nat} {tmps:Array Value} {w:World} {fr fr2:List FV} {p p':Nat→Bool} {dst:Option Nat} {v:FV} (I:Inv φ0 H0 w0 φ H lam (eS_ (jI_ p fr) dst v) tmps w) (hl:fr2.length=fr.length)
 (hd:∀ d,dst=some d→d < fr.length→p' d=false→fr2.getD d .bad=v) (ho:∀ t,dst≠some t→p' t=false→p t=false∧fr2[t]? =fr[t]?):Inv φ0 H0 w0 φ H lam (jI_ p' fr2) tmps w:=by
 refine I.weaken (by simp [ft_,fi_,hl]) fun t u hu=> ?_;rw[fV_] at hu;cases hp:p' t with
 | true=>
  rw[hp] at hu; left;cases hx:fr2[t]? <;>rw[hx] at hu<;>simp at hu;exact hu.symm
 | false=>
  rw[hp] at hu;dsimp only at hu;right;by_cases q:dst=some t
  ·rw[q];have hlt:t < fr.length:=by rw[←hl]; exact fA_ hu
   have:=hd t q hlt hp;rw[List.getD_eq_getElem?_getD,hu] at this;simp only[eS_];rw[List.getElem?_set_self (by simpa [ft_] using hlt),←this]; rfl
  ·obtain⟨h1,h2⟩:=ho t q hp;have:(eS_ (jI_ p fr) dst v)[t]? =(jI_ p fr)[t]? :=by
    cases hd':dst with
    | none=>rfl
    | some d=>simp only[eS_]; rw[List.getElem?_set_ne (fun e=>q (by rw[hd',e]))]
   rw[this,fV_,h1,←h2]; exact hu
theorem Sim.looks (F:e7_ cx ops m σ0 al) {L:Array Bool} {seen σ:List Nat} {fr:List FV} {H:Hp} {tmps:Array Value} {w:World} (S:Sim P cx ops m σ0 al φ0 H0 w0 K L seen σ fr H tmps w) (hc:kS_ ops L) {i:Nat} (hi:i < m) {o:Oper} (ho:ops[i]? =some o)
 (hr:∀ e∈o.after,Region.binds .any e=true→Lis L e.on):∀ t∈o.looksAt ops,(jI_ (hM_ ops L seen) fr).getD t .bad=fr.getD t .bad:=by
 intro t ht;refine pg_ ?_;cases q:hM_ ops L seen t with
 | false=>rfl
 | true=>
  obtain⟨j,hj,h1,h2⟩:=dX_.1 q;obtain⟨o',ho',hl,_⟩:=F.op i hi;rw[ho] at ho'; cases ho';have hjm:j < m:=F.lt j (by rw[S.ord]; simp [hj]);rcases (hl t ht).2 j hjm h2 with q1 | ⟨q1,_⟩
  ·have:=eB_ hc ho hr j q1;unfold Lis at this;rw[h1] at this; cases this
  ·obtain⟨oj,hoj,hej,_⟩:=S.told j hj h1;unfold hP_ at q1;rw[hoj] at q1;dsimp only at q1;rw[hej] at q1; cases q1
theorem Cr_ {fr:List FV} {a:Operand} {s p:Nat} (h:ev fr a= .lp s p):∃ t,a= .tmp t∧((t=s∧∃ cs,fr.getD t .bad= .bx cs)∨fr[t]? =some (.lp s p)):=by
 cases a with
 | tmp t=>
  refine⟨t,rfl,?_⟩;have h:oT_ fr t= .lp s p:=h;unfold oT_ at h;split at h
  ·rename_i cs e; cases h; exact .inl ⟨rfl,cs,e⟩
  ·exact .inr (gS_ h (by simp))
 | const v=>
  exfalso;have h:ofValue v= .lp s p:=h;unfold ofValue at h;split at h<;>cases h
 | global g=>cases h
 | func f=>cases h
theorem Sim.pv (F:e7_ cx ops m σ0 al) {L:Array Bool} {seen σ:List Nat} {fr:List FV} {H:Hp} {tmps:Array Value} {w:World} (S:Sim P cx ops m σ0 al φ0 H0 w0 K L seen σ fr H tmps w) (hc:kS_ ops L) {i:Nat} (hi:i < m) {o:Oper} (ho:ops[i]? =some o)
 (hr:∀ e∈o.after,Region.binds .any e=true→Lis L e.on) {v:FV} (h:PV cx o fr H v):PV cx o (jI_ (hM_ ops L seen) fr) H v:=by
 have hlook:=S.looks F hc hi ho hr;refine h.move (ft_ _ _) (kz_ hlook) fun t a s p cs hload he hs=> ?_;obtain⟨o',ho',hl,_⟩:=F.op i hi;rw[ho] at ho'; cases ho';rw[pg_]
 ·exact hs
 ·cases q:hM_ ops L seen s with
  | false=>rfl
  | true=>
   obtain⟨j,hj,h1,h2⟩:=dX_.1 q;have hal:=S.box j hj s h2 cs hs;obtain⟨t',rfl,hcase⟩:=Cr_ he;rcases hcase with⟨rfl,_⟩ | hlp
   ·exact ((hl t' (sG_ (by rw[hload]; simp [Op.operands]))).1 (by simp [fY_,hload]) hal).elim
   ·exact (nM_ (lU_ S.lps s hal) t' p hlp).elim
theorem Bg_ {p:Nat→Bool} {fr:List FV} {t:Nat} (h:p t=true):(jI_ p fr).getD t .bad= .bad:=by
 rw[List.getD_eq_getElem?_getD,fV_,h];cases fr[t]? <;>rfl
theorem Sim.stores {L:Array Bool} {seen σ:List Nat} {fr:List FV} {H:Hp} {tmps:Array Value} {w:World} {K:List FV→Hp→Prop} (S:Sim P cx ops m σ0 al φ0 H0 w0 K L seen σ fr H tmps w) {o:Oper}
 (hlook:∀ t∈o.looksAt ops,(jI_ (hM_ ops L seen) fr).getD t .bad=fr.getD t .bad) {s:Nat} (hs:f6_ o (ev fr)=some s) (hb:∃ cs,fr.getD s .bad= .bx cs):hM_ ops L seen s=false:=by
 cases q:hM_ ops L seen s with
 | false=>rfl
 | true=>
  exfalso;obtain⟨cs,hb⟩:=hb;unfold f6_ at hs;split at hs
  ·rename_i t a x ho;split at hs
   ·rename_i s' p e;cases hs;obtain⟨t',rfl,hcase⟩:=Cr_ e;rcases hcase with⟨rfl,_⟩ | hlp
    ·have:=hlook t' (sG_ (by rw[ho]; simp [Op.operands]));rw[Bg_ q,hb] at this; cases this
    ·obtain⟨j,hj,h1,h2⟩:=dX_.1 q;exact nM_ (lU_ S.lps s (S.box j hj s h2 cs hb)) t' p hlp
   ·cases hs
  ·cases hs
theorem vl_ {fr:List FV} {s:Nat} {cs:List GV} (h:fr.getD s .bad= .bx cs):s < fr.length:=by
 rcases Nat.lt_or_ge s fr.length with q | q
 ·exact q
 ·rw[List.getD_eq_getElem?_getD,List.getElem?_eq_none q] at h; cases h
theorem wA_ {fr:List FV} {s:Nat} {cs cs':List GV} (h:fr.getD s .bad= .bx cs):(fr.set s (.bx cs')).getD s .bad= .bx cs':=by
 rw[List.getD_eq_getElem?_getD,List.getElem?_set_self (vl_ h)]; rfl
theorem At_ {fr:List FV} {s:Nat} {cs cs':List GV} (h:fr.getD s .bad= .bx cs) (x:Operand):ev (fr.set s (.bx cs')) x=ev fr x:=by
 cases x with
 | tmp t=>
  simp only[ev,oT_];by_cases e:t=s
  ·subst e; rw[wA_ h,h]
  ·rw[h6_ e]
 | _=>rfl
theorem uF_ {fr:List FV} {s:Nat} {cs cs':List GV} (h:fr.getD s .bad= .bx cs) (g:Option (Nat × Bool)):gw_ ops (fr.set s (.bx cs')) g=gw_ ops fr g:=by
 unfold gw_;cases g with
 | none=>rfl
 | some jw=>
  obtain⟨j,want⟩:=jw;dsimp only;cases hd:(ops[j]?).bind (·.dst) with
  | none=>rfl
  | some d=>
   dsimp only;by_cases e:d=s
   ·subst e; rw[wA_ h,h]
   ·rw[h6_ e]
theorem w1_ {d s:Nat} {cs:List GV}:∀ {fr:List FV} {s:Nat},if_ d fr=true→if_ d (fr.set s (.bx cs))=true
 | [],_,_=>rfl
 | x::xs,0,h=>by
  unfold if_ at h;split at h
  ·cases h
  ·show if_ d (.bx cs::xs)=true;unfold if_;exact h
 | x::xs,s+1,h=>by
  have h':=h;unfold if_ at h';split at h'
  ·cases h'
  ·rename_i e;show if_ d (x::xs.set s (.bx cs))=true;unfold if_;rw[e];exact w1_ (s:=s) h'
theorem uD_ {fr:List FV} {s:Nat} {cs:List GV}:∀ {al:List Nat},j8_ fr al=true→j8_ (fr.set s (.bx cs)) al=true
 | [],_=>rfl
 | a::al,h=>by
  unfold j8_ at h ⊢;split at h
  ·rename_i e;rw[w1_ (s:=s) e];exact uD_ h
  ·cases h
theorem y1_ (hC:sW_ P cx) (F:e7_ cx ops m σ0 al) {Q:Exit→Act→World→Prop} {K:List FV→Hp→Prop} (hQ:∀ fr' H' φ' lam' tmps' w',K fr' H'→Inv φ0 H0 w0 φ' H' lam' fr' tmps' w'→Q .normal ⟨tmps',[]⟩ w'):
 ∀ (fuel j:Nat) (L:Array Bool) (fr:List FV) (H:Hp) (φ:List LI) (lam:Nat→Nat) (tmps:Array Value) (w:World),m≤j→j≤ops.size→ops.size≤j+fuel→L.size=ops.size→kS_ ops L→(∀ i,i < ops.size→(L.getD i false=true↔i < j))→
  kr_ cx ops (ops.toList.drop j) fr H K→Inv φ0 H0 w0 φ H lam fr tmps w→wpAny P .any ops Q fuel L ⟨tmps,[]⟩ w:=by
 intro fuel;induction fuel with
 | zero=>
  intro j L fr H φ lam tmps w hm hj hf hs hc hL h I;have hj':j=ops.size:=by omega
  subst hj';rw[List.drop_of_length_le (by simp)] at h;refine⟨?_,hQ _ _ _ _ _ _ h I⟩;cases hr:Region.ready .any ops L with
  | nil=>rfl
  | cons i l=>
   have hi:i∈Region.ready .any ops L:=by rw[hr]; simp
   obtain⟨h1,h2,_⟩:=o5_ hi;rw[(hL i (by omega)).2 (by omega)] at h2; cases h2
 | succ fuel ih=>
  intro j L fr H φ lam tmps w hm hj hf hs hc hL h I;refine⟨fun hr=> ?_,fun i hi=> ?_⟩
  ·have hall:=sK_ F hs hr;have hj':j=ops.size:=by
    rcases Nat.lt_or_ge j ops.size with q | q
    ·have:=(hL j q).1 (hall j q); omega
    ·omega
   subst hj';rw[List.drop_of_length_le (by simp)] at h;exact hQ _ _ _ _ _ _ h I
  ·obtain⟨h1,h2,o,ho,hro⟩:=o5_ hi;have hil:i < ops.size:=by omega
   have hij:j≤i:=by
    rcases Nat.lt_or_ge i j with q | q
    ·rw[(hL i hil).2 q] at h2; cases h2
    ·exact q
   have hij':i=j:=by
    rcases Nat.eq_or_lt_of_le hij with q | q
    ·exact q.symm
    ·have:=eB_ hc ho hro j (F.tail i hil (by omega) j q);have:=(hL j (by omega)).1 this;omega
   subst hij';rw[List.drop_eq_getElem_cons (by simpa using hil)] at h;have hoj:ops.toList[i]'(by simpa using hil)=o:=by
    have:ops[i]? =some o:=ho;rw[Array.getElem?_eq_getElem hil] at this;simpa using this
   rw[hoj] at h;have h':ms_ ops fr o.guard
    (fun fr=>opK cx o fr H fun v fr H=>v2_ fr o.dst v fun fr=>kr_ cx ops (ops.toList.drop (i+1)) fr H K)
    (fun fr=>v2_ fr o.dst .und fun fr=>kr_ cx ops (ops.toList.drop (i+1)) fr H K):=h
   have hc':=sZ_ hc ho hro;have hL':∀ k,k < ops.size→((L.setIfInBounds i true).getD k false=true↔k < i+1):=by
    intro k hk;by_cases q:k=i
    ·subst q; rw[wT_ h1]; simp
    ·rw[getD_set_ne false (Ne.symm q),hL k hk]; omega
   unfold wpOp;rw[ho];dsimp only;rcases wZ_ I h' with⟨hw,h'⟩ | ⟨hw,h'⟩
   ·rw[if_pos hw];refine .inl (ve_ hC.tys hC.env hC.dyn I [] h' fun v fr' H' u w' hk hres=> ?_);rw[ry_] at hk;obtain⟨φ',lam',tmps',e,I'⟩:=hres.put (df:=[]);rw[e];exact ih (i+1) _ _ _ _ _ _ _ (by omega) (by omega) (by omega) (by simpa using hs) hc' hL' hk I'
   ·rw[if_neg (by rw[hw]; simp)];rw[ry_] at h';obtain⟨φ',lam',tmps',e,I'⟩:=(Res.of I (v:= .und) (u:=undef) rfl o.dst).put (df:=[]);rw[e];exact ih (i+1) _ _ _ _ _ _ _ (by omega) (by omega) (by omega) (by simpa using hs) hc' hL' h' I'
theorem oP_ {p:Nat→Bool} {fr:List FV} (h:∀ t,p t=false):jI_ p fr=fr:=by
 apply List.ext_getElem?;intro t;rw[fV_,h t]
theorem Df_ (hC:sW_ P cx) {Q:Exit→Act→World→Prop} {K:List FV→Hp→Prop} (hQ:∀ fr' H' φ' lam' tmps' w',K fr' H'→Inv φ0 H0 w0 φ' H' lam' fr' tmps' w'→Q .normal ⟨tmps',[]⟩ w'):
 ∀ (fuel:Nat) (σ0:List Nat) (F:e7_ cx ops m σ0 al) (rem:List Nat) (L:Array Bool) (seen σ:List Nat) (fr:List FV) (H:Hp) (tmps:Array Value) (w:World),
  Sim P cx ops m σ0 al φ0 H0 w0 (fun fr H=>kr_ cx ops (ops.toList.drop m) fr H K) L seen σ fr H tmps w→kS_ ops L→L.size=ops.size→(∀ i,m≤i→i < ops.size→L.getD i false=false)→rem.Nodup→(∀ i,i∈rem↔i < m∧L.getD i false=false)→fuel=rem.length+(ops.size - m)→
  wpAny P .any ops Q fuel L ⟨tmps,[]⟩ w:=by
 intro fuel;induction fuel with
 | zero=>
  intro σ0 F rem L seen σ fr H tmps w S0 hc hs ht hnd hrem hf;obtain⟨seen,σ,fr,S,_⟩:=S0.advance F;have hr0:rem=[]:=by apply List.eq_nil_of_length_eq_zero; omega
  subst hr0;have hall:∀ i,i < m→L.getD i false=true:=fun i hi=>by
   cases q:L.getD i false with
   | true=>rfl
   | false=>exact (List.not_mem_nil ((hrem i).2 ⟨hi,q⟩)).elim
  have hσ:σ=[]:=by
   cases σ with
   | nil=>rfl
   | cons e r=>
    have h1:=S.rest e (by simp);rw[hall e (F.lt e (by rw[S.ord]; simp))] at h1; cases h1
  subst hσ;obtain⟨φ,lam,I⟩:=S.inv;rw[oP_ (fun t=>by
   cases q:hM_ ops L seen t with
   | false=>rfl
   | true=>
    obtain⟨j,hj,h1,_⟩:=dX_.1 q;rw[hall j (F.lt j (by rw[S.ord]; simp [hj]))] at h1; cases h1)] at I
  have hL:∀ i,i < ops.size→(L.getD i false=true↔i < m):=fun i hi=>by
   constructor
   ·intro q;rcases Nat.lt_or_ge i m with r | r
    ·exact r
    ·rw[ht i r hi] at q; cases q
   ·exact hall i
  exact y1_ hC F hQ 0 m L fr H φ lam tmps w (Nat.le_refl _) F.le (by omega) hs hc hL S.go I
 | succ fuel ih=>
  intro σ0 F rem L seen σ fr H tmps w S0 hc hs ht hnd hrem hf;obtain⟨seen,σ,fr,S,hhead⟩:=S0.advance F;by_cases hrm:rem=[]
  ·subst hrm;have hall:∀ i,i < m→L.getD i false=true:=fun i hi=>by
    cases q:L.getD i false with
    | true=>rfl
    | false=>exact (List.not_mem_nil ((hrem i).2 ⟨hi,q⟩)).elim
   have hσ:σ=[]:=by
    cases σ with
    | nil=>rfl
    | cons e r=>
     have h1:=S.rest e (by simp);rw[hall e (F.lt e (by rw[S.ord]; simp))] at h1; cases h1
   subst hσ;obtain⟨φ,lam,I⟩:=S.inv;rw[oP_ (fun t=>by
    cases q:hM_ ops L seen t with
    | false=>rfl
    | true=>
     obtain⟨j,hj,h1,_⟩:=dX_.1 q;rw[hall j (F.lt j (by rw[S.ord]; simp [hj]))] at h1; cases h1)] at I
   have hL:∀ i,i < ops.size→(L.getD i false=true↔i < m):=fun i hi=>by
    constructor
    ·intro q;rcases Nat.lt_or_ge i m with r | r
     ·exact r
     ·rw[ht i r hi] at q; cases q
    ·exact hall i
   exact y1_ hC F hQ (fuel+1) m L fr H φ lam tmps w (Nat.le_refl _) F.le (by simp at hf; omega) hs hc hL S.go I
  ·obtain⟨i0,hi0⟩:=List.exists_mem_of_ne_nil rem hrm;obtain⟨hi0m,hi0L⟩:=(hrem i0).1 hi0;refine⟨fun hr=> ?_,fun i hi=> ?_⟩
   ·have h1:Lis L i0:=sK_ F hs hr i0 (by have:=F.le; omega);unfold Lis at h1;rw[hi0L] at h1; cases h1
   ·obtain⟨h1,h2,o,ho,hro⟩:=o5_ hi;have hil:i < ops.size:=by omega
    have him:i < m:=by
     rcases Nat.lt_or_ge i m with q | q
     ·exact q
     ·have h3:Lis L i0:=eB_ hc ho hro i0 (F.tail i hil q i0 (by omega));unfold Lis at h3;rw[hi0L] at h3; cases h3
    have hc':=sZ_ hc ho hro;have hs':(L.setIfInBounds i true).size=ops.size:=by simpa using hs
    have ht':∀ k,m≤k→k < ops.size→(L.setIfInBounds i true).getD k false=false:=fun k hk hk2=>by
     rw[getD_set_ne false (by omega)]; exact ht k hk hk2
    have hirem:i∈rem:=(hrem i).2 ⟨him,h2⟩;have hnd':(rem.erase i).Nodup:=hnd.erase i;have hrem':∀ k,k∈rem.erase i↔k < m∧(L.setIfInBounds i true).getD k false=false:=fun k=>by
     rw[hnd.mem_erase_iff,hrem k];constructor
     ·rintro⟨q1,q2,q3⟩;exact⟨q2,by rw[getD_set_ne false (Ne.symm q1)]; exact q3⟩
     ·rintro⟨q1,q2⟩;exact⟨pn_ h1 q2,q1,rE_ q2⟩
    have hf':fuel=(rem.erase i).length+(ops.size - m):=by
     rw[List.length_erase_of_mem hirem];have:=List.length_pos_of_mem hirem;omega
    have goOn:∀ σ0 (F:e7_ cx ops m σ0 al) seen σ fr H tmps w,Sim P cx ops m σ0 al φ0 H0 w0 (fun fr H=>kr_ cx ops (ops.toList.drop m) fr H K) (L.setIfInBounds i true) seen σ fr H tmps w→wpAny P .any ops Q fuel (L.setIfInBounds i true) ⟨tmps,[]⟩ w:=
     fun σ0 F seen σ fr H tmps w S'=>ih σ0 F _ _ _ _ _ _ _ _ S' hc' hs' ht' hnd' hrem' hf'
    have hlook:=S.looks F hc him ho hro;obtain⟨φ,lam,I⟩:=S.inv;have hnodup:=F.nodup;rw[S.ord,List.nodup_append] at hnodup;obtain⟨o1,ho1,hl,hst,_,hal⟩:=F.op i him;rw[ho] at ho1; cases ho1;have hwF:=oG_ (ops:=ops) (o:=o) hlook;have hi00:i∈seen.reverse++σ:=by rw[←S.ord]; exact F.all i him
    unfold wpOp;rw[ho];dsimp only;rcases List.mem_append.1 hi00 with hseen | hσ
    ·
     have hseen:i∈seen:=by simpa using hseen
     have hiσ:i∉σ:=fun q=>hnodup.2.2 i (by simpa using hseen) i q rfl;obtain⟨o2,ho2,he,hp⟩:=S.told i hseen h2;rw[ho] at ho2; cases ho2;have mkS:∀ v φ' lam' tmps' w',Inv φ0 H0 w0 φ' H lam' (eS_ (jI_ (hM_ ops L seen) fr) o.dst v) tmps' w'→(∀ d,o.dst=some d→d < fr.length→fr.getD d .bad=v)→
      Sim P cx ops m σ0 al φ0 H0 w0 (fun fr H=>kr_ cx ops (ops.toList.drop m) fr H K) (L.setIfInBounds i true) seen σ fr H tmps' w':=by
      intro v φ' lam' tmps' w' I' hv;refine⟨S.ord,fun j hj=> ?_,S.go,⟨φ',lam',I'.masked rfl (fun d hd hlt _=>hv d hd hlt) (fun t htd hp'=>⟨?_,rfl⟩)⟩,fun j hj hLj=>S.told j hj (rE_ hLj),S.lps,S.box⟩
      ·rw[getD_set_ne false (fun e=>hiσ (by rw[e]; exact hj))]; exact S.rest j hj
      ·cases q:hM_ ops L seen t with
       | false=>rfl
       | true=>
        obtain⟨j,hj,q1,q2⟩:=dX_.1 q;have hji:j≠i:=fun e=>by subst e; exact htd ((eA_ ho).1 q2)
        rw[dX_.2 ⟨j,hj,by rw[getD_set_ne false (Ne.symm hji)]; exact q1,q2⟩] at hp'; cases hp'
     rcases hp with⟨hw,v,hv,hpv⟩ | ⟨hw,hv⟩
     ·rw[if_pos (nK_ I (by rw[hwF]; exact hw))];refine .inl (ve_ hC.tys hC.env hC.dyn I [] ((S.pv F hc him ho hro hpv).run he (yE_ he) (fun ha d hd=>yv_ (ft_ _ _) (zR_ _ _) (lU_ S.lps d (hal ha d hd))) (fun v' f h=>v'=v∧f=jI_ (hM_ ops L seen) fr∧h=H) ⟨rfl,rfl,rfl⟩) fun v' fr' H' u w' hk hres=> ?_);obtain⟨rfl,rfl,rfl⟩:=hk;obtain⟨φ',lam',tmps',e,I'⟩:=hres.put (df:=[]);rw[e];exact goOn _ F _ _ _ _ _ _ (mkS _ _ _ _ _ I' hv)
     ·rw[if_neg (by rw[nK_ I (show gw_ ops _ o.guard=some false by rw[hwF]; exact hw)]; simp)];obtain⟨φ',lam',tmps',e,I'⟩:=(Res.of I (v:= .und) (u:=undef) rfl o.dst).put (df:=[]);rw[e];exact goOn _ F _ _ _ _ _ _ (mkS _ _ _ _ _ I' hv)
    ·rcases hhead with rfl | ⟨e,rest,rfl,hE⟩
     ·cases hσ
     ·have hsw:∃ σ1 rest1,e7_ cx ops m σ1 al∧Sim P cx ops m σ1 al φ0 H0 w0 (fun fr H=>kr_ cx ops (ops.toList.drop m) fr H K) L seen (i::rest1) fr H tmps w∧hP_ ops i false (cL_ cx)=true:=by
       rcases List.mem_cons.1 hσ with rfl | hrest
       ·exact⟨σ0,rest,F,S,hE⟩
       ·have hsp:=(ih_ (pre:=seen.reverse) (post:=rest) (i:=e) (by rw[←S.ord]; exact F.eff)).1 hE;have bad:has ((ds_ ops).getD i 0) e=true→False:=fun q=>by
         have:=eB_ hc ho hro e q;unfold Lis at this;rw[S.rest e (by simp)] at this; cases this
        rcases hsp with q | q
        ·exact (bad (q i hrest)).elim
        ·cases rest with
         | nil=>cases q
         | cons j l=>
          have q':=q;obtain⟨hs1,q1,_⟩:=g8_.1 q;rcases List.mem_cons.1 hrest with rfl | hr
          ·refine⟨seen.reverse++i::e::l,e::l,e7_.swap (by rw[←S.ord]; exact F) q',⟨rfl,fun k hk=>S.rest k ?_,BN_ hs1 S.go,S.inv,S.told,S.lps,S.box⟩,(hU_.1 hs1).2.1⟩;simp only[List.mem_cons] at hk ⊢;grind
          ·exact (bad (q1 i hr)).elim
      clear hσ hi00 hnodup hE;obtain⟨σ1,rest1,F1,S1,hE⟩:=hsw;clear S F;have hspec:=ih_ (pre:=seen.reverse) (post:=rest1) (i:=i) (by rw[←S1.ord]; exact F1.eff);have hnodup:=F1.nodup;rw[S1.ord,List.nodup_append] at hnodup
      ·
       have he:cL_ cx o=true:=by unfold hP_ at hE; rw[ho] at hE; exact hE
       have hsj:∀ j∈seen,j < m∧j≠i∧has ((ds_ ops).getD j 0) i=false:=fun j hj=>by
        refine⟨F1.lt j (by rw[S1.ord]; simp [hj]),fun e=> ?_,hspec.2.2 j (by simpa using hj)⟩;subst e;exact hnodup.2.2 j (by simpa using hj) j (by simp) rfl
       have hrest2:∀ j∈rest1,j≠i:=fun j hj e=>by
        subst e;exact (List.nodup_cons.1 hnodup.2.1).1 hj
       have mkE:∀ v H' φ' lam' tmps' w',goK cx ops (ds_ ops) al rest1 (i::seen) (eS_ fr o.dst v) H' (fun fr H=>kr_ cx ops (ops.toList.drop m) fr H K)→
        (∀ d,o.dst=some d→(∀ cs,fr.getD d .bad≠ .bx cs)∧(∀ cs,v= .bx cs→d∈al)∧j8_ (eS_ fr o.dst v) al=true)→
        Inv φ0 H0 w0 φ' H' lam' (eS_ (jI_ (hM_ ops L seen) fr) o.dst v) tmps' w'→(∀ j∈seen,L.getD j false=false→vt_ cx ops (eS_ fr o.dst v) H' j)→
        Sim P cx ops m σ1 al φ0 H0 w0 (fun fr H=>kr_ cx ops (ops.toList.drop m) fr H K) (L.setIfInBounds i true) (i::seen) rest1 (eS_ fr o.dst v) H' tmps' w':=by
        intro v H' φ' lam' tmps' w' hgo hput I' hpend;refine⟨by rw[S1.ord]; simp,fun j hj=> ?_,hgo,⟨φ',lam',I'.masked (fi_ _ _ _) (fun d hd hlt _=> ?_) (fun t htd hp'=>⟨?_,?_⟩)⟩,fun j hj hLj=> ?_,?_,fun j hj d hdj cs hcs=> ?_⟩
        ·rw[getD_set_ne false (Ne.symm (hrest2 j hj))]; exact S1.rest j (by simp [hj])
        ·rw[hd]; simp only[eS_]; rw[List.getD_eq_getElem?_getD,List.getElem?_set_self hlt]; rfl
        ·cases q:hM_ ops L seen t with
         | false=>rfl
         | true=>
          obtain⟨j,hj,q1,q2⟩:=dX_.1 q;have hji:=(hsj j hj).2.1;rw[dX_.2 ⟨j,by simp [hj],by rw[getD_set_ne false (Ne.symm hji)]; exact q1,q2⟩] at hp'; cases hp'
        ·cases hd:o.dst with
         | none=>rfl
         | some d=>simp only[eS_]; rw[List.getElem?_set_ne (fun e=>htd (by rw[hd,e]))]
        ·rcases List.mem_cons.1 hj with e | hj
         ·exact (pn_ h1 hLj e).elim
         ·exact hpend j hj (rE_ hLj)
        ·cases hd:o.dst with
         | none=>exact S1.lps
         | some d=>rw[←hd]; exact (hput d hd).2.2
        ·rcases List.mem_cons.1 hj with e | hj
         ·subst e;have hd:=(eA_ ho).1 hdj;rw[hd] at hcs;simp only[eS_] at hcs;by_cases q:d < fr.length
          ·rw[List.getD_eq_getElem?_getD,List.getElem?_set_self q] at hcs;exact (hput d hd).2.1 cs (by simpa using hcs)
          ·rw[List.getD_eq_getElem?_getD,List.getElem?_eq_none (by rw[List.length_set]; exact Nat.le_of_not_lt q)] at hcs;cases hcs
         ·refine S1.box j hj d hdj cs ?_;rw[f7_ (fun d' hd' e=>by
           subst e;exact (hsj j hj).2.1 (F1.dst j i (hsj j hj).1 him d hdj ((eA_ ho).2 hd')))] at hcs
          exact hcs
       have hgo':ms_ ops fr o.guard
        (fun fr=>opK cx o fr H fun v fr H'=>x3_ al o.dst v fr fun fr=>reK cx ops (ds_ ops) i H' fr (match cL_ cx o with | true=>seen | false=>[]) (goK cx ops (ds_ ops) al rest1 (i::seen) fr H' (fun fr H=>kr_ cx ops (ops.toList.drop m) fr H K)))
        (fun fr=>x3_ al o.dst .und fr fun fr=>goK cx ops (ds_ ops) al rest1 (i::seen) fr H (fun fr H=>kr_ cx ops (ops.toList.drop m) fr H K)):=by
        have:=y3_ (pre:=seen.reverse) (by rw[←S1.ord]; exact F1.eff) S1.go
        simp only[stp,ho] at this
        exact this
       rcases y7_ hgo' with⟨hw,h⟩ | ⟨hw,h⟩
       ·rw[if_pos (nK_ I (by rw[hwF]; exact hw))];refine .inl (ve_ hC.tys hC.env hC.dyn I [] (D5_ he (kz_ hlook) (fun s h1 h2=>pg_ (S1.stores hlook h1 h2)) h) fun v fr' H' u w' hk hres=> ?_);obtain⟨uu,rfl,hk,hcase⟩:=hk;rw[he] at hk;have hwij:∀ j,L.getD j false=false→has ((ds_ ops).getD i 0) j=false:=fun j hLj=>by
         cases q:has ((ds_ ops).getD i 0) j with
         | false=>rfl
         | true=>
          have:=eB_ hc ho hro j q;unfold Lis at this;rw[hLj] at this; cases this
        rcases hcase with⟨rfl,hst0⟩ | ⟨s,cs',cs0,rfl,hst0,hb0,rfl⟩
        ·simp only[kQ_] at hk hres;obtain⟨hk,hput⟩:=nF_ hk;obtain⟨hgo2,hre⟩:=yk_ hk;obtain⟨φ',lam',tmps',e,I'⟩:=hres.put (df:=[]);rw[e];refine goOn _ F1 _ _ _ _ _ _ (mkE _ _ _ _ _ _ hgo2 hput I' fun j hj hLj=> ?_);obtain⟨q1,q2,q3⟩:=hsj j hj;obtain⟨oj,hoj,hej,hpj⟩:=vt_.set F1 him ho q1 q2 q3 (fun _=>hwij j hLj) (S1.told j hj hLj) (v:=v) (fun d hd=>(hput d hd).1);refine⟨oj,hoj,hej,?_⟩;rcases hpj with⟨hwj,vj,hvj,hpvj⟩ | hpj
         ·left;refine⟨hwj,?_⟩;cases hrd:nr_ oj (ev (eS_ fr o.dst v)) with
          | false=>exact⟨vj,hvj,hpvj.heap hej hrd⟩
          | true=>
           have hst1:f6_ o (ev (eS_ fr o.dst v))=none:=by
            have hx:∀ x∈o.op.operands,ev (eS_ fr o.dst v) x=ev fr x:=kz_ fun t ht=>f7_ fun d hd e=>by
             subst e;rcases (hl t ht).2 i him ((eA_ ho).2 hd) with this | ⟨_,this⟩
             ·rw[hspec.2.1] at this; cases this
             ·rw[hspec.2.1] at this; cases this
            unfold f6_ at hst0 ⊢;cases hop:o.op with
            | store t a x=>
             rw[hop] at hst0 hx;dsimp only at hst0 ⊢;rw[hx a (by simp [Op.operands])];exact hst0
            | _=>rfl
           have hag:qr_ ops[i]? oj (ev (eS_ fr o.dst v))=true:=by
            rw[ho]; simp only[qr_,hst1]; exact hrd
           obtain⟨v3,hv3,hone⟩:=hre j hj oj hoj hej (hwij j hLj) hag hwj;refine⟨v3,fun d hd _=>by rw[←hv3,hd]; rfl,.inl ⟨?_,hone⟩⟩;unfold nr_ at hrd;unfold m2_;cases hop:oj.op<;>rw[hop] at hrd<;>first | rfl | cases hrd
         ·exact .inr hpj
        ·have hps:=S1.stores hlook hst0 ⟨cs0,hb0⟩;have hdn:o.dst=none:=hst (by
          unfold f6_ at hst0;unfold fY_;cases hop:o.op<;>rw[hop] at hst0<;>first | rfl | cases hst0)
         simp only[kQ_] at hk hres;obtain⟨hk,_⟩:=nF_ hk;obtain⟨hgo2,hre⟩:=yk_ hk;obtain⟨φ',lam',tmps',e,I'⟩:=hres.put (df:=[]);rw[e];rw[hdn] at hgo2 hre I';simp only[eS_] at hgo2 hre I';refine goOn _ F1 (i::seen) rest1 (fr.set s (.bx cs')) _ _ _ ⟨by rw[S1.ord]; simp,fun j hj=> ?_,hgo2,⟨φ',lam',I'.weaken (by simp [ft_]) fun t v' hv'=> ?_⟩,fun j hj hLj=> ?_,uD_ S1.lps,fun j hj d hdj cs hcs=> ?_⟩
         ·rw[getD_set_ne false (Ne.symm (hrest2 j hj))]; exact S1.rest j (by simp [hj])
         ·rw[fV_] at hv';cases hp':hM_ ops (L.setIfInBounds i true) (i::seen) t with
          | true=>
           rw[hp'] at hv'; left;cases hx:(fr.set s (.bx cs'))[t]? <;>rw[hx] at hv'<;>simp at hv';exact hv'.symm
          | false=>
           rw[hp'] at hv';dsimp only at hv';right;have hpt:hM_ ops L seen t=false:=by
            cases q:hM_ ops L seen t with
            | false=>rfl
            | true=>
             obtain⟨j,hj,q1,q2⟩:=dX_.1 q;have hji:=(hsj j hj).2.1;rw[dX_.2 ⟨j,by simp [hj],by rw[getD_set_ne false (Ne.symm hji)]; exact q1,q2⟩] at hp'; cases hp'
           by_cases ts:t=s
           ·subst ts;rw[List.getElem?_set_self (vl_ hb0)] at hv';rw[List.getElem?_set_self (by rw[ft_]; exact vl_ hb0)];exact hv'
           ·rw[List.getElem?_set_ne (Ne.symm ts)] at hv' ⊢;rw[fV_,hpt]; exact hv'
         ·rcases List.mem_cons.1 hj with e | hj
          ·exact (pn_ h1 hLj e).elim
          ·have hLj:=rE_ hLj;obtain⟨oj,hoj,hej,hpj⟩:=S1.told j hj hLj;have hds:∀ d,oj.dst=some d→d≠s:=fun d hd e=>by
            subst e;rw[dX_.2 ⟨j,hj,hLj,(eA_ hoj).2 hd⟩] at hps; cases hps
           refine⟨oj,hoj,hej,?_⟩;rw[uF_ hb0];rcases hpj with⟨hwj,vj,hvj,hpvj⟩ | ⟨hwj,hvj⟩
           ·left;refine⟨hwj,?_⟩;cases hin:yU_ oj (ev fr) s with
            | false=>
             refine⟨vj,fun d hd hlt=>by rw[h6_ (hds d hd)]; exact hvj d hd (by simpa using hlt),hpvj.move (by simp) (fun x _=>At_ hb0 x) (fun t a s' p cs hload he' hs'=> ?_)⟩;have hss:s'≠s:=fun e=>by
              subst e;unfold yU_ at hin;rw[hload] at hin;dsimp only at hin;rw[he'] at hin;simp at hin
             rw[h6_ hss]; exact hs'
            | true=>
             have hev':ev (fr.set s (.bx cs'))=ev fr:=funext fun x=>At_ hb0 x;have hag:qr_ ops[i]? oj (ev (fr.set s (.bx cs')))=true:=by
              rw[ho,hev']; simp only[qr_,hst0]; exact hin
             obtain⟨v3,hv3,hone⟩:=hre j hj oj hoj hej (hwij j hLj) hag (by rw[uF_ hb0]; exact hwj);refine⟨v3,fun d hd _=>by rw[←hv3,hd]; rfl,.inl ⟨?_,hone⟩⟩;unfold yU_ at hin;unfold m2_;cases hop:oj.op<;>rw[hop] at hin<;>first | rfl | cases hin
           ·exact .inr ⟨hwj,fun d hd hlt=>by rw[h6_ (hds d hd)]; exact hvj d hd (by simpa using hlt)⟩
         ·rcases List.mem_cons.1 hj with e | hj
          ·subst e;have hd:=(eA_ ho).1 hdj;rw[hdn] at hd; cases hd
          ·by_cases e:d=s
           ·subst e; exact S1.box j hj d hdj cs0 hb0
           ·rw[h6_ e] at hcs; exact S1.box j hj d hdj cs hcs
       ·rw[if_neg (by rw[nK_ I (show gw_ ops _ o.guard=some false by rw[hwF]; exact hw)]; simp)];obtain⟨hgo2,hput⟩:=nF_ h;obtain⟨φ',lam',tmps',e,I'⟩:=(Res.of I (v:= .und) (u:=undef) rfl o.dst).put (df:=[]);rw[e];refine goOn _ F1 _ _ _ _ _ _ (mkE _ _ _ _ _ _ hgo2 hput I' fun j hj hLj=> ?_);obtain⟨q1,q2,q3⟩:=hsj j hj;exact vt_.set F1 him ho q1 q2 q3 (fun _=>by
         cases q:has ((ds_ ops).getD i 0) j with
         | false=>rfl
         | true=>
          have:=eB_ hc ho hro j q;unfold Lis at this;rw[hLj] at this; cases this) (S1.told j hj hLj) (fun d hd=>(hput d hd).1)
theorem D6_ (hC:sW_ P cx) (hm:P.follows .mixedOrders=true):zQ_ P cx:=by
 intro ops fr H K φ0 H0 w0 φ lam tmps w Q h I hQ t;unfold drK Dx_ at h;obtain⟨h1,h⟩:=aj_.1 h;obtain⟨h2,h⟩:=aj_.1 h;have F:=Bn_ h1;simp only[Region.schedule,hm,Bool.true_or,if_true];refine wpAny_sound ops.size t _ _ _ ?_;have hrep:∀ i,(Array.replicate ops.size false).getD i false=false:=fun i=>by
  rcases Nat.lt_or_ge i ops.size with q | q
  ·simp [q]
  ·simp [q]
 refine Df_ hC hQ ops.size _ F (List.range (k0_ (ds_ ops) ops.size)) _ [] _ fr H tmps w ⟨rfl,fun i _=>hrep i,h,⟨φ,lam,?_⟩,fun i hi=>(by cases hi),h2,fun i hi=>(by cases hi)⟩ ?_ (by simp) (fun i _ _=>hrep i) List.nodup_range (fun i=>by rw[List.mem_range]; exact⟨fun q=>⟨q,hrep i⟩,fun q=>q.1⟩) (by have:=F.le; simp; omega)
 ·rw[oP_ (fun t=>by simp [hM_])]; exact I
 ·intro i o ho hl;unfold Lis at hl;rw[hrep i] at hl; cases hl
end
end Go.Am
namespace Go.Am
def C0_:LK→Value→Bool
 | .bool,.bool b=> !b
 | .int k,.int k' n=>decide (k=k')&&decide (n=0)
 | .str,.string ⟨⟨[]⟩⟩=>true
 | .ptr,.pointer none=>true
 | .sl _,.slice none 0 0=>true
 | .map,.map none=>true
 | .fn,.nilFunc=>true
 | .iface,.nilIface=>true
 | _,_=>false
def zEq:List LK→List Value→Bool
 | [],[]=>true
 | k::ks,v::vs=>match C0_ k v with | true=>zEq ks vs | false=>false
 | _,_=>false
def Ai_ (P:Program) (x:TI) (t:Nat):Bool:=match x.ok with
 | false=>true
 | true=>match P.info? t,P.underlying t with
  | some i,some d=>Nat.beq i.size x.lv.length&&(match i.zero with | some z=>zEq x.lv z.cells.toList | none=>false)&&Nat.beq i.bytes x.by_&&c8_ x d
  | _,_=>false
def yf_ (P:Program) (x:TI) (t:Nat):Bool:=match x.cmp with
 | false=>true
 | true=>match P.underlying t with
  | some (.struct fs)=>kI_ P x.lv 0 fs.toList&& !P.stoodInHeld t&& !P.eqGuardType P.depth t
  | _=>false
def Cw_ (P:Program) (t:Nat) (e:String × Nat × Bool):Bool:=match P.info? t with
 | some i=>match i.methods.find? (·.name==e.1) with
  | some m=>(match m.path.toList with | []=>true | _=>false)&&(match m.func with | some (f,b)=>Nat.beq f e.2.1&&(b==e.2.2) | none=>false)
  | none=>false
 | none=>false
def Bb_ (P:Program) (x:TI) (t:Nat):Bool:=match x.ms with | []=>true | l=>l.all (Cw_ P t)
def CV_ (P:Program) (x:TI) (t:Nat):Bool:=match x.ok with
 | false=>true
 | true=>match P.info? t with
  | some i=>(match i.zero with | some z=>sk_ z==x.agg | none=>true)
  | none=>true
theorem B2_ {P:Program} {x:TI} {t:Nat} (h:CV_ P x t=true):ZOK P x t:=by
 intro hx i z hi hz;unfold CV_ at h;rw[hx,hi] at h;simp only[hz] at h;simpa using h
def vj_ (P:Program):List TI→Nat→Bool
 | [],_=>true
 | x::xs,t=>match Ai_ P x t with | true=>(match yf_ P x t with | true=>(match Bb_ P x t with | true=>(match CV_ P x t with | true=>vj_ P xs (t+1) | false=>false) | false=>false) | false=>false) | false=>false
theorem y4_:∀ {l:List (String × Nat × Bool)} {n:String} {f:Nat} {b:Bool},mth l n=some (f,b)→(n,f,b)∈l
 | [],_,_,_,h=>by cases h
 | (n',f',b')::l,n,f,b,h=>by
  unfold mth at h;split at h
  ·rename_i e;have e:n'=n:=by simpa using e
   cases h; subst e; simp
  ·exact List.mem_cons_of_mem _ (y4_ h)
theorem z8_ {P:Program} {x:TI} {t:Nat} (h:Bb_ P x t=true):CM_ P x t:=by
 intro n f b hm;have hmem:=y4_ hm;unfold Bb_ at h;split at h
 ·rename_i e; rw[e] at hmem; cases hmem
 ·rw[List.all_eq_true] at h;have:=h _ hmem;unfold Cw_ at this;split at this
  ·rename_i i hi;split at this
   ·rename_i m hf;simp only[Bool.and_eq_true] at this;obtain⟨h1,h2⟩:=this;refine⟨i,m,hi,hf,?_,?_⟩
    ·split at h1
     ·rename_i e; exact Array.ext' e
     ·cases h1
    ·split at h2
     ·rename_i f' b' e;simp only[Bool.and_eq_true] at h2;rw[e,fk_ h2.1];have:=h2.2;simp at this;rw[this]
     ·cases h2
   ·cases this
  ·cases this
theorem Ck_ {k:LK} {v:Value} (h:C0_ k v=true):v=zV k:=by
 unfold C0_ at h;split at h<;>simp_all [zV]
theorem An_:∀ {ks:List LK} {vs:List Value},zEq ks vs=true→vs=ks.map zV
 | [],[],_=>rfl
 | [],_::_,h=>by simp [zEq] at h
 | _::_,[],h=>by simp [zEq] at h
 | k::ks,v::vs,h=>by
  unfold zEq at h;split at h
  ·rename_i e; rw[Ck_ e,An_ h]; rfl
  ·cases h
theorem z2_ {P:Program} {x:TI} {t:Nat} (h:Ai_ P x t=true):Dh_ P x t:=by
 intro hok;unfold Ai_ at h;rw[hok] at h;dsimp only at h;split at h
 ·rename_i i d hi hd;simp only[Bool.and_eq_true] at h;obtain⟨⟨⟨h1,h2⟩,h3⟩,h4⟩:=h;split at h2
  ·rename_i z hz;exact⟨i,z,d,hi,fk_ h1,hz,An_ h2,fk_ h3,hd,h4⟩
  ·cases h2
 ·cases h
theorem zY_ {P:Program} {x:TI} {t:Nat} (h:yf_ P x t=true):Ak_ P x t:=by
 intro hx;unfold yf_ at h;rw[hx] at h;dsimp only at h;split at h
 ·rename_i fs hd;simp only[Bool.and_eq_true,Bool.not_eq_true'] at h;exact⟨fs,hd,h.1.1,h.1.2,h.2⟩
 ·cases h
theorem iT_ {P:Program}:∀ {xs:List TI} {t:Nat},vj_ P xs t=true→∀ j,Dh_ P (xs.getD j default) (t+j)∧Ak_ P (xs.getD j default) (t+j)∧CM_ P (xs.getD j default) (t+j)∧ZOK P (xs.getD j default) (t+j)
 | [],t,_,j=>by
  refine⟨?_,?_,?_,?_⟩
  ·intro h;simp [default,TI.ok] at h;cases h
  ·intro h;simp [default,TI.cmp] at h;cases h
  ·intro n f b h;simp [default,mth] at h;cases h
  ·intro h;simp [default,TI.ok] at h;cases h
 | x::xs,t,h,j=>by
  unfold vj_ at h;split at h
  ·rename_i e;split at h
   ·rename_i e2;split at h
    ·rename_i e3;split at h
     ·rename_i e4;cases j with
      | zero=>exact⟨z2_ e,zY_ e2,z8_ e3,B2_ e4⟩
      | succ j=>
       have:=iT_ h j;rw[show t+1+j=t+(j+1) by omega] at this;simpa using this
     ·cases h
    ·cases h
   ·cases h
  ·cases h
theorem Dy_ {P:Program} {tys:List TI} (h:vj_ P tys 0=true):b8_ P tys:=⟨fun t=>by
 have:=(iT_ h t).1;simpa using this,fun t=>by
 have:=(iT_ h t).2.1;simpa using this,fun t=>by
 have:=(iT_ h t).2.2.1;simpa using this,fun t=>by
 have:=(iT_ h t).2.2.2;simpa using this⟩
structure xJ_ (P:Program) (tys:List TI):Prop where
 tys:b8_ P tys
 mix:P.follows .mixedOrders=true
theorem xJ_.sound {P:Program} {tys:List TI} (h:xJ_ P tys) {f:FuncId} {fn:Func} {cx:Cx} (ht:cx.tys=tys) (he:∀ f s,cx.env.lookup f=some s→bG_ P f s) (hd:∀ f,bG_ P f (cx.dyn f)) (hf:P.funcs[f]? =some fn) (hres:fn.results=cx.res.toArray):ay_ P f fun xs H Q=>∃ k,ai_ cx fn k xs H Q:=by
 have hC:sW_ P cx:=⟨by rw[ht]; exact h.tys,he,hd⟩;exact ay_.ex fun n=>AH_ hC (D6_ hC h.mix) hf hres n
theorem ap_ (P:Program) (f:FuncId):bG_ P f (aI_ f):=fun as H Q h=>h.elim
def ac_ (P:Program) (l:List (Nat × Sm)):Prop:=∀ f s,l.lookup f=some s→bG_ P f s
theorem ac_.nil (P:Program):ac_ P []:=fun f s h=>by cases h
theorem ac_.cons {P:Program} {f:Nat} {s:Sm} {l:List (Nat × Sm)} (h:bG_ P f s) (hl:ac_ P l):ac_ P ((f,s)::l):=by
 intro f' s' h';rw[List.lookup_cons] at h';split at h'
 ·rename_i e;have e:f'=f:=by simpa using e
  cases h'; subst e; exact h
 ·exact hl f' s' h'
theorem hm_ {P:Program} {l:List (Nat × Sm)} (h:ac_ P l) (f:FuncId):bG_ P f (cN_ l f):=by
 unfold cN_;split
 ·rename_i s e; exact h f s e
 ·exact fun as H Q h=>h.elim
end Go.Am
namespace Go.Am
@[simp] theorem fI_ (x y:Prop):af_ true x y=x:=propext Iff.rfl
@[simp] theorem dY_ (x y:Prop):af_ false x y=y:=propext Iff.rfl
theorem aQ_ {b:Bool} {x y:Prop} (h:b=true):af_ b x y=x:=by subst h; rfl
theorem aL_ {b:Bool} {x y:Prop} (h:b=false):af_ b x y=y:=by subst h; rfl
theorem aa_ {b:Bool} {x y:Prop} (h1:b=true→x) (h2:b=false→y):af_ b x y:=by cases b<;>simp_all [af_]
@[simp] theorem am_ (x:Prop):chk true x=x:=propext Iff.rfl
theorem ab_ {b:Bool} {x:Prop} (h1:b=true) (h2:x):chk b x:=by subst h1; exact h2
@[simp] theorem al_ (b:Bool) (K:Bool→Prop):dB (.bool b) K=K b:=propext Iff.rfl
@[simp] theorem ak_ (k:IntKind) (n:Int) (K:Int→Prop):dI k (.int k n) K=K n:=by simp [dI]
@[simp] theorem aB_ (s:ByteArray) (K:ByteArray→Prop):dS (.str s) K=K s:=propext Iff.rfl
@[simp] theorem gz_ (a:Pl) (K:Pl→Prop):dP (.ptr a) K=K a:=propext Iff.rfl
@[simp] theorem as_ (z:Nat) (a:Pl) (n:Nat) (K:Pl→Nat→Prop):dL z (.sl a n z) K=K a n:=by simp [dL]
@[simp] theorem D3_ (z n z':Nat) (K:Pl→Nat→Prop):dL z (.sl none n z') K=K none n:=by simp [dL]
@[simp] theorem ht_ (m:Option Nat) (K:Option Nat→Prop):dM (.map m) K=K m:=propext Iff.rfl
@[simp] theorem CB_ (f:Nat) (c:List (Nat × Nat)) (K:Nat→List (Nat × Nat)→Prop):dF (.fn f c) K=K f c:=propext Iff.rfl
@[simp] theorem ah_ (l o:Nat) (K:Nat→Nat→Prop):pS (some (l,o)) K=K l o:=propext Iff.rfl
@[simp] theorem bA_ (c:GV) (cs:List GV) (K:GV→List GV→Prop):uC (c::cs) K=K c cs:=propext Iff.rfl
@[simp] theorem b0_ (x:Prop):uN [] x=x:=propext Iff.rfl
@[simp] theorem aK_ (v:GV) (K:GV→Prop):rG (.g v) K=K v:=propext Iff.rfl
@[simp] theorem f4_ (cs:List GV) (K:List GV→Prop):rA (.agg cs) K=K cs:=propext Iff.rfl
@[simp] theorem aR_ (vs:List RV) (K:List RV→Prop):rT (.tup vs) K=K vs:=propext Iff.rfl
@[simp] theorem aG_ (v:RV) (vs:List RV) (K:RV→List RV→Prop):uR (v::vs) K=K v vs:=propext Iff.rfl
@[simp] theorem aS_ (x:Prop):uE [] x=x:=propext Iff.rfl
@[simp] theorem bP_ (v:GV) (K:GV→Prop):rS (.s v) K=K v:=propext Iff.rfl
@[simp] theorem gB_ (cs:List GV) (K:List GV→Prop):rC (.a cs) K=K cs:=propext Iff.rfl
@[simp] theorem iH_ (n:Nat):nI n=(n:Int):=rfl
@[simp] theorem m9_ (n:Int):tN n=n.toNat:=rfl
@[simp] theorem hL_ (a b:Int):eqI a b=decide (a=b):=by unfold eqI; rw[Bool.eq_iff_iff]; simp
@[simp] theorem nX_ (a b:Int):ltI a b=decide (a < b):=rfl
@[simp] theorem gW_ (a b:Int):leI a b=decide (a≤b):=rfl
@[simp] theorem DV_ (a b:Nat):leN a b=decide (a≤b):=rfl
@[simp] theorem DX_ (a b:Bool):eqB a b=(a==b):=rfl
@[simp] theorem ij_ (s:ByteArray):sz s=(s.size:Int):=rfl
@[simp] theorem DW_ (s:ByteArray):szN s=s.size:=rfl
@[simp] theorem e4_ (H:Hp):ln H=H.length:=rfl
@[simp] theorem fl_ (H:Hp) (x:Obj):pu H x=H++[x]:=rfl
@[simp] theorem Dq_ (m:Nat):shf none m=none:=rfl
@[simp] theorem s1_ (l o m:Nat):shf (some (l,o)) m=some (l,o+m):=rfl
@[simp] theorem Cv_:isNone (none:Pl)=true:=rfl
@[simp] theorem Cu_ (p:Nat × Nat):isNone (some p:Pl)=false:=rfl
def bs (s:ByteArray):List UInt8:=s.data.toList
theorem lP_ (s:ByteArray):s.toList=bs s:=Lib.toList_data s
theorem hA_ {a b:ByteArray} (h:bs a=bs b):a=b:=by
 obtain⟨⟨x⟩⟩:=a;obtain⟨⟨y⟩⟩:=b;simp [bs] at h;rw[h]
@[simp] theorem xV_ (l:List UInt8):bs (mkS l)=l:=rfl
@[simp] theorem DZ_ (s:ByteArray):mkS (bs s)=s:=hA_ rfl
@[simp] theorem cp_ (s:ByteArray):(bs s).length=s.size:=by simp [bs]
@[simp] theorem DP_ (l:List UInt8):(mkS l).size=l.length:=by rw[←cp_]; rfl
theorem DU_ {a b:List UInt8} (h:mkS a=mkS b):a=b:=by rw[←xV_ a,h]; rfl
@[simp] theorem jc_ (a b:ByteArray):co_ a b=decide (a=b):=by
 unfold co_;rw[lP_,lP_,Bool.eq_iff_iff];simp only[beq_iff_eq,decide_eq_true_eq];exact⟨hA_,fun h=>by rw[h]⟩
theorem ia_ (a b:ByteArray):cS_ a b=Op.bytesLess (bs a) (bs b):=by unfold cS_; rw[lP_,lP_]
theorem td_:∀ x y:List UInt8,(Op.bytesLess x y=true∧x≠y∧Op.bytesLess y x=false)∨(x=y∧Op.bytesLess x y=false∧Op.bytesLess y x=false)∨(Op.bytesLess y x=true∧x≠y∧Op.bytesLess x y=false)
 | [],[]=> .inr (.inl ⟨rfl,rfl,rfl⟩)
 | [],_::_=> .inl ⟨rfl,by simp,rfl⟩
 | _::_,[]=> .inr (.inr ⟨rfl,by simp,rfl⟩)
 | a::x,b::y=>by
  simp only[Op.bytesLess];rcases Nat.lt_trichotomy a.toNat b.toNat with h | h | h
  ·have h1:a < b:=h;have h2: ¬ b < a:=fun q=>by have:b.toNat < a.toNat:=q; omega
   have h3:a≠b:=fun q=>by subst q; omega
   left;simp [h1,h2,h3,Ne.symm h3]
  ·have h3:a=b:=UInt8.toNat_inj.1 h;subst h3;have h2: ¬ a < a:=fun q=>by have:a.toNat < a.toNat:=q; omega
   simp only[h2,decide_false,Bool.false_or,beq_self_eq_true,Bool.true_and,List.cons.injEq,true_and,ne_eq];exact td_ x y
  ·have h1:b < a:=h;have h2: ¬ a < b:=fun q=>by have:a.toNat < b.toNat:=q; omega
   have h3:a≠b:=fun q=>by subst q; omega
   right; right;simp [h1,h2,h3,Ne.symm h3]
theorem uB_ (a b:ByteArray):cS_ a b= !(cS_ b a||decide (b=a)):=by
 rw[ia_,ia_];rcases td_ (bs a) (bs b) with⟨h1,h2,h3⟩ | ⟨h1,h2,h3⟩ | ⟨h1,h2,h3⟩
 ·rw[h1,h3]; simp; intro e; exact h2 (by rw[e])
 ·rw[h2,h3]; simp; exact (hA_ h1).symm
 ·rw[h1,h3]; simp
theorem cJ_ {n:Int} (h1: -9223372036854775808≤n) (h2:n≤9223372036854775807):ad_ .i64 n=n:=by
 show (if (true&&decide (n % (18446744073709551616:Int)≥9223372036854775808))=true then n % (18446744073709551616:Int) - 18446744073709551616 else n % (18446744073709551616:Int))=n;rw[Bool.true_and];by_cases h:n % (18446744073709551616:Int)≥9223372036854775808
 ·rw[if_pos (decide_eq_true h)]; omega
 ·rw[if_neg (by simpa using h)]; omega
theorem ar_ {k:Nat} (h:k≤4611686018427387904):ad_ .i64 ((k:Int)+1)=((k+1:Nat):Int):=by
 rw[cJ_ (by omega) (by omega)]; rfl
theorem dt_ {k:Nat} (h:k≤4611686018427387904):ad_ .i64 (((k+1:Nat):Int) - 1)=(k:Int):=by
 rw[cJ_ (by omega) (by omega)]; omega
theorem Dl_ {n:Int}:ad_ .u8 n=n % 256:=by
 simp [ad_,IntKind.wrap,IntKind.bits,IntKind.signed]
theorem vX_ {n:Int} (h1:0≤n) (h2:n≤255):ad_ .u8 n=n:=by rw[Dl_]; omega
theorem bO_ {H:Hp} {l o:Nat} {own:Bool} {t:TypeId} {cs:List GV} (h:H[l]? =some (.row own t cs)):gt H l o=cs[o]? :=by unfold gt; rw[h]
theorem iY_ {H:Hp} {l o n:Nat} {cs:List GV} (h:cells? H (some (l,o)) n=some cs) {j:Nat} (hj:j < n):gt H l (o+j)=cs[j]? :=by
 unfold cells? at h;simp only at h;split at h
 ·rename_i own t ds hl;split at h
  ·cases h;rw[bO_ hl,List.getElem?_take,if_pos hj,List.getElem?_drop]
  ·cases h
 ·cases h
theorem pj_ {H:Hp} {a:Pl} {n:Nat} {cs:List GV} (h:cells? H a n=some cs):cs.length=n:=by
 unfold cells? at h;split at h
 ·split at h
  ·cases h; simp_all
  ·cases h
 ·split at h
  ·split at h
   ·cases h; simp; omega
   ·cases h
  ·cases h
theorem oH_ {H:Hp} {l o n:Nat} {cs:List GV} (h:cells? H (some (l,o)) n=some cs):l < H.length:=by
 unfold cells? at h;simp only at h;split at h
 ·rename_i own t ds hl;exact (List.getElem?_eq_some_iff.1 hl).1
 ·cases h
theorem ow_ {H H':Hp} {a:Pl} {n:Nat} (h:∀ l o,a=some (l,o)→H'[l]? =H[l]?):cells? H' a n=cells? H a n:=by
 unfold cells?;cases a with
 | none=>rfl
 | some p=>obtain⟨l,o⟩:=p; simp only[h l o rfl]
theorem jv_ {H H':Hp} (hp:H<+:H') {a:Pl} {n:Nat} {cs:List GV} (h:cells? H a n=some cs):cells? H' a n=some cs:=by
 cases a with
 | none=>exact h
 | some p=>
  obtain⟨l,o⟩:=p;have hl:=oH_ h;rw[←h];refine ow_ fun l' o' e=> ?_;cases e;obtain⟨E,rfl⟩:=hp;rw[List.getElem?_append_left hl]
theorem cd_ {H H':Hp} (hp:H<+:H') {l:Nat} (hl:l < H.length):H'[l]? =H[l]? :=by
 obtain⟨E,rfl⟩:=hp;rw[List.getElem?_append_left hl]
theorem jq_ {H H':Hp} (hp:H<+:H'):H.length≤H'.length:=hp.length_le
theorem ce_ (H:Hp) (x:Obj):H<+:H++[x]:=List.prefix_append _ _
theorem d2_ {H0 H:Hp} (hp:H0<+:H) {l:Nat} (hl:H0.length≤l) (x:Obj):H0<+:H.set l x:=by
 obtain⟨E,rfl⟩:=hp;exact⟨E.set (l - H0.length) x,by rw[List.set_append_right _ _ hl]⟩
theorem ag_ {H:Hp} {l o:Nat} {v:GV} {K:GV→Prop} (h:gt H l o=some v):rd H l o K=K v:=by unfold rd; rw[h]
structure Ss (H:Hp) (a:Pl) (n:Nat) (xs:List ByteArray):Prop where
 cells:cells? H a n=some (xs.map GV.str)
 len:n=xs.length
 lim:n*16≤140737488351232
structure Is (H:Hp) (a:Pl) (n:Nat) (xs:List Int):Prop where
 cells:cells? H a n=some (xs.map (GV.int .i64))
 len:n=xs.length
 lim:n*8≤140737488351232
theorem Ss.mono {H H':Hp} (hp:H<+:H') {a:Pl} {n:Nat} {xs:List ByteArray} (h:Ss H a n xs):Ss H' a n xs:=⟨jv_ hp h.cells,h.len,h.lim⟩
theorem Is.mono {H H':Hp} (hp:H<+:H') {a:Pl} {n:Nat} {xs:List Int} (h:Is H a n xs):Is H' a n xs:=⟨jv_ hp h.cells,h.len,h.lim⟩
theorem Ss.nil (H:Hp):Ss H none 0 []:=⟨rfl,rfl,by omega⟩
theorem Is.nil (H:Hp):Is H none 0 []:=⟨rfl,rfl,by omega⟩
section
variable {H:Hp} {a:Pl} {n:Nat}
theorem Ss.rd {xs:List ByteArray} (h:Ss H a n xs) (k:Nat) {i:Int} (hi:i=k) (hk:k < xs.length) (K:ByteArray→Prop):
 (chk (leI 0 i&&ltI i (nI n)) (pS a fun n0 n1=>Am.rd H n0 (n1+tN i*1) fun v=>dS v K))=K xs[k]:=by
 subst hi;have hn:=h.len;have hkn:k < n:=by omega
 simp only[gW_,nX_,iH_,m9_,Int.toNat_natCast,Nat.mul_one];rw[decide_eq_true (show (0:Int)≤k by omega),decide_eq_true (show (k:Int) < n by omega)];cases a with
 | none=>have:=pj_ h.cells; have h2:=h.cells; simp [cells?] at h2; omega
 | some p=>
  obtain⟨l,o⟩:=p;simp only[Bool.and_self,am_,ah_];rw[ag_ (v:= .str xs[k]) (by rw[iY_ h.cells hkn]; simp [hk]),aB_]
theorem Is.rd {xs:List Int} (h:Is H a n xs) (k:Nat) {i:Int} (hi:i=k) (hk:k < xs.length) (K:Int→Prop):
 (chk (leI 0 i&&ltI i (nI n)) (pS a fun n0 n1=>Am.rd H n0 (n1+tN i*1) fun v=>dI .i64 v K))=K xs[k]:=by
 subst hi;have hn:=h.len;have hkn:k < n:=by omega
 simp only[gW_,nX_,iH_,m9_,Int.toNat_natCast,Nat.mul_one];rw[decide_eq_true (show (0:Int)≤k by omega),decide_eq_true (show (k:Int) < n by omega)];cases a with
 | none=>have:=pj_ h.cells; have h2:=h.cells; simp [cells?] at h2; omega
 | some p=>
  obtain⟨l,o⟩:=p;simp only[Bool.and_self,am_,ah_];rw[ag_ (v:= .int .i64 xs[k]) (by rw[iY_ h.cells hkn]; simp [hk]),ak_]
end
def Own (H:Hp) (b:Nat) (t:TypeId) (a:Pl) (n:Nat) (cs:List GV):Prop:=
 (a=none∧n=0∧cs=[])∨∃ l,a=some (l,0)∧b≤l∧H[l]? =some (.row true t cs)∧cs.length=n
theorem Own.len {H:Hp} {b:Nat} {t:TypeId} {a:Pl} {n:Nat} {cs:List GV} (h:Own H b t a n cs):cs.length=n:=by
 rcases h with⟨_,rfl,rfl⟩ | ⟨_,_,_,_,h⟩
 ·rfl
 ·exact h
theorem Own.cells {H:Hp} {b:Nat} {t:TypeId} {a:Pl} {n:Nat} {cs:List GV} (h:Own H b t a n cs):cells? H a n=some cs:=by
 rcases h with⟨rfl,rfl,rfl⟩ | ⟨l,rfl,_,hl,rfl⟩
 ·rfl
 ·simp [cells?,hl]
theorem Own.keep {H H':Hp} {b:Nat} {t:TypeId} {a:Pl} {n:Nat} {cs:List GV} (h:Own H b t a n cs) (hk:∀ l,a=some (l,0)→H'[l]? =H[l]?):Own H' b t a n cs:=by
 rcases h with h | ⟨l,rfl,hb,hl,hn⟩
 ·exact .inl h
 ·exact .inr ⟨l,rfl,hb,by rw[hk l rfl]; exact hl,hn⟩
theorem Own.lt {H:Hp} {b:Nat} {t:TypeId} {l:Nat} {n:Nat} {cs:List GV} (h:Own H b t (some (l,0)) n cs):l < H.length:=by
 rcases h with⟨h,_⟩ | ⟨l',e,_,hl,_⟩
 ·cases h
 ·cases e; exact (List.getElem?_eq_some_iff.1 hl).1
structure Ex (H0:Hp) (a:Pl) (H H':Hp):Prop where
 pre:H0<+:H'
 len:H.length≤H'.length
 row:∀ l,l < H.length→a≠some (l,0)→H'[l]? =H[l]?
theorem nj_ {H0 H:Hp} {t by_:Nat} {a:Pl} {n m:Nat} {cs ds:List GV} {K:Pl→Nat→Hp→Prop} (h0:H0<+:H) (h:Own H H0.length t a n cs) (hm:ds.length=m) (hl:(n+m)*by_≤Lim)
 (hK:∀ a' H',Own H' H0.length t a' (n+m) (cs++ds)→Ex H0 a H H'→(∀ l o,a'=some (l,o)→H.length≤l)→K a' (n+m) H'):ap H t 1 by_ a n ds m K:=by
 unfold ap app?;rw[if_pos ⟨hl,by omega⟩];rcases h with⟨rfl,rfl,rfl⟩ | ⟨l,rfl,hb,hrow,rfl⟩
 ·simp only[Nat.zero_add] at hK ⊢;by_cases hm0:m=0
  ·subst hm0;obtain rfl:ds=[]:=List.eq_nil_of_length_eq_zero hm;simp only[if_pos];exact hK none H (.inl ⟨rfl,rfl,rfl⟩) ⟨h0,Nat.le_refl _,fun _ _ _=>rfl⟩ (fun _ _ e=>by cases e)
  ·simp only[if_pos,if_neg hm0];refine hK _ _ (.inr ⟨H.length,rfl,jq_ h0,by simp,by simpa using hm⟩) ⟨h0.trans (List.prefix_append _ _),by simp,fun l hl _=>by rw[List.getElem?_append_left hl]⟩ (fun _ _ e=>by cases e; exact Nat.le_refl _)
 ·simp only[hrow];rw[if_pos (by simp)];have hlt:=(List.getElem?_eq_some_iff.1 hrow).1;refine hK _ _ (.inr ⟨H.length,rfl,jq_ h0,by simp,by simp [hm]⟩) ⟨(d2_ h0 hb .dead).trans (List.prefix_append _ _),by simp,fun l' hl' hne=> ?_⟩ (fun _ _ e=>by cases e; exact Nat.le_refl _);have hll:l≠l':=fun e=>hne (by rw[e]);rw[List.getElem?_append_left (by simpa using hl'),List.getElem?_set_ne hll]
theorem sn_ {H:Hp} {t by_:Nat} {cs:List GV} {m:Nat} {K:Hp→Prop} (hl:m*by_≤Lim) (hm:cs.length=m) (hK:K (H++[.row true t cs])):ap0 H t 1 by_ cs m K:=⟨⟨hl,by omega⟩,hK⟩
theorem gM_ {H:Hp} {a:Pl} {n:Nat} {cs:List GV} {K:List GV→Prop} (h:cells? H a n=some cs):rdN H a n K=K cs:=by unfold rdN; rw[h]
theorem DQ_ {H:Hp} {l o:Nat} {t:TypeId} {cs:List GV} (v:GV) (h:H[l]? =some (.row true t cs)) (ho:o < cs.length):st? H l o v=some (H.set l (.row true t (cs.set o v))):=by
 unfold st?; rw[h]; simp [ho]
theorem kV_ {H:Hp} {l o:Nat} {t:TypeId} {cs:List GV} {v:GV} {K:Hp→Prop} (h:H[l]? =some (.row true t cs)) (ho:o < cs.length):wr H l o v K=K (H.set l (.row true t (cs.set o v))):=by
 unfold wr; rw[DQ_ v h ho]
def u8s (l:List UInt8):List GV:=l.map fun b=> .int .u8 b.toNat
theorem Db_ (x y:List UInt8):u8s (x++y)=u8s x++u8s y:=by simp [u8s]
theorem CF_ (s:ByteArray):bytesOf s=u8s (bs s):=rfl
theorem yh_ {K:List UInt8→Prop}:∀ l:List UInt8,jM_ (u8s l) K=K l:=by
 intro l;induction l generalizing K with
 | nil=>rfl
 | cons b l ih=>
  show (dI .u8 (.int .u8 b.toNat) fun n=>jM_ (u8s l) fun r=>K (bof n::r))=_;rw[ak_,ih];simp [bof]
theorem ol_ (l:List UInt8) (K:ByteArray→Prop):txt (u8s l) K=K (mkS l):=by unfold txt; rw[yh_]
theorem qv_ {n:Int} (h1:0≤n) (h2:n≤255):GV.int .u8 (ad_ .u8 n)= .int .u8 ((bof n).toNat:Int):=by
 rw[vX_ h1 h2];congr 1;simp [bof];omega
end Go.Am
