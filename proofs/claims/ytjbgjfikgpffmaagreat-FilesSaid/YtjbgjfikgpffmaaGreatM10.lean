import Derived.Test.YtjbgjfikgpffmaaGreatM9
set_option linter.all false
set_option autoImplicit true
set_option relaxedAutoImplicit true
set_option maxRecDepth 100000
namespace Go.Am
def PC.on(c:PC)(l:Nat):Prop:=∃o,c.a1=some (l,o)\/c.a2=some (l,o)\/c.a3=some (l,o)
theorem PC.at.lt{c:PC}(h:c.at H p){l:Nat}(A:c.on l):l<H.length:=by
 obtain⟨o,r|r|r⟩:=A
 .have:=h.keys.cells;rw[r]at this;exact q6_ this
 .have:=h.vals.cells;rw[r]at this;exact q6_ this
 .have:=h.kids.cells;rw[r]at this;exact q6_ this
theorem PC.at.keep{c:PC}(h:c.at H p)(A:∀l,c.on l->H'[l]?=H[l]?):c.at H' p:=by
 have⟨F,G,r,D,C⟩:=h;refine⟨F,G,⟨?_,r.len,r.lim⟩,⟨?_,D.len,D.lim⟩,⟨?_,C.len,C.lim⟩⟩
 .rw[<-r.cells];exact i1_ λl o e=>A l ⟨o,.inl e⟩
 .rw[<-D.cells];exact i1_ λl o e=>A l ⟨o,.inr (.inl e)⟩
 .rw[<-C.cells];exact i1_ λl o e=>A l ⟨o,.inr (.inr e)⟩
def j9_ {H0 H:Hp} {t z C:Nat} (Y:1<=z) (D:H0<+:H) (h:Own H H0.length t a (n*z) cs) (F:ds.length=m*z) (N:(n+m)*C<=Lim)
 (I:∀O H',Own H' H0.length t O ((n+m)*z) (cs++ds)->Ex H0 a H H'->(∀l o,O=some (l,o)->H.length<=l/\o=0)->K O (n+m) H'):ap H t z C a n ds m K:=by
 unfold ap app?;rw[if_pos ⟨N,F⟩];rcases h with⟨rfl,hn,rfl⟩|⟨l,rfl,V,A,r⟩
 .have J:n=0:=by rcases Nat.eq_zero_or_pos n with e|e;exact e;have:=Nat.mul_le_mul e Y;omega
  subst J;simp at I ⊢;by_cases G:m=0
  .subst G;rw[Nat.zero_mul]at F;obtain rfl:ds=[]:=List.eq_nil_of_length_eq_zero F;exact I none H (.inl ⟨rfl,o_,rfl⟩) ⟨D,kO _,λ_ _ _=>rfl⟩ λ_ _ e=>k_ e
  .simp[if_neg G];refine I _ _ (.inr ⟨H.length,rfl,q4_ D,t_,F⟩) ⟨D.trans (List.prefix_append _ _),t_,λl N _=>by rw[kM N]⟩ (λ_ _ e=>by cases e;exact⟨kO _,rfl⟩)
 .simp only[A];rw[if_pos ⟨trivial,trivial,r⟩];refine I _ _ (.inr ⟨H.length,rfl,q4_ D,t_,by rw[kI,r,F,Nat.add_mul]⟩) ⟨(dI_ D V .dead).trans (List.prefix_append _ _),t_,λZ U W=>?_⟩ (λ_ _ e=>by cases e;exact⟨kO _,rfl⟩);grind
structure OT(H:Hp)(b:Nat)(t:TypeId)(a:Pl)(n:Nat)(cs:List PC)(T:List Pg):Prop where
 own:Own H b t a (n*5) (a0_ cs)
 len:cs.length=n
 lenT:T.length=n
 all:∀i (h:i<cs.length) (h':i<T.length),(cs[i]).at H T[i]
 off:∀c∈cs,∀l,c.on l->a≠some (l,0)
section
variable{H0 H H':Hp}{b:Nat}{t:TypeId}{a:Pl}{n:Nat}{cs:List PC}{T:List Pg}{c:PC}{p:Pg}
def OT.tr(h:OT H b t a n cs T):Tr H a n cs T:=⟨h.own.cells,h.len,h.lenT,h.all⟩
def OT.nil(H:Hp)(b:Nat)(t:TypeId):OT H b t none 0 [] []:=⟨.inl ⟨rfl,rfl,rfl⟩,rfl,rfl,λi h=>t_,λc h=>t_⟩
theorem OT.keep(h:OT H b t a n cs T)(A:∀l,a=some (l,0)->H'[l]?=H[l]?)(C:∀c∈cs,∀l,c.on l->H'[l]?=H[l]?):OT H' b t a n cs T:=
 ⟨h.own.keep A,h.len,h.lenT,λi r D=>(h.all i r D).keep (C _ (kE r)),h.off⟩
theorem OT.onlt(h:OT H b t a n cs T)(r:c∈cs)(A:c.on l):l<H.length:=by
 obtain⟨i,C,rfl⟩:=kK r;exact (h.all i C (by have:=h.len;have:=h.lenT;omega)).lt A
theorem OT.mono(h:OT H b t a n cs T)(r:H<+:H'):OT H' b t a n cs T:=h.keep (λl e=>a9_ r (h.own.lt' e)) λc A l C=>a9_ r (h.onlt A C)
theorem OT.ex(h:OT H b t a n cs T)(r:Ex H0 x H H')(D:Dj x a)(F:∀c∈cs,∀l,c.on l->x≠some (l,0)):OT H' b t a n cs T:=
 h.keep (λl e=>r.row l (h.own.lt' e) λG=>D l G e) λc A l C=>r.row l (h.onlt A C) (F c A l C)
theorem OT.add (h:OT H H0.length t a n cs T) (F:H0<+:H) (D:c.at H p) (A:∀l,c.on l->a≠some (l,0)) (r:(n+1)*80<=Lim)
 (G:∀C H',OT H' H0.length t C (n+1) (cs++[c]) (T++[p])->Ex H0 a H H'->(∀l o,C=some (l,o)->H.length<=l/\o=0)->K C (n+1) H'):ap H t 5 80 a n [.bool c.u,.bool c.l,.sl c.a1 c.n1 1,.sl c.a2 c.n2 1,.sl c.a3 c.n3 1] 1 K:=by
 refine j9_ o_ F h.own rfl r λC H' o x f=>G C H' ⟨by simpa[a0_,PC.cells] using o,by simp[h.len],by simp[h.lenT],λi O J=>?_,λd I l r e=>?_⟩ x f
 .rw[List.getElem_append,List.getElem_append];have U:=h.len;have N:=h.lenT;by_cases e:i<n
  .rw[dif_pos o_,dif_pos o_];exact (h.all i o_ o_).keep λl r=>x.row l (h.onlt (kE _) r) (h.off _ (kE _) l r)
  .rw[dif_neg o_,dif_neg o_];simp;exact D.keep λl r=>x.row l (D.lt r) (A l r)
 .have:=(f l 0 e).1;rcases kD.1 I with q|q
  .have:=h.onlt q r;omega
  .rw[List.mem_singleton.1 q]at r;have:=D.lt r;omega
end
structure PC.own(c:PC)(H:Hp)(b:Nat)(p:Pg):Prop where
 used:p.used=c.u
 leaf:p.leaf=c.l
 keys:Own H b tS c.a1 c.n1 (p.keys.map GV.str)
 vals:Own H b tS c.a2 c.n2 (p.vals.map GV.str)
 kids:Own H b tI c.a3 c.n3 (p.kids.map (GV.int .i64))
 d12:Dr c.a1 c.a2
 d13:Dr c.a1 c.a3
 d23:Dr c.a2 c.a3
theorem PC.own.keep{c:PC}(h:c.own H b p)(r:∀l,c.on l->H'[l]?=H[l]?):c.own H' b p:=
 ⟨h.used,h.leaf,h.keys.keep λl e=>r l ⟨0,.inl e⟩,h.vals.keep λl e=>r l ⟨0,.inr (.inl e)⟩,h.kids.keep λl e=>r l ⟨0,.inr (.inr e)⟩,h.d12,h.d13,h.d23⟩
section
variable{H:Hp}{Q:Post}{c:PC}{p:Pg}
def r5_(h:c.at H p)(hQ:∀d:PC,∀H',H<+:H'->d.at H' p->d.own H' H.length p->(∀l,d.on l->H.length<=l)->d.u=c.u->d.l=c.l->Q (.agg [.bool d.u,.bool d.l,.sl d.a1 d.n1 1,.sl d.a2 d.n2 1,.sl d.a3 d.n3 1]) H'):
 fq_ [.agg [.bool c.u,.bool c.l,.sl c.a1 c.n1 1,.sl c.a2 c.n2 1,.sl c.a3 c.n3 1]] H Q:=by
 have⟨J,W,C,G,F⟩:=h;have O:=C.len;have D:=G.len;have I:=F.len;have l1:=C.lim;have l2:=G.lim;have l3:=F.lim;refine⟨1,?_⟩;rw[sM_,af_,Nat.mul_one,d5_ C.cells];refine p5_ (by unfold Lim;omega) g_ ?_;have V:=b4_ H (.row true tS (p.keys.map GV.str));rw[af_,Nat.mul_one,d5_ (G.mono V).cells];refine p5_ (by unfold Lim;omega) (by simp[D]) ?_;have p2:=V.trans (b4_ (H++[.row true tS (p.keys.map GV.str)]) (.row true tS (p.vals.map GV.str)));rw[af_,Nat.mul_one,d5_ (F.mono p2).cells];refine p5_ (by unfold Lim;omega) (by simp[I]) ?_;have N:Own (((H++[Obj.row true tS (p.keys.map GV.str)])++[Obj.row true tS (p.vals.map GV.str)])++[Obj.row true tI (p.kids.map (GV.int .i64))]) H.length tS (some (H.length,0)) c.n1 (p.keys.map GV.str):= .inr ⟨_,rfl,kO _,t_,by simp[O]⟩;have Z:Own (((H++[Obj.row true tS (p.keys.map GV.str)])++[Obj.row true tS (p.vals.map GV.str)])++[Obj.row true tI (p.kids.map (GV.int .i64))]) H.length tS (some ((H++[Obj.row true tS (p.keys.map GV.str)]).length,0)) c.n2 (p.vals.map GV.str):= .inr ⟨_,rfl,t_,t_,by simp[D]⟩;have Y:Own (((H++[Obj.row true tS (p.keys.map GV.str)])++[Obj.row true tS (p.vals.map GV.str)])++[Obj.row true tI (p.kids.map (GV.int .i64))]) H.length tI (some (((H++[Obj.row true tS (p.keys.map GV.str)])++[Obj.row true tS (p.vals.map GV.str)]).length,0)) c.n3 (p.kids.map (GV.int .i64)):= .inr ⟨_,rfl,t_,t_,by simp[I]⟩;refine hQ ⟨c.u,c.l,some (H.length,0),c.n1,some ((H++[Obj.row true tS (p.keys.map GV.str)]).length,0),c.n2,some (((H++[Obj.row true tS (p.keys.map GV.str)])++[Obj.row true tS (p.vals.map GV.str)]).length,0),c.n3⟩ _ (p2.trans (List.prefix_append _ _)) ⟨J,W,⟨N.cells,O,l1⟩,⟨Z.cells,D,l2⟩,⟨Y.cells,I,l3⟩⟩ ⟨J,W,N,Z,Y,?_,?_,?_⟩ ?_ rfl rfl
 .intro l o U A r;simp at A r;omega
 .intro l o U A r;simp at A r;omega
 .intro l o U A r;simp at A r;omega
 .rintro l ⟨o,q|q|q⟩<;>simp at q<;>omega
end
section
variable{H:Hp}{Q:Post}{a:Pl}{n:Nat}{cs:List PC}{T:List Pg}
def p7_ (hT:Tr H a n cs T) (hn:n*80<=140737488351232)
 (hQ:∀a' ds H',H<+:H'->OT H' H.length tPg a' n ds T->(∀i (h:i<ds.length) (h':i<T.length),(ds[i]).own H' H.length T[i])->(∀i j (hi:i<ds.length) (hj:j<ds.length),i≠j->∀l,(ds[i]).on l-> ¬ (ds[j]).on l)->Q (yA a' n) H'):
 cb_ [yA a n] H Q:=by
 have hlT:=hT.lenT;have loop:∀(f k:Nat)(a':Pl)(ds:List PC)(H':Hp),n-k<f->k<=n->H<+:H'->OT H' H.length tPg a' k ds (T.take k)->(∀i (h:i<ds.length) (h':i<T.length),(ds[i]).own H' H.length T[i])->
  (∀i j (hi:i<ds.length) (hj:j<ds.length),i≠j->∀l,(ds[i]).on l-> ¬ (ds[j]).on l)->cb_.l3 f a n none 0 a' k (k:Int) H' Q:=by
  intro f;induction f with
  |zero=>intro k _ _ _ h;omega
  | succ f ih=>
   intro k a' ds H' hf hk hp ho hown hap;rw[cb_.l3_eq];by_cases hkn:k<n
   ·obtain⟨l,o,c,p,rfl,hc,hpp,hpc,g0,g1,g2,g3,g4⟩:=(hT.mono hp).get hkn;have etN:tN (k:Int)=k:=rfl;rw[ay_ s_,af_];refine ab_ s_ ?_;rw[ad_,etN,cx_ g0 g1 g2 g3 g4];refine r5_ hpc λd H2 p2 hd hdo hfr hu hl=>?_;simp only[ez_,bc_,ak_,ah_,bI_];rw[af_];have ho2:=ho.mono p2;have hlen:=ho.len;refine ho2.add (hp.trans p2) hd (λl hl e=>by have:=hfr l hl;have:=ho.own.lt' e;omega) (by unfold Lim;have:=Nat.mul_le_mul_right 80 (o_:k+1<=n);omega) λa'' H3 o3 x3 f3=>?_;rw[ao_ o_];have hTk:T.take k++[p]=T.take (k+1):=by
     rw[List.take_add_one,hpp];rfl
    rw[hTk]at o3;have hpk:∀(h:k<T.length),T[k]=p:=λh=>by rw[kG h]at hpp;exact Option.some.inj hpp
    have keepA:∀i (h:i<ds.length) (l:Nat),(ds[i]).on l->H3[l]?=H'[l]? :=λi h l hl=>by
     rw[x3.row l (ho2.onlt (kE h) hl) (ho2.off _ (kE h) l hl),a9_ p2 (ho.onlt (kE h) hl)]
    refine ih (k+1) a'' _ H3 o_ o_ x3.pre o3 (λi h1 h2=>?_) λi j h1 h2 hne l hl1 hl2=>?_
    ·rw[List.getElem_append];by_cases e:i<k
     .rw[dif_pos o_];exact (hown i o_ h2).keep λl hl=>keepA i o_ l hl
     ·have e':i=k:=by simp[hlen]at h1;omega
      subst e';rw[dif_neg o_];simp only[List.getElem_singleton];rw[hpk h2];have hdo':d.own H3 H'.length p:=hdo.keep λl hl=>x3.row l (hd.lt hl) (λe=>by have:=hfr l hl;have:=ho.own.lt' e;omega);have hb:∀{t:TypeId}{x:Pl}{m:Nat}{es:List GV},Own H3 H'.length t x m es->Own H3 H.length t x m es:=λh=>by
       have:=hp.length_le;rcases h with h|⟨q,q1,q2,q3⟩
       .exact .inl h
       .exact .inr ⟨q,q1,o_,q3⟩
      exact⟨hdo'.used,hdo'.leaf,hb hdo'.keys,hb hdo'.vals,hb hdo'.kids,hdo'.d12,hdo'.d13,hdo'.d23⟩
    ·simp only[kI,List.length_singleton]at h1 h2;rw[List.getElem_append]at hl1 hl2;by_cases e1:i<k
     .rw[dif_pos o_]at hl1;by_cases e2:j<k
      .rw[dif_pos o_]at hl2;exact hap i j o_ o_ hne l hl1 hl2
      .rw[dif_neg o_]at hl2;simp only[List.getElem_singleton]at hl2;have:=hfr l hl2;have:=ho.onlt (kE (by omega:i<ds.length)) hl1;omega
     .rw[dif_neg o_]at hl1;simp only[List.getElem_singleton]at hl1;by_cases e2:j<k
      .rw[dif_pos o_]at hl2;have:=hfr l hl1;have:=ho.onlt (kE (by omega:j<ds.length)) hl2;omega
      .omega
   .obtain rfl:k=n:=by omega
    rw[aB_ t_];rw[k7 o_]at ho;exact hQ a' ds H' hp ho hown hap
 refine⟨n+2,?_⟩;rw[sp_];exact loop (n+1) 0 none [] H o_ (kP _) (k8 _) (OT.nil _ _ _) (λi h=>(j_ h)) λi j h=>(j_ h)
def kt_ {a2:Pl} {n2:Nat} {cs2:List PC} {T2:List Pg} (h1:Tr H a n cs T) (h2:Tr H a2 n2 cs2 T2) (hn:n<=4611686018427387904) (hQ:∀b,(b=true↔T=T2)->Q (gB b) H):bU_ [yA a n,yA a2 n2] H Q:=by
 have q1:=h1.lenT;have q2:=h2.lenT;refine⟨n+2,?_⟩;rw[t2_];refine aa_ (λe=>hQ _ ⟨λq=>(k_ q),λq=>?_⟩) λe=>?_
 .subst q;simp at e;omega
 have hnn:n=n2:=i_ e
 subst hnn;have loop:∀f k:Nat,n-k<f->k<=n->(∀i (h:i<T.length) (h':i<T2.length),i<k->T[i]=T2[i])->bU_.l4 f a n a2 n (k:Int) H Q:=by
  intro f;induction f with
  |zero=>intro k h;omega
  | succ f ih=>
   intro k hf hk he;rw[bU_.l4_eq];by_cases hkn:k<n
   ·obtain⟨l,o,c,p,rfl,hc,hp,hpc,g0,g1,g2,g3,g4⟩:=h1.get hkn;obtain⟨l',o',c',p',rfl,hc',hp',hpc',g0',g1',g2',g3',g4'⟩:=h2.get hkn;have etN:tN (k:Int)=k:=rfl;rw[ay_ s_,af_];refine ab_ s_ ?_;rw[ad_,etN,cx_ g0 g1 g2 g3 g4,af_];refine ab_ s_ ?_;rw[ad_,cx_ g0' g1' g2' g3' g4'];refine qa_ hpc hpc' λb hb=>?_;simp only[aJ_,ak_];have e1:∀h:k<T.length,T[k]=p:=λh=>by rw[kG h]at hp;exact Option.some.inj hp
    have e2:∀h:k<T2.length,T2[k]=p':=λh=>by rw[kG h]at hp';exact Option.some.inj hp'
    refine aa_ (λeb=>hQ _ ⟨λq=>(k_ q),λq=>?_⟩) λeb=>?_
    .have:p=p':=by rw[<-e1 o_,<-e2 o_];congr 1
     rw[hb.2 this]at eb;cases eb
    ·rw[ao_ o_];refine ih (k+1) o_ o_ λi hi1 hi2 hik=>?_;by_cases e:i<k
     .exact he i hi1 hi2 e
     .have e':i=k:=by omega
      subst e';rw[e1 hi1,e2 hi2];exact hb.1 (by cases b<;>simp_all)
   .rw[aB_ s_];exact hQ _ ⟨λ_=>List.ext_getElem o_ λi hi1 hi2=>he i hi1 hi2 o_,λ_=>rfl⟩
 exact loop _ 0 o_ (kP _) λi _ _ h=>o_
end
end Go.Am
namespace Go.Am
open List
def aP_(n k i:Nat):Nat:=n*i / k
def kOf(n most:Nat):Nat:=max 1 ((n+most-1) / most)
def my_(r:i<=k)(A:0<k):aP_ n k i<=n:=Nat.div_le_of_le_mul (by rw[Nat.mul_comm];exact Nat.mul_le_mul_right _ r)
def lz_(n k i:Nat):aP_ n k i<=aP_ n k (i+1):=Nat.div_le_div_right (Nat.mul_le_mul_left _ o_)
theorem gi_(n k:Nat):aP_ n k 0=0:=by simp[aP_]
theorem nB_(h:0<k):aP_ n k k=n:=Nat.mul_div_cancel _ h
def HZ_(r:i<k)(A:0<n):aP_ n k i<n:=by
 unfold aP_;rw[Nat.div_lt_iff_lt_mul o_];simp_all
theorem jx_(n most:Nat):0<kOf n most:=by unfold kOf;omega
def gw_(n most:Nat):List Nat:=(List.range (kOf n most)).map λi=>aP_ n (kOf n most) (i+1)-aP_ n (kOf n most) i
abbrev Lvl:=List (Pg × Y_)
def h9_ (ps:List (Y_ × Y_)) (k i:Nat):Pg × Y_:=
 (⟨true,true,((ps.drop (aP_ ps.length k i)).take (aP_ ps.length k (i+1)-aP_ ps.length k i)).map (·.1),((ps.drop (aP_ ps.length k i)).take (aP_ ps.length k (i+1)-aP_ ps.length k i)).map (·.2),[]⟩,
  match decide (0<aP_ ps.length k (i+1)-aP_ ps.length k i) with|true=>(ps[aP_ ps.length k i]?.map (·.1)).getD (mkS [])|false=>mkS [])
def cV_(ps:List (Y_ × Y_)):Lvl:=(List.range (kOf ps.length 4)).map (h9_ ps (kOf ps.length 4))
def qn_ (xs:Lvl) (next k i:Nat):Pg × Y_:=
 (⟨true,false,((xs.drop (aP_ xs.length k i+1)).take (aP_ xs.length k (i+1)-(aP_ xs.length k i+1))).map (·.2),[],(List.range (aP_ xs.length k (i+1)-aP_ xs.length k i)).map λj=>((next+(aP_ xs.length k i+j):Nat):Int)⟩,
  (xs[aP_ xs.length k i]?.map (·.2)).getD (mkS []))
def upD(xs:Lvl)(next:Nat):Lvl:=(List.range (kOf xs.length 5)).map (qn_ xs next (kOf xs.length 5))
def eC_(T:List Pg)(xs:Lvl)(next:Nat):Nat->List Pg
 |0=>T
 |j+1=>(eC_ T xs next j).set (next+j) ((xs[j]?.map (·.1)).getD noPg)
def ng_:List Pg:=⟨true,true,[],[],[]⟩::replicate 47 noPg
def hS_:Nat->List Pg->Nat->Lvl->List Pg
 |0,T,_,_=>T
 |f+1,T,next,xs=>match decide (1<xs.length) with
  |true=>hS_ f (eC_ T xs next xs.length) (next+xs.length) (upD xs next)
  |false=>T.set 0 ((xs[0]?.map (·.1)).getD noPg)
def oI_(ps:List (Y_ × Y_)):List Pg:=hS_ 64 ng_ 1 (cV_ ps)
section
variable{H:Hp}{Q:Post}
theorem C4_(a b:Nat):Int.tdiv (a:Int) (b:Int)=((a / b:Nat):Int):=(Int.ofNat_tdiv a b).symm
def mM_ {n most:Nat} (hn:n<=1000) (h1:1<=most) (h2:most<=1000) (hQ:∀a' H',H<+:H'->Own H' H.length tI a' (kOf n most) (((gw_ n most).map λ(x:Nat)=>(x:Int)).map (GV.int .i64))->Is H' a' (kOf n most) ((gw_ n most).map λ(x:Nat)=>(x:Int))->Q (nL a' (kOf n most) 1) H'):
 c1_ [gI (n:Int),gI (most:Int)] H Q:=by
 have hk:=jx_ n most;have hk1:kOf n most<=2000:=by
  unfold kOf;have:(n+most-1) / most<=n+most-1:=Nat.div_le_self _ _;omega
 have hm:mxI 1 (ae_ .i64 (Int.tdiv (ae_ .i64 ((ae_ .i64 ((n:Int)+(most:Int)))-1)) (most:Int)))=(kOf n most:Int):=by
  rw[cf_ (n:=(n:Int)+(most:Int)) o_ o_,cf_ (n:=(n:Int)+(most:Int)-1) o_ o_];have e:(n:Int)+(most:Int)-1=((n+most-1:Nat):Int):=o_
  have hq:(n+most-1) / most<=n+most-1:=Nat.div_le_self _ _;rw[e,C4_];unfold kOf mxI;generalize (n+most-1) / most=q at*;rw[cf_ o_ o_];split<;>omega
 refine⟨kOf n most+2,?_⟩;rw[yI_,hm];refine ab_ (by rw[iF_];simp;omega) ?_;generalize hkk:kOf n most=k at*;have hcut:∀i,i<=k->ae_ .i64 (Int.tdiv (ae_ .i64 ((n:Int)*(i:Int))) (k:Int))=(aP_ n k i:Int):=by
  intro i hi;have hb:n*i<=1000*2000:=Nat.mul_le_mul hn o_;have e:(n:Int)*(i:Int)=((n*i:Nat):Int):=t_
  rw[e,cf_ (n:=((n*i:Nat):Int)) o_ o_,C4_];have hd:n*i / k<=n*i:=Nat.div_le_self _ _;unfold aP_;generalize n*i / k=q at*;generalize n*i=q2 at*;rw[cf_ o_ o_]
 have loop:∀(f i:Nat)(a':Pl)(H':Hp),k-i<f->i<=k->H<+:H'->Own H' H.length tI a' i ((((List.range i).map λi=>aP_ n k (i+1)-aP_ n k i).map λ(x:Nat)=>(x:Int)).map (GV.int .i64))->c1_.l4 f (n:Int) (k:Int) a' i (i:Int) H' Q:=by
  intro f;induction f with
  |zero=>intro i _ _ h;omega
  | succ f ih=>
   intro i a' H' hf hi hp ho;rw[c1_.l4_eq];by_cases hik:i<k
   .rw[ay_ s_];refine ab_ (by rw[iF_];simp;omega) (ab_ (by rw[iF_];simp;omega) ?_);rw[af_,ao_ o_,hcut (i+1) o_,hcut i o_];have hmono:=lz_ n k i;have hle:=my_ (n:=n) (k:=k) (i:=i+1) o_ o_;have e:ae_ .i64 ((aP_ n k (i+1):Int)-(aP_ n k i:Int))=((aP_ n k (i+1)-aP_ n k i:Nat):Int):=by rw[cf_ o_ o_];omega
    rw[e];refine k5_ hp ho rfl (by unfold Lim;omega) λa'' H'' o x _=>?_;refine ih (i+1) a'' H'' o_ o_ x.pre ?_;rw[range_succ,kL,kL,kL];exact o
   .obtain rfl:i=k:=by omega
    rw[aB_ t_];have hs:gw_ n most=(List.range i).map λj=>aP_ n i (j+1)-aP_ n i j:=by unfold gw_;rw[hkk]
    refine hQ a' H' hp (by rw[hs];exact ho) ⟨?_,?_,o_⟩
    .rw[hs];exact ho.cells
    .rw[hs];simp
 exact loop _ 0 none H o_ (kP _) (k8 _) (.inl ⟨rfl,rfl,rfl⟩)
def t6_:List PC:=⟨true,true,none,0,none,0,none,0⟩::replicate 47 ⟨false,false,none,0,none,0,none,0⟩
def rl_{cs:List GV}(r:j<cs.length)(A:K (H++[.row true t (cs.set j v)])):wr (H++[.row true t cs]) H.length j v K:=by
 refine ce_ (own:=t) t_ r ?_;grind
theorem GP_(i:Nat)(h:i<t6_.length):t6_[i]'h=if i=0 then ⟨true,true,none,0,none,0,none,0⟩ else ⟨false,false,none,0,none,0,none,0⟩:=by
 cases i with
 |zero=>rfl
 |succ i=>exact getElem_replicate (by have:i+1<48:=h;simp;omega)
theorem GQ_(i:Nat)(h:i<ng_.length):ng_[i]'h=if i=0 then ⟨true,true,[],[],[]⟩ else noPg:=by
 cases i with
 |zero=>rfl
 |succ i=>exact getElem_replicate (by have:i+1<48:=h;simp;omega)
def IJ_(H:Hp):∀i (h:i<t6_.length) (h':i<ng_.length),(t6_[i]'h).at H (ng_[i]'h'):=by
 intro i h h';rw[GP_ i h,GQ_ i h'];split
 .exact⟨rfl,rfl,.nil _,.nil _,.nil _⟩
 .exact EO_ _
def xt_:∀c∈t6_,∀l,¬ c.on l:=by
 intro c r l ⟨o,h⟩;unfold t6_ at r;grind
def JM_(H:Hp):OT (H++[.row true tPg (a0_ t6_)]) H.length tPg (some (H.length,0)) 48 t6_ ng_:=
 ⟨.inr ⟨H.length,rfl,kO _,t_,by rfl⟩,rfl,rfl,IJ_ _,λc A l r=>(xt_ c A l r).elim⟩
def k7_(r:∀H',H<+:H'->OT H' H.length tPg (some (H.length,0)) 48 t6_ ng_->Q (yA (some (H.length,0)) 48) H'):gK_ [] H Q:=by
 refine⟨1,?_⟩;rw[BV_,af_];have A:(lo_ (tN 48) [GV.bool false,.bool false,.sl none 0 1,.sl none 0 1,.sl none 0 1]).length=240:=rfl;exact rl_ (a_) (rl_ (a_) (rl_ (a_) (rl_ (a_) (rl_ (a_) (r _ (b4_ _ _) (JM_ H))))))
end
abbrev KV:=List (Y_ × Y_)
def bZ_(ps:KV):List GV:=ps.flatMap λx=>[.str x.1,.str x.2]
theorem nC_(ps:KV):(bZ_ ps).length=ps.length*2:=by
 unfold bZ_;induction ps with
 |nil=>rfl
 |cons c A r=>simp[r];omega
def Ck_ {i:Nat} (hi:i<ps.length):(bZ_ ps)[i*2]?=some (.str ps[i].1)/\(bZ_ ps)[i*2+1]?=some (.str ps[i].2):=by
 unfold bZ_;induction ps generalizing i with
 |nil=>simp at hi
 | cons c A r=>
  cases i with
  |zero=>simp
  |succ i=>
   grind
structure Kv(H:Hp)(a:Pl)(n:Nat)(ps:KV):Prop where
 cells:cells? H a (n*2)=some (bZ_ ps)
 len:ps.length=n
theorem Kv.mono{H H':Hp}(r:H<+:H')(h:Kv H a n ps):Kv H' a n ps:=⟨lX_ r h.cells,h.len⟩
theorem Kv.get (h:Kv H a n ps) (hi:i<ps.length):∃l o,a=some (l,o)/\gt H l (o+i*2)=some (.str ps[i].1)/\gt H l (o+i*2+1)=some (.str ps[i].2):=by
 have r:=h.cells;have D:=h.len;cases a with
 |none=>simp[cells?]at r;omega
 |some q=>
  have⟨l,o⟩:=q;have⟨A,C⟩:=Ck_ hi;refine⟨l,o,rfl,?_,?_⟩
  .rw[jR_ r o_,A]
  .rw[Nat.add_assoc,jR_ r o_,C]
structure LJ(B H:Hp)(x:Pl)(m:Nat)(cs:List PC)(T:List Pg)(y:Pl)(ls:List Y_)(k:Pl)(ks:List Y_)(v:Pl)(vs:List Y_):Prop where
 pre:B<+:H
 X:OT H B.length tPg x m cs T
 Y:Own H B.length tS y m (ls.map GV.str)
 K:Own H B.length tS k ks.length (ks.map GV.str)
 V:Own H B.length tS v vs.length (vs.map GV.str)
 xy:Dj x y
 xk:Dj x k
 xv:Dj x v
 yk:Dj y k
 yv:Dj y v
 kv:Dj k v
 yo:∀c∈cs,∀l,c.on l->y≠some (l,0)
 ko:∀c∈cs,∀l,c.on l->k≠some (l,0)
 vo:∀c∈cs,∀l,c.on l->v≠some (l,0)
 lo:∀c∈cs,∀l,c.on l->B.length<=l
section
variable{B H:Hp}{x:Pl}{m:Nat}{cs:List PC}{T:List Pg}{y:Pl}{ls:List Y_}{k:Pl}{ks:List Y_}{v:Pl}{vs:List Y_}
def OT.offNew{a r:Pl}(h:OT H b t a n cs T)(f:∀l o,r=some (l,o)->H.length<=l):∀c∈cs,∀l,c.on l->r≠some (l,0):=λc C l A e=>by
 have:=f l 0 e;have:=h.onlt C A;omega
theorem LJ.key (g:LJ B H x m cs T y ls k ks v vs) (s:Y_) (C:ks.length<=1000) {K:Pl->Nat->Hp->Prop} (A:∀r H',LJ B H' x m cs T y ls r (ks++[s]) v vs->K r (ks.length+1) H'):ap H tS 1 16 k ks.length [.str s] 1 K:=
 k5_ g.pre g.K rfl (by unfold Lim;omega) λr H' o e f=>A r H' ⟨e.pre,g.X.ex e g.xk.symm g.ko,g.Y.after g.yk.symm e,g_,g.V.after g.kv e,
  g.xy,(Dj.fresh g.X.own f).symm,g.xv,(Dj.fresh g.Y f).symm,g.yv,Dj.fresh g.V f,g.yo,g.X.offNew f,g.vo,g.lo⟩
def LJ.val (g:LJ B H x m cs T y ls k ks v vs) (s:Y_) (C:vs.length<=1000) {K:Pl->Nat->Hp->Prop} (A:∀r H',LJ B H' x m cs T y ls k ks r (vs++[s])->K r (vs.length+1) H'):ap H tS 1 16 v vs.length [.str s] 1 K:=
 k5_ g.pre g.V rfl (by unfold Lim;omega) λr H' o e f=>A r H' ⟨e.pre,g.X.ex e g.xv.symm g.vo,g.Y.after g.yv.symm e,g.K.after g.kv.symm e,g_,
  g.xy,g.xk,(Dj.fresh g.X.own f).symm,g.yk,(Dj.fresh g.Y f).symm,(Dj.fresh g.K f).symm,g.yo,g.ko,g.X.offNew f,g.lo⟩
def LJ.page (g:LJ B H x m cs T y ls k ks v vs) (hks:ks.length<=1000) (hvs:vs.length<=1000) (hm:m<=1000) (s:Y_) {K:Pl->Nat->Hp->Pl->Nat->Hp->Prop}
 (hK:∀x' C D F c,LJ B F x' (m+1) (cs++[c]) (T++[⟨true,true,ks,vs,[]⟩]) D (ls++[s]) none [] none []->K x' (m+1) C D (m+1) F):
 ap H tPg 5 80 x m [.bool true,.bool true,.sl k ks.length 1,.sl v vs.length 1,.sl none 0 1] 1 λx' n' C=>ap C tS 1 16 y m [.str s] 1 λD n2 F=>K x' n' C D n2 F:=by
 have A:∀l,(⟨true,true,k,ks.length,v,vs.length,none,0⟩:PC).on l->k=some (l,0)\/v=some (l,0):=by
  rintro l ⟨o,q|q|q⟩
  .rcases g.K with⟨e,_⟩|⟨N,e,_⟩
   .grind
   .grind
  .rcases g.V with⟨e,_⟩|⟨N,e,_⟩
   .grind
   .grind
  .cases q
 have U:(⟨true,true,k,ks.length,v,vs.length,none,0⟩:PC).at H ⟨true,true,ks,vs,[]⟩:=
  ⟨rfl,rfl,⟨g.K.cells,rfl,g_⟩,⟨g.V.cells,rfl,by show vs.length*16<=_;omega⟩,.nil _⟩
 refine g.X.add g.pre U (λl r e=>by rcases A l r with q|q;exact g.xk l e q;exact g.xv l e q) (by unfold Lim;omega) λx' C W Z f1=>?_;have I:∀c∈cs++[(⟨true,true,k,ks.length,v,vs.length,none,0⟩)],∀l,c.on l->y≠some (l,0):=by
  intro c G l r e;rcases kD.1 G with q|q
  .exact g.yo c q l r e
  .rw[mem_singleton.1 q]at r;rcases A l r with q|q
   .exact g.yk l e q
   .exact g.yv l e q
 have J:=λl o e=>(f1 l o e).1;refine k5_ Z.pre (g.Y.after g.xy Z) rfl (by unfold Lim;omega) λD F o2 e2 f2=>hK x' C D F _ ⟨e2.pre,W.ex e2 (Dj.fresh g.Y J).symm I,g_,.inl ⟨rfl,rfl,rfl⟩,.inl ⟨rfl,rfl,rfl⟩,
  (Dj.fresh W.own f2).symm,λ_ _ e=>(k_ e),λ_ _ e=>(k_ e),λ_ _ e=>(k_ e),λ_ _ e=>(k_ e),λ_ e=>(k_ e),W.offNew f2,λc G l r e=>(k_ e),λc G l r e=>(k_ e),λc G l r=>by
   rcases kD.1 G with q|q
   .exact g.lo c q l r
   ·rw[mem_singleton.1 q]at r;rcases A l r with q|q
    .rcases g.K with⟨e,_⟩|⟨N,e,O,_⟩
     .rw[q]at e;cases e
     .rw[q]at e;cases e;exact O
    .rcases g.V with⟨e,_⟩|⟨N,e,O,_⟩
     .rw[q]at e;cases e
     .rw[q]at e;cases e;exact O⟩
end
section
variable{H0:Hp}{Q:Post}{a:Pl}{n:Nat}{ps:KV}
def tl_ (hp:Kv H0 a n ps) (hn:n<=1000)
 (hQ:∀x y cs H',H0<+:H'->OT H' H0.length tPg x (cV_ ps).length cs ((cV_ ps).map (·.1))->Own H' H0.length tS y (cV_ ps).length (((cV_ ps).map (·.2)).map GV.str)->Dj x y->(∀c∈cs,∀l,c.on l->y≠some (l,0))->(∀c∈cs,∀l,c.on l->H0.length<=l)->
  Q (.agg [.sl x (cV_ ps).length 5,.sl y (cV_ ps).length 1]) H'):a7_ [nL a n 2] H0 Q:=by
 have hpl:=hp.len;refine⟨n+3*kOf ps.length 4+5,?_⟩;rw[wn_];have enI:nI n=((ps.length:Nat):Int):=by rw[jj_,hpl]
 rw[enI];refine mM_ (n:=ps.length) (most:=4) o_ o_ o_ λsa B pB _ hS=>?_;simp only[aJ_,ah_];have hk:=jx_ ps.length 4;have hD:cV_ ps=(List.range (kOf ps.length 4)).map (h9_ ps (kOf ps.length 4)):=rfl;have hSD:gw_ ps.length 4=(List.range (kOf ps.length 4)).map λi=>aP_ ps.length (kOf ps.length 4) (i+1)-aP_ ps.length (kOf ps.length 4) i:=rfl;have hk2:kOf ps.length 4<=1001:=by
  unfold kOf;have:(ps.length+4-1) / 4<=ps.length:=o_
  omega
 generalize kOf ps.length 4=k at*;have hDl:(cV_ ps).length=k:=by rw[hD];simp
 have hsl:((gw_ ps.length 4).map λ(x:Nat)=>(x:Int)).length=k:=by rw[hSD];simp
 have hsg:∀i (h:i<((gw_ ps.length 4).map λ(x:Nat)=>(x:Int)).length),((gw_ ps.length 4).map λ(x:Nat)=>(x:Int))[i]=((aP_ ps.length k (i+1)-aP_ ps.length k i:Nat):Int):=λi h=>by
  simp only[hSD,getElem_map,getElem_range]
 have loop:∀(F i:Nat)(H:Hp)(x:Pl)(cs:List PC)(y:Pl),n+3*(k-i)+1<F+aP_ ps.length k i->i<=k->LJ B H x i cs (((List.range i).map (h9_ ps k)).map (·.1)) y (((List.range i).map (h9_ ps k)).map (·.2)) none [] none []->
  a7_.l5 F a n none 0 none 0 x i y i sa k ((aP_ ps.length k i:Nat):Int) (i:Int) H Q:=by
  intro F;induction F using Nat.strongRecOn with
  | _ F ihF=>
   intro i H x cs y hF hi g;have hci:=my_ (n:=ps.length) (k:=k) (i:=i) hi hk;obtain⟨F,rfl⟩:∃F',F=F'+1:=⟨F-1,o_⟩;rw[a7_.l5_eq];by_cases hik:i<k
   ·rw[ay_ s_];have hmono:=lz_ ps.length k i;have hci1:=my_ (n:=ps.length) (k:=k) (i:=i+1) o_ hk;have inner:∀(d G:Nat)(j:Nat)(H:Hp)(kk:Pl)(v:Pl),aP_ ps.length k (i+1)-j=d->aP_ ps.length k i<=j->j<=aP_ ps.length k (i+1)->n+3*(k-i)<G+j->G<=F->
     LJ B H x i cs (((List.range i).map (h9_ ps k)).map (·.1)) y (((List.range i).map (h9_ ps k)).map (·.2)) kk (((ps.drop (aP_ ps.length k i)).take (j-aP_ ps.length k i)).map (·.1)) v (((ps.drop (aP_ ps.length k i)).take (j-aP_ ps.length k i)).map (·.2))->
     a7_.l9 G a n none 0 none 0 x i y i sa k ((aP_ ps.length k i:Nat):Int) (i:Int) true true kk (((ps.drop (aP_ ps.length k i)).take (j-aP_ ps.length k i)).map (·.1)).length v (((ps.drop (aP_ ps.length k i)).take (j-aP_ ps.length k i)).map (·.2)).length none 0 (j:Int) H Q:=by
     intro d;induction d with
     | zero=>
      intro G j H kk v hd hj1 hj2 hG hGF g;obtain rfl:j=aP_ ps.length k (i+1):=o_
      obtain⟨G,rfl⟩:∃G',G=G'+2:=⟨G-2,o_⟩;have hS':=hS.mono g.pre;rw[a7_.l9_eq,af_,hS'.rd i rfl (by rw[hsl];exact hik),hsg];have w1:ae_ .i64 (((aP_ ps.length k i:Nat):Int)+((aP_ ps.length k (i+1)-aP_ ps.length k i:Nat):Int))=((aP_ ps.length k (i+1):Nat):Int):=by rw[cf_ o_ o_];omega
      rw[w1,aB_ t_,af_,hS'.rd i rfl (by rw[hsl];exact hik),hsg];have hle:((ps.drop (aP_ ps.length k i)).take (aP_ ps.length k (i+1)-aP_ ps.length k i)).length<=1000:=s_
      have fin:∀s,s=(h9_ ps k i).2->a7_.l16 (G+1) a n none 0 none 0 x i y i sa k ((aP_ ps.length k i:Nat):Int) (i:Int) true true kk (((ps.drop (aP_ ps.length k i)).take (aP_ ps.length k (i+1)-aP_ ps.length k i)).map (·.1)).length v (((ps.drop (aP_ ps.length k i)).take (aP_ ps.length k (i+1)-aP_ ps.length k i)).map (·.2)).length none 0 s H Q:=by
       intro s hs;rw[a7_.l16_eq,af_];refine g.page (u_ hle) (u_ hle) o_ s (K:=λx0 n1 H2 x3 n4 H5=>chk true (chk ((leI 0 (i:Int))&&(ltI (i:Int) (nI k))) (pS sa λn6 n7=>rd H5 n6 (n7+((tN (i:Int))*1)) λv8=>dI .i64 v8 λi9=>a7_.l5 G a n none 0 none 0 x0 n1 x3 n4 sa k (ae_ .i64 (((aP_ ps.length k i:Nat):Int)+i9)) (ae_ .i64 ((i:Int)+1)) H5 Q))) ?_;intro x' H1 y' H2 c g2;have hS2:=hS.mono g2.pre;rw[af_,hS2.rd i rfl (by rw[hsl];exact hik),hsg,w1,ao_ o_];refine ihF G o_ (i+1) H2 x' (cs++[c]) y' o_ o_ ?_;rw[range_succ,kL,kL,kL];rw[hs]at g2;exact g2
      refine aa_ (λe=>?_) λe=>?_
      .have h0:0<aP_ ps.length k (i+1)-aP_ ps.length k i:=by simp at e;omega
       have hlt:aP_ ps.length k i<ps.length:=o_
       obtain⟨l,o,ea,hg1,hg2⟩:=(hp.mono (pB.trans g.pre)).get hlt;subst ea;rw[af_];refine ab_ s_ ?_;have etN:tN ((aP_ ps.length k i:Nat):Int)=aP_ ps.length k i:=rfl;rw[ad_,etN,ac_ (v:= .str ps[aP_ ps.length k i].1) (by exact hg1),aq_];exact fin _ (by unfold h9_;rw[lE h0];simp[hlt])
      .have h0: ¬ 0<aP_ ps.length k (i+1)-aP_ ps.length k i:=by simp at e;omega
       exact fin _ (by unfold h9_;rw[lH h0])
     | succ d ihd=>
      intro G j H kk v hd hj1 hj2 hG hGF g;obtain⟨G,rfl⟩:∃G',G=G'+1:=⟨G-1,o_⟩;have hS':=hS.mono g.pre;have hjl:j<ps.length:=o_
      rw[a7_.l9_eq,af_,hS'.rd i rfl (by rw[hsl];exact hik),hsg];have w1:ae_ .i64 (((aP_ ps.length k i:Nat):Int)+((aP_ ps.length k (i+1)-aP_ ps.length k i:Nat):Int))=((aP_ ps.length k (i+1):Nat):Int):=by rw[cf_ o_ o_];omega
      rw[w1,ay_ s_,af_];obtain⟨l,o,ea,hg1,hg2⟩:=(hp.mono pB).get hjl;subst ea;have etN:tN (j:Int)=j:=rfl;have hlen:((ps.drop (aP_ ps.length k i)).take (j-aP_ ps.length k i)).length<=1000:=s_
      have hnext:(ps.drop (aP_ ps.length k i)).take (j+1-aP_ ps.length k i)=(ps.drop (aP_ ps.length k i)).take (j-aP_ ps.length k i)++[ps[j]]:=by
       have e1:j+1-aP_ ps.length k i=(j-aP_ ps.length k i)+1:=o_
       rw[e1,take_succ_eq_append_getElem s_];congr 1;simp;congr 1;omega
      refine ab_ s_ ?_;rw[ad_,etN,ac_ (v:= .str ps[j].1) (by exact cd_ g.pre hg1),aq_,af_];refine g.key ps[j].1 (u_ hlen) λk' H1 g1=>?_;rw[af_];refine ab_ s_ ?_;rw[ad_,ac_ (v:= .str ps[j].2) (by exact cd_ g1.pre hg2),aq_,af_];refine g1.val ps[j].2 (u_ hlen) λv' H2 g2=>?_;rw[ao_ o_];have:=ihd G (j+1) H2 k' v' o_ o_ o_ o_ o_ (by rw[hnext,kL,kL];exact g2);rw[hnext,kL,kL,kI,kI]at this;exact this
    have:=inner _ F (aP_ ps.length k i) H none none rfl (kO _) hmono o_ (kO _) (u_ g);simpa using this
   ·obtain rfl:i=k:=by omega
    rw[aB_ t_];have:=hQ x y cs H (pB.trans g.pre);rw[hDl,hD]at this;have hbl:=pB.length_le;refine this ⟨?_,g.X.len,g.X.lenT,g.X.all,g.X.off⟩ ?_ g.xy g.yo λc hc l hl=>h_ (g.lo c hc l hl)
    .rcases g.X.own with h|⟨l,h1,h2,h3⟩
     .exact .inl h
     .exact .inr ⟨l,h1,o_,h3⟩
    .rcases g.Y with h|⟨l,h1,h2,h3⟩
     .exact .inl h
     .exact .inr ⟨l,h1,o_,h3⟩
 have:=loop (n+3*k+4) 0 B none [] none (by rw[gi_];omega) (kP _) ⟨k8 _,OT.nil _ _ _,.inl ⟨rfl,rfl,rfl⟩,.inl ⟨rfl,rfl,rfl⟩,.inl ⟨rfl,rfl,rfl⟩,λ_ e=>(k_ e),λ_ e=>(k_ e),λ_ e=>(k_ e),λ_ e=>(k_ e),λ_ e=>(k_ e),λ_ e=>(k_ e),λc hc=>(j_ hc),λc hc=>(j_ hc),λc hc=>(j_ hc),λc hc=>(j_ hc)⟩;rw[gi_]at this;exact this
end
structure Sp(H:Hp)(M F:List Pl)(P:List PC):Prop where
 mm:∀i j,i≠j->Dj (M.getD i none) (M.getD j none)
 mf:∀i,∀b∈F,Dj (M.getD i none) b
 mp:∀i,∀c∈P,∀l,c.on l->M.getD i none≠some (l,0)
 lm:∀i l o,M.getD i none=some (l,o)->l<H.length
 lf:∀b∈F,∀l o,b=some (l,o)->l<H.length
 lp:∀c∈P,∀l,c.on l->l<H.length
section
variable{H H':Hp}{M F:List Pl}{P:List PC}{B:Hp}
def or_(M:List Pl)(j:Nat)(a:Pl)(i:Nat):(M.set j a).getD i none=a\/(M.set j a).getD i none=M.getD i none:=by
 grind
def Sp.grow(h:Sp H M F P)(r:H.length<=H'.length):Sp H' M F P:=
 ⟨h.mm,h.mf,h.mp,λi l o e=>Nat.lt_of_lt_of_le (h.lm i l o e) r,λb A l o e=>Nat.lt_of_lt_of_le (h.lf b A l o e) r,λc C l e=>Nat.lt_of_lt_of_le (h.lp c C l e) r⟩
theorem Sp.step (h:Sp H M F P) (C:H.length<=H'.length) (j:Nat) {a:Pl} (f:∀l o,a=some (l,o)->H.length<=l/\l<H'.length):Sp H' (M.set j a) F P:=by
 refine⟨λi k I l r A=>?_,λi b D l r A=>?_,λi c G l C e=>?_,λi l o e=>?_,λb D l o e=>Nat.lt_of_lt_of_le (h.lf b D l o e) C,λc G l e=>Nat.lt_of_lt_of_le (h.lp c G l e) C⟩
 ·by_cases N:(M.set j a).getD i none=M.getD i none
  ·by_cases J:(M.set j a).getD k none=M.getD k none
   .rw[N]at r;rw[J]at A;exact h.mm i k I l r A
   .rcases or_ M j a k with q|q
    .rw[q]at A;rw[N]at r;have:=f l 0 A;have:=h.lm i l 0 r;omega
    .grind
  ·by_cases J:(M.set j a).getD k none=M.getD k none
   .rcases or_ M j a i with q|q
    .rw[q]at r;rw[J]at A;have:=f l 0 r;have:=h.lm k l 0 A;omega
    .grind
   .grind
 .rcases or_ M j a i with q|q
  .rw[q]at r;have:=f l 0 r;have:=h.lf b D l 0 A;omega
  .rw[q]at r;exact h.mf i b D l r A
 .rcases or_ M j a i with q|q
  .rw[q]at e;have:=f l 0 e;have:=h.lp c G l C;omega
  .rw[q]at e;exact h.mp i c G l C e
 .rcases or_ M j a i with q|q
  .grind
  .rw[q]at e;exact Nat.lt_of_lt_of_le (h.lm i l o e) C
end
theorem DY_ (cs:List PC) (i:Nat) (c:PC) (hi:i<cs.length):(((((a0_ cs).set (i*5) (.bool c.u)).set (i*5+1) (.bool c.l)).set (i*5+1+1) (.sl c.a1 c.n1 1)).set (i*5+1+1+1) (.sl c.a2 c.n2 1)).set (i*5+1+1+1+1) (.sl c.a3 c.n3 1)=a0_ (cs.set i c):=by
 induction cs generalizing i with
 |nil=>simp at hi
 | cons d cs G=>
  have e:a0_ (d::cs)=d.cells++a0_ cs:=rfl;cases i with
  |zero=>rfl
  | succ i=>
   rw[e];have s:∀(x:List GV)(k:Nat)(v:GV),(d.cells++x).set (i*5+5+k) v=d.cells++x.set (i*5+k) v:=λx k v=>by
    rw[set_append_right _ _ s_];congr 2;simp;omega
   have A:(i+1)*5=i*5+5+0:=o_
   have C:(i+1)*5+1=i*5+5+1:=o_
   have F:(i+1)*5+1+1=i*5+5+(1+1):=o_
   have r:(i+1)*5+1+1+1=i*5+5+(1+1+1):=o_
   have D:(i+1)*5+1+1+1+1=i*5+5+(1+1+1+1):=o_
   rw[D,r,F,C,A,s,s,s,s,s];show d.cells++_=d.cells++a0_ (cs.set i c);grind
def wr5(h:H[l]?=some (.row true t (a0_ cs)))(hi:i<cs.length)(F:K (H.set l (.row true t (a0_ (cs.set i c))))):
 wr H l (i*5) (.bool c.u) λG=>wr G l (i*5+1) (.bool c.l) λD=>wr D l (i*5+1+1) (.sl c.a1 c.n1 1) λC=>wr C l (i*5+1+1+1) (.sl c.a2 c.n2 1) λI=>wr I l (i*5+1+1+1+1) (.sl c.a3 c.n3 1) K:=by
 have r:=(kC.1 h).1;have A:=cz_ cs;refine ce_ h o_ (ce_ (kH r) g_ ?_);rw[set_set];refine ce_ (kH r) g_ ?_;rw[set_set];refine ce_ (kH r) g_ ?_;rw[set_set];refine ce_ (kH r) g_ ?_;rw[set_set,DY_ cs i c hi];exact F
def OT.place {B H:Hp} (h:OT H B.length t (some (tp,0)) n cs T) (hi:i<n) (N:c.at H p) (G:∀l,c.on l->l≠tp):
 OT (H.set tp (.row true t (a0_ (cs.set i c)))) B.length t (some (tp,0)) n (cs.set i c) (T.set i p):=by
 have F:=h.len;have O:=h.lenT;rcases h.own with⟨e,_⟩|⟨l,e,V,U,r⟩
 .cases e
 cases e;have C:=(kC.1 U).1;have A:∀d∈cs,∀l,d.on l->l≠tp:=λd D l r e=>h.off d D l r (by rw[e]);refine⟨.inr ⟨tp,rfl,V,kH C,by rw[cz_];simp[F]⟩,by simp[F],by simp[O],λj I J=>?_,λd D l r e=>?_⟩
 .rw[getElem_set,getElem_set];by_cases e:i=j
  .rw[if_pos e,if_pos e];exact N.keep λl r=>g_
  .rw[if_neg e,if_neg e];simp at I J;exact (h.all j I J).keep λl r=>g_
 .grind
section
variable{H:Hp}{M F:List Pl}{P P':List PC}{c:PC}
theorem Sp.sub(h:Sp H M F P)(A:∀c∈P',c∈P):Sp H M F P':=⟨h.mm,h.mf,λi c r=>h.mp i c (A c r),h.lm,h.lf,λc r=>h.lp c (A c r)⟩
def Sp.addP (h:Sp H M F P) (D:∀i l,c.on l->M.getD i none≠some (l,0)) (C:∀l,c.on l->l<H.length):Sp H M F (P++[c]):=
 ⟨h.mm,h.mf,λi d A l r=>by
  rcases kD.1 A with q|q
  .exact h.mp i d q l r
  .rw[mem_singleton.1 q]at r;exact D i l r,h.lm,h.lf,λd A l r=>by
  rcases kD.1 A with q|q
  .exact h.lp d q l r
  .rw[mem_singleton.1 q]at r;exact C l r⟩
def Own.ltAny(h:Own H b t a n cs)(e:a=some (l,o)):l<H.length:=by
 rcases h with⟨q,_⟩|⟨m,q,_,r,_⟩
 .grind
 .grind
def Own.zero(h:Own H b t a n cs)(e:a=some (l,o)):a=some (l,0):=by
 rcases h with⟨q,_⟩|⟨m,q,_,r,_⟩
 .grind
 .grind
end
structure BJ(B H:Hp)(tp:Nat)(tcs:List PC)(T:List Pg)(x:Pl)(n:Nat)(xcs:List PC)(xT:List Pg)(y:Pl)(yls:List Y_)(sa:Pl)(k:Nat)(ss:List Int)
 (up:Pl) (m:Nat) (ucs:List PC) (uT:List Pg) (ul:Pl) (m2:Nat) (uls:List Y_) (kk:Pl) (ks:List Y_) (ii:Pl) (is:List Int):Prop where
 pre:B<+:H
 TP:OT H B.length tPg (some (tp,0)) 48 tcs T
 X:OT H B.length tPg x n xcs xT
 Y:Own H B.length tS y n (yls.map GV.str)
 S:Own H B.length tI sa k (ss.map (GV.int .i64))
 UP:OT H B.length tPg up m ucs uT
 UL:Own H B.length tS ul m2 (uls.map GV.str)
 K:Own H B.length tS kk ks.length (ks.map GV.str)
 I:Own H B.length tI ii is.length (is.map (GV.int .i64))
 sp:Sp H [some (tp,0),up,ul,kk,ii] [x,y,sa] (tcs++xcs++ucs)
section
variable{B H:Hp}{tp:Nat}{tcs:List PC}{T:List Pg}{x:Pl}{n:Nat}{xcs:List PC}{xT:List Pg}{y:Pl}{yls:List Y_}{sa:Pl}{k:Nat}{ss:List Int}
 {up:Pl} {m:Nat} {ucs:List PC} {uT:List Pg} {ul:Pl} {m2:Nat} {uls:List Y_} {kk:Pl} {ks:List Y_} {ii:Pl} {is:List Int}
def BJ.kid (g:BJ B H tp tcs T x n xcs xT y yls sa k ss up m ucs uT ul m2 uls kk ks ii is) (s:Int) (F:is.length<=1000) {K:Pl->Nat->Hp->Prop}
 (D:∀i' H',BJ B H' tp tcs T x n xcs xT y yls sa k ss up m ucs uT ul m2 uls kk ks i' (is++[s])->K i' (is.length+1) H'):ap H tI 1 8 ii is.length [.int .i64 s] 1 K:=
 k5_ g.pre g.I rfl (by unfold Lim;omega) λi' H' o e f=>D i' H'
  ⟨e.pre,g.TP.ex e (g.sp.mm 4 0 t_) λc A l r=>g.sp.mp 4 c g_ l r,g.X.ex e (g.sp.mf 4 x t_) λc A l r=>g.sp.mp 4 c g_ l r,g.Y.after (g.sp.mf 4 y t_) e,g.S.after (g.sp.mf 4 sa t_) e,
   g.UP.ex e (g.sp.mm 4 1 t_) λc A l r=>g.sp.mp 4 c g_ l r,g.UL.after (g.sp.mm 4 2 t_) e,g.K.after (g.sp.mm 4 3 t_) e,g_,
   g.sp.step e.len 4 λl C q=>⟨f l C q,o.ltAny q⟩⟩
theorem BJ.key (g:BJ B H tp tcs T x n xcs xT y yls sa k ss up m ucs uT ul m2 uls kk ks ii is) (s:Y_) (J:ks.length<=1000) {K:Pl->Nat->Hp->Prop}
 (G:∀C H',BJ B H' tp tcs T x n xcs xT y yls sa k ss up m ucs uT ul m2 uls C (ks++[s]) ii is->K C (ks.length+1) H'):ap H tS 1 16 kk ks.length [.str s] 1 K:=
 k5_ g.pre g.K rfl (by unfold Lim;omega) λF H' o e f=>G F H'
  ⟨e.pre,g.TP.ex e (g.sp.mm 3 0 t_) λc A l r=>g.sp.mp 3 c g_ l r,g.X.ex e (g.sp.mf 3 x t_) λc A l r=>g.sp.mp 3 c g_ l r,g.Y.after (g.sp.mf 3 y t_) e,g.S.after (g.sp.mf 3 sa t_) e,
   g.UP.ex e (g.sp.mm 3 1 t_) λc A l r=>g.sp.mp 3 c g_ l r,g.UL.after (g.sp.mm 3 2 t_) e,g_,g.I.after (g.sp.mm 3 4 t_) e,
   g.sp.step e.len 3 λl D q=>⟨f l D q,o.ltAny q⟩⟩
def BJ.least (g:BJ B H tp tcs T x n xcs xT y yls sa k ss up m ucs uT ul m2 uls kk ks ii is) (s:Y_) (J:m2<=1000) {K:Pl->Nat->Hp->Prop}
 (G:∀C H',BJ B H' tp tcs T x n xcs xT y yls sa k ss up m ucs uT C (m2+1) (uls++[s]) kk ks ii is->K C (m2+1) H'):ap H tS 1 16 ul m2 [.str s] 1 K:=
 k5_ g.pre g.UL rfl (by unfold Lim;omega) λF H' o e f=>G F H'
  ⟨e.pre,g.TP.ex e (g.sp.mm 2 0 t_) λc A l r=>g.sp.mp 2 c g_ l r,g.X.ex e (g.sp.mf 2 x t_) λc A l r=>g.sp.mp 2 c g_ l r,g.Y.after (g.sp.mf 2 y t_) e,g.S.after (g.sp.mf 2 sa t_) e,
   g.UP.ex e (g.sp.mm 2 1 t_) λc A l r=>g.sp.mp 2 c g_ l r,g_,g.K.after (g.sp.mm 2 3 t_) e,g.I.after (g.sp.mm 2 4 t_) e,
   g.sp.step e.len 2 λl D q=>⟨f l D q,o.ltAny q⟩⟩
def BJ.page (g:BJ B H tp tcs T x n xcs xT y yls sa k ss up m ucs uT ul m2 uls kk ks C is) (hks:ks.length<=1000) (his:is.length<=1000) (hm:m<=1000) {K:Pl->Nat->Hp->Prop}
 (Z:∀G H' c,BJ B H' tp tcs T x n xcs xT y yls sa k ss G (m+1) (ucs++[c]) (uT++[⟨true,false,ks,[],is⟩]) ul m2 uls none [] none []->K G (m+1) H'):
 ap H tPg 5 80 up m [.bool true,.bool false,.sl kk ks.length 1,.sl none 0 1,.sl C is.length 1] 1 K:=by
 have F:∀l,(⟨true,false,kk,ks.length,none,0,C,is.length⟩:PC).on l->kk=some (l,0)\/C=some (l,0):=by
  rintro l ⟨o,q|q|q⟩
  .exact .inl (g.K.zero q)
  .cases q
  .exact .inr (g.I.zero q)
 have D:(⟨true,false,kk,ks.length,none,0,C,is.length⟩:PC).at H ⟨true,false,ks,[],is⟩:=
  ⟨rfl,rfl,⟨g.K.cells,rfl,g_⟩,.nil _,⟨g.I.cells,rfl,by show is.length*8<=_;omega⟩⟩
 refine g.UP.add g.pre D (λl r e=>by rcases F l r with q|q;exact g.sp.mm 1 3 t_ l e q;exact g.sp.mm 1 4 t_ l e q) (by unfold Lim;omega) λG H1 V A W=>Z G H1 ⟨true,false,kk,ks.length,none,0,C,is.length⟩ ?_;have N:Sp H [some (tp,0),up,ul,none,none] [x,y,sa] (tcs++xcs++ucs):=(g.sp.step (kO _) 3 λ_ _ q=>k_ q).step (kO _) 4 λ_ _ q=>k_ q;have O:=N.addP (λi l r e=>by
  rcases F l r with q|q
  .match i,e with
   |0,e=>exact g.sp.mm 0 3 t_ l e q
   |1,e=>exact g.sp.mm 1 3 t_ l e q
   |2,e=>exact g.sp.mm 2 3 t_ l e q
   |3,e=>cases e
   |4,e=>cases e
   |i+5,e=>simp at e
  .match i,e with
   |0,e=>exact g.sp.mm 0 4 t_ l e q
   |1,e=>exact g.sp.mm 1 4 t_ l e q
   |2,e=>exact g.sp.mm 2 4 t_ l e q
   |3,e=>cases e
   |4,e=>cases e
   |i+5,e=>simp at e) λl r=>D.lt r
 have U:=(O.sub (P':=tcs++xcs++(ucs++[⟨true,false,kk,ks.length,none,0,C,is.length⟩])) λc J=>g_).step A.len 1 λl o q=>⟨(W l o q).1,V.own.ltAny q⟩;exact⟨A.pre,g.TP.ex A (g.sp.mm 1 0 t_) λc J l r=>g.sp.mp 1 c g_ l r,g.X.ex A (g.sp.mf 1 x t_) (λc J l r=>g.sp.mp 1 c (by simp[J]) l r),g.Y.after (g.sp.mf 1 y t_) A,g.S.after (g.sp.mf 1 sa t_) A,
  V,g.UL.after (g.sp.mm 1 2 t_) A,.inl ⟨rfl,rfl,rfl⟩,.inl ⟨rfl,rfl,rfl⟩,U⟩
def BJ.place (g:BJ B H tp tcs T x n xcs xT y yls sa k ss up m ucs uT ul m2 uls kk ks ii is) {i j:Nat} (hi:i<48) (D:xcs[j]?=some c) (V:xT[j]?=some p) {K:Hp->Prop}
 (W:∀H' C,BJ B H' tp C (T.set i p) x n xcs xT y yls sa k ss up m ucs uT ul m2 uls kk ks ii is->K H'):
 wr H tp (i*5) (.bool c.u) λZ=>wr Z tp (i*5+1) (.bool c.l) λO=>wr O tp (i*5+1+1) (.sl c.a1 c.n1 1) λU=>wr U tp (i*5+1+1+1) (.sl c.a2 c.n2 1) λH4=>wr H4 tp (i*5+1+1+1+1) (.sl c.a3 c.n3 1) K:=by
 obtain⟨hj,rfl⟩:=kC.1 D;obtain⟨F,rfl⟩:=kC.1 V;have J:=g.X.all j hj F;have r:=g.TP.len;rcases g.TP.own with⟨e,_⟩|⟨l,e,hb,hr,N⟩
 .cases e
 cases e;have A:∀l,(xcs[j]).on l->l≠tp:=λl r e=>g.sp.mp 0 _ t_ l r g_;refine wr5 hr o_ ?_;have e:Ex B (some (tp,0)) H (H.set tp (.row true tPg (a0_ (tcs.set i xcs[j])))):=⟨dI_ g.pre hb _,t_,λl _ G=>by rw[kF];intro q;subst q;exact G rfl⟩;refine W _ (tcs.set i xcs[j]) ⟨e.pre,g.TP.place hi J A,g.X.ex e (g.sp.mf 0 x t_) λc D l r=>g.sp.mp 0 c g_ l r,g.Y.after (g.sp.mf 0 y t_) e,g.S.after (g.sp.mf 0 sa t_) e,
  g.UP.ex e (g.sp.mm 0 1 t_) λc D l r=>g.sp.mp 0 c g_ l r,g.UL.after (g.sp.mm 0 2 t_) e,g.K.after (g.sp.mm 0 3 t_) e,g.I.after (g.sp.mm 0 4 t_) e,(g.sp.grow e.len).sub λc D=>?_⟩
 grind
end
theorem Own.base(h:Own H b t a n cs)(D:b'<=b):Own H b' t a n cs:=by
 rcases h with h|⟨l,r,C,A⟩
 .exact .inl h
 .exact .inr ⟨l,r,o_,A⟩
def Own.above(h:Own H b t a n cs)(e:a=some (l,o)):b<=l:=by
 rcases h with⟨h,_⟩|⟨A,r,C,_⟩
 .grind
 .grind
structure BS(B H:Hp)(tp:Nat)(tcs:List PC)(T:List Pg)(x:Pl)(n:Nat)(xcs:List PC)(xT:List Pg)(y:Pl)(yls:List Y_):Prop where
 pre:B<+:H
 TP:OT H B.length tPg (some (tp,0)) 48 tcs T
 X:OT H B.length tPg x n xcs xT
 Y:Own H B.length tS y n (yls.map GV.str)
 sp:Sp H [some (tp,0)] [x,y] (tcs++xcs)
section
variable{B H H':Hp}{tp:Nat}{tcs:List PC}{T:List Pg}{x:Pl}{n:Nat}{xcs:List PC}{xT:List Pg}{y:Pl}{yls:List Y_}{sa:Pl}{k:Nat}{ss:List Int}
 {up:Pl} {m:Nat} {ucs:List PC} {uT:List Pg} {ul:Pl} {uls:List Y_}
def BS.start (g:BS B H tp tcs T x n xcs xT y yls) (A:H<+:H') (F:Own H' H.length tI sa k (ss.map (GV.int .i64))):BJ B H' tp tcs T x n xcs xT y yls sa k ss none 0 [] [] none 0 [] none [] none []:=by
 have G:=g.pre.length_le;have V:=A.length_le;refine⟨g.pre.trans A,g.TP.mono A,g.X.mono A,g.Y.mono A,F.base G,OT.nil _ _ _,.inl ⟨rfl,rfl,rfl⟩,.inl ⟨rfl,rfl,rfl⟩,.inl ⟨rfl,rfl,rfl⟩,?_⟩;have I:∀i l o,([some (tp,0),none,none,none,none]).getD i none=some (l,o)->i=0/\l=tp/\o=0:=by
  intro i l o e
  match i,e with
  |0,e=>cases e;exact⟨rfl,rfl,rfl⟩
  |1,e=>cases e
  |2,e=>cases e
  |3,e=>cases e
  |4,e=>cases e
  |i+5,e=>simp at e
 have O:=g.sp.lm 0 tp 0 rfl;refine⟨λi j N l J D=>?_,λi b C l J D=>?_,λi c U l r e=>?_,λi l o e=>?_,λb C l o e=>?_,λc U l r=>?_⟩
 .grind
 .have⟨_,rfl,_⟩:=I i l 0 J;simp[kU]at C;rcases C with rfl|rfl|rfl
  .exact g.sp.mf 0 _ t_ l rfl D
  .exact g.sp.mf 0 _ t_ l rfl D
  .have:=F.above D;omega
 .have⟨_,rfl,_⟩:=I i l 0 e;exact g.sp.mp 0 c g_ l r rfl
 .grind
 .simp[kU]at C;rcases C with rfl|rfl|rfl
  .have:=g.sp.lf _ t_ l o e;omega
  .have:=g.sp.lf _ t_ l o e;omega
  .exact F.ltAny e
 .have:=g.sp.lp c g_ l r;omega
def BJ.done (g:BJ B H tp tcs T x n xcs xT y yls sa k ss up m ucs uT ul m uls none [] none []):BS B H tp tcs T up m ucs uT ul uls:=by
 have C:∀i l o,([some (tp,0)]).getD i none=some (l,o)->i=0/\l=tp/\o=0:=by
  intro i l o e
  match i,e with
  |0,e=>cases e;exact⟨rfl,rfl,rfl⟩
  |i+1,e=>simp at e
 refine⟨g.pre,g.TP,g.UP,g.UL,λi j I l F D=>?_,λi b A l F D=>?_,λi c G l r e=>?_,λi l o e=>?_,λb A l o e=>?_,λc G l r=>?_⟩
 .grind
 .have⟨_,rfl,_⟩:=C i l 0 F;simp[kU]at A;rcases A with rfl|rfl
  .exact g.sp.mm 0 1 t_ l rfl D
  .exact g.sp.mm 0 2 t_ l rfl D
 .have⟨_,rfl,_⟩:=C i l 0 e;refine g.sp.mp 0 c ?_ l r rfl;grind
 .have⟨_,rfl,_⟩:=C i l o e;exact g.sp.lm 0 l 0 rfl
 .simp[kU]at A;rcases A with rfl|rfl
  .exact g.sp.lm 1 l o e
  .exact g.sp.lm 2 l o e
 .refine g.sp.lp c ?_ l r;grind
end
section
variable{B:Hp}{Q:Post}{tp:Nat}
def Hs_ {xs:Lvl} {next0:Nat} {T0:List Pg} {x y:Pl} {xcs:List PC} {sa:Pl} {REST:Nat} (hn2:2<=xs.length) (hb:next0+xs.length<=48)
 (hK:∀(F:Nat)(H:Hp)(tcs:List PC)(up:Pl)(ucs:List PC)(ul:Pl),REST<=F->BS B H tp tcs (eC_ T0 xs next0 xs.length) up (upD xs next0).length ucs ((upD xs next0).map (·.1)) ul ((upD xs next0).map (·.2))->
  ba_.l4 F none 0 (some (tp,0)) 48 up (upD xs next0).length ul (upD xs next0).length ((next0+xs.length:Nat):Int) H Q):
 ∀(F i:Nat)(H:Hp)(tcs:List PC)(up:Pl)(ucs:List PC)(ul:Pl),xs.length+3*(kOf xs.length 5-i)+REST<F+aP_ xs.length (kOf xs.length 5) i->i<=kOf xs.length 5->
  BJ B H tp tcs (eC_ T0 xs next0 (aP_ xs.length (kOf xs.length 5) i)) x xs.length xcs (xs.map (·.1)) y (xs.map (·.2)) sa (kOf xs.length 5) ((gw_ xs.length 5).map λ(x:Nat)=>(x:Int)) up i ucs (((List.range i).map (qn_ xs next0 (kOf xs.length 5))).map (·.1)) ul i (((List.range i).map (qn_ xs next0 (kOf xs.length 5))).map (·.2)) none [] none []->
  ba_.l9 F none 0 (some (tp,0)) 48 x xs.length y xs.length ((next0+aP_ xs.length (kOf xs.length 5) i:Nat):Int) up i ul i sa (kOf xs.length 5) ((aP_ xs.length (kOf xs.length 5) i:Nat):Int) (i:Int) H Q:=by
 have hk:=jx_ xs.length 5;have hSD:gw_ xs.length 5=(List.range (kOf xs.length 5)).map λi=>aP_ xs.length (kOf xs.length 5) (i+1)-aP_ xs.length (kOf xs.length 5) i:=rfl;have hUD:upD xs next0=(List.range (kOf xs.length 5)).map (qn_ xs next0 (kOf xs.length 5)):=rfl;have hk2:kOf xs.length 5<=48:=by
  unfold kOf;have:(xs.length+5-1) / 5<=xs.length:=o_
  omega
 generalize kOf xs.length 5=k at*;have hUl:(upD xs next0).length=k:=by rw[hUD];simp
 rw[hUl]at hK;have hsl:((gw_ xs.length 5).map λ(x:Nat)=>(x:Int)).length=k:=by rw[hSD];simp
 have hsg:∀i (h:i<((gw_ xs.length 5).map λ(x:Nat)=>(x:Int)).length),((gw_ xs.length 5).map λ(x:Nat)=>(x:Int))[i]=((aP_ xs.length k (i+1)-aP_ xs.length k i:Nat):Int):=λi h=>by
  simp only[hSD,getElem_map,getElem_range]
 intro F;induction F using Nat.strongRecOn with
 | _ F ihF=>
  intro i H tcs up ucs ul hF hi g;have hci:=my_ (n:=xs.length) (k:=k) (i:=i) hi hk;obtain⟨F,rfl⟩:∃F',F=F'+1:=⟨F-1,o_⟩;rw[ba_.l9_eq];by_cases hik:i<k
  ·rw[ay_ s_];have hmono:=lz_ xs.length k i;have hci1:=my_ (n:=xs.length) (k:=k) (i:=i+1) o_ hk;have hclt:=HZ_ (n:=xs.length) hik o_;have isS:∀{H tcs T up m ucs uT ul m2 uls kk ks ii is},BJ B H tp tcs T x xs.length xcs (xs.map (·.1)) y (xs.map (·.2)) sa k ((gw_ xs.length 5).map λ(x:Nat)=>(x:Int)) up m ucs uT ul m2 uls kk ks ii is->Is H sa k ((gw_ xs.length 5).map λ(x:Nat)=>(x:Int)):=λg=>⟨g.S.cells,hsl.symm,o_⟩;have isY:∀{H tcs T up m ucs uT ul m2 uls kk ks ii is},BJ B H tp tcs T x xs.length xcs (xs.map (·.1)) y (xs.map (·.2)) sa k ((gw_ xs.length 5).map λ(x:Nat)=>(x:Int)) up m ucs uT ul m2 uls kk ks ii is->Ss H y xs.length (xs.map (·.2)):=λg=>⟨g.Y.cells,t_,o_⟩;have w1:ae_ .i64 (((aP_ xs.length k i:Nat):Int)+((aP_ xs.length k (i+1)-aP_ xs.length k i:Nat):Int))=((aP_ xs.length k (i+1):Nat):Int):=by rw[cf_ o_ o_];omega
   have inner:∀(d G j:Nat)(H:Hp)(tcs:List PC)(kk ii:Pl),aP_ xs.length k (i+1)-j=d->aP_ xs.length k i<=j->j<=aP_ xs.length k (i+1)->xs.length+3*(k-i)+REST<G+j+1->G<=F->
    BJ B H tp tcs (eC_ T0 xs next0 j) x xs.length xcs (xs.map (·.1)) y (xs.map (·.2)) sa k ((gw_ xs.length 5).map λ(x:Nat)=>(x:Int)) up i ucs (((List.range i).map (qn_ xs next0 k)).map (·.1)) ul i (((List.range i).map (qn_ xs next0 k)).map (·.2))
     kk (((xs.drop (aP_ xs.length k i+1)).take (j-(aP_ xs.length k i+1))).map (·.2)) ii ((List.range (j-aP_ xs.length k i)).map λr=>((next0+(aP_ xs.length k i+r):Nat):Int))->
    ba_.l13 G none 0 (some (tp,0)) 48 x xs.length y xs.length ((next0+j:Nat):Int) up i ul i sa k ((aP_ xs.length k i:Nat):Int) (i:Int) true false kk (((xs.drop (aP_ xs.length k i+1)).take (j-(aP_ xs.length k i+1))).map (·.2)).length none 0 ii ((List.range (j-aP_ xs.length k i)).map λr=>((next0+(aP_ xs.length k i+r):Nat):Int)).length (j:Int) H Q:=by
    intro d;induction d with
    | zero=>
     intro G j H tcs kk ii hd hj1 hj2 hG hGF g;obtain rfl:j=aP_ xs.length k (i+1):=o_
     obtain⟨G,rfl⟩:∃G',G=G'+1:=⟨G-1,o_⟩;rw[ba_.l13_eq,af_,(isS g).rd i rfl (by rw[hsl];exact hik),hsg,w1,aB_ t_,af_];refine g.page s_ s_ o_ λu' H1 c g1=>?_;rw[af_,(isY g1).rd (aP_ xs.length k i) rfl s_,af_];refine g1.least _ o_ λul' H2 g2=>?_;rw[af_,(isS g2).rd i rfl (by rw[hsl];exact hik),hsg,w1,ao_ o_];refine ihF G o_ (i+1) H2 tcs u' (ucs++[c]) ul' o_ o_ ?_;rw[range_succ,kL,kL,kL];have e2:(qn_ xs next0 k i).2=(xs.map (·.2))[aP_ xs.length k i]'s_:=by
      unfold qn_;dsimp only;rw[kG hclt,getElem_map];rfl
     show BJ B H2 tp tcs (eC_ T0 xs next0 (aP_ xs.length k (i+1))) x xs.length xcs (xs.map (·.1)) y (xs.map (·.2)) sa k _ u' (i+1) (ucs++[c]) (_++[(qn_ xs next0 k i).1]) ul' (i+1) (_++[(qn_ xs next0 k i).2]) none [] none [];rw[e2];exact g2
    | succ d ihd=>
     intro G j H tcs kk ii hd hj1 hj2 hG hGF g;obtain⟨G,rfl⟩:∃G',G=G'+1:=⟨G-1,o_⟩;have hjl:j<xs.length:=o_
     rw[ba_.l13_eq,af_,(isS g).rd i rfl (by rw[hsl];exact hik),hsg,w1,ay_ s_,af_];refine ab_ s_ ?_;obtain⟨l,o,c,p,ex,hc,hp,hpc,g0,g1,g2,g3,g4⟩:=g.X.tr.get hjl;have etN:tN (j:Int)=j:=rfl;have etN2:0+tN ((next0+j:Nat):Int)*5=(next0+j)*5:=by rw[kN];rfl
     have px:∀K:Nat->Nat->Prop,pS x K=K l o:=λK=>by rw[ex];rfl
     rw[px,etN,cx_ g0 g1 g2 g3 g4,af_];refine ab_ s_ ?_;rw[ad_,etN2];refine g.place (i:=next0+j) o_ hc hp λH1 tcs1 h1=>?_;have hpl:eC_ T0 xs next0 (j+1)=(eC_ T0 xs next0 j).set (next0+j) p:=by
      show (eC_ T0 xs next0 j).set (next0+j) _=_;have:((xs[j]?.map (·.1)).getD noPg)=p:=by
       rw[getElem?_map]at hp;rw[hp];rfl
      rw[this]
     rw[<-hpl]at h1;rw[af_];refine h1.kid _ s_ λii' H2 h2=>?_;have hr:(List.range (j+1-aP_ xs.length k i)).map (λr=>((next0+(aP_ xs.length k i+r):Nat):Int))=(List.range (j-aP_ xs.length k i)).map (λr=>((next0+(aP_ xs.length k i+r):Nat):Int))++[((next0+j:Nat):Int)]:=by
      rw[(o_:j+1-aP_ xs.length k i=(j-aP_ xs.length k i)+1),range_succ,kL];simp;omega
     rw[<-hr]at h2;have hrl:((List.range (j-aP_ xs.length k i)).map λr=>((next0+(aP_ xs.length k i+r):Nat):Int)).length+1=((List.range (j+1-aP_ xs.length k i)).map λr=>((next0+(aP_ xs.length k i+r):Nat):Int)).length:=s_
     rw[hrl];have wn:ae_ .i64 (((next0+j:Nat):Int)+1)=((next0+(j+1):Nat):Int):=by rw[cf_ o_ o_];omega
     rw[wn,ao_ o_];refine aa_ (λe=>?_) λe=>?_
     ·have hlj:aP_ xs.length k i<j:=by simpa using e
      have r:=λK=>(isY h2).rd j (i:=(j:Int)) rfl s_ K;rw[etN]at r;rw[af_,r,af_];refine h2.key _ s_ λkk' H3 h3=>?_;have hks:((xs.drop (aP_ xs.length k i+1)).take (j+1-(aP_ xs.length k i+1))).map (·.2)=((xs.drop (aP_ xs.length k i+1)).take (j-(aP_ xs.length k i+1))).map (·.2)++[(xs.map (·.2))[j]'s_]:=by
       rw[(o_:j+1-(aP_ xs.length k i+1)=(j-(aP_ xs.length k i+1))+1),take_succ_eq_append_getElem s_,kL];congr 1;simp;congr 2;omega
      rw[<-hks]at h3;have hkl:(((xs.drop (aP_ xs.length k i+1)).take (j-(aP_ xs.length k i+1))).map (·.2)).length+1=(((xs.drop (aP_ xs.length k i+1)).take (j+1-(aP_ xs.length k i+1))).map (·.2)).length:=by rw[hks,kI];rfl
      rw[hkl];exact ihd G (j+1) H3 tcs1 kk' ii' o_ o_ o_ o_ o_ h3
     ·have hlj:aP_ xs.length k i=j:=by simp at e;omega
      have hks:((xs.drop (aP_ xs.length k i+1)).take (j+1-(aP_ xs.length k i+1))).map (·.2)=((xs.drop (aP_ xs.length k i+1)).take (j-(aP_ xs.length k i+1))).map (·.2):=by
       rw[(o_:j+1-(aP_ xs.length k i+1)=0),(o_:j-(aP_ xs.length k i+1)=0)]
      rw[<-hks]at h2;rw[<-hks];exact ihd G (j+1) H2 tcs1 kk ii' o_ o_ o_ o_ o_ h2
   have hstart:=inner _ F (aP_ xs.length k i) H tcs none none rfl (kO _) hmono o_ (kO _) (by
    rw[(o_:aP_ xs.length k i-(aP_ xs.length k i+1)=0),(o_:aP_ xs.length k i-aP_ xs.length k i=0)];exact g)
   rw[(o_:aP_ xs.length k i-(aP_ xs.length k i+1)=0),(o_:aP_ xs.length k i-aP_ xs.length k i=0)]at hstart;exact hstart
  .obtain rfl:i=k:=by omega
   rw[aB_ t_];rw[nB_ hk]at g hF ⊢;have hd:=g.done;rw[<-hUD]at hd;exact hK F H tcs up ucs ul o_ hd
end
theorem OT.base(h:OT H b t a n cs T)(r:b'<=b):OT H b' t a n cs T:=⟨h.own.base r,h.len,h.lenT,h.all,h.off⟩
section
variable{B:Hp}{Q:Post}{tp:Nat}
def Hz_:∀(D:Nat)(xs:Lvl)(next:Nat)(T:List Pg)(F:Nat)(H:Hp)(tcs:List PC)(x:Pl)(xcs:List PC)(y:Pl),xs.length<=D->1<=xs.length->next+2*xs.length<=48->8*xs.length+8<=F->
 BS B H tp tcs T x xs.length xcs (xs.map (·.1)) y (xs.map (·.2))->(∀H' tcs',B<+:H'->OT H' B.length tPg (some (tp,0)) 48 tcs' (hS_ D T next xs)->Q (yA (some (tp,0)) 48) H')->
 ba_.l4 F none 0 (some (tp,0)) 48 x xs.length y xs.length (next:Int) H Q:=by
 intro D;induction D with
 |zero=>intro xs _ _ _ _ _ _ _ _ h1 h2;omega
 | succ D ih=>
  intro xs next T F H tcs x xcs y hD h1 hb hF g hQ;obtain⟨F,rfl⟩:∃F',F=F'+1:=⟨F-1,o_⟩;rw[ba_.l4_eq];refine aa_ (λe=>?_) λe=>?_
  ·have h2:2<=xs.length:=by simp at e;omega
   have hk2:2*kOf xs.length 5<=xs.length:=by
    unfold kOf;have:2*((xs.length+5-1) / 5)<=xs.length:=o_
    omega
   have hk0:=jx_ xs.length 5;have hUl:(upD xs next).length=kOf xs.length 5:=by unfold upD;simp
   refine mM_ (n:=xs.length) (most:=5) o_ o_ o_ λsa H1 p1 oS _=>?_;simp only[aJ_,ah_];have hst:=g.start p1 oS;have:=Hs_ (Q:=Q) (B:=B) (tp:=tp) (xs:=xs) (next0:=next) (T0:=T) (x:=x) (y:=y) (xcs:=xcs) (sa:=sa) (REST:=8*kOf xs.length 5+8) h2 o_ (λF2 H2 tcs2 up ucs ul hF2 g2=>by
    refine ih (upD xs next) (next+xs.length) (eC_ T xs next xs.length) F2 H2 tcs2 up ucs ul o_ o_ o_ o_ g2 λH' tcs' hp ho=>?_;refine hQ H' tcs' hp ?_;have e2:hS_ (D+1) T next xs=hS_ D (eC_ T xs next xs.length) (next+xs.length) (upD xs next):=by
     show (match decide (1<xs.length) with|true=>_|false=>_)=_;rw[lE o_]
    rw[e2];exact ho) F 0 H1 tcs none [] none (by rw[gi_];omega) (kP _) (by rw[gi_];exact hst)
   rw[gi_]at this;exact this
  ·have h11:xs.length=1:=by simp at e;omega
   rw[af_];refine ab_ s_ ?_;obtain⟨l,o,c,p,ex,hc,hp,hpc,g0,g1,g2,g3,g4⟩:=g.X.tr.get (i:=0) o_;have px:∀K:Nat->Nat->Prop,pS x K=K l o:=λK=>by rw[ex];rfl
   have et0:tN 0=0:=rfl;rw[px,et0,cx_ g0 g1 g2 g3 g4,af_];refine ab_ t_ ?_;have e0:0+0*5=0*5:=o_
   rw[ad_,e0];refine (g.start (sa:=none) (k:=0) (ss:=[]) (k8 _) (.inl ⟨rfl,rfl,rfl⟩)).place (i:=0) o_ hc hp λH' tcs' g'=>?_;refine hQ H' tcs' g'.pre ?_;have e2:hS_ (D+1) T next xs=T.set 0 p:=by
    show (match decide (1<xs.length) with|true=>_|false=>_)=_;rw[lH o_];dsimp only;rw[getElem?_map]at hp;rw[hp];rfl
   rw[e2];exact g'.TP
def uT_ (hp:Kv H a n ps) (hn:n<=64) (hQ:∀H' tp cs,H<+:H'->OT H' H.length tPg (some (tp,0)) 48 cs (oI_ ps)->Q (yA (some (tp,0)) 48) H'):ba_ [nL a n 2] H Q:=by
 have hpl:=hp.len;refine⟨8*17+20,?_⟩;rw[yb_];refine k7_ λH1 F Y=>?_;simp[ez_];refine tl_ (hp.mono F) o_ λx y cs Z O D G hxy hyo N=>?_;simp[ez_];have hL:(cV_ ps).length=kOf ps.length 4:=by unfold cV_;simp
 have hk:kOf ps.length 4<=17:=by unfold kOf;omega
 have hk0:=jx_ ps.length 4;have l1:=F.length_le;have htp:=Y.own.ltAny rfl;have l2:=O.length_le;have o2:=Y.mono O;have J:∀i l o,([some (H.length,0)]).getD i none=some (l,o)->i=0/\l=H.length/\o=0:=by
  intro i l o e
  match i,e with
  |0,e=>cases e;exact⟨rfl,rfl,rfl⟩
  |i+1,e=>simp at e
 have g:BS H Z H.length t6_ ng_ x (cV_ ps).length cs ((cV_ ps).map (·.1)) y ((cV_ ps).map (·.2)):=by
  refine⟨F.trans O,o2,D.base l1,G.base l1,λi j hne l W V=>?_,λi b C l W V=>?_,λi c I l r e=>?_,λi l o e=>?_,λb C l o e=>?_,λc I l r=>?_⟩
  .grind
  .obtain⟨_,rfl,_⟩:=J i l 0 W;simp[kU]at C;rcases C with rfl|rfl
   .have:=D.own.above V;omega
   .have:=G.above V;omega
  .obtain⟨_,rfl,_⟩:=J i l 0 e;rcases kD.1 I with q|q
   .exact xt_ c q _ r
   .have:=N c q _ r;omega
  .obtain⟨_,rfl,_⟩:=J i l o e;omega
  .simp[kU]at C;rcases C with rfl|rfl
   .exact D.own.ltAny e
   .exact G.ltAny e
  .rcases kD.1 I with q|q
   .exact (xt_ c q _ r).elim
   .exact D.onlt q r
 exact Hz_ 64 (cV_ ps) 1 ng_ (8*17+19) Z t6_ x cs y o_ o_ o_ o_ g λH' A U ho=>hQ H' H.length A U ho
end
structure CT(B H:Hp)(t:TypeId)(a:Pl)(n:Nat)(ds:List PC)(T:List Pg):Prop where
 pre:B<+:H
 ot:OT H B.length t a n ds T
 own:∀i (h:i<ds.length) (h':i<T.length),(ds[i]).own H B.length T[i]
 ap:∀i j (hi:i<ds.length) (hj:j<ds.length),i≠j->∀l,(ds[i]).on l-> ¬ (ds[j]).on l
section
variable{B H H':Hp}{t:TypeId}{a:Pl}{n:Nat}{ds:List PC}{T:List Pg}
theorem CT.mono(g:CT B H t a n ds T)(r:H<+:H'):CT B H' t a n ds T:=
 ⟨g.pre.trans r,g.ot.mono r,λi h A=>(g.own i h A).keep λl C=>a9_ r (g.ot.onlt (kE h) C),g.ap⟩
def CT.setRow (g:CT B H t a n ds T) (hi:i<ds.length) (J:i<T.length) (C:(ds[i]).on l) (x:Obj) (U:B.length<=l) (p:Pg)
 (V:(ds[i]).at (H.set l x) p) (O:(ds[i]).own (H.set l x) B.length p):CT B (H.set l x) t a n ds (T.set i p):=by
 have G:=g.ot.len;have W:=g.ot.lenT;have r:∀j (h:j<ds.length),j≠i->∀m,(ds[j]).on m->(H.set l x)[m]?=H[m]? :=λj h F m N=>by
  rw[kF];intro e;subst e;exact g.ap i j hi h (Ne.symm F) l C N
 refine⟨dI_ g.pre U x,⟨g.ot.own.keep λm e=>?_,G,g_,λj A D=>?_,g.ot.off⟩,λj A D=>?_,g.ap⟩
 .rw[kF];intro I;subst I;exact g.ot.off _ (kE hi) l C e
 .rw[getElem_set];by_cases e:i=j
  .grind
  .rw[if_neg e];simp at D;exact (g.ot.all j A D).keep (r j A (Ne.symm e))
 .rw[getElem_set];by_cases e:i=j
  .grind
  .rw[if_neg e];simp at D;exact (g.own j A D).keep (r j A (Ne.symm e))
theorem CT.key (g:CT B H t a n ds T) (hi:i<ds.length) (D:i<T.length) (Y:j<(T[i]).keys.length) (s:Y_)
 (U:∀H',CT B H' t a n ds (T.set i { T[i] with keys:=(T[i]).keys.set j s })->K H'):∃l,(ds[i]).a1=some (l,0)/\wr H l j (.str s) K:=by
 have A:=g.own i hi D;have r:=g.ot.all i hi D;rcases A.keys with⟨_,h,_⟩|⟨l,e,N,I,Z⟩
 .simp_all
 have F:=(kC.1 I).1;have G:(ds[i]).on l:=⟨0,.inl e⟩;refine⟨l,e,ce_ I g_ ?_⟩;rw[<-List.map_set];have keep:∀{J:TypeId}{x:Pl}{m:Nat}{O:List GV}(y:Obj),Own H B.length J x m O->Dr (ds[i]).a1 x->Own (H.set l y) B.length J x m O:=λy h W=>h.keep λm V=>by
  rw[kF];intro q;subst q;exact W l 0 0 e V
 have C:(ds[i]).own (H.set l (.row true tS (((T[i]).keys.set j s).map GV.str))) B.length { T[i] with keys:=(T[i]).keys.set j s }:=
  ⟨A.used,A.leaf,.inr ⟨l,e,N,kH F,g_⟩,keep _ A.vals A.d12,keep _ A.kids A.d13,A.d12,A.d13,A.d23⟩
 refine U _ (g.setRow hi D G _ N _ ⟨r.used,r.leaf,⟨C.keys.cells,?_,r.keys.lim⟩,⟨C.vals.cells,r.vals.len,r.vals.lim⟩,⟨C.kids.cells,r.kids.len,r.kids.lim⟩⟩ C);grind
def CT.kid (g:CT B H t a n ds T) (hi:i<ds.length) (D:i<T.length) (Y:j<(T[i]).kids.length) (s:Int)
 (U:∀H',CT B H' t a n ds (T.set i { T[i] with kids:=(T[i]).kids.set j s })->K H'):∃l,(ds[i]).a3=some (l,0)/\wr H l j (.int .i64 s) K:=by
 have A:=g.own i hi D;have r:=g.ot.all i hi D;rcases A.kids with⟨_,h,_⟩|⟨l,e,N,I,Z⟩
 .simp_all
 have F:=(kC.1 I).1;have G:(ds[i]).on l:=⟨0,.inr (.inr e)⟩;refine⟨l,e,ce_ I g_ ?_⟩;rw[<-List.map_set];have keep:∀{J:TypeId}{x:Pl}{m:Nat}{O:List GV}(y:Obj),Own H B.length J x m O->Dr x (ds[i]).a3->Own (H.set l y) B.length J x m O:=λy h W=>h.keep λm V=>by
  rw[kF];intro q;subst q;exact W l 0 0 V e
 have C:(ds[i]).own (H.set l (.row true tI (((T[i]).kids.set j s).map (GV.int .i64)))) B.length { T[i] with kids:=(T[i]).kids.set j s }:=
  ⟨A.used,A.leaf,keep _ A.keys A.d13,keep _ A.vals A.d23,.inr ⟨l,e,N,kH F,g_⟩,A.d12,A.d13,A.d23⟩
 refine U _ (g.setRow hi D G _ N _ ⟨r.used,r.leaf,⟨C.keys.cells,r.keys.len,r.keys.lim⟩,⟨C.vals.cells,r.vals.len,r.vals.lim⟩,⟨C.kids.cells,?_,r.kids.lim⟩⟩ C);grind
def s5_(D:Tr H a n cs T)(F:n*80<=140737488351232)(I:∀r A H',CT H H' tPg r n A T->Q (yA r n) H'):cb_ [yA a n] H Q:=
 p7_ D F λr A H' p J G C=>I r A H' ⟨p,J,G,C⟩
end
theorem Jq_:aL_ ng_=1:=by decide+kernel
section
variable{H:Hp}{Q:Post}
end
section
variable{H:Hp}{Q:Post}
end
theorem Own.kv(h:Own H b t a (n*2) (bZ_ ps))(r:ps.length=n):Kv H a n ps:=⟨h.cells,r⟩
theorem mf_ (h:cells? H a n=some cs) (k m:Nat) (A:k+m<=n):cells? H (shf a k) m=some ((cs.drop k).take m):=by
 cases a with
 |none=>simp[cells?]at h;simp[cells?];omega
 | some p=>
  have⟨l,o⟩:=p;unfold cells? at h;simp at h;cases r:H[l]? with
  |none=>rw[r]at h;cases h
  | some x=>
   rw[r]at h;cases x with
   |row own t C=>
    simp only at h;split at h
    .cases h;simp only[wO_,cells?,r];rw[if_pos o_,drop_take,take_take,drop_drop,Nat.min_eq_left o_]
    .cases h
   |_=>cases h
theorem Ss.part(h:Ss H a n xs)(k m:Nat)(r:k+m<=n):Ss H (shf a k) m ((xs.drop k).take m):=by
 have A:=h.len;have C:=h.lim;refine⟨?_,g_,o_⟩;rw[mf_ h.cells k m r,map_take,map_drop]
theorem iO_ (cs:List PC) (i j:Nat) (v:GV) (c:PC) (hi:i<cs.length) (C:j<5) (A:c.cells=(cs[i].cells).set j v):(a0_ cs).set (i*5+j) v=a0_ (cs.set i c):=by
 induction cs generalizing i with
 |nil=>simp at hi
 | cons d cs r=>
  have e:a0_ (d::cs)=d.cells++a0_ cs:=rfl;cases i with
  |zero=>
   rw[e,Nat.zero_mul,kN,set_append_left _ _ (a_)];show _=c.cells++a0_ cs;grind
  |succ i=>
   rw[e,set_append_right _ _ s_];show _=d.cells++a0_ (cs.set i c);rw[<-r i g_ g_];congr 2;simp;omega
section
variable{B H:Hp}{t:TypeId}{tp:Nat}{n:Nat}{cs:List PC}{T:List Pg}{i:Nat}{c:PC}{p:Pg}
def OT.at_row(h:OT H B.length t (some (tp,0)) n cs T):B.length<=tp/\H[tp]?=some (.row true t (a0_ cs)):=by
 rcases h.own with⟨e,_⟩|⟨l,e,r,C,A⟩
 .cases e
 grind
theorem OT.gt(h:OT H B.length t (some (tp,0)) n cs T)(hi:i<cs.length)(r:j<5):Am.gt H tp (i*5+j)=(cs[i].cells)[j]? :=by
 rw[aY_ h.at_row.2,kx_ hi r]
theorem OT.cell(h:OT H B.length t (some (tp,0)) n cs T)(hi:i<n)(C:i<cs.length)(I:j<5)(r:c.cells=(cs[i].cells).set j v)(D:c.at H p)(A:∀l,c.on l->l≠tp)
 (F:∀H',(∀B',B'<+:H->B'.length<=tp->B'<+:H')->OT H' B.length t (some (tp,0)) n (cs.set i c) (T.set i p)->K H'):wr H tp (i*5+j) v K:=by
 have⟨O,J⟩:=h.at_row;refine ce_ J (by rw[cz_];omega) ?_;rw[iO_ cs i j v c C I r];exact F _ (λB' N G=>dI_ N G _) (h.place hi D A)
theorem Tr.take (h:Tr H a n cs T) (D:m<=n):Tr H (shf a 0) m (cs.take m) (T.take m):=by
 have F:=h.len;have C:=h.lenT;refine⟨?_,g_,s_,λi A r=>?_⟩
 ·have e:a0_ (cs.take m)=(a0_ cs).take (m*5):=by
   have:=pF_ (cs.take m) (cs.drop m);rw[lD]at this;rw[this,take_left' (by rw[cz_];simp;omega)]
  rw[e,mf_ h.cells 0 (m*5) o_,drop_zero]
 .simp at A r;rw[getElem_take,getElem_take];exact h.all i o_ o_
end
end Go.Am
namespace Go.Am
def BH_(h:0<aL_ T):∃st,T.length=48/\cT_ T 49 0 1 (mkS []) (mkS []) ws0=some st/\hI_ T st.met=true/\st.count<=60/\aL_ T=st.deep:=by
 unfold aL_ at h ⊢;grind
def Bn_(h:cT_ T 49 0 1 (mkS []) (mkS []) ws0=none):aL_ T=0:=by
 unfold aL_;cases decide (T.length=48) with
 |false=>rfl
 |true=>rw[h]
def BQ_(h:cT_ T 49 0 1 (mkS []) (mkS []) ws0=some st)(r:hI_ T st.met=false):aL_ T=0:=by
 unfold aL_;cases decide (T.length=48) with
 |false=>rfl
 |true=>rw[h];dsimp;rw[r];rfl
theorem mx_(i:Nat)(h:i<48):ws0.met[i]?=some false:=by
 show (List.replicate 48 false)[i]?=some false;grind
def l4_(h:okD p a lo hi st=true):st.met[a]?=some false/\kL_ p=true/\(0<a->2<=p.keys.length)/\gu_ lo hi p.keys=true:=by
 unfold okD at h;grind
def ik_(h:leafD p deep st=some st'):st'.met=st.met/\st'.count=st.count+p.keys.length/\st'.deep=deep/\(st.deep=0\/st.deep=deep):=by
 unfold leafD at h;grind
def f2_ (h:cT_ T (f+1) a deep lo hi st=some st'):∃p,T[a]?=some p/\okD p a lo hi st=true/\
 ((p.leaf=true/\leafD p deep ⟨st.met.set a true,st.deep,st.count⟩=some st')\/(p.leaf=false/\gG_ (λk i s=>cT_ T f k.toNat (deep+1) (loK p lo i) (hiK p hi i) s) p.kids 0 ⟨st.met.set a true,st.deep,st.count⟩=some st')):=by
 cases A:T[a]? with
 |none=>unfold cT_ at h;rw[A]at h;cases h
 | some p=>
  rw[j4_ T f a deep lo hi st A]at h;refine⟨p,rfl,?_⟩;cases r:okD p a lo hi st with
  |false=>rw[r]at h;cases h
  |true=>
   rw[r]at h;cases C:p.leaf with
   |true=>rw[C]at h;exact⟨rfl,.inl ⟨rfl,h⟩⟩
   |false=>rw[C]at h;exact⟨rfl,.inr ⟨rfl,h⟩⟩
def Fi_ {R:WS->WS->Prop} {P:List Int->WS->WS->Prop} (D:∀s,P [] s s) (A:∀k ks i s C r,rec k i s=some C->gG_ rec ks (i+1) C=some r->P ks C r->P (k::ks) s r):
 ∀(ks:List Int)(i:Nat)(s r:WS),gG_ rec ks i s=some r->P ks s r:=by
 intro ks;induction ks with
 |nil=>intro i s r h;cases h;exact D s
 |cons k ks G=>
  intro i s r h;rw[fC_]at h;cases F:rec k i s with
  |none=>rw[F]at h;cases h
  |some C=>rw[F]at h;exact A k ks i s C r F h (G (i+1) C r h)
def l6_{P:List Int->WS->WS->Prop}(C:∀s,P [] s s)(A:∀k ks i s D r,rec k i s=some D->P ks D r->P (k::ks) s r):
 ∀(ks:List Int)(i:Nat)(s r:WS),gG_ rec ks i s=some r->P ks s r:=
 Fi_ (R:=λ_ _=>True) C λk ks i s D r h _ F=>A k ks i s D r h F
def jO_ (T:List Pg):∀(f a C:Nat)(lo hi:Y_)(st A:WS),cT_ T f a C lo hi st=some A->(∀j:Nat,st.met[j]?=some true->A.met[j]?=some true)/\A.met[a]?=some true/\
 (∀j,A.met[j]?=some true->st.met[j]?=some true\/∃p,T[j]?=some p/\kL_ p=true/\(0<j->2<=p.keys.length)):=by
 intro f;induction f with
 |zero=>intro _ _ _ _ _ _ h;cases h
 | succ f ih=>
  intro a C lo hi st A h;have⟨p,hp,O,D⟩:=f2_ h;have⟨hm,N,h2,_⟩:=l4_ O;have J:=(kC.1 hm).1;have G:∀j,st.met[j]?=some true->(st.met.set a true)[j]?=some true:=λj r=>by
   by_cases e:a=j
   .subst e;exact kH J
   .rw[kF e];exact r
  have I:(st.met.set a true)[a]?=some true:=kH J;have F:∀j,(st.met.set a true)[j]?=some true->st.met[j]?=some true\/∃p,T[j]?=some p/\kL_ p=true/\(0<j->2<=p.keys.length):=λj r=>by
   by_cases e:a=j
   .subst e;exact .inr ⟨p,hp,N,h2⟩
   .rw[kF e]at r;exact .inl r
  rcases D with⟨hl,V⟩|⟨hl,Z⟩
  .have⟨e1,_⟩:=ik_ V;rw[e1];exact⟨G,I,F⟩
  ·have key:=l6_ (P:=λ_ s U=>(∀j,s.met[j]?=some true->U.met[j]?=some true)/\(∀j,U.met[j]?=some true->s.met[j]?=some true\/∃p,T[j]?=some p/\kL_ p=true/\(0<j->2<=p.keys.length)))
    (λs=>⟨λj r=>r,λj r=> .inl r⟩) (λk ks i s s1 U hr W=>by
     have⟨Y,_,q3⟩:=ih _ _ _ _ _ _ hr;refine⟨λj r=>W.1 j (Y j r),λj r=>?_⟩;rcases W.2 j r with q|q
     .exact q3 j q
     .exact .inr q) _ _ _ _ Z
   grind
theorem wK_ (T T':List Pg) (i:Nat) (hT:∀j,j≠i->T'[j]?=T[j]?):∀(f a r:Nat)(lo hi:Y_)(st A:WS),cT_ T f a r lo hi st=some A->A.met[i]? ≠some true->cT_ T' f a r lo hi st=some A:=by
 intro f;induction f with
 |zero=>intro _ _ _ _ _ _ h;cases h
 | succ f ih=>
  intro a r lo hi st A h N;have⟨m1,m2,_⟩:=jO_ T _ _ _ _ _ _ _ h;obtain⟨p,U,J,D⟩:=f2_ h;have ha:a≠i:=λe=>N g_;rw[j4_ T' f a r lo hi st (by rw[hT a ha];exact U),J];rcases D with⟨hl,hlf⟩|⟨hl,hk⟩
  .grind
  ·have key:∀F n (s C),gG_ (λk i s=>cT_ T f k.toNat (r+1) (loK p lo i) (hiK p hi i) s) F n s=some C->C.met[i]? ≠some true->gG_ (λk i s=>cT_ T' f k.toNat (r+1) (loK p lo i) (hiK p hi i) s) F n s=some C:=by
    intro F;induction F with
    |nil=>exact λn s C h _=>h
    | cons k F ihk=>
     intro n s C h hne;rw[fC_]at h ⊢;cases G:cT_ T f k.toNat (r+1) (loK p lo n) (hiK p hi n) s with
     |none=>rw[G]at h;cases h
     | some O=>
      rw[G]at h;have mono:∀j,O.met[j]?=some true->C.met[j]?=some true:=
       l6_ (rec:=λk i s=>cT_ T f k.toNat (r+1) (loK p lo i) (hiK p hi i) s) (P:=λ_ s C=>∀j,s.met[j]?=some true->C.met[j]?=some true) (λs j I=>I) (λk F i s O C G hP j I=>hP j ((jO_ T _ _ _ _ _ _ _ G).1 j I)) _ _ _ _ h
      grind
   grind
def Fn_ (T T':List Pg) (i:Nat) (Y:∀j,j≠i->T'[j]?=T[j]?) (hq:T'[i]?=some q) (D:∀lo hi st,okD q i lo hi st=false):∀(f a r:Nat)(lo hi:Y_)(st C:WS),cT_ T f a r lo hi st=some C->st.met[i]? ≠some true->C.met[i]?=some true->cT_ T' f a r lo hi st=none:=by
 intro f;induction f with
 |zero=>intro _ _ _ _ _ _ h;cases h
 | succ f ih=>
  intro a r lo hi st C h h1 h2;by_cases Z:a=i
  .subst Z;rw[j4_ T' f a r lo hi st hq,D]
  have⟨p,hp,N,A⟩:=f2_ h;rw[j4_ T' f a r lo hi st (by rw[Y a Z];exact hp),N];rcases A with⟨hl,O⟩|⟨hl,hk⟩
  .have⟨e1,_⟩:=ik_ O;grind
  ·have key:∀G n (s F),gG_ (λk i s=>cT_ T f k.toNat (r+1) (loK p lo i) (hiK p hi i) s) G n s=some F->s.met[i]? ≠some true->F.met[i]?=some true->gG_ (λk i s=>cT_ T' f k.toNat (r+1) (loK p lo i) (hiK p hi i) s) G n s=none:=by
    intro G;induction G with
    |nil=>intro n s F h V U;cases h;exact (V U).elim
    | cons k G I=>
     intro n s F h V U;rw[fC_]at h ⊢;cases J:cT_ T f k.toNat (r+1) (loK p lo n) (hiK p hi n) s with
     |none=>rw[J]at h;cases h
     |some W=>
      rw[J]at h;by_cases e:W.met[i]?=some true
      .grind
      .rw[wK_ T T' i Y _ _ _ _ _ _ _ J e];exact I (n+1) W F h e U
   grind
def vM_(h:hI_ T met=true)(hi:i<T.length)(r:T[i]?=some p):met[i]?.getD true=true\/cS_ p=true:=by
 unfold hI_ at h;grind
def DE_(hi:i<T.length)(A:T[i]?=some p)(r:met[i]?=some false)(C:cS_ p=false):hI_ T met=false:=by
 unfold hI_;grind
structure SF(T:List Pg)(st:WS):Prop where
 len:T.length=48
 walk:cT_ T 49 0 1 (mkS []) (mkS []) ws0=some st
 rest:hI_ T st.met=true
 count:st.count<=60
 height:aL_ T=st.deep
 metlen:st.met.length=48
def SF.of(h:0<aL_ T):∃st,SF T st:=by
 have⟨st,C,r,F,D,A⟩:=BH_ h;exact⟨st,C,r,F,D,A,(iU_ T _ _ _ _ _ _ _ r).2.1⟩
section
variable{T:List Pg}{st:WS}
theorem SF.used (s:SF T st) (r:T[i]?=some p) (D:p.used=true):st.met[i]?=some true/\kL_ p=true/\(0<i->2<=p.keys.length):=by
 have A:i<48:=by have:=(kC.1 r).1;have:=s.len;omega
 have C:st.met[i]?=some true:=by
  rcases vM_ s.rest g_ r with h|h
  .rw[kG (by rw[s.metlen];exact A)];grind
  .unfold cS_ at h;rw[D]at h;simp at h
 rcases (jO_ T _ _ _ _ _ _ _ s.walk).2.2 i C with h|⟨q,I,G,F⟩
 .rw[mx_ i A]at h;cases h
 .grind
def SF.free(s:SF T st){i:Nat}(A:T[i]?=some p)(r:st.met[i]?=some false):p.used=false:=by
 cases C:p.used with
 |false=>rfl
 |true=>rw[(s.used A C).1]at r;cases r
def SF.more (s:SF T st) (hi:i<48) (D:T[i]?=some p) (G:p.used=false) (r:cS_ q=false):aL_ (T.set i q)=0:=by
 have A:st.met[i]?=some false:=by
  rw[kG (by rw[s.metlen];exact hi)];cases e:st.met[i]'(by rw[s.metlen];exact hi) with
  |false=>rfl
  |true=>
   have A:st.met[i]?=some true:=g_
   rcases (jO_ T _ _ _ _ _ _ _ s.walk).2.2 i A with h|⟨q,r,C,_⟩
   .rw[mx_ i hi]at h;cases h
   .rw[D]at r;cases r;have:=((ef_ p).1 C).2.used;grind
 refine BQ_ (wK_ T _ i (λj F=>kF (Ne.symm F)) _ _ _ _ _ _ _ s.walk g_) ?_;exact DE_ g_ (kH g_) A r
def SF.less(s:SF T st)(I:0<i)(r:T[i]?=some p)(C:p.used=true)(G:q.keys.length<2):aL_ (T.set i q)=0:=by
 have A:i<48:=by have:=(kC.1 r).1;have:=s.len;omega
 refine Bn_ (Fn_ T _ i (λj D=>kF (Ne.symm D)) (kH g_) (λF A st=>?_) _ _ _ _ _ _ _ s.walk (by rw[mx_ i A];simp) (s.used r C).1);unfold okD;grind
end
end Go.Am
namespace Go.Am
open List
section
variable{a b c:Y_}
def g4_(a b:Y_):(blt a b=true/\a≠b/\blt b a=false)\/(a=b/\blt a b=false/\blt b a=false)\/(blt b a=true/\a≠b/\blt a b=false):=by
 unfold blt;rcases xT_ (bs a) (bs b) with⟨C,A,r⟩|⟨C,A,r⟩|⟨C,A,r⟩
 .grind
 .exact .inr (.inl ⟨jc_ C,A,r⟩)
 .grind
theorem b0_(a:Y_):blt a a=false:=by
 rcases g4_ a a with h|h|h
 .grind
 .grind
 .grind
theorem dC_(h:blt a b=true):blt b a=false:=by
 rcases g4_ a b with q|q|q
 .grind
 .grind
 .grind
def n6_(A:blt b a=false)(r:blt b c=true):blt a c=true:=by
 rcases g4_ a b with q|q|q
 .exact dw_ q.1 r
 .grind
 .grind
theorem je_(r:blt a b=true)(A:blt c b=false):blt a c=true:=by
 rcases g4_ b c with q|q|q
 .exact dw_ r q.1
 .grind
 .grind
def wE_(A:blt b a=false)(r:blt c b=false):blt c a=false:=by
 cases e:blt c a with
 |false=>rfl
 |true=>rw[je_ e A]at r;cases r
theorem ms_(h:blt a b=true):a≠b:=λe=>by rw[e,b0_]at h;cases h
theorem Hc_(a:Y_):blt a (mkS [])=false:=by
 unfold blt;cases bs a<;>rfl
end
def allD (T:List Pg):Nat->Nat->KV
 |0,_=>[]
 |f+1,a=>match T[a]? with
  |none=>[]
  |some p=>p.keys.zip p.vals++p.kids.flatMap λk=>allD T f k.toNat
theorem sq_(r:T[a]?=some p)(A:p.kids=[]):allD T (f+1) a=p.keys.zip p.vals:=by
 rw[allD,r];dsimp;rw[A];simp
theorem qx_(r:T[a]?=some p)(A:p.vals=[]):allD T (f+1) a=p.kids.flatMap λk=>allD T f k.toNat:=by
 rw[allD,r];dsimp;rw[A];simp
def Asc(ps:KV):Prop:=ps.Pairwise λx y=>blt x.1 y.1=true
def Win(lo hi:Y_)(ps:KV):Prop:=∀x∈ps,blt x.1 lo=false/\(hi.size=0\/blt x.1 hi=true)
def nd_(ps:KV):Prop:=∀x∈ps,(1<=x.1.size/\x.1.size<=6)/\x.2.size<=10
theorem b8_(h:in_ ks):ks.Pairwise λa b=>blt a b=true:=by
 rw[kS];intro i j C A r;obtain⟨d,rfl⟩:∃d,j=i+d+1:=⟨j-i-1,o_⟩;exact o0_ h i d A
def A3_(h:in_ ks)(r:vs.length=ks.length):Asc (ks.zip vs):=by
 have:=b8_ h;rw[<-map_fst_zip (l₁:=ks) (l₂:=vs) o_,pairwise_map]at this;exact this
def wF_(h:gu_ lo hi ks=true)(r:k∈ks):blt k lo=false/\(hi.size=0\/blt k hi=true):=by
 unfold gu_ at h;grind
theorem gs_{ks vs:List Y_}(h:x∈ks.zip vs):x.1∈ks/\x.2∈vs:=⟨(of_mem_zip h).1,(of_mem_zip h).2⟩
theorem wQ_(h:i<p.keys.length):loK p lo (i+1)=p.keys[i]:=by
 unfold loK;simp[h]
theorem zK_(h:i<p.keys.length):hiK p hi i=p.keys[i]:=by
 unfold hiK;rw[kG h];rfl
theorem Ew_(h:p.keys.length<=i):hiK p hi i=hi:=by
 unfold hiK;rw[getElem?_eq_none h];rfl
def I9_(T:List Pg)(f:Nat):Prop:=∀(a deep:Nat)(lo hi:Y_)(st st':WS),cT_ T f a deep lo hi st=some st'->
 Asc (allD T f a)/\Win lo hi (allD T f a)/\nd_ (allD T f a)/\st'.count=st.count+(allD T f a).length
def zm_ (ih:I9_ T f) {D:Nat} (C:i8_ p) (hh:gu_ lo hi p.keys=true):
 ∀(ks:List Int)(i:Nat),i+ks.length=p.keys.length+1->∀(s N:WS),gG_ (λk i s=>cT_ T f k.toNat (D+1) (loK p lo i) (hiK p hi i) s) ks i s=some N->
  Asc (ks.flatMap λk=>allD T f k.toNat)/\Win (loK p lo i) hi (ks.flatMap λk=>allD T f k.toNat)/\nd_ (ks.flatMap λk=>allD T f k.toNat)/\N.count=s.count+(ks.flatMap λk=>allD T f k.toNat).length:=by
 have F:=C.keys;intro ks;induction ks with
 |nil=>intro i _ s N h;cases h;exact⟨Pairwise.nil,λx G=>g_,λx G=>(a_),rfl⟩
 | cons k ks W=>
  intro i V s N h;rw[fC_]at h;cases U:cT_ T f k.toNat (D+1) (loK p lo i) (hiK p hi i) s with
  |none=>rw[U]at h;cases h
  | some s1=>
   rw[U]at h;have⟨a1,a2,a3,a4⟩:=ih _ _ _ _ _ _ U;obtain⟨b1,b2,b3,b4⟩:=W (i+1) (i_ V) s1 N h;rw[flatMap_cons];have J:∀y,y∈ks.flatMap (λk=>allD T f k.toNat)->i<p.keys.length:=λy Y=>by
    grind
   refine⟨kZ.2 ⟨a1,b1,λx G y Y=>?_⟩,λx G=>?_,λx G=>?_,g_⟩
   .have r:=J y Y;have Z:=(a2 x G).2;have O:=(b2 y Y).1;rw[wQ_ r]at O;rw[zK_ r]at Z;have:=(F _ (kE r)).1;rcases Z with q|q
    .omega
    .exact je_ q O
   ·rcases kD.1 G with q|q
    ·have ⟨I,A⟩:=a2 x q;refine⟨I,?_⟩;rcases Nat.lt_or_ge i p.keys.length with r|r
     ·rw[zK_ r]at A;have hk1:=(F _ (kE r)).1;rcases A with A|A
      .omega
      .rcases (wF_ hh (kE r)).2 with z|z
       .omega
       .exact .inr (dw_ A z)
     .rw[Ew_ r]at A;exact A
    .have r:=J x q;obtain⟨I,A⟩:=b2 x q;refine⟨?_,A⟩;rw[wQ_ r]at I;rcases Nat.eq_zero_or_pos i with e|e
     .subst e;exact wE_ (wF_ hh (kE r)).1 I
     .obtain⟨j,rfl⟩:∃j,i=j+1:=⟨i-1,o_⟩;rw[wQ_ (o_:j<p.keys.length)];exact wE_ (dC_ (o0_ C.rising j 0 o_)) I
   .rcases kD.1 G with q|q
    .exact a3 x q
    .exact b3 x q
def tg_ (T:List Pg):∀f,I9_ T f:=by
 intro f;induction f with
 |zero=>intro _ _ _ _ _ _ h;cases h
 |succ f ih=>
  intro a O lo hi st Y h;have⟨p,N,J,A⟩:=f2_ h;have⟨hm,C,h2,U⟩:=l4_ J;have r:=((ef_ p).1 C).2;have D:=r.keys;rcases A with⟨I,G⟩|⟨I,Z⟩
  .have⟨e1,e2,_⟩:=ik_ G;have⟨V,v2,v3⟩:=r.leaf I;rw[sq_ N v2];refine⟨A3_ r.rising V,λx F=>wF_ U (gs_ F).1,λx F=>⟨D _ (gs_ F).1,v3 _ (gs_ F).2⟩,?_⟩;grind
  .have⟨k1,W,k3,k4,k5⟩:=r.inner I;rw[qx_ N W];have:=zm_ ih r U p.kids 0 o_ _ _ Z;exact this
def wt(g:Pg->Nat):List Pg->List Bool->Nat
 |p::T,b::met=>(match b with|true=>g p|false=>0)+wt g T met
 |_,_=>0
def DL_ (g:Pg->Nat):∀{T:List Pg}{met:List Bool}{i:Nat}{p:Pg},T[i]?=some p->met[i]?=some false->wt g T (met.set i true)=wt g T met+g p
 |[],_,i,p,h,_=>g_
 |_::_,[],i,p,_,h=>g_
 |q::T,b::met,0,p,A,r=>by
  simp at A r;subst A;subst r;simp[wt];omega
 |q::T,b::met,i+1,p,A,r=>by
  simp at A r;simp[wt];have:=DL_ g A r;omega
theorem Ej_(g:Pg->Nat):∀(T:List Pg)(n:Nat),wt g T (replicate n false)=0
 |[],n=>by cases n<;>rfl
 |p::T,0=>rfl
 |p::T,n+1=>by simp[replicate_succ,wt];rw[Ej_ g T n]
def oO_(g:Pg->Nat)(T:List Pg):Nat:=(T.map λ(p:Pg)=>match p.used with|true=>g p|false=>0).sum
def E7_ (g:Pg->Nat):∀{T:List Pg}{met:List Bool},met.length=T.length->(∀(i:Nat)(p:Pg),T[i]?=some p->met[i]?=some p.used)->wt g T met=oO_ g T
 |[],[],_,_=>rfl
 |[],_::_,h,_=>g_
 |_::_,[],h,_=>g_
 |p::T,b::met,D,h=>by
  have r:=h 0 p rfl;simp at r;subst r;have A:=E7_ g (T:=T) (met:=met) g_ λi q C=>by have:=h (i+1) q g_;simpa
  unfold wt oO_;rw[map_cons,sum_cons,A];rfl
def gK(p:Pg):Nat:=match p.leaf with|true=>p.keys.length|false=>0
def gL(p:Pg):Nat:=match p.leaf with|true=>1|false=>0
def Fx_ (T:List Pg):∀(f a A:Nat)(lo hi:Y_)(st r:WS),cT_ T f a A lo hi st=some r->r.count+wt gK T st.met=st.count+wt gK T r.met:=by
 intro f;induction f with
 |zero=>intro _ _ _ _ _ _ h;cases h
 | succ f Z=>
  intro a A lo hi st r h;have⟨p,V,G,C⟩:=f2_ h;have⟨N,J,h2,hh⟩:=l4_ G;have hw:=DL_ gK V N;rcases C with⟨F,D⟩|⟨F,Y⟩
  .have⟨U,W,_⟩:=ik_ D;rw[U,W];dsimp at*;have:gK p=p.keys.length:=by unfold gK;rw[F]
   omega
  ·have:gK p=0:=by unfold gK;rw[F]
   have key:=l6_ (P:=λ_ s I=>I.count+wt gK T s.met=s.count+wt gK T I.met) (λs=>rfl) (λk ks i s s1 I O hP=>by
    have:=Z _ _ _ _ _ _ O;omega) _ _ _ _ Y
   grind
def vU_ (T:List Pg):∀(f a deep:Nat)(lo hi:Y_)(st st':WS),cT_ T f a deep lo hi st=some st'->1<=deep->(st.deep=0\/st.deep=st'.deep)/\deep<=st'.deep/\
 (0<a->wt gL T st.met+3 ^ (st'.deep-deep)<=wt gL T st'.met/\st.count+2*3 ^ (st'.deep-deep)<=st'.count)/\
 ((st'.deep=deep/\wt gL T st'.met=wt gL T st.met+1)\/(deep<st'.deep/\wt gL T st.met+2*3 ^ (st'.deep-(deep+1))<=wt gL T st'.met/\st.count+4*3 ^ (st'.deep-(deep+1))<=st'.count)):=by
 intro f;induction f with
 |zero=>intro _ _ _ _ _ _ h;cases h
 | succ f ih=>
  intro a deep lo hi st st' h hd;obtain⟨p,hp,hok,hcase⟩:=f2_ h;obtain⟨hm,hmay,h2,hh⟩:=l4_ hok;have hw:=DL_ gL hp hm;rcases hcase with⟨hl,hlf⟩|⟨hl,hk⟩
  .obtain⟨e1,e2,e3,e4⟩:=ik_ hlf;have hg:gL p=1:=by unfold gL;rw[hl]
   rw[e1,e2,e3];dsimp only at*;rw[Nat.sub_self,Nat.pow_zero];exact⟨e4,kO _,λh0=>⟨o_,h_ (h2 h0)⟩,.inl ⟨rfl,o_⟩⟩
  ·have hg:gL p=0:=by unfold gL;rw[hl]
   obtain⟨k1,k2,k3,k4,k5⟩:=((ef_ p).1 hmay).2.inner hl;have key:∀(ks:List Int),(∀k∈ks,1<=k)->∀(i:Nat)(s s':WS),gG_ (λk i s=>cT_ T f k.toNat (deep+1) (loK p lo i) (hiK p hi i) s) ks i s=some s'->
    (s.deep=0\/s.deep=s'.deep)/\(ks≠[]->deep+1<=s'.deep)/\wt gL T s.met+ks.length*3 ^ (s'.deep-(deep+1))<=wt gL T s'.met/\s.count+2*(ks.length*3 ^ (s'.deep-(deep+1)))<=s'.count:=by
    intro ks;induction ks with
    |nil=>intro _ i s s' h;cases h;exact⟨.inr rfl,λh=>(h rfl).elim,t_,t_⟩
    | cons k ks ihk=>
     intro hks i s s' h;rw[fC_]at h;cases hr:cT_ T f k.toNat (deep+1) (loK p lo i) (hiK p hi i) s with
     |none=>rw[hr]at h;cases h
     |some s1=>
      rw[hr]at h;dsimp only at h;obtain⟨q1,q2,q3,_⟩:=ih _ _ _ _ _ _ hr o_;obtain⟨q4,q5⟩:=q3 (h_ (hks k t_));obtain⟨r1,r2,r3,r4⟩:=ihk (λk' hk'=>hks k' (by simp[hk'])) (i+1) s1 s' h;have e:s1.deep=s'.deep:=by rcases r1 with r|r;omega;exact r
      rw[e]at q1 q2 q4 q5;simp only[length_cons,Nat.add_mul,Nat.one_mul];generalize 3 ^ (s'.deep-(deep+1))=X at*;generalize ks.length*X=Y at*;exact⟨q1,λ_=>q2,o_,o_⟩
   obtain⟨c1,c2,c3,c4⟩:=key p.kids (λk hk=>(k4 k hk).1) _ _ _ hk;have hdeep:=c2 (λe=>by rw[e]at k3;simp at k3);dsimp only at*;obtain⟨X,hX⟩:∃X,3 ^ (st'.deep-(deep+1))=X:=⟨_,rfl⟩;have hX3:3 ^ (st'.deep-deep)=X*3:=by rw[<-hX,<-Nat.pow_succ];congr 1;omega
   rw[hX]at c3 c4 ⊢;rw[hX3];have m2:2*X<=p.kids.length*X:=Nat.mul_le_mul_right X o_;refine⟨c1,o_,λh0=>?_,.inr ⟨o_,o_,o_⟩⟩;have m3:3*X<=p.kids.length*X:=Nat.mul_le_mul_right X (h_ (h2 h0));exact⟨o_,o_⟩
def cL_(T:List Pg):KV:=allD T 49 0
section
variable{T:List Pg}{st:WS}
def SF.ents(s:SF T st):Asc (cL_ T)/\nd_ (cL_ T)/\(cL_ T).length=st.count/\(cL_ T).length<=60:=by
 have⟨D,_,A,C⟩:=tg_ T _ _ _ _ _ _ _ s.walk;have r:ws0.count=0:=rfl;have:=s.count;unfold cL_;grind
def SF.metU (s:SF T st) {i:Nat} (A:T[i]?=some p):st.met[i]?=some p.used:=by
 have r:i<48:=by have:=(kC.1 A).1;have:=s.len;omega
 cases F:p.used with
 |true=>exact (s.used A F).1
 | false=>
  rw[kG (by rw[s.metlen];exact r)];cases e:st.met[i]'(by rw[s.metlen];exact r) with
  |false=>rfl
  |true=>
   have D:st.met[i]?=some true:=g_
   rcases (jO_ T _ _ _ _ _ _ _ s.walk).2.2 i D with h|⟨q,C,G,_⟩
   .rw[mx_ i r]at h;cases h
   .rw[A]at C;cases C;have:=((ef_ p).1 G).2.used;grind
def SF.sums (s:SF T st):oO_ gK T=(cL_ T).length/\(aL_ T=1↔oO_ gL T=1)/\1<=aL_ T/\aL_ T<=4:=by
 have D:∀g,wt g T ws0.met=0:=λg=>Ej_ g T 48;have G:=λg=>E7_ g (by rw[s.metlen,s.len]) λi p I=>s.metU I;have N:=Fx_ T _ _ _ _ _ _ _ s.walk;have⟨_,V,_,r⟩:=vU_ T _ _ _ _ _ _ _ s.walk (kO _);rw[D,G]at N r;have F:ws0.count=0:=rfl;have U:=s.ents.2.2.1;have J:=s.count;rw[s.height];refine⟨o_,?_,o_,?_⟩
 .grind
 ·rcases r with⟨C,A⟩|⟨C,A,O⟩
  .omega
  .simp at A O;rcases Nat.lt_or_ge st.deep 5 with h|h
   .omega
   .have:3 ^ 3<=3 ^ (st.deep-2):=Nat.pow_le_pow_right o_ o_;omega
end
def bn_ (R:Nat->List Nat->KV->Prop):List Int->List Y_->List Nat->KV->Prop
 |[],_,_,_=>False
 |k::ks,ss,P,ps=>match ss with
  |[]=>ks=[]/\R k.toNat P ps
  |s::ss=>∃P1 ps1 P2 ps2,R k.toNat P1 ps1/\bn_ R ks ss P2 ps2/\P=P1++P2/\ps=ps1++ps2/\(∀x∈ps1,blt x.1 s=true)/\(∀y∈ps2,blt y.1 s=false)
def Sub (T:List Pg):Nat->Nat->List Nat->KV->Prop
 |0,_,_,_=>False
 | d+1,a,P,ps=>∃p,T[a]?=some p/\fm_ p/\
  ((d=0/\p.leaf=true/\P=[a]/\ps=p.keys.zip p.vals)\/
   (p.leaf=false/\∃P',P=a::P'/\bn_ (λk P ps=>Sub T d k P ps/\∃q,T[k]?=some q/\2<=q.keys.length) p.kids p.keys P' ps))
def cJ_(T:List Pg)(d k:Nat)(P:List Nat)(ps:KV):Prop:=Sub T d k P ps/\∃q,T[k]?=some q/\2<=q.keys.length
def bn_.imp:∀{ks:List Int}{ss:List Y_}{P:List Nat}{ps:KV},(∀k P' r,R k P' r->(∀i∈P',i∈P)->R' k P' r)->bn_ R ks ss P ps->bn_ R' ks ss P ps
 |[],_,_,_,_,h=>h.elim
 |k::ks,[],P,ps,f,h=>⟨h.1,f _ _ _ h.2 λi A=>A⟩
 |k::ks,s::ss,P,ps,f,⟨O,C,U,D,I,W,G,V,N,J⟩=>by
  subst G;exact⟨O,C,U,D,f _ _ _ I λi A=>kD.2 (.inl A),bn_.imp (λk P' r h F=>f k P' r h λi A=>kD.2 (.inr (F i A))) W,rfl,V,N,J⟩
theorem bn_.len:∀{ks:List Int}{ss:List Y_}{P:List Nat}{ps:KV},bn_ R ks ss P ps->ks.length=ss.length+1
 |[],_,_,_,h=>h.elim
 |k::ks,[],P,ps,h=>by rw[h.1];rfl
 |k::ks,s::ss,P,ps,⟨G,A,D,r,F,C,_⟩=>by simp[bn_.len C]
theorem Sub.head (h:Sub T d a P ps):a∈P:=by
 cases d with
 |zero=>exact h.elim
 |succ d=>
  obtain⟨p,_,_,⟨_,_,e,_⟩|⟨_,r,e,_⟩⟩:=h<;>simp[e]
theorem Sub.keep:∀{d a:Nat}{P:List Nat}{ps:KV},Sub T d a P ps->(∀i∈P,T'[i]?=T[i]?)->Sub T' d a P ps
 |0,_,_,_,h,_=>h.elim
 |d+1,a,P,ps,h,r=>by
  have⟨p,O,J,h⟩:=h;refine⟨p,g_,J,?_⟩;rcases h with h|⟨D,F,e,N⟩
  .grind
  .subst e;refine .inr ⟨D,F,rfl,N.imp λk Q U ⟨A,q,I,G⟩ C=>⟨Sub.keep A λi V=>r i g_,q,?_,G⟩⟩;rw[r k (by simp[C k A.head])];exact I
theorem cJ_.keep(h:cJ_ T d a P ps)(r:∀i∈P,T'[i]?=T[i]?):cJ_ T' d a P ps:=by
 have⟨A,q,D,C⟩:=h;exact⟨A.keep r,q,by rw[r a A.head];exact D,C⟩
theorem bn_.allD(r:∀k P ps,R k P ps->Am.allD T f k=ps):∀{ks:List Int}{ss:List Y_}{P:List Nat}{ps:KV},bn_ R ks ss P ps->(ks.flatMap λk=>Am.allD T f k.toNat)=ps
 |[],_,_,_,h=>h.elim
 |k::ks,[],P,ps,h=>by rw[h.1];simp[r _ _ _ h.2]
 |k::ks,s::ss,P,ps,⟨J,D,I,A,F,C,_,G,_⟩=>by rw[flatMap_cons,r _ _ _ F,bn_.allD r C,G]
theorem Sub.allD:∀{d f a:Nat}{P:List Nat}{ps:KV},Sub T d a P ps->d<=f->Am.allD T f a=ps
 |0,_,_,_,_,h,_=>h.elim
 |d+1,0,_,_,_,_,A=>o_
 |d+1,f+1,a,P,ps,h,A=>by
  obtain⟨p,hp,hm,⟨_,r,_,e⟩|⟨r,D,_,C⟩⟩:=h
  .rw[sq_ hp (hm.2.leaf r).2.1,e]
  .rw[qx_ hp (hm.2.inner r).2.1];exact bn_.allD (λk P ps h=>Sub.allD h.1 o_) C
def BW_ (A:∀k P ps,R k P ps->Asc ps/\nd_ ps):∀{ks:List Int}{ss:List Y_}{P:List Nat}{ps:KV},bn_ R ks ss P ps->Asc ps/\nd_ ps
 |[],_,_,_,h=>h.elim
 |k::ks,[],P,ps,h=>A _ _ _ h.2
 |k::ks,s::ss,P,ps,⟨Z,J,P2,U,D,Y,_,O,G,F⟩=>by
  have⟨N,C⟩:=A _ _ _ D;have⟨W,V⟩:=BW_ A Y;subst O;exact⟨kZ.2 ⟨N,W,λx r y I=>je_ (G x r) (F y I)⟩,λx r=>(kD.1 r).elim (C x) (V x)⟩
theorem Sub.asc:∀{d a:Nat}{P:List Nat}{ps:KV},Sub T d a P ps->Asc ps/\nd_ ps
 |0,_,_,_,h=>h.elim
 |d+1,a,P,ps,h=>by
  obtain⟨p,hp,r,⟨_,C,_,e⟩|⟨C,I,_,F⟩⟩:=h
  .have⟨G,J,D⟩:=r.2.leaf C;subst e;exact⟨A3_ r.2.rising G,λx A=>⟨r.2.keys _ (gs_ A).1,D _ (gs_ A).2⟩⟩
  .exact BW_ (λk P ps h=>Sub.asc h.1) F
def tI_ (r:∀k P ps,R k P ps->m<=ps.length):∀{ks:List Int}{ss:List Y_}{P:List Nat}{ps:KV},bn_ R ks ss P ps->ks.length*m<=ps.length
 |[],_,_,_,h=>h.elim
 |k::ks,[],P,ps,h=>by rw[h.1];have:=r _ _ _ h.2;simpa
 |k::ks,s::ss,P,ps,⟨O,D,I,A,F,C,_,G,J,N⟩=>by
  have:=r _ _ _ F;have:=tI_ r C;subst G;rw[length_cons,kI,Nat.add_mul];omega
theorem cJ_.size:∀{d a:Nat}{P:List Nat}{ps:KV},cJ_ T d a P ps->2*d<=ps.length
 |0,_,_,_,h=>o_
 | d+1,a,P,ps,⟨h,q,G,I⟩=>by
  obtain⟨p,hp,hm,⟨N,F,_,e⟩|⟨F,U,_,A⟩⟩:=h
  .have:=(hm.2.leaf F).1;grind
  ·rw[hp]at G;cases G;have r:=A.len;have:=tI_ (λk P ps h=>cJ_.size h) A;have N:1<=d:=by
    cases d with
    | zero=>cases C:q.kids with
     |nil=>rw[C]at r;simp at r
     |cons k O=>
      rw[C]at A
      cases D:q.keys with
      |nil=>rw[D]at I;simp at I
      |cons s V=>rw[D]at A;have⟨_,_,_,_,J,_⟩:=A;exact J.1.elim
    |succ d=>omega
   have:2*(2*d)<=q.kids.length*(2*d):=Nat.mul_le_mul_right _ o_;omega
theorem cJ_.ne(h:cJ_ T d a P ps):ps≠[]:=by
 intro e;have:=h.size;subst e;cases d with
 |zero=>exact h.1.elim
 |succ d=>simp at this
def gH_(met:List Bool)(P:List Nat):List Bool:=P.foldl (λm i=>m.set i true) met
theorem lZ_:∀{met:List Bool}{i:Nat},i∉P->(gH_ met P)[i]?=met[i]? :=by
 unfold gH_;induction P with
 |nil=>intro met i _;rfl
 |cons j P r=>
  grind
theorem zu_:∀{met:List Bool}{i:Nat},i∈P->i<met.length->(gH_ met P)[i]?=some true:=by
 unfold gH_;induction P with
 |nil=>intro met i h;simp at h
 |cons j P C=>
  intro met i h A;by_cases r:i∈P
  .grind
  .have:=lZ_ (met:=met.set i true) r;unfold gH_ at this;grind
theorem pD_(met:List Bool)(P Q:List Nat):gH_ met (P++Q)=gH_ (gH_ met P) Q:=by unfold gH_;rw[foldl_append]
theorem ut_(met:List Bool)(a:Nat)(P:List Nat):gH_ met (a::P)=gH_ (met.set a true) P:=rfl
def zo_ {R:Nat->List Nat->KV->Prop} (r:∀k P ps,R k P ps->ps≠[]):∀{ks:List Int}{ss:List Y_}{P:List Nat}{ps:KV},bn_ R ks ss P ps->ps≠[]/\(Win lo hi ps->∀s∈ss,blt s lo=false/\(hi.size=0\/blt s hi=true))
 |[],_,_,_,h=>h.elim
 |k::ks,[],P,ps,h=>⟨r _ _ _ h.2,λ_ s A=>g_⟩
 | k::ks,s::ss,P,ps,⟨P1,O,P2,Y,G,h2,_,W,J,I⟩=>by
  have D:=r _ _ _ G;obtain⟨n2,ih⟩:=zo_ r h2;subst W;refine⟨by simp[D],λw U A=>?_⟩;have⟨x,C⟩:=exists_mem_of_ne_nil _ D;have⟨y,F⟩:=exists_mem_of_ne_nil _ n2;have Z:=w x (kD.2 (.inl C));have V:=w y (kD.2 (.inr F));rcases kU.1 A with e|e
  ·subst e;refine⟨?_,?_⟩
   .exact wE_ Z.1 (dC_ (J x C))
   .rcases V.2 with q|q
    .grind
    .exact .inr (n6_ (I y F) q)
  .exact ih (λz N=>w z (kD.2 (.inr N))) U e
def Cy_(h:∀s∈ks,blt s lo=false/\(hi.size=0\/blt s hi=true)):gu_ lo hi ks=true:=by
 unfold gu_;grind
def Sub.walk (T:List Pg):∀(d f a:Nat)(P:List Nat)(ps:KV)(deep:Nat)(lo hi:Y_)(st:WS),Sub T d a P ps->d<=f->(0<a->∃q,T[a]?=some q/\2<=q.keys.length)->P.Nodup->(∀i∈P,st.met[i]?=some false)->Win lo hi ps->
 (st.deep=0\/st.deep+1=deep+d)->1<=deep->cT_ T f a deep lo hi st=some ⟨gH_ st.met P,deep+d-1,st.count+ps.length⟩
 |0,_,_,_,_,_,_,_,_,h,_,_,_,_,_,_,_=>h.elim
 |d+1,0,_,_,_,_,_,_,_,_,hf,_,_,_,_,_,_=>o_
 | d+1,f+1,a,P,ps,deep,lo,hi,st,h,hf,ha,hnd,hm,hw,hdp,hd1=>by
  have hma:=hm a h.head;obtain⟨p,hp,hmay,hcase⟩:=h;have hbig:(decide (0<a)&&decide (p.keys.length<2))=false:=by
   rw[Bool.and_eq_false_iff,decide_eq_false_iff_not,decide_eq_false_iff_not];rcases Nat.eq_zero_or_pos a with e|e
   .exact .inl o_
   .obtain⟨q,hq,h2⟩:=ha e;rw[hp]at hq;cases hq;exact .inr o_
  have hok:gu_ lo hi p.keys=true->okD p a lo hi st=true:=λhh=>by
   unfold okD;rw[hma,(ef_ p).2 hmay,hbig,hh];rfl
  rw[j4_ T f a deep lo hi st hp];rcases hcase with⟨e0,hl,e1,e2⟩|⟨hl,P',e1,hk⟩
  ·subst e0;subst e1;subst e2;have v1:=(hmay.2.leaf hl).1;have hh:gu_ lo hi p.keys=true:=Cy_ λs hs=>by
    obtain⟨i,hi',e⟩:=kK hs;have:(p.keys.zip p.vals)[i]'(by rw[length_zip];omega)∈p.keys.zip p.vals:=kE _;have:=hw _ this;rw[getElem_zip,e]at this;exact this
   rw[hok hh];dsimp only;rw[hl];dsimp only;unfold leafD;dsimp only;have hz:(p.keys.zip p.vals).length=p.keys.length:=by rw[length_zip];omega
   rw[hz];rcases hdp with q|q
   .rw[lE q];rfl
   .have q':st.deep=deep:=by omega
    rw[lH o_,lE q'];rfl
  ·subst e1;have hh:gu_ lo hi p.keys=true:=Cy_ ((zo_ (λk P ps h=>cJ_.ne h) hk).2 hw);rw[hok hh];dsimp only;rw[hl];dsimp only;have hlen:=hk.len;obtain⟨k1,k2,k3,k4,k5⟩:=hmay.2.inner hl;rw[nodup_cons]at hnd;have loop:∀(ks:List Int)(i:Nat)(ss:List Y_)(P:List Nat)(ps:KV)(s:WS),(∀k∈ks,1<=k)->p.keys.drop i=ss->i+ss.length=p.keys.length->bn_ (λk P ps=>Sub T d k P ps/\∃q,T[k]?=some q/\2<=q.keys.length) ks ss P ps->
    P.Nodup->(∀i∈P,s.met[i]?=some false)->Win (loK p lo i) hi ps->(s.deep=0\/s.deep=deep+d)->
    gG_ (λk i s=>cT_ T f k.toNat (deep+1) (loK p lo i) (hiK p hi i) s) ks i s=some ⟨gH_ s.met P,deep+d,s.count+ps.length⟩:=by
    intro ks;induction ks with
    |nil=>intro i ss P ps s _ _ _ h;exact h.elim
    | cons k ks ihk=>
     intro i ss P ps s hk1 hss hlen' hR hnd hm hw hdp;have hk0:=hk1 k t_;cases ss with
     |nil=>
      obtain⟨e,hs⟩:=hR;subst e;have hend:p.keys.length<=i:=i_ hlen'
      rw[fC_];have:=Sub.walk T d f k.toNat P ps (deep+1) (loK p lo i) (hiK p hi i) s hs.1 o_ (λ_=>hs.2) hnd hm (by rw[Ew_ hend];exact hw) (by rcases hdp with q|q;exact .inl q;exact .inr o_) o_;rw[this];dsimp only;have e:deep+1+d-1=deep+d:=o_
      rw[e];rfl
     | cons s0 ss=>
      obtain⟨P1,ps1,P2,ps2,h1,h2,e1,e2,h3,h4⟩:=hR;subst e1;subst e2;simp only[length_cons]at hlen';have hi1:i<p.keys.length:=o_
      have hs0:p.keys[i]=s0:=by
       rw[lB hi1]at hss;exact (List.cons.inj hss).1
      have hss':p.keys.drop (i+1)=ss:=by
       rw[lB hi1]at hss;exact (List.cons.inj hss).2
      rw[fC_];rw[kT]at hnd;obtain⟨d1,d2,d3⟩:=hnd;have hw1:Win (loK p lo i) (hiK p hi i) ps1:=λx hx=>⟨(hw x (kD.2 (.inl hx))).1,.inr (by rw[zK_ hi1,hs0];exact h3 x hx)⟩;have:=Sub.walk T d f k.toNat P1 ps1 (deep+1) (loK p lo i) (hiK p hi i) s h1.1 o_ (λ_=>h1.2) d1 (λj hj=>hm j (kD.2 (.inl hj))) hw1 (by rcases hdp with q|q;exact .inl q;exact .inr o_) o_;rw[this];dsimp only;have e:deep+1+d-1=deep+d:=o_
      rw[e];have:=ihk (i+1) ss P2 ps2 ⟨gH_ s.met P1,deep+d,s.count+ps1.length⟩ (λk' hk'=>hk1 k' (by simp[hk'])) hss' o_ h2 d2 (λj hj=>by
       dsimp only;rw[lZ_ λq=>d3 j q j hj rfl];exact hm j (kD.2 (.inr hj)))
       (λy hy=>⟨by rw[wQ_ hi1,hs0];exact h4 y hy,(hw y (kD.2 (.inr hy))).2⟩) (.inr rfl)
      rw[this];dsimp only;rw[pD_,kI,Nat.add_assoc]
   have:=loop p.kids 0 p.keys P' ps ⟨st.met.set a true,st.deep,st.count⟩ (λk hk=>(k4 k hk).1) rfl o_ hk hnd.2 (λj hj=>by
    dsimp only;rw[kF λe=>hnd.1 (by rw[e];exact hj)];exact hm j (by simp[hj])) hw (by dsimp only;rcases hdp with q|q;exact .inl q;exact .inr o_)
   rw[this,ut_];dsimp only;congr 2
end Go.Am
namespace Go.Am
def Fo_ (T:List Pg):∀(f a deep:Nat)(lo hi:Y_)(st st':WS),cT_ T f a deep lo hi st=some st'->1<=deep->
 ∃d P,st'.deep+1=deep+d/\Sub T d a P (allD T f a)/\st'.met=gH_ st.met P/\P.Nodup/\(∀i∈P,st.met[i]?=some false):=by
 intro f;induction f with
 |zero=>intro _ _ _ _ _ _ h;cases h
 | succ f ih=>
  intro a deep lo hi st st' h hd1;obtain⟨p,hp,hok,hcase⟩:=f2_ h;obtain⟨hm,hmay,h2,hh⟩:=l4_ hok;have hM:=(ef_ p).1 hmay;have hfit:=hM.2;have hlt:=(kC.1 hm).1;rcases hcase with⟨hl,hlf⟩|⟨hl,hk⟩
  .obtain⟨e1,e2,e3,_⟩:=ik_ hlf;refine⟨1,[a],o_,⟨p,hp,hM,.inl ⟨rfl,hl,rfl,sq_ hp (hfit.leaf hl).2.1⟩⟩,by rw[e1];rfl,t_,λi hi=>by rw[List.mem_singleton.1 hi];exact hm⟩
  ·obtain⟨k1,k2,k3,k4,k5⟩:=hfit.inner hl;have loop:∀(ks:List Int)(i:Nat)(ss:List Y_)(s s':WS),(∀k∈ks,1<=k)->p.keys.drop i=ss->i+ss.length=p.keys.length->ks.length=ss.length+1->
    gG_ (λk i s=>cT_ T f k.toNat (deep+1) (loK p lo i) (hiK p hi i) s) ks i s=some s'->
    ∃d P,s'.deep+1=deep+1+d/\bn_ (cJ_ T d) ks ss P (ks.flatMap λk=>allD T f k.toNat)/\s'.met=gH_ s.met P/\P.Nodup/\(∀i∈P,s.met[i]?=some false)/\(s.deep=0\/s.deep=s'.deep):=by
    intro ks;induction ks with
    |nil=>intro i ss s s' _ _ _ h;simp at h
    | cons k ks ihk=>
     intro i ss s s' hk1 hss hlen hkl h;have hk0:=hk1 k t_;rw[fC_]at h;cases hr:cT_ T f k.toNat (deep+1) (loK p lo i) (hiK p hi i) s with
     |none=>rw[hr]at h;cases h
     | some s1=>
      rw[hr]at h;dsimp only at h;obtain⟨d1,P1,e1,S1,m1,n1,u1⟩:=ih _ _ _ _ _ _ hr o_;obtain⟨q1,_⟩:=vU_ T _ _ _ _ _ _ _ hr o_;have B1:cJ_ T d1 k.toNat P1 (allD T f k.toNat):=by
       obtain⟨q,hq,hqo,_⟩:=f2_ (f:=f-1) (by
        cases f with
        |zero=>cases hr
        |succ f=>exact hr)
       exact⟨S1,q,hq,(l4_ hqo).2.2.1 o_⟩
      cases ss with
      |nil=>
       have:ks=[]:=u_ hkl
       subst this;cases h;exact⟨d1,P1,e1,⟨rfl,u_ B1⟩,m1,n1,u1,q1⟩
      | cons s0 ss=>
       simp only[List.length_cons]at hlen hkl;have hi1:i<p.keys.length:=o_
       have hs0:p.keys[i]=s0:=by
        rw[lB hi1]at hss;exact (List.cons.inj hss).1
       have hss':p.keys.drop (i+1)=ss:=by
        rw[lB hi1]at hss;exact (List.cons.inj hss).2
       obtain⟨d2,P2,e2,K2,m2,n2,u2,z2⟩:=ihk (i+1) ss s1 s' (λk' hk'=>hk1 k' (by simp[hk'])) hss' o_ o_ h;have hd12:d1=d2:=by rcases z2 with z|z<;>omega
       subst hd12;have w1:=(tg_ T f _ _ _ _ _ _ hr).2.1;have w2:=(zm_ (tg_ T f) hfit hh ks (i+1) o_ _ _ h).2.1;rw[wQ_ hi1,hs0]at w2;rw[zK_ hi1,hs0]at w1;have hsz:1<=s0.size:=by rw[<-hs0];exact (hfit.keys _ (kE hi1)).1
       have u2':∀j∈P2,j∉P1:=λj hj q=>by
        have:=u2 j hj;have hjl:=(kC.1 (u1 j q)).1;rw[m1,zu_ q hjl]at this;cases this
       refine⟨d1,P1++P2,e2,⟨P1,_,P2,_,B1,K2,rfl,by rw[List.flatMap_cons],λx hx=>?_,λy hy=>(w2 y hy).1⟩,by rw[m2,m1,pD_],?_,λj hj=>?_,?_⟩
       .rcases (w1 x hx).2 with z|z
        .omega
        .exact z
       .rw[kT];exact⟨n1,n2,λj hj j' hj' e=>u2' j' hj' (by rw[<-e];exact hj)⟩
       .rcases kD.1 hj with q|q
        .exact u1 j q
        .have:=u2 j q;rw[m1,lZ_ (u2' j q)]at this;exact this
       ·rcases q1 with q|q
        .exact .inl q
        .rcases z2 with z|z
         .omega
         .exact .inr o_
   obtain⟨d,P,e,K,m,n,u,_⟩:=loop p.kids 0 p.keys _ _ (λk hk=>(k4 k hk).1) rfl o_ k3 hk;dsimp only at m u;have haP:a∉P:=λq=>by
    have:=u a q;rw[kH hlt]at this;cases this
   refine⟨d+1,a::P,o_,⟨p,hp,hM,.inr ⟨hl,P,rfl,by rw[qx_ hp k2];exact K⟩⟩,by rw[m,ut_],List.nodup_cons.2 ⟨haP,n⟩,λj hj=>?_⟩;rcases kU.1 hj with q|q
   .rw[q];exact hm
   .have:=u j q;rw[kF λz=>haP (by rw[z];exact q)]at this;exact this
def Sub.inT:∀{d a:Nat}{P:List Nat}{ps:KV},Sub T d a P ps->∀i∈P,i<T.length
 |0,_,_,_,h=>h.elim
 | d+1,a,P,ps,h=>by
  have⟨p,O,N,h⟩:=h;rcases h with⟨_,_,e,_⟩|⟨_,W,e,D⟩
  .grind
  ·subst e;intro i r;rcases kU.1 r with q|q
   .grind
   ·have key:∀{A:List Int}{C:List Y_}{P:List Nat}{ps:KV},bn_ (cJ_ T d) A C P ps->∀i∈P,i<T.length:=by
     intro A;induction A with
     |nil=>intro _ _ _ h;exact h.elim
     | cons k A U=>
      intro C P ps h i r;cases C with
      |nil=>exact Sub.inT h.2.1 i r
      |cons s C=>
       have⟨V,I,Y,F,J,D,G,_⟩:=h;subst G;rcases kD.1 r with q|q
       .exact Sub.inT J.1 i q
       .grind
    exact key D i q
def Sub.low (h:Sub T d a P ps):2*d<=ps.length+2:=by
 cases d with
 |zero=>exact h.elim
 |succ d=>
  obtain⟨p,hp,hm,⟨A,_,_,_⟩|⟨_,D,_,r⟩⟩:=h
  .grind
  .have:=tI_ (λk P ps h=>cJ_.size h) r;have C:=r.len;have:1*(2*d)<=p.kids.length*(2*d):=Nat.mul_le_mul_right _ o_;omega
structure fT_(T:List Pg)(d:Nat)(P:List Nat)(ps:KV):Prop where
 len:T.length=48
 sub:Sub T d 0 P ps
 nodup:P.Nodup
 rest:∀(i:Nat) p,T[i]?=some p->i∉P->cS_ p=true
 count:ps.length<=60
section
variable{T:List Pg}{d:Nat}{P:List Nat}{ps:KV}
theorem fT_.pos(w:fT_ T d P ps):1<=d:=by
 cases d with
 |zero=>exact w.sub.elim
 |succ d=>omega
def fT_.sound (w:fT_ T d P ps):aL_ T=d/\cL_ T=ps:=by
 have D:=w.sub.low;have G:=w.count;have J:=Sub.walk T d 49 0 P ps 1 (mkS []) (mkS []) ws0 w.sub o_ (λh=>o_) w.nodup (λi r=>mx_ i (by have:=w.sub.inT i r;rw[w.len]at this;exact this))
  (λx _=>⟨Hc_ _,.inl rfl⟩) (.inl rfl) (kO _)
 refine⟨?_,w.sub.allD o_⟩;unfold aL_;rw[lE w.len];have F:hI_ T (gH_ ws0.met P)=true:=by
  unfold hI_;rw[List.all_eq_true];intro i r;have r:=List.mem_range.1 r;have C:i<48:=by rw[w.len]at r;exact r
  by_cases A:i∈P
  .rw[zu_ A (by show i<(List.replicate 48 false).length;simpa)];rfl
  .rw[w.rest i (T[i]?.getD noPg) g_ A];simp
 have I:ws0.count=0:=rfl;grind
def fT_.pos'(w:fT_ T d P ps):0<aL_ T:=by rw[w.sound.1];exact w.pos
def SF.whole(s:SF T st):∃P,fT_ T (aL_ T) P (cL_ T):=by
 have⟨d,P,e,S,m,n,u⟩:=Fo_ T _ _ _ _ _ _ _ s.walk (kO _);have F:d=aL_ T:=by rw[s.height];omega
 subst F;refine⟨P,s.len,S,n,λi p C D=>?_,s.ents.2.2.2⟩;have r:=(kC.1 C).1;have A:i<48:=by rw[s.len]at r;exact r
 have G:st.met[i]?=some false:=by rw[m,lZ_ D,mx_ i A]
 rcases vM_ s.rest r C with h|h
 .grind
 .exact h
def ob_(h:0<aL_ T):∃P,fT_ T (aL_ T) P (cL_ T):=by
 have⟨st,s⟩:=SF.of h;exact s.whole
end
end Go.Am
namespace Go.Am
open List
def b2_(ks:List Y_)(key:Y_):Nat:=ks.countP λs=>blt s key
def dR_(ks:List Y_)(key:Y_):Bool:=decide (ks[b2_ ks key]?=some key)
def cp_(ks:List Y_)(key:Y_):Nat:=b2_ ks key+(match dR_ ks key with|true=>1|false=>0)
def cc_:KV->Y_->Option Y_
 |[],_=>none
 |x::ps,key=>match decide (x.1=key) with|true=>some x.2|false=>cc_ ps key
abbrev Pw(ks:List Y_):Prop:=ks.Pairwise λa b=>blt a b=true
section
variable{s key:Y_}{ks:List Y_}
theorem Fu_:b2_ [] key=0:=rfl
theorem FC_:dR_ [] key=false:=by simp[dR_]
theorem mw_(h:blt s key=true):b2_ (s::ks) key=b2_ ks key+1/\dR_ (s::ks) key=dR_ ks key:=by
 have e:b2_ (s::ks) key=b2_ ks key+1:=by unfold b2_;rw[countP_cons_of_pos o_]
 unfold dR_;grind
def ws_(h:∀t∈ks,blt t key=false):b2_ ks key=0:=by
 unfold b2_;grind
theorem kR_ (A:Pw (s::ks)) (h:blt s key=false):b2_ (s::ks) key=0/\dR_ (s::ks) key=decide (s=key):=by
 have e:b2_ (s::ks) key=0:=ws_ λt r=>by
  rcases kU.1 r with q|q
  .grind
  .exact wE_ h (dC_ ((kW.1 A).1 t q))
 unfold dR_;grind
def DP_ (h:∀t∈ks,blt key t=true):cp_ ks key=0:=by
 have e:=ws_ λt r=>dC_ (h t r);have A:dR_ ks key=false:=by
  unfold dR_;rw[e,decide_eq_false_iff_not];intro q;have:=h key (mem_of_getElem? q);rw[b0_]at this;cases this
 unfold cp_;grind
theorem gB_(x:Y_ × Y_)(ps:KV)(key:Y_):cc_ (x::ps) key=match decide (x.1=key) with|true=>some x.2|false=>cc_ ps key:=rfl
theorem hx_ (h:∀x∈ps,x.1≠key):cc_ ps key=none:=by
 induction ps with
 |nil=>rfl
 |cons x ps r=>
  unfold cc_;grind
theorem jI_:cc_ (ps++qs) key=match cc_ ps key with|some v=>some v|none=>cc_ qs key:=by
 induction ps with
 |nil=>rfl
 |cons x ps r=>
  show (match decide (x.1=key) with|true=>some x.2|false=>cc_ (ps++qs) key)=match (match decide (x.1=key) with|true=>some x.2|false=>cc_ ps key) with|some v=>some v|none=>cc_ qs key
  cases decide (x.1=key) with
  |true=>rfl
  |false=>exact r
def D1_(h:∀x∈qs,x.1≠key):cc_ (ps++qs) key=cc_ ps key:=by
 rw[jI_,hx_ h];grind
theorem kY_(h:∀x∈ps,x.1≠key):cc_ (ps++qs) key=cc_ qs key:=by
 rw[jI_,hx_ h]
theorem zC_:∀{ks vs:List Y_},Pw ks->vs.length=ks.length->cc_ (ks.zip vs) key=match dR_ ks key with|true=>vs[b2_ ks key]? |false=>none
 |[],vs,_,_=>by rfl
 |s::ks,[],_,h=>g_
 | s::ks,v::vs,r,h=>by
  have C:=(kW.1 r).2;have A:=(kW.1 r).1;rw[zip_cons_cons];unfold cc_;cases e:blt s key with
  |true=>
   rw[(mw_ e).1,(mw_ e).2,lH (ms_ e),zC_ C g_];rfl
  |false=>
   rw[(kR_ r e).1,(kR_ r e).2];by_cases q:s=key
   .grind
   .rw[lH q];refine hx_ λx D F=>?_;have:=A x.1 (gs_ D).1;grind
def zh_:∀{ks:List Int}{ss:List Y_}{P:List Nat}{ps:KV},bn_ R ks ss P ps->Pw ss->
 ∃k J r,ks[cp_ ss key]?=some k/\R k.toNat J r/\cc_ ps key=cc_ r key
 |[],_,_,_,h,_=>h.elim
 |k::ks,[],P,ps,h,_=>⟨k,P,ps,by rfl,h.2,rfl⟩
 | k::ks,s::ss,P,ps,⟨J,r,P2,F,Y,U,e1,V,h3,h4⟩,C=>by
  have G:=(kW.1 C).2;have N:=(kW.1 C).1;subst V;have right:cp_ (s::ss) key=cp_ ss key+1->blt key s=false->∃D I A,(k::ks)[cp_ (s::ss) key]?=some D/\R D.toNat I A/\cc_ (r++F) key=cc_ A key:=λe q=>by
   have⟨D,I,A,q1,Z,W⟩:=zh_ U G;refine⟨D,I,A,g_,Z,?_⟩;rw[kY_ λx hx e=>?_]
   .exact W
   .grind
  cases e:blt s key with
  |true=>exact right (by unfold cp_;rw[(mw_ e).1,(mw_ e).2];omega) (dC_ e)
  | false=>
   by_cases q:s=key
   .refine right ?_ (by rw[q,b0_]);have:cp_ ss key=0:=DP_ λt ht=>by grind
    rw[this];unfold cp_;rw[(kR_ C e).1,(kR_ C e).2,lE q]
   ·have O:blt key s=true:=by
     rcases g4_ s key with z|z|z
     .grind
     .grind
     .exact z.1
    refine⟨k,J,r,?_,Y,D1_ λy hy e=>?_⟩
    ·have:cp_ (s::ss) key=0:=by
      unfold cp_;rw[(kR_ C e).1,(kR_ C e).2,lH q];rfl
     rw[this];rfl
    .grind
end
theorem lj_ (h:Asc ps) (r:x∈ps):cc_ ps x.1=some x.2:=by
 induction ps with
 |nil=>simp at r
 |cons y ps D=>
  have⟨C,A⟩:=kW.1 h;unfold cc_;rcases kU.1 r with e|e
  .grind
  .rw[lH (ms_ (C x e))];exact D A e
def xR_ (h:cc_ ps key=some v):(key,v)∈ps:=by
 induction ps with
 |nil=>cases h
 |cons y ps r=>
  unfold cc_ at h;grind
def eq_(h:Pw ks):in_ ks:=by
 intro i r;have:=kS.1 h i (i+1) o_ r o_;rw[h2_];exact this
def J0_(h:Asc ps):Pw (ps.map (·.1)):=by rw[Pw,pairwise_map];exact h
def Ii_(ps:KV):(ps.map (·.1)).zip (ps.map (·.2))=ps:=by
 induction ps with
 |nil=>rfl
 |cons x ps r=>simp[r]
def hX_(T:List Pg)(d:Nat)(p:Pg)(P:List Nat)(e:KV):Prop:=
 fm_ p/\((d=0/\p.leaf=true/\P=[]/\e=p.keys.zip p.vals)\/(p.leaf=false/\bn_ (cJ_ T d) p.kids p.keys P e))
theorem hX_.sub(h:hX_ T d p P e)(A:T[a]?=some p):Sub T (d+1) a (a::P) e:=by
 obtain⟨hm,⟨D,r,C,F⟩|⟨r,G⟩⟩:=h
 .subst C;exact⟨p,A,hm,.inl ⟨D,r,rfl,F⟩⟩
 .exact⟨p,A,hm,.inr ⟨r,P,rfl,G⟩⟩
theorem hX_.keep(h:hX_ T d p P e)(G:∀i∈P,T'[i]?=T[i]?):hX_ T' d p P e:=by
 obtain⟨A,h|⟨D,h⟩⟩:=h
 .exact⟨A,.inl h⟩
 .exact⟨A,.inr ⟨D,h.imp λk Q I C r=>C.keep λi F=>G i (r i F)⟩⟩
def LV(T:List Pg)(d:Nat):Lvl->List Nat->KV->Prop
 |[],P,e=>P=[]/\e=[]
 |(p,s)::xs,P,e=>∃P1 e1 P2 e2,P=P1++P2/\e=e1++e2/\hX_ T d p P1 e1/\2<=p.keys.length/\(∃y r,e1=y::r/\y.1=s)/\LV T d xs P2 e2
def LV.append:∀{xs ys:Lvl}{P Q:List Nat}{e f:KV},LV T d xs P e->LV T d ys Q f->LV T d (xs++ys) (P++Q) (e++f)
 |[],ys,P,Q,e,f,⟨r,A⟩,h=>g_
 |(p,s)::xs,ys,P,Q,e,f,⟨O,F,D,I,r,A,J,G,C,N⟩,h=>by
  subst r;subst A;exact⟨O,F,D++Q,I++f,t_,by rw[kV],J,G,C,LV.append N h⟩
theorem LV.split:∀{xs ys:Lvl}{P:List Nat}{e:KV},LV T d (xs++ys) P e->∃A r C D,P=A++C/\e=r++D/\LV T d xs A r/\LV T d ys C D
 |[],ys,P,e,h=>⟨[],[],P,e,rfl,rfl,⟨rfl,rfl⟩,h⟩
 |(p,s)::xs,ys,P,e,⟨A,r,C,D,h1,h2,J,V,Y,N⟩=>by
  have⟨F,G,Z,I,g1,W,U,O⟩:=LV.split N;exact⟨A++F,r++G,Z,I,g_,by rw[h2,W,kV],⟨A,r,F,G,rfl,rfl,J,V,Y,U⟩,O⟩
theorem LV.keep:∀{xs:Lvl}{P:List Nat}{e:KV},LV T d xs P e->(∀i∈P,T'[i]?=T[i]?)->LV T' d xs P e
 |[],P,e,h,_=>h
 |(p,s)::xs,P,e,⟨F,C,G,N,U,V,D,J,O,I⟩,A=>by
  subst U;exact⟨F,C,G,N,rfl,V,D.keep λi r=>A i (kD.2 (.inl r)),J,O,LV.keep I λi r=>A i (kD.2 (.inr r))⟩
def LV.leasts:∀{xs:Lvl}{P:List Nat}{e:KV},LV T d xs P e->Asc e->Pw (xs.map (·.2))/\∀s∈xs.map (·.2),∃y∈e,y.1=s
 |[],P,e,h,_=>⟨Pairwise.nil,λs hs=>g_⟩
 | (p,s)::xs,P,e,⟨W,U,Y,e2,h1,N,V,h4,⟨y,r,h5,h7⟩,G⟩,I=>by
  subst N;have⟨Z,J,O⟩:=kZ.1 I;have⟨D,C⟩:=LV.leasts G J;refine⟨kW.2 ⟨λt A=>?_,D⟩,λt A=>?_⟩
  .have⟨z,F,e⟩:=C t A;grind
  .rcases kU.1 A with q|q
   .grind
   .have⟨z,F,e⟩:=C t q;grind
def j5_(base m:Nat):List Int:=(List.range m).map λj=>((base+j:Nat):Int)
theorem B4_(base m:Nat):j5_ base (m+1)=(base:Int)::j5_ (base+1) m:=by
 unfold j5_;rw[range_succ_eq_map,map_cons,map_map];congr 1;apply map_congr_left;grind
theorem LV.kids {d next:Nat}:∀{xs:Lvl}{base:Nat}{P:List Nat}{e:KV},xs≠[]->LV T d xs P e->(∀j (h:j<xs.length),T[base+j]?=some (xs[j]).1)->Asc e->P.Nodup->(∀i∈P,i<next)->next<=base->
 ∃P',bn_ (cJ_ T (d+1)) (j5_ base xs.length) (xs.tail.map (·.2)) P' e/\P'.Nodup/\∀i,i∈P'↔i∈P\/(base<=i/\i<base+xs.length)
 |[],_,_,_,h,_,_,_,_,_,_=>(h rfl).elim
 | (p,s)::xs,base,P,e,_,⟨C,O,P2,e2,h1,h2,h3,h4,h5,I⟩,W,ha,J,A,hnb=>by
  subst h1;subst h2;have⟨a1,N,a3⟩:=kZ.1 ha;have⟨U,d2,d3⟩:=kT.1 J;have Y:T[base]?=some p:=by have:=W 0 t_;simpa
  have V:cJ_ T (d+1) base (base::C) O:=⟨h3.sub Y,p,Y,h4⟩;have F:base∉C:=λq=>by have:=A base (kD.2 (.inl q));omega
  cases xs with
  | nil=>
   obtain⟨q1,q2⟩:=I;subst q1;subst q2;refine⟨base::C,?_,nodup_cons.2 ⟨F,U⟩,λi=>?_⟩
   .exact⟨rfl,u_ V⟩
   ·rw[kU,append_nil];show i=base\/i∈C↔i∈C\/(base<=i/\i<base+1);constructor
    .rintro (q|q)
     .omega
     .exact .inl q
    .rintro (q|q)
     .exact .inr q
     .omega
  | cons x xs=>
   obtain⟨P',k1,k2,k3⟩:=LV.kids t_ I (λj hj=>by
    have:=W (j+1) s_;rw[<-Nat.add_assoc,Nat.add_right_comm]at this;simpa) N d2 (λi D=>A i (kD.2 (.inr D))) o_
   have hm:∀i,i∈P'->i∉base::C:=λi D q=>by
    rcases (k3 i).1 D with z|z
    .rcases kU.1 q with y|y
     .have:=A i (kD.2 (.inr z));omega
     .exact d3 i y i z rfl
    .rcases kU.1 q with y|y
     .omega
     .have:=A i (kD.2 (.inl y));omega
   refine⟨(base::C)++P',?_,?_,λi=>?_⟩
   ·show bn_ _ (j5_ base ((x::xs).length+1)) ((x::xs).map (·.2)) _ _;rw[B4_,map_cons];obtain⟨Q1,f1,Q2,f2,g1,g2,g3,g4,⟨y,r,g5,Z⟩,g7⟩:=I;refine⟨base::C,O,P',e2,V,k1,rfl,rfl,λz G=>?_,λz G=>?_⟩
    .rw[<-Z];exact a3 z G y (by rw[g2,g5];simp)
    .rw[<-Z];rw[g2,g5,cons_append]at G N;rcases kU.1 G with q|q
     .rw[q];exact b0_ _
     .exact dC_ ((kW.1 N).1 z q)
   .exact kT.2 ⟨nodup_cons.2 ⟨F,U⟩,k2,λi D j hj e=>hm j hj (by rw[<-e];exact D)⟩
   ·rw[kD,k3,kU,kD];simp only[length_cons];constructor
    .rintro ((q|q)|(q|q))
     .omega
     .exact .inl (.inl q)
     .exact .inl (.inr q)
     .exact .inr o_
    .rintro ((q|q)|q)
     .exact .inl (.inr q)
     .exact .inr (.inl q)
     .omega
theorem l3_(T:List Pg)(xs:Lvl)(next:Nat):∀j,(eC_ T xs next j).length=T.length
 |0=>rfl
 |j+1=>by unfold eC_;rw[length_set,l3_ T xs next j]
theorem mm_ (T:List Pg) (xs:Lvl) (next:Nat):∀j i,i<next\/next+j<=i->(eC_ T xs next j)[i]?=T[i]?
 |0,i,_=>rfl
 |j+1,i,h=>by
  unfold eC_;rw[kF o_,mm_ T xs next j i o_]
theorem y7_ (T:List Pg) (xs:Lvl) (next:Nat):∀j i (h:i<j),next+j<=T.length->j<=xs.length->(eC_ T xs next j)[next+i]?=(xs[i]?).map (·.1)
 |0,i,h,_,_=>o_
 |j+1,i,h,r,A=>by
  unfold eC_;by_cases e:i=j
  .subst e;rw[kH (by rw[l3_];omega),kG o_];rfl
  .rw[kF o_];exact y7_ T xs next j i o_ o_ o_
def KL_:∀n:Fin 61,∀i:Fin 15,5<=n.1->i.1<kOf n.1 4->2<=aP_ n.1 (kOf n.1 4) (i.1+1)-aP_ n.1 (kOf n.1 4) i.1/\aP_ n.1 (kOf n.1 4) (i.1+1)-aP_ n.1 (kOf n.1 4) i.1<=4:=by decide+kernel
def KK_:∀n:Fin 61,kOf n.1 4<=15/\(n.1<=4->kOf n.1 4=1)/\(5<=n.1->2<=kOf n.1 4):=by decide+kernel
def KO_:∀n:Fin 16,∀i:Fin 3,6<=n.1->i.1<kOf n.1 5->3<=aP_ n.1 (kOf n.1 5) (i.1+1)-aP_ n.1 (kOf n.1 5) i.1/\aP_ n.1 (kOf n.1 5) (i.1+1)-aP_ n.1 (kOf n.1 5) i.1<=5:=by decide+kernel
def KF_:∀n:Fin 16,kOf n.1 5<=3/\(n.1<=5->kOf n.1 5=1)/\(6<=n.1->2<=kOf n.1 5):=by decide+kernel
theorem C7_{α:Type}(l:List α)(h:a<=b):l.take b=l.take a++(l.drop a).take (b-a):=by
 obtain⟨c,rfl⟩:∃c,b=a+c:=⟨b-a,o_⟩;rw[take_add,Nat.add_sub_cancel_left]
def zn_(D:Asc e)(C:nd_ e)(G:e.length<=4):hX_ T 0 ⟨true,true,e.map (·.1),e.map (·.2),[]⟩ [] e:=by
 refine⟨⟨u_ G,⟨rfl,eq_ (J0_ D),λk r=>?_,λ_=>⟨t_,rfl,λv F=>?_⟩,λh=>g_⟩⟩,.inl ⟨rfl,rfl,rfl,(Ii_ e).symm⟩⟩
 .obtain⟨x,A,rfl⟩:=lA.1 r;exact (C x A).1
 .obtain⟨x,A,rfl⟩:=lA.1 F;exact (C x A).2
def xQ_ {d next base:Nat} {xs:Lvl} {P:List Nat} {e:KV} (h2:2<=xs.length) (h5:xs.length<=5) (C:LV T d xs P e) (O:∀j (h:j<xs.length),T[base+j]?=some (xs[j]).1) (I:Asc e) (hk:nd_ e) (F:P.Nodup) (D:∀i∈P,i<next) (G:next<=base) (W:1<=next) (Y:base+xs.length<=48):
 ∃P',hX_ T (d+1) ⟨true,false,xs.tail.map (·.2),[],j5_ base xs.length⟩ P' e/\P'.Nodup/\∀i,i∈P'↔i∈P\/(base<=i/\i<base+xs.length):=by
 have⟨P',J,Z,U⟩:=LV.kids (λq=>g_) C O I F D G;obtain⟨l1,l2⟩:=C.leasts I;have ht:(xs.tail.map (·.2)).length=xs.length-1:=t_
 have A:∀s∈xs.tail.map (·.2),s∈xs.map (·.2):=λs V=>by
  obtain⟨x,C,e⟩:=lA.1 V;exact lA.2 ⟨x,mem_of_mem_tail C,e⟩
 refine⟨P',⟨⟨by show (xs.tail.map (·.2)).length<=4;omega,⟨rfl,eq_ ?_,λk r=>?_,λh=>(k_ h),λ_=>⟨by show 1<=(xs.tail.map (·.2)).length;omega,rfl,?_,λk r=>?_,?_⟩⟩⟩,.inr ⟨rfl,J⟩⟩,Z,U⟩
 .grind
 .obtain⟨y,N,e⟩:=l2 k (A k r);rw[<-e];exact (hk y N).1
 .unfold j5_;simp;omega
 .obtain⟨j,hj,e⟩:=lA.1 (r);grind
 .exact pairwise_map.2 (nodup_range.imp λ{a b} h q=>h o_)
def Fl_ (T:List Pg) (Y:Asc ps) (hk:nd_ ps) (W:5<=ps.length) (N:ps.length<=60):LV T 0 (cV_ ps) [] ps:=by
 have G:=KK_ ⟨ps.length,o_⟩;dsimp at G;have key:∀i,i<=kOf ps.length 4->LV T 0 ((List.range i).map (h9_ ps (kOf ps.length 4))) [] (ps.take (aP_ ps.length (kOf ps.length 4) i)):=by
  intro i;induction i with
  |zero=>intro _;rw[gi_];exact⟨rfl,rfl⟩
  | succ i V=>
   intro F;have O:=KL_ ⟨ps.length,o_⟩ ⟨i,o_⟩ W g_;dsimp at O;have J:=lz_ ps.length (kOf ps.length 4) i;have U:=my_ (n:=ps.length) F (jx_ _ _);rw[range_succ,kL,map_cons,map_nil,C7_ ps J];have D:((ps.drop (aP_ ps.length (kOf ps.length 4) i)).take (aP_ ps.length (kOf ps.length 4) (i+1)-aP_ ps.length (kOf ps.length 4) i)).length=aP_ ps.length (kOf ps.length 4) (i+1)-aP_ ps.length (kOf ps.length 4) i:=by
    grind
   have r:((ps.drop (aP_ ps.length (kOf ps.length 4) i)).take (aP_ ps.length (kOf ps.length 4) (i+1)-aP_ ps.length (kOf ps.length 4) i)).Sublist ps:=(take_sublist _ _).trans (drop_sublist _ _);refine LV.append (V o_) ?_;have I:=zn_ (T:=T) (Y.sublist r) (λx Z=>hk x (r.subset Z)) o_;refine⟨[],_,[],[],rfl,t_,I,s_,?_,⟨rfl,rfl⟩⟩;have C:aP_ ps.length (kOf ps.length 4) i<ps.length:=o_
   refine⟨ps[aP_ ps.length (kOf ps.length 4) i],(ps.drop (aP_ ps.length (kOf ps.length 4) i+1)).take (aP_ ps.length (kOf ps.length 4) (i+1)-aP_ ps.length (kOf ps.length 4) i-1),?_,?_⟩
   .rw[lB C];have⟨c,A⟩:∃c,aP_ ps.length (kOf ps.length 4) (i+1)-aP_ ps.length (kOf ps.length 4) i=c+1:=⟨_,(Nat.succ_pred_eq_of_pos o_).symm⟩;rw[A,take_succ_cons,Nat.add_sub_cancel]
   .grind
 have:=key _ (kO _);rw[nB_ (jx_ _ _),take_length]at this;exact this
def E0_ {T:List Pg} {d next:Nat} {xs:Lvl} {P:List Nat} {ps:KV} (hx:LV T d xs P ps) (ha:Asc ps) (hk:nd_ ps) (hnd:P.Nodup) (hP:∀i,i∈P↔1<=i/\i<next) (hn1:1<=next) (h2:2<=xs.length) (h15:xs.length<=15) (h48:next+xs.length<=48) (hT:T.length=48):
 ∃P',P'.Nodup/\(∀i,i∈P'↔1<=i/\i<next+xs.length)/\
  ((xs.length<=5/\∃q,upD xs next=[q]/\hX_ (eC_ T xs next xs.length) (d+1) q.1 P' ps)\/(6<=xs.length/\LV (eC_ T xs next xs.length) (d+1) (upD xs next) P' ps)):=by
 have hK:=KF_ ⟨xs.length,o_⟩;dsimp only at hK;have hx':LV (eC_ T xs next xs.length) d xs P ps:=hx.keep λi hi=>mm_ _ _ _ _ _ (.inl ((hP i).1 hi).2);have hpl:∀j (h:j<xs.length),(eC_ T xs next xs.length)[next+j]?=some (xs[j]).1:=λj h=>by
  rw[y7_ T xs next xs.length j h o_ (kO _),kG h];rfl
 generalize eC_ T xs next xs.length=T' at*;by_cases h6:xs.length<=5
 ·have hk1:=hK.2.1 h6;obtain⟨P',k1,k2,k3⟩:=xQ_ (base:=next) h2 h6 hx' hpl ha hk hnd (λi hi=>((hP i).1 hi).2) (kO _) hn1 h48;refine⟨P',k2,λi=>by rw[k3,hP];omega,.inl ⟨h6,(qn_ xs next 1 0),by unfold upD;rw[hk1];rfl,?_⟩⟩;have e0:aP_ xs.length 1 0=0:=gi_ _ _;have e1:aP_ xs.length 1 (0+1)=xs.length:=nB_ o_;unfold qn_;dsimp only;rw[e0,e1];have q1:(xs.drop (0+1)).take (xs.length-(0+1))=xs.tail:=by rw[kN,drop_one,k7 t_]
  have q2:((List.range (xs.length-0)).map λj=>((next+(0+j):Nat):Int))=j5_ next xs.length:=by
   unfold j5_;rw[Nat.sub_zero];apply map_congr_left;intro j _;congr 2;omega
  rw[q1,q2];exact k1
 ·have h6:6<=xs.length:=by omega
  have key:∀i,i<=kOf xs.length 5->∀Q f,LV T' d (xs.take (aP_ xs.length (kOf xs.length 5) i)) Q f->Asc f->nd_ f->Q.Nodup->(∀j∈Q,j<next)->∃P',P'.Nodup/\(∀j,j∈P'↔j∈Q\/(next<=j/\j<next+aP_ xs.length (kOf xs.length 5) i))/\LV T' (d+1) ((List.range i).map (qn_ xs next (kOf xs.length 5))) P' f:=by
   intro i;induction i with
   |zero=>
    intro _ Q f hQ _ _ _ _;rw[gi_,take_zero]at hQ;obtain⟨q1,q2⟩:=hQ;subst q1;subst q2;exact⟨[],nodup_nil,λj=>by rw[gi_];simp,rfl,rfl⟩
   | succ i ih=>
    intro hi Q f hQ haf hkf hnQ hlQ;have hc:=KO_ ⟨xs.length,o_⟩ ⟨i,o_⟩ h6 (by show i<kOf xs.length 5;omega);dsimp only at hc;have hm:=lz_ xs.length (kOf xs.length 5) i;have hle:=my_ (n:=xs.length) (k:=kOf xs.length 5) (i:=i+1) hi (jx_ _ _);rw[C7_ xs hm]at hQ;obtain⟨Q1,f1,Q2,f2,g1,g2,g3,g4⟩:=hQ.split;subst g1;subst g2;obtain⟨a1,a2,a3⟩:=kZ.1 haf;obtain⟨d1,d2,d3⟩:=kT.1 hnQ;obtain⟨P1,p1,p2,p3⟩:=ih o_ Q1 f1 g3 a1 (λx hx=>hkf x (by simp[hx])) d1 (λj hj=>hlQ j (by simp[hj]));generalize hci:aP_ xs.length (kOf xs.length 5) i=ci at*;generalize hcj:aP_ xs.length (kOf xs.length 5) (i+1)=cj at*;have hlen:((xs.drop ci).take (cj-ci)).length=cj-ci:=by rw[lC,length_drop];omega
    obtain⟨P2,k1,k2,k3⟩:=xQ_ (base:=next+ci) (next:=next) (by rw[hlen];omega) (by rw[hlen];omega) g4 (λj hj=>by
     rw[Nat.add_assoc,hpl (ci+j) o_];simp) a2 (λx hx=>hkf x (by simp[hx])) d2 (λj hj=>hlQ j (by simp[hj])) o_ hn1 (by rw[hlen];omega)
    rw[hlen]at k1 k3;refine⟨P1++P2,kT.2 ⟨p1,k2,λj hj j' hj' e=>?_⟩,λj=>?_,?_⟩
    ·subst e;have z1:=(p2 j).1 hj;have z2:=(k3 j).1 hj';rcases z1 with z1|z1
     .rcases z2 with z2|z2
      .exact d3 j z1 j z2 rfl
      .have:=hlQ j (by simp[z1]);omega
     .rcases z2 with z2|z2
      .have:=hlQ j (by simp[z2]);omega
      .omega
    ·rw[kD,p2,k3,kD];constructor
     .rintro ((q|q)|(q|q))
      .exact .inl (.inl q)
      .exact .inr o_
      .exact .inl (.inr q)
      .exact .inr o_
     ·rintro ((q|q)|q)
      .exact .inl (.inl q)
      .exact .inr (.inl q)
      .rcases Nat.lt_or_ge j (next+ci) with z|z
       .exact .inl (.inr o_)
       .exact .inr (.inr o_)
    ·rw[range_succ,kL,map_cons,map_nil];refine LV.append p3 ?_;have q0:qn_ xs next (kOf xs.length 5) i=(⟨true,false,((xs.drop ci).take (cj-ci)).tail.map (·.2),[],j5_ (next+ci) (cj-ci)⟩,(xs[ci]?.map (·.2)).getD (mkS [])):=by
      unfold qn_;rw[hci,hcj];congr 2
      .rw[<-drop_one,<-drop_take,<-drop_take,drop_drop]
      .unfold j5_;apply map_congr_left;intro j _;congr 1;omega
     have hlt:ci<xs.length:=o_
     rw[q0,kG hlt];refine⟨P2,f2,[],[],t_,t_,k1,s_,?_,rfl,rfl⟩;rw[lB hlt]at g4;obtain⟨c,hc'⟩:∃c,cj-ci=c+1:=⟨_,(Nat.succ_pred_eq_of_pos o_).symm⟩;rw[hc',take_succ_cons]at g4;obtain⟨_,e1,_,e2,_,w2,_,_,⟨y,r,w5,w6⟩,_⟩:=g4;refine⟨y,r++e2,by rw[w2,w5];rfl,w6⟩
  have hall:aP_ xs.length (kOf xs.length 5) (kOf xs.length 5)=xs.length:=nB_ (jx_ _ _);obtain⟨P',z1,z2,z3⟩:=key _ (kO _) P ps (by rw[hall,take_length];exact hx') ha hk hnd λi hi=>((hP i).1 hi).2;rw[hall]at z2;exact⟨P',z1,λi=>by rw[z2,hP];omega,.inr ⟨h6,z3⟩⟩
def Ey_(i:Nat)(h:1<=i)(r:i<48):ng_[i]?=some noPg:=by
 obtain⟨j,rfl⟩:∃j,i=j+1:=⟨i-1,o_⟩;show (replicate 47 noPg)[j]?=some noPg;grind
def p6_(h:hX_ T d p P ps)(D:P.Nodup)(O:∀i,i∈P↔1<=i/\i<next)(N:T.length=48)(r:∀i,next<=i->1<=i->i<48->T[i]?=some noPg)(C:ps.length<=60):fT_ (T.set 0 p) (d+1) (0::P) ps:=by
 have J:0∉P:=λq=>g_
 refine⟨by simp[N],(h.keep λi I=>kF λe=>J g_).sub (kH o_),nodup_cons.2 ⟨J,D⟩,λi q G I=>?_,C⟩;have A:i<48:=g_
 have F:i≠0:=λe=>I g_;rw[kF (Ne.symm F),r i g_ o_ A]at G;cases G;rfl
def AF_ (I:Asc ps) (J:nd_ ps) (r:ps.length<=60):∃d P,fT_ (oI_ ps) d P ps:=by
 have V:=KK_ ⟨ps.length,o_⟩;dsimp at V;have hll:(cV_ ps).length=kOf ps.length 4:=by simp[cV_]
 unfold oI_;by_cases h5:5<=ps.length
 ·have N:=Fl_ ng_ I J h5 r;rw[show (64:Nat)=63+1 from rfl,hS_,lE o_];obtain⟨P1,Y,W,c1⟩:=E0_ N I J nodup_nil (λi=>⟨λq=>g_,λq=>o_⟩) (kO _) o_ o_ o_ rfl;have A:(eC_ ng_ (cV_ ps) 1 (cV_ ps).length).length=48:=l3_ _ _ _ _;have D:∀i,1+(cV_ ps).length<=i->1<=i->i<48->(eC_ ng_ (cV_ ps) 1 (cV_ ps).length)[i]?=some noPg:=λi G F C=>by
   rw[mm_ _ _ _ _ _ (.inr G)];exact Ey_ i F C
  generalize hnx:1+(cV_ ps).length=nx at*;rcases c1 with⟨_,q,e,U⟩|⟨h6,Z⟩
  .rw[e,show (63:Nat)=62+1 from rfl,hS_,lH t_];exact⟨_,_,p6_ U Y W A D r⟩
  .have O:=KF_ ⟨(cV_ ps).length,o_⟩;dsimp at O;have hul:(upD (cV_ ps) 1).length=kOf (cV_ ps).length 5:=by simp[upD]
   rw[show (63:Nat)=62+1 from rfl,hS_,lE o_];obtain⟨P2,n2,m2,c2⟩:=E0_ Z I J Y W o_ o_ o_ o_ A;rcases c2 with⟨_,q,e,U⟩|⟨h6',_⟩
   .rw[e,show (62:Nat)=61+1 from rfl,hS_,lH t_];exact⟨_,_,p6_ U n2 m2 (by rw[l3_];exact A) (λi G F C=>by rw[mm_ _ _ _ _ _ (.inr G)];exact D i o_ F C) r⟩
   .omega
 ·have h1:=V.2.1 o_;have N:cV_ ps=[h9_ ps 1 0]:=by unfold cV_;rw[h1];rfl
  rw[show (64:Nat)=63+1 from rfl,hS_,N,lH t_];have hp:(h9_ ps 1 0).1=⟨true,true,ps.map (·.1),ps.map (·.2),[]⟩:=by
   unfold h9_;rw[gi_,nB_ (show 0<0+1 by omega),Nat.sub_zero,drop_zero,take_length]
  refine⟨1,[0],p6_ (next:=1) ?_ nodup_nil (λi=>⟨λq=>g_,λq=>o_⟩) rfl (λi G F C=>Ey_ i F C) r⟩;show hX_ ng_ 0 (h9_ ps 1 0).1 [] ps;rw[hp];exact zn_ I J o_
def C6_(A:Asc ps)(C:nd_ ps)(r:ps.length<=60):0<aL_ (oI_ ps)/\cL_ (oI_ ps)=ps:=by
 have⟨d,P,w⟩:=AF_ A C r;exact⟨w.pos',w.sound.2⟩
def WfT(T:List Pg):Nat->Nat->Prop
 |0,_=>False
 |f+1,a=>∃p,T[a]?=some p/\fm_ p/\∀k∈p.kids,WfT T f k.toNat
def D4_ (T:List Pg):∀(f a r:Nat)(lo hi:Y_)(st C:WS),cT_ T f a r lo hi st=some C->WfT T f a:=by
 intro f;induction f with
 |zero=>intro _ _ _ _ _ _ h;cases h
 | succ f Z=>
  intro a r lo hi st C h;have⟨p,W,J,A⟩:=f2_ h;have⟨_,D,_,_⟩:=l4_ J;have N:=(ef_ p).1 D;refine⟨p,W,N,λk I=>?_⟩;rcases A with⟨U,_⟩|⟨_,G⟩
  .rw[(N.2.leaf U).2.1]at I;simp at I
  ·have key:=l6_ (P:=λO _ _=>∀k∈O,WfT T f k.toNat) (λ_ k I=>g_) (λk O i s s1 s' hr V Y F=>by
    rcases kU.1 F with e|e
    .grind
    .exact V Y e) _ _ _ _ G
   grind
def SF.good(s:SF T st):WfT T 49 0:=D4_ T _ _ _ _ _ _ _ s.walk
def Cg_ (h:fm_ p):p.vals.length<=p.keys.length/\(p.keys.zip p.vals).length=p.vals.length:=by
 have:p.vals.length<=p.keys.length:=by
  cases r:p.leaf with
  |true=>have:=(h.2.leaf r).1;omega
  |false=>have:=(h.2.inner r).2.1;rw[this];simp
 grind
theorem BB_(ks:List Int)(i:Nat)(hi:i<ks.length):(ks.drop i).flatMap (λk=>allD T f k.toNat)=allD T f (ks[i]).toNat++(ks.drop (i+1)).flatMap (λk=>allD T f k.toNat):=by
 rw[lB hi,flatMap_cons]
theorem E1_{p:Pg}(r:T[a]?=some p):allD T (f+1) a=p.keys.zip p.vals++p.kids.flatMap λk=>allD T f k.toNat:=by rw[allD,r]
theorem G8_{α:Type}(l:List α)(i:Nat)(hi:i<l.length):l.take (i+1)=l.take i++[l[i]]:=by rw[take_succ_eq_append_getElem hi]
section
variable{H0:Hp}{x:Pl}{cs:List PC}{T:List Pg}
def J3_{H0 H:Hp}(D:H0<+:H)(h:Own H H0.length tKV a (n*2) (bZ_ ps))(F:ps.length=n)(x y:Y_)(G:n<=100000)
 (C:∀r H',H0<+:H'->Own H' H0.length tKV r ((n+1)*2) (bZ_ (ps++[(x,y)]))->(ps++[(x,y)]).length=n+1->Ex H0 a H H'->(∀l o,r=some (l,o)->H.length<=l/\o=0)->K r (n+1) H'):ap H tKV 2 32 a n [.str x,.str y] 1 K:=
 j9_ o_ D h (by rfl) (by unfold Lim;omega) λr H' o e f=>C r H' e.pre (by rw[kvCells_append'];exact o) g_ e f
where
 kvCells_append':∀{ps A:KV},bZ_ (ps++A)=bZ_ ps++bZ_ A:=by simp[bZ_]
def pE_ (hT:Tr H0 x 48 cs T):∀(f at_:Nat)(H:Hp)(Q:Post)(a:Pl)(n:Nat)(ps:KV),WfT T f at_->at_<48->H0<+:H->Own H H0.length tKV a (n*2) (bZ_ ps)->ps.length=n->n+(allD T f at_).length<=1000->
 (∀a' m H',H0<+:H'->Own H' H0.length tKV a' (m*2) (bZ_ (ps++allD T f at_))->(ps++allD T f at_).length=m->Q (nL a' m 2) H')->
 bt_.at f [yA x 48,gI (at_:Int),nL a n 2] H Q:=by
 intro f;induction f with
 |zero=>intro _ _ _ _ _ _ h;exact h.elim
 | succ f ih=>
  intro at_ H Q a n ps hg hat h0 hO hl hb hQ
  obtain⟨p,hp,hm,hkids⟩:=hg;obtain⟨l,o,c,p',rfl,hc,hp',hpc,g0,g1,g2,g3,g4⟩:=hT.get hat;rw[hp]at hp';cases hp';obtain⟨hv1,hv2⟩:=Cg_ hm;rw[E1_ hp]at hb hQ;rw[kI,hv2]at hb;have hn1:=hpc.keys.len;have hn2:=hpc.vals.len;have hn3:=hpc.kids.len;have hl3:=hpc.kids.lim;have hl2:=hpc.vals.lim;have k48:∀k∈p.kids,1<=k/\k<48:=λk hk=>by
   cases hlf:p.leaf with
   |true=>rw[(hm.2.leaf hlf).2.1]at hk;simp at hk
   |false=>exact (hm.2.inner hlf).2.2.2.1 k hk
  have l7:∀(F i:Nat)(H:Hp)(a:Pl)(n:Nat)(qs:KV),p.kids.length-i<F->i<=p.kids.length->H0<+:H->Own H H0.length tKV a (n*2) (bZ_ qs)->qs.length=n->n+((p.kids.drop i).flatMap λk=>allD T f k.toNat).length<=1000->
   qs++((p.kids.drop i).flatMap λk=>allD T f k.toNat)=ps++(p.keys.zip p.vals++p.kids.flatMap λk=>allD T f k.toNat)->
   bt_.l7 (bt_.at f) F a n (some (l,o)) 48 c.u c.l c.a1 c.n1 c.a2 c.n2 c.a3 c.n3 (i:Int) H Q:=by
   intro F;induction F with
   |zero=>intro i _ _ _ _ h;omega
   | succ F ihF=>
    intro i H a n qs hF hi h0 hO hl hb he;rw[bt_.l7_eq];by_cases hik:i<p.kids.length
    .rw[BB_ p.kids i hik]at hb he;rw[kI]at hb;have hmem:=kE hik;have hk:=k48 _ hmem;have ek:p.kids[i]=((p.kids[i].toNat:Nat):Int):=by omega
     rw[ay_ s_,af_,(hpc.mono h0).kids.rd i rfl hik];generalize hkk:p.kids[i]=kk at*;rw[ek];refine ih kk.toNat H _ a n qs (hkids kk hmem) o_ h0 hO hl o_ λa' m H' h0' hO' hl'=>?_;simp only[aJ_,ah_];rw[ao_ o_];exact ihF (i+1) H' a' m _ o_ o_ h0' hO' hl' (by rw[<-hl',kI,hl];omega) (by rw[kV];exact he)
    .rw[aB_ s_];rw[drop_of_length_le o_,flatMap_nil,append_nil]at he;subst he;exact hQ a n H h0 hO hl
  have l3:∀(F i:Nat)(H:Hp)(a:Pl)(n:Nat),p.vals.length-i+p.kids.length+2<F->i<=p.vals.length->H0<+:H->Own H H0.length tKV a (n*2) (bZ_ (ps++(p.keys.zip p.vals).take i))->(ps++(p.keys.zip p.vals).take i).length=n->
   bt_.l3 (bt_.at f) F a n (some (l,o)) 48 c.u c.l c.a1 c.n1 c.a2 c.n2 c.a3 c.n3 (i:Int) H Q:=by
   intro F;induction F with
   |zero=>intro i _ _ _ h;omega
   | succ F ihF=>
    intro i H a n hF hi h0 hO hl';rw[bt_.l3_eq];have hnn:n=ps.length+i:=by rw[<-hl',kI,lC,hv2];omega
    by_cases hik:i<p.vals.length
    ·rw[ay_ s_,af_,(hpc.mono h0).keys.rd i rfl o_,af_,(hpc.mono h0).vals.rd i rfl hik,af_];refine J3_ h0 hO hl' _ _ o_ λa' H' h0' hO' hl2 _ _=>?_;rw[ao_ o_];have e:(p.keys.zip p.vals)[i]'o_=(p.keys[i]'o_,p.vals[i]):=by simp
     have e2:ps++(p.keys.zip p.vals).take (i+1)=ps++(p.keys.zip p.vals).take i++[(p.keys[i]'o_,p.vals[i])]:=by
      rw[G8_ _ i o_,e,kV]
     exact ihF (i+1) H' a' (n+1) o_ o_ h0' (by rw[e2];exact hO') (by rw[e2];exact hl2)
    .rw[aB_ s_];have e:(p.keys.zip p.vals).take i=p.keys.zip p.vals:=k7 o_;rw[e]at hO hl';refine l7 F 0 H a n _ o_ o_ h0 hO hl' ?_ (by rw[drop_zero,kV]);rw[drop_zero];omega
  refine⟨p.vals.length+p.kids.length+4,?_⟩;rw[Br_,af_];refine ab_ s_ ?_;have etN:tN (at_:Int)=at_:=rfl
  rw[ad_,etN,cx_ (cd_ h0 g0) (cd_ h0 g1) (cd_ h0 g2) (cd_ h0 g3) (cd_ h0 g4)];exact l3 _ 0 H a n o_ o_ h0 (u_ hO) (u_ hl)
end
def inR(lo hi:Y_)(x:Y_ × Y_):Bool:= !(blt x.1 lo)&&(decide (hi.size=0)||blt x.1 hi)
def el_(T:List Pg):KV:=match decide (0<aL_ T) with|true=>cL_ T|false=>[]
def ky_(e:Int)(T:List Pg):Int:=match decide (0<aL_ T) with|true=>0|false=>e
def uF_(T:List Pg)(lo hi:Y_):KV:=(el_ T).filter (inR lo hi)
def oG_(T:List Pg):(el_ T).length<=60:=by
 unfold el_;by_cases h:0<aL_ T
 .rw[lE h];have⟨st,s⟩:=SF.of h;exact s.ents.2.2.2
 .grind
theorem FY_(T:List Pg):uF_ T (mkS []) (mkS [])=el_ T:=by
 unfold uF_;rw[filter_eq_self];intro x _;unfold inR;rw[Hc_];rfl
section
variable{H:Hp}{Q:Post}{x:Pl}{n:Nat}{cs:List PC}{T:List Pg}
def yh_ (C:Tr H x n cs T) (r:∀a m H',H<+:H'->Own H' H.length tKV a (m*2) (bZ_ (el_ T))->(el_ T).length=m->Q (.tup [yR a m 2,nN (ky_ 1400 T)]) H'):jY_ [yA x n] H Q:=by
 refine⟨1,?_⟩;rw[CJ_];refine mN_ C λD A=>?_;unfold el_ ky_ at r;by_cases h:0<aL_ T
 .rw[lE h]at r ⊢;have⟨st,s⟩:=SF.of h;have I:n=48:=by have:=C.lenT;have:=s.len;omega
  subst I;refine⟨49,?_⟩;refine pE_ (C.mono A) 49 0 D _ none 0 [] s.good o_ (k8 _) (.inl ⟨rfl,rfl,rfl⟩) rfl (by have:=s.ents.2.2.2;unfold cL_ at this;omega) λa m H' G J F=>?_;simp[aJ_];exact r a m H' (A.trans G) (J.base (q4_ A)) F
 .rw[lH h]at r ⊢;exact r none 0 D A (.inl ⟨rfl,rfl,rfl⟩) rfl
end
theorem oD_:bZ_ (ps++qs)=bZ_ ps++bZ_ qs:=by simp[bZ_]
theorem JD_(lo hi k v:Y_):inR lo hi (k,v)=(!(blt k lo)&&(decide (hi=mkS [])||blt k hi)):=by
 unfold inR;congr 2;rw[decide_eq_decide];exact (wr_ hi).symm
structure SJ(B H:Hp)(t:TypeId)(ps:KV):Prop where
 pre:B<+:H
 out:∃a n,H[B.length]?=some (.row true t [.sl a n 2])/\Own H (B.length+1) tKV a (n*2) (bZ_ ps)/\ps.length=n
section
variable{B H:Hp}{t:TypeId}{ps:KV}{lf lt:Nat}{lo hi:Y_}{Q:Post}
theorem SJ.add (g:SJ B H t ps) (k v:Y_) (O:ps.length<=1000) {K:Hp->Prop} (G:∀H',SJ B H' t (ps++[(k,v)])->K H'):
 rd H B.length 0 λc=>dL 2 c λx n=>chk true (ap H tKV 2 32 x n [.str k,.str v] 1 λx n H=>wr H B.length 0 (.sl x n 2) λH=>K H):=by
 have⟨a,n,r,J,D⟩:=g.out;rw[ac_ (by rw[aY_ r];rfl),ah_,af_];have C:(H.take (B.length+1)).length=B.length+1:=g_
 refine j9_ o_ (take_prefix _ _) (by rw[C];exact J) rfl (by unfold Lim;omega) λF H' o e f=>?_;rw[C]at o;have A:H'[B.length]?=some (.row true t [.sl a n 2]):=by
  rw[a9_ e.pre o_,getElem?_take,if_pos o_];exact r
 rw[pM_ A t_];have I:B<+:H':=IsPrefix.trans (prefix_take_iff.2 ⟨g.pre,o_⟩) e.pre;refine G _ ⟨dI_ I (kO _) _,F,n+1,?_,?_,by simp[D]⟩
 .grind
 .rw[oD_];exact Own.keep o λl N=>g_
end
section
variable{H0 B:Hp}{x:Pl}{cs:List PC}{T:List Pg}{t:TypeId}{lp lf lt gf:Nat}{lo hi:Y_}{E:Nat->Sm}
end
section
variable{H:Hp}{Q:Post}{x:Pl}{n:Nat}{cs:List PC}{T:List Pg}{lo hi:Y_}
end
theorem qX_:∀(ps:KV)(k:Nat),bZ_ (ps.drop k)=(bZ_ ps).drop (k*2)
 |[],k=>by simp[bZ_]
 |x::ps,0=>t_
 |x::ps,k+1=>by
  rw[drop_succ_cons,qX_ ps k];have e:(k+1)*2=k*2+1+1:=o_
  rw[e];rfl
theorem r3_:∀(ps:KV)(k:Nat),bZ_ (ps.take k)=(bZ_ ps).take (k*2)
 |[],k=>by simp[bZ_]
 |x::ps,0=>by simp[bZ_]
 |x::ps,k+1=>by
  have e:(k+1)*2=k*2+1+1:=o_
  rw[take_succ_cons,e];show GV.str x.1::GV.str x.2::bZ_ (ps.take k)=_;rw[r3_ ps k];rfl
theorem Kv.part(h:Kv H a n ps)(k m:Nat)(r:k+m<=n):Kv H (shf a (k*2)) m ((ps.drop k).take m):=by
 refine⟨?_,by rw[lC,length_drop,h.len];omega⟩;rw[r3_,qX_];exact mf_ h.cells (k*2) (m*2) o_
section
variable{H:Hp}{Q:Post}
end
def kvA:KV:=[(mkS [97],mkS [49]),(mkS [98],mkS []),(mkS [99],mkS [51]),(mkS [100],mkS []),(mkS [101],mkS [53])]
theorem hA:0<aL_ (oI_ kvA):=by decide+kernel
theorem eA:ky_ 1400 (oI_ kvA)=0:=by decide+kernel
section
variable{H:Hp}{Q:Post}
def lM_(T:List Pg):Asc (el_ T):=by
 unfold el_;by_cases h:0<aL_ T
 .rw[lE h];have⟨st,s⟩:=SF.of h;exact s.ents.1
 .rw[lH h];exact Pairwise.nil
def yY_(T:List Pg)(e:Int):(aL_ T=0/\ky_ e T=e/\el_ T=[])\/(0<aL_ T/\ky_ e T=0/\el_ T=cL_ T):=by
 unfold ky_ el_;grind
end
section
variable{H:Hp}{Q:Post}{key:Y_}{ks:List Y_}
theorem wW_(i:Nat)(hi:i<ks.length):b2_ (ks.take (i+1)) key=b2_ (ks.take i) key+(match blt ks[i] key with|true=>1|false=>0):=by
 unfold b2_;rw[take_succ_eq_append_getElem hi,countP_append];congr 1
def qW_:b2_ ks key<=ks.length:=countP_le_length
def hR_ (h:Ss H a n ks) (C:Q (.tup [nN (b2_ ks key:Int),.s (.bool (dR_ ks key))]) H):cE_ [nL a n 1,gS key] H Q:=by
 have N:=h.len;have D:=h.lim;refine⟨n+2,?_⟩;rw[z9_];have r:∀(F i),n-i<F->i<=n->cE_.l3 F a n key (b2_ (ks.take i) key) a n (nI n) i H Q:=by
  intro F;induction F with
  |zero=>omega
  | succ F J=>
   intro i O U;rw[cE_.l3_eq];by_cases I:i<n
   .have G:b2_ (ks.take i) key<=i:=Nat.le_trans qW_ (length_take_le _ _);rw[ay_ s_,af_,h.rd i rfl o_,h2_,ao_ o_,ao_ o_];have:=J (i+1) o_ o_;rw[wW_ i o_]at this;refine aa_ (λe=>?_) (λe=>?_)
    .grind
    .rw[e]at this;exact this
   ·rw[aB_ s_,k7 o_];refine aa_ (λe=>?_) (λe=>?_)
    ·have A:b2_ ks key<ks.length:=by simp at e;omega
     rw[af_,h.rd (b2_ ks key) rfl A];have:dR_ ks key=er_ ks[b2_ ks key] key:=by
      unfold dR_;rw[kG A,o1_];simp
     rw[this]at C;exact C
    ·have:dR_ ks key=false:=by
      unfold dR_;simp_all
     rw[this]at C;exact C
 exact r _ 0 o_ (kP _)
def k1_(D:gt H l (o+2)=some (.sl a n 1))(h:Ss H a n ks)(r:Q (gI (cp_ ks key:Int)) H):gM_ [gP (some (l,o)),gS key] H Q:=by
 have F:=h.len;have A:=h.lim;have C:=qW_ (ks:=ks) (key:=key);refine⟨1,?_⟩;rw[B9_,ad_,ac_ D,ah_];refine hR_ h ?_;simp[aH_];unfold cp_ at r;refine aa_ (λe=>?_) λe=>?_
 .rw[e]at r;rw[ao_ o_];exact r
 .grind
end
section
variable{H:Hp}{Q:Post}{x:Pl}{n:Nat}{cs:List PC}{T:List Pg}{key:Y_}
def Cn_(T:List Pg)(key:Y_):Option Y_:=cc_ (el_ T) key
def nD_ (hT:Tr H x n cs T) (hQ:∀H',H<+:H'->Q (.tup [.s (.str ((Cn_ T key).getD (mkS []))),.s (.bool (Cn_ T key).isSome),nN (ky_ 1100 T)]) H'):dx_ [yA x n,gS key] H Q:=by
 refine⟨60,?_⟩;rw[AN_];refine iu_ hT λH1 p1=>?_;simp only[aJ_,ak_];unfold Cn_ at hQ;rcases yY_ T 1100 with⟨e0,e1,e2⟩|⟨e0,e1,e2⟩
 .rw[e1,e2]at hQ;rw[lH o_,ay_ d_];exact hQ H1 p1
 rw[e1,e2]at hQ;rw[lE e0,aB_ d_];obtain⟨P,w⟩:=ob_ e0;have hT1:=hT.mono p1;have hn:n=48:=by have:=hT.lenT;have:=w.len;omega
 subst hn;obtain⟨l,o,c0,p0,rfl,_⟩:=hT1.get (i:=0) o_;rw[af_];refine ab_ t_ ?_;rw[ad_];have loop:∀(d F a:Nat)(P:List Nat)(ps:KV),Sub T d a P ps->d<F->cc_ (cL_ T) key=cc_ ps key->dx_.l4 F key (some (l,o)) 48 l (o+a*5) H1 Q:=by
  intro d;induction d with
  |zero=>intro F a P ps h;exact h.elim
  | succ d ih=>
   intro F a P ps h hF he;obtain⟨F,rfl⟩:∃F',F=F'+1:=⟨F-1,o_⟩;have hlt:=h.inT a h.head;obtain⟨p,hp,hm,hcase⟩:=h;obtain⟨l',o',c,p',ee,hc,hp',hpc,g0,g1,g2,g3,g4⟩:=hT1.get (i:=a) (by rw[w.len]at hlt;exact hlt);cases ee;rw[hp]at hp';cases hp';have hpl:p.leaf=c.l:=hpc.leaf;have hpw:=b8_ hm.2.rising;rw[dx_.l4_eq,ac_ (v:= .bool c.l) (by exact g1),ak_];rcases hcase with⟨_,hl,_,e⟩|⟨hl,P',_,hk⟩
   ·rw[aB_ (by rw[<-hpl,hl];rfl),ac_ (v:= .sl c.a1 c.n1 1) (by exact g2),ah_];refine hR_ hpc.keys ?_;simp only[aH_,aD_,bD_,ai_,ak_,a8_];have v1:=(hm.2.leaf hl).1;rw[e,zC_ hpw v1]at he;refine aa_ (λeb=>?_) (λeb=>?_)
    .have eb':dR_ p.keys key=false:=by simpa using eb
     rw[eb']at he;rw[he]at hQ;exact hQ H1 p1
    ·have eb':dR_ p.keys key=true:=by simpa using eb
     rw[eb']at he;have hs:b2_ p.keys key<p.vals.length:=by
      unfold dR_ at eb';have:=(kC.1 (of_decide_eq_true eb')).1;omega
     rw[ac_ (v:= .sl c.a2 c.n2 1) (by exact g3),ah_,af_,hpc.vals.rd (b2_ p.keys key) rfl hs];dsimp only at he;rw[kG hs]at he;rw[he]at hQ;exact hQ H1 p1
   .rw[ay_ (by rw[<-hpl,hl];rfl),ac_ (v:= .sl c.a3 c.n3 1) (by exact g4),ah_];refine k1_ (by exact g2) hpc.keys ?_;simp only[aJ_,ai_];obtain⟨k,P1,ps1,hk1,hk2,hk3⟩:=zh_ (key:=key) hk hpw;have hkl:=(kC.1 hk1).1;rw[ac_ (v:= .sl c.a3 c.n3 1) (by exact g4),ah_];refine⟨rfl,?_⟩;rw[af_,hpc.kids.rd (cp_ p.keys key) rfl hkl];have hke:p.kids[cp_ p.keys key]=k:=by rw[kG hkl]at hk1;exact Option.some.inj hk1
    have hk48:=(hm.2.inner hl).2.2.2.1 k (by rw[<-hke];exact kE _);rw[hke,af_];refine ab_ s_ ?_;rw[ad_];exact ih F k.toNat P1 ps1 hk2.1 o_ (he.trans hk3)
 have hd:=w.sub.low;have hc:=w.count;have:=loop (aL_ T) 59 0 P (cL_ T) w.sub o_ rfl;exact this
end
section
variable{H:Hp}{Q:Post}
def z8_(T:List Pg):nd_ (el_ T):=by
 rcases yY_ T 0 with⟨_,_,e⟩|⟨r,_,e⟩
 .exact λx A=>g_
 .rw[e];have⟨st,s⟩:=SF.of r;exact s.ents.2.1
end
def insK:KV->Y_->Y_->KV
 |[],k,v=>[(k,v)]
 | x::ps,k,v=>match decide (x.1=k) with
  |true=>(k,v)::ps
  |false=>match blt x.1 k with
   |true=>x::insK ps k v
   |false=>(k,v)::x::ps
def Af_(h:blt a b=false)(r:a≠b):blt b a=true:=by
 rcases g4_ a b with z|z|z
 .grind
 .grind
 .grind
def kb_:∀{ps:KV}(k v:Y_),Asc ps->∃L M R,ps=L++M++R/\insK ps k v=L++(k,v)::R/\(M=[]\/∃v0,M=[(k,v0)])/\(∀x∈L,blt x.1 k=true)/\(∀x∈R,blt k x.1=true)
 |[],k,v,_=>⟨[],[],[],rfl,rfl,.inl rfl,λx h=>g_,λx h=>j_ h⟩
 | x::ps,k,v,h=>by
  have⟨r,I⟩:=kW.1 h;unfold insK;by_cases e:x.1=k
  .rw[lE e];have⟨a,b⟩:=x;subst e;exact⟨[],[(a,b)],ps,rfl,rfl,.inr ⟨b,rfl⟩,λx h=>g_,r⟩
  ·rw[lH e];cases D:blt x.1 k with
   |true=>
    have⟨L,M,R,O,G,J,N,C⟩:=kb_ k v I;refine⟨x::L,M,R,g_,by rw[G];rfl,J,λy A=>?_,C⟩;grind
   |false=>
    have F:=Af_ D e;refine⟨[],[],x::ps,rfl,rfl,.inl rfl,λy h=>g_,λy A=>?_⟩;rcases kU.1 A with q|q
    .grind
    .exact dw_ F (r y q)
theorem tx_ (h:∀x∈l,blt x.1 k=true):insK (l++r) k v=l++insK r k v:=by
 induction l with
 |nil=>rfl
 |cons x l C=>
  have A:=h x t_;show (match decide (x.1=k) with|true=>(k,v)::(l++r)|false=>match blt x.1 k with|true=>x::insK (l++r) k v|false=>(k,v)::x::(l++r))=_;rw[lH (ms_ A),A];grind
theorem CN_{l r:KV}(h:∀x∈l,blt x.1 k=true):insK (l++(k,v0)::r) k v=l++(k,v)::r:=by
 rw[tx_ h];show l++(match decide (k=k) with|true=>(k,v)::r|false=>_)=_;grind
theorem wA_ (h:∀x∈l,blt x.1 k=true) (C:∀x∈r,blt k x.1=true):insK (l++r) k v=l++(k,v)::r:=by
 rw[tx_ h];congr 1;cases r with
 |nil=>rfl
 |cons x r=>
  have A:=C x t_;show (match decide (x.1=k) with|true=>(k,v)::r|false=>match blt x.1 k with|true=>x::insK r k v|false=>(k,v)::x::r)=_;rw[lH (Ne.symm (ms_ A)),dC_ A]
def rF_(h:Asc ps)(k v:Y_):Asc (insK ps k v):=by
 have⟨L,M,R,I,D,W,O,C⟩:=kb_ k v h;rw[D];rw[I]at h;have⟨F,A,J⟩:=kZ.1 h;have⟨G,N,U⟩:=kZ.1 F;refine kZ.2 ⟨G,kW.2 ⟨λx r=>C x r,A⟩,λx r y V=>?_⟩;grind
def wv_:x∈insK ps k v->x=(k,v)\/x∈ps:=by
 induction ps with
 |nil=>intro h;simp[insK]at h;exact .inl h
 |cons y ps r=>
  unfold insK;grind
def Ic_(h:nd_ ps)(A:1<=k.size)(D:k.size<=6)(C:v.size<=10):nd_ (insK ps k v):=λx r=>by
 rcases wv_ r with e|e
 .grind
 .exact h x e
theorem zd_ (h:Asc ps) (k v r:Y_):cc_ (insK ps k v) r=match decide (k=r) with|true=>some v|false=>cc_ ps r:=by
 have⟨L,M,R,D,C,F,G,J⟩:=kb_ k v h;rw[C];by_cases e:k=r
 .subst e;rw[lE rfl,kY_ λx A=>ms_ (G x A),gB_,lE rfl]
 ·rw[lH e,D,jI_,gB_,lH e,kV,jI_];cases cc_ L r with
  |some w=>rfl
  |none=>
   rcases F with rfl|⟨I,rfl⟩
   .rfl
   .rw[singleton_append,gB_,lH e]
theorem v3_(h:Asc ps)(k v:Y_):(insK ps k v).length=ps.length+(match (cc_ ps k).isNone with|true=>1|false=>0):=by
 have⟨L,M,R,C,A,D,F,G⟩:=kb_ k v h;rw[A,C,kV,kY_ λx r=>ms_ (F x r)];rcases D with rfl|⟨I,rfl⟩
 .rw[nil_append,hx_ λx r=>Ne.symm (ms_ (G x r))];grind
 .rw[singleton_append,gB_,lE rfl];simp
theorem mp_ (r:Pw ks) (h:key∈ks):dR_ ks key=true:=by
 induction ks with
 |nil=>simp at h
 |cons s ks C=>
  have⟨A,D⟩:=kW.1 r;rcases kU.1 h with e|e
  .subst e;rw[(kR_ r (b0_ _)).2,lE rfl]
  .rw[(mw_ (A key e)).2];grind
def ri_(h:dR_ ks key=true):∃r:b2_ ks key<ks.length,ks[b2_ ks key]=key:=by
 unfold dR_ at h;grind
def IL_ {ks vs:List Y_} (A:s<ks.length) (r:vs.length=ks.length) (v:Y_):ks.zip (vs.set s v)=(ks.zip vs).take s++(ks[s],v)::(ks.zip vs).drop (s+1):=by
 have e:ks.zip (vs.set s v)=(ks.zip vs).set s (ks[s],v):=by
  apply ext_getElem
  .simp
  .grind
 rw[e,set_eq_take_append_cons_drop,if_pos g_]
def En_{ks vs:List Y_}(C:s<ks.length)(A:vs.length=ks.length):ks.zip vs=(ks.zip vs).take s++(ks[s],vs[s]'o_)::(ks.zip vs).drop (s+1):=by
 have r:s<(ks.zip vs).length:=g_
 have e:(ks.zip vs)[s]=(ks[s],vs[s]'o_):=getElem_zip;rw[<-e,<-lB r,lD]
def Dt_(p:Pg)(key v:Y_):Pg:={ p with vals:=p.vals.set (b2_ p.keys key) v }
def G3_ (h:fm_ p) (G:v.size<=10):fm_ (Dt_ p key v):=by
 refine⟨h.1,⟨h.2.used,h.2.rising,h.2.keys,λA=>?_,λA=>?_⟩⟩
 .have⟨C,r,D⟩:=h.2.leaf A;refine⟨by show (p.vals.set _ v).length=_;rw[length_set];exact C,r,λw F=>?_⟩;rcases mem_or_eq_of_mem_set F with z|z
  .grind
  .grind
 .have⟨C,r,D⟩:=h.2.inner A;exact⟨C,by show p.vals.set _ v=[];rw[r];rfl,D⟩
def Sub.setVal {key v:Y_} (hi:T[i]?=some p) (hl:p.leaf=true) (hs:dR_ p.keys key=true) (hv:v.size<=10):
 ∀{d a:Nat}{P:List Nat}{ps:KV},Sub T d a P ps->P.Nodup->i∈P->∃L v0 R,ps=L++(key,v0)::R/\Sub (T.set i (Dt_ p key v)) d a P (L++(key,v)::R)
 |0,_,_,_,h,_,_=>h.elim
 | d+1,a,P,ps,h,r,A=>by
  have I:=(kC.1 hi).1;obtain⟨q,hq,hm,⟨e0,N,U,e2⟩|⟨N,P',U,hk⟩⟩:=h
  .subst U;obtain rfl:i=a:=mem_singleton.1 A;rw[hi]at hq;obtain rfl:=Option.some.inj hq;have⟨v1,_,_⟩:=hm.2.leaf hl;have⟨O,hse⟩:=ri_ hs;have c1:=En_ O v1;have c2:=IL_ O v1 v;rw[hse]at c1 c2;exact⟨_,_,_,e2.trans c1,Dt_ p key v,kH I,G3_ hm hv,.inl ⟨e0,hl,rfl,c2.symm⟩⟩
  ·subst U;rw[nodup_cons]at r;have hia:i≠a:=λe=>by grind
   have Z:i∈P':=g_
   have big:∀{k:Nat},(∃q,T[k]?=some q/\2<=q.keys.length)->∃q,(T.set i (Dt_ p key v))[k]?=some q/\2<=q.keys.length:=λ{k} ⟨q,F,h2⟩=>by
    by_cases e:i=k
    .subst e;rw[hi]at F;obtain rfl:=Option.some.inj F;exact⟨_,kH I,h2⟩
    .grind
   have kids:∀{Y:List Int}{W:List Y_}{P:List Nat}{ps:KV},bn_ (cJ_ T d) Y W P ps->P.Nodup->i∈P->∃L v0 R,ps=L++(key,v0)::R/\bn_ (cJ_ (T.set i (Dt_ p key v)) d) Y W P (L++(key,v)::R):=by
    intro Y;induction Y with
    |nil=>intro _ _ _ h;exact h.elim
    | cons k Y ih=>
     intro W P ps h r A;cases W with
     |nil=>
      have⟨L,v0,R,D,C⟩:=Sub.setVal hi hl hs hv h.2.1 r A;exact⟨L,v0,R,D,h.1,C,big h.2.2⟩
     | cons s W=>
      have ⟨P1,V,P2,J,F,h2,U,e2,h3,h4⟩:=h;subst U;subst e2;have⟨d1,d2,d3⟩:=kT.1 r;have swap:∀{L R:KV}{v0:Y_}{x},x∈L++(key,v)::R->∃y∈L++(key,v0)::R,y.1=x.1:=λ{L R v0 x} G=>by
       rcases kD.1 G with z|z
       .exact⟨x,kD.2 (.inl z),rfl⟩
       .rcases kU.1 z with z|z
        .exact⟨(key,v0),t_,by rw[z]⟩
        .exact⟨x,by simp[z],rfl⟩
      rcases kD.1 A with z|z
      .obtain⟨L,v0,R,D,C⟩:=Sub.setVal hi hl hs hv F.1 d1 z;subst D;refine⟨L,v0,R++J,t_,P1,_,P2,J,⟨C,big F.2⟩,h2.imp λk Q qs hs' hin=>hs'.keep λj hj=>kF λe=>d3 i z j (hin j hj) e,rfl,t_,λx G=>?_,h4⟩;obtain⟨y,hy,e⟩:=swap G;rw[<-e];exact h3 y hy
      .obtain⟨L,v0,R,D,C⟩:=ih h2 d2 z;subst D;refine⟨V++L,v0,R,t_,P1,V,P2,_,F.keep λj hj=>kF λe=>d3 j hj i z e.symm,C,rfl,t_,h3,λx G=>?_⟩;obtain⟨y,hy,e⟩:=swap G;rw[<-e];exact h4 y hy
   obtain⟨L,v0,R,D,C⟩:=kids hk r.2 Z;exact⟨L,v0,R,D,q,by rw[kF hia];exact hq,hm,.inr ⟨N,P',rfl,C⟩⟩
def Sub.leafOf:∀{d a:Nat}{P:List Nat}{ps:KV},Sub T d a P ps->x∈ps->∃i p,i∈P/\T[i]?=some p/\p.leaf=true/\fm_ p/\x∈p.keys.zip p.vals
 |0,_,_,_,h,_=>h.elim
 | d+1,a,P,ps,h,r=>by
  obtain⟨q,hq,hm,⟨W,D,G,F⟩|⟨D,P',G,N⟩⟩:=h
  .grind
  ·have kids:∀{C:List Int}{A:List Y_}{P:List Nat}{ps:KV},bn_ (cJ_ T d) C A P ps->x∈ps->∃i p,i∈P/\T[i]?=some p/\p.leaf=true/\fm_ p/\x∈p.keys.zip p.vals:=by
    intro C;induction C with
    |nil=>intro _ _ _ h;exact h.elim
    | cons k C Y=>
     intro A P ps h r;cases A with
     |nil=>exact Sub.leafOf h.2.1 r
     |cons s A=>
      obtain⟨P1,U,P2,J,I,h2,G,F,Z,h4⟩:=h;subst F;rcases kD.1 r with z|z
      .have⟨i,p,V,O⟩:=Sub.leafOf I.1 z;grind
      .grind
   have⟨i,p,V,O⟩:=kids N r;grind
section
variable{T:List Pg}{d:Nat}{P:List Nat}{ps:KV}{i:Nat}{p:Pg}{key v:Y_}
def fT_.leafIn(w:fT_ T d P ps)(hi:T[i]?=some p)(r:p.leaf=true):i∈P:=Decidable.byContradiction λh=>by
 have:=w.rest i p hi h;unfold cS_ at this;grind
def fT_.setVal(w:fT_ T d P ps)(hi:T[i]?=some p)(J:p.leaf=true)(N:dR_ p.keys key=true)(U:v.size<=10):fT_ (T.set i (Dt_ p key v)) d P (insK ps key v)/\(cc_ ps key).isSome=true:=by
 have C:=w.leafIn hi J;have⟨L,O,R,A,V⟩:=Sub.setVal hi J N U w.sub w.nodup C;have D:=w.sub.asc.1;rw[A]at D;have G:=λx r=>(kZ.1 D).2.2 x r (key,O) t_;have W:insK ps key v=L++(key,v)::R:=by rw[A,CN_ G]
 have Y:=w.count;refine⟨⟨by rw[length_set];exact w.len,g_,w.nodup,λj q F I=>?_,?_⟩,?_⟩
 .rw[kF λe=>I g_]at F;exact w.rest j q F I
 .grind
 .rw[A,kY_ λx r=>ms_ (G x r),gB_,lE rfl];rfl
def fT_.noLeaf(w:fT_ T d P ps)(h:∀(j:Nat)(q:Pg),T[j]?=some q->q.leaf=true->dR_ q.keys key=false):cc_ ps key=none:=hx_ λx r e=>by
 have⟨i,p,_,C,A,D,F⟩:=w.sub.leafOf r;have:=h i p C A;rw[mp_ (b8_ D.2.rising) (by rw[<-e];exact (gs_ F).1)]at this;grind
end
section
variable{B H H':Hp}{t:TypeId}{a:Pl}{n:Nat}{ds:List PC}{T:List Pg}{Q:Post}
def CT.val (g:CT B H t a n ds T) (hi:i<ds.length) (D:i<T.length) (Y:j<(T[i]).vals.length) (s:Y_)
 (V:∀H',CT B H' t a n ds (T.set i { T[i] with vals:=(T[i]).vals.set j s })->K H'):∃l,(ds[i]).a2=some (l,0)/\wr H l j (.str s) K:=by
 have A:=g.own i hi D;have r:=g.ot.all i hi D;rcases A.vals with⟨_,h,_⟩|⟨l,e,U,J,W⟩
 .simp_all
 have I:=(kC.1 J).1;have G:(ds[i]).on l:=⟨0,.inr (.inl e)⟩;refine⟨l,e,ce_ J g_ ?_⟩;rw[<-List.map_set];have keep:∀{N:TypeId}{x:Pl}{m:Nat}{O:List GV}(y:Obj),Own H B.length N x m O->(∀o,x≠some (l,o))->Own (H.set l y) B.length N x m O:=λy h Z=>h.keep λm F=>by
  grind
 have C:(ds[i]).own (H.set l (.row true tS (((T[i]).vals.set j s).map GV.str))) B.length { T[i] with vals:=(T[i]).vals.set j s }:=
  ⟨A.used,A.leaf,keep _ A.keys λo F=>A.d12 l o 0 F e,.inr ⟨l,e,U,kH I,g_⟩,keep _ A.kids λo F=>A.d23 l 0 o e F,A.d12,A.d13,A.d23⟩
 refine V _ (g.setRow hi D G _ U _ ⟨r.used,r.leaf,⟨C.keys.cells,r.keys.len,r.keys.lim⟩,⟨C.vals.cells,?_,r.vals.lim⟩,⟨C.kids.cells,r.kids.len,r.kids.lim⟩⟩ C);grind
theorem CT.add (g:CT B H t a n ds T) {d:PC} {O:Hp} (W:H<+:O) (hd:d.at O p) (U:d.own O H.length p) (F:∀l,d.on l->H.length<=l) (D:(n+1)*80<=Lim)
 (hK:∀a' H',CT B H' t a' (n+1) (ds++[d]) (T++[p])->K a' (n+1) H'):Am.ap O t 5 80 a n [.bool d.u,.bool d.l,.sl d.a1 d.n1 1,.sl d.a2 d.n2 1,.sl d.a3 d.n3 1] 1 K:=by
 have G:=g.ot;have I:=G.mono W;have hlen:=G.len;have Z:=G.lenT;have hp:=g.pre;refine I.add (hp.trans W) hd (λl D e=>by have:=F l D;have:=G.own.lt' e;omega) D λY N o3 x3 f3=>?_;have J:∀i (h:i<ds.length) (l:Nat),(ds[i]).on l->N[l]?=H[l]? :=λi h l D=>by
  rw[x3.row l (I.onlt (kE h) D) (I.off _ (kE h) l D),a9_ W (G.onlt (kE h) D)]
 refine hK Y N ⟨x3.pre,o3,λi h1 h2=>?_,λi j h1 h2 V l C A=>?_⟩
 .rw[getElem_append,getElem_append];by_cases e:i<n
  .rw[dif_pos o_,dif_pos o_];exact (g.own i o_ o_).keep λl D=>J i o_ l D
  .rw[dif_neg o_,dif_neg o_];simp;have r:=U.keep λl D=>x3.row l (hd.lt D) (λe=>by have:=F l D;have:=G.own.lt' e;omega);have hb:∀{t:TypeId}{x:Pl}{m:Nat}{es:List GV},Own N H.length t x m es->Own N B.length t x m es:=λh=>h.base hp.length_le;exact⟨r.used,r.leaf,hb r.keys,hb r.vals,hb r.kids,r.d12,r.d13,r.d23⟩
 ·simp [kI]at h1 h2;rw[getElem_append]at C A;by_cases e1:i<n
  .rw[dif_pos o_]at C;by_cases e2:j<n
   .rw[dif_pos o_]at A;exact g.ap i j o_ o_ V l C A
   .rw[dif_neg o_]at A;simp at A;have:=F l A;have:=G.onlt (kE o_) C;omega
  .rw[dif_neg o_]at C;simp at C;by_cases e2:j<n
   .rw[dif_pos o_]at A;have:=F l C;have:=G.onlt (kE o_) A;omega
   .omega
def CT.nil(H:Hp)(t:TypeId):CT H H t none 0 [] []:=⟨k8 _,OT.nil _ _ _,λi h=>t_,λi j h=>t_⟩
def mC_(h:Ss H a n xs)(r:∀H',H'=H++[.row true tS (xs.map GV.str)]->Q (nL (some (H.length,0)) n 1) H'):gQ_ [nL a n 1] H Q:=by
 have e:=h.len;have l:=h.lim;refine⟨1,?_⟩;rw[yp_,af_,Nat.mul_one,d5_ h.cells];refine p5_ (by unfold Lim;omega) g_ ?_;simp_all
def vW_(h:Is H a n xs)(r:∀H',H'=H++[.row true tI (xs.map (GV.int .i64))]->Q (nL (some (H.length,0)) n 1) H'):iD_ [nL a n 1] H Q:=by
 have e:=h.len;have l:=h.lim;refine⟨1,?_⟩;rw[Aq_,af_,Nat.mul_one,d5_ h.cells];refine p5_ (by unfold Lim;omega) g_ ?_;simp_all
def sO_ {cs:List PC} (hT:Tr H a n cs T) (hn:n*80<=140737488351232) (hQ:∀a' ds H',CT H H' tPg a' n ds T->Q (yA a' n) H'):cj_ [yA a n] H Q:=by
 have hlT:=hT.lenT;have loop:∀(f k:Nat)(a':Pl)(ds:List PC)(H':Hp),n-k<f->k<=n->CT H H' tPg a' k ds (T.take k)->cj_.l3 f a n none 0 a' k (k:Int) H' Q:=by
  intro f;induction f with
  |zero=>intro k _ _ _ h;omega
  | succ f ih=>
   intro k a' ds H' hf hk g;have hp:=g.pre;rw[cj_.l3_eq];by_cases hkn:k<n
   ·obtain⟨l,o,c,p,rfl,hc,hpp,hpc,g0,g1,g2,g3,g4⟩:=(hT.mono hp).get hkn;have etN:tN (k:Int)=k:=rfl;rw[ay_ s_,af_];refine ab_ s_ ?_;rw[ad_,etN,cx_ g0 g1 g2 g3 g4];obtain⟨hu,hl,hks,hvs,his⟩:=hpc;have e1:=hks.len;have e2:=hvs.len;have e3:=his.len;have l1:=hks.lim;have l2:=hvs.lim;have l3:=his.lim;refine mC_ hks λHa ha=>?_;subst ha;simp only[aJ_,ah_];have p1:=b4_ H' (.row true tS (p.keys.map GV.str));refine mC_ (hvs.mono p1) λHb hb=>?_;subst hb;simp only[aJ_,ah_];have p2:=p1.trans (b4_ (H'++[.row true tS (p.keys.map GV.str)]) (.row true tS (p.vals.map GV.str)));refine vW_ (his.mono p2) λHc hc'=>?_;subst hc';simp only[aJ_,ah_];have o1:Own (((H'++[Obj.row true tS (p.keys.map GV.str)])++[Obj.row true tS (p.vals.map GV.str)])++[Obj.row true tI (p.kids.map (GV.int .i64))]) H'.length tS (some (H'.length,0)) c.n1 (p.keys.map GV.str):= .inr ⟨_,rfl,kO _,by rw[kV,kV];simp,by simp[e1]⟩;have o2:Own (((H'++[Obj.row true tS (p.keys.map GV.str)])++[Obj.row true tS (p.vals.map GV.str)])++[Obj.row true tI (p.kids.map (GV.int .i64))]) H'.length tS (some ((H'++[Obj.row true tS (p.keys.map GV.str)]).length,0)) c.n2 (p.vals.map GV.str):= .inr ⟨_,rfl,t_,by rw[kV];simp,by simp[e2]⟩;have o3:Own (((H'++[Obj.row true tS (p.keys.map GV.str)])++[Obj.row true tS (p.vals.map GV.str)])++[Obj.row true tI (p.kids.map (GV.int .i64))]) H'.length tI (some (((H'++[Obj.row true tS (p.keys.map GV.str)])++[Obj.row true tS (p.vals.map GV.str)]).length,0)) c.n3 (p.kids.map (GV.int .i64)):= .inr ⟨_,rfl,t_,t_,by simp[e3]⟩;have p2':H'<+:(((H'++[Obj.row true tS (p.keys.map GV.str)])++[Obj.row true tS (p.vals.map GV.str)])++[Obj.row true tI (p.kids.map (GV.int .i64))]):=p2.trans (prefix_append _ _);have hfr:∀l,(⟨c.u,c.l,some (H'.length,0),c.n1,some ((H'++[Obj.row true tS (p.keys.map GV.str)]).length,0),c.n2,some (((H'++[Obj.row true tS (p.keys.map GV.str)])++[Obj.row true tS (p.vals.map GV.str)]).length,0),c.n3⟩:PC).on l->H'.length<=l:=by
     rintro l ⟨o,q|q|q⟩<;>simp at q<;>omega
    have hd:(⟨c.u,c.l,some (H'.length,0),c.n1,some ((H'++[Obj.row true tS (p.keys.map GV.str)]).length,0),c.n2,some (((H'++[Obj.row true tS (p.keys.map GV.str)])++[Obj.row true tS (p.vals.map GV.str)]).length,0),c.n3⟩:PC).at (((H'++[Obj.row true tS (p.keys.map GV.str)])++[Obj.row true tS (p.vals.map GV.str)])++[Obj.row true tI (p.kids.map (GV.int .i64))]) p:=⟨hu,hl,⟨o1.cells,e1,l1⟩,⟨o2.cells,e2,l2⟩,⟨o3.cells,e3,l3⟩⟩;have hdo:(⟨c.u,c.l,some (H'.length,0),c.n1,some ((H'++[Obj.row true tS (p.keys.map GV.str)]).length,0),c.n2,some (((H'++[Obj.row true tS (p.keys.map GV.str)])++[Obj.row true tS (p.vals.map GV.str)]).length,0),c.n3⟩:PC).own (((H'++[Obj.row true tS (p.keys.map GV.str)])++[Obj.row true tS (p.vals.map GV.str)])++[Obj.row true tI (p.kids.map (GV.int .i64))]) H'.length p:=by
     refine⟨hu,hl,o1,o2,o3,?_,?_,?_⟩
     .intro l o o' q1 q2;simp at q1 q2;omega
     .intro l o o' q1 q2;simp at q1 q2;omega
     .intro l o o' q1 q2;simp at q1 q2;omega
    rw[af_];have hTk:T.take k++[p]=T.take (k+1):=by
     rw[take_add_one,hpp];rfl
    have hlim:(k+1)*80<=Lim:=by unfold Lim;have:=Nat.mul_le_mul_right 80 (o_:k+1<=n);omega
    refine g.add p2' hd hdo hfr hlim λa'' H3 g3=>?_;rw[hTk]at g3;rw[ao_ o_];exact ih (k+1) a'' _ H3 o_ o_ g3
   .obtain rfl:k=n:=by omega
    rw[aB_ t_];rw[k7 o_]at g;exact hQ a' ds H' g
 refine⟨n+2,?_⟩;rw[tn_];exact loop (n+1) 0 none [] H o_ (kP _) (CT.nil H tPg)
end
section
variable{H:Hp}{Q:Post}{key v:Y_}{ks:List Y_}
def xW_ (h:Ss H a n ks) (C:Q (.tup [nN (b2_ ks key:Int),.s (.bool (dR_ ks key))]) H):dO_ [nL a n 1,gS key] H Q:=by
 have N:=h.len;have D:=h.lim;refine⟨n+2,?_⟩;rw[AP_];have r:∀(F i),n-i<F->i<=n->dO_.l3 F a n key (b2_ (ks.take i) key) i H Q:=by
  intro F;induction F with
  |zero=>omega
  | succ F I=>
   intro i O U;rw[dO_.l3_eq];by_cases G:i<n
   .have J:b2_ (ks.take i) key<=i:=Nat.le_trans qW_ (length_take_le _ _);rw[ay_ s_,af_,h.rd i rfl o_,h2_,ao_ o_,ao_ o_];have:=I (i+1) o_ o_;rw[wW_ i o_]at this;refine aa_ (λe=>?_) (λe=>?_)
    .grind
    .rw[e]at this;exact this
   ·rw[aB_ s_,k7 o_];refine aa_ (λe=>?_) (λe=>?_)
    ·have A:b2_ ks key<ks.length:=by simp at e;omega
     rw[af_,h.rd (b2_ ks key) rfl A];have:dR_ ks key=er_ ks[b2_ ks key] key:=by
      unfold dR_;rw[kG A,o1_];simp
     rw[this]at C;exact C
    ·have:dR_ ks key=false:=by
      unfold dR_;simp_all
     rw[this]at C;exact C
 exact r _ 0 o_ (kP _)
def r2_(T:List Pg)(key v:Y_):Bool:=decide (0<aL_ T)&&(decide (1<=key.size)&&(decide (key.size<=6)&&decide (v.size<=10)))
def vq_(T:List Pg)(key v:Y_):Int:=match r2_ T key v with
 |false=>1200
 |true=>match (cc_ (cL_ T) key).isNone&&decide (60<=(cL_ T).length) with|true=>1201|false=>0
structure Jp_(T A:List Pg)(key v:Y_):Prop where
 pos:0<aL_ A
 ent:cL_ A=insK (cL_ T) key v
 len:A.length=48
 was:(cc_ (cL_ T) key).isSome=true->∃i p,T[i]?=some p/\p.leaf=true/\dR_ p.keys key=true/\A=T.set i (Dt_ p key v)
 anew:(cc_ (cL_ T) key).isSome=false->A=oI_ (insK (cL_ T) key v)
def sx_ {x:Pl} {n:Nat} {cs:List PC} {T:List Pg} (hT:Tr H x n cs T) (hn:n*80<=140737488351232) (hQ1:∀H',vq_ T key v≠0->H<+:H'->Q (.tup [yB none 0,nN (vq_ T key v)]) H')
 (hQ2:vq_ T key v=0->0<aL_ T->∀x' cs' A H',H<+:H'->Tr H' x' 48 cs' A->Jp_ T A key v->Q (.tup [yB x' 48,nN 0]) H'):
 bm_ [yA x n,gS key,gS v] H Q:=by
 refine⟨130,?_⟩;rw[xd_];refine mN_ hT λH1 p1=>?_;simp only[aJ_,ak_];have bad:r2_ T key v=false->Q (.tup [yB none 0,nN 1200]) H1:=λe=>by
  have e2:vq_ T key v=1200:=by unfold vq_;rw[e]
  rw[e2]at hQ1;exact hQ1 H1 d_ p1
 by_cases e0:0<aL_ T
 rotate_left
 .rw[lH e0,ay_ d_];exact bad (by unfold r2_;rw[lH e0];rfl)
 rw[lE e0,aB_ d_];refine aa_ (λe=>bad (by unfold r2_;simp at e;rw[lH (o_:¬ 1<=key.size)];simp)) λk1=>?_;refine aa_ (λe=>bad (by unfold r2_;simp at e;rw[lH (o_:¬ key.size<=6)];simp)) λk2=>?_;refine aa_ (λe=>bad (by unfold r2_;simp at e;rw[lH (o_:¬ v.size<=10)];simp)) λk3=>?_;have k1:1<=key.size:=i_ k1
 have k2:key.size<=6:=i_ k2
 have k3:v.size<=10:=i_ k3
 have hform:r2_ T key v=true:=by unfold r2_;simp;omega
 have hins:vq_ T key v=match (cc_ (cL_ T) key).isNone&&decide (60<=(cL_ T).length) with|true=>1201|false=>0:=by unfold vq_;rw[hform]
 obtain⟨P,w⟩:=ob_ e0;obtain⟨st,s⟩:=SF.of e0;have hn48:n=48:=by have:=hT.lenT;have:=w.len;omega
 subst hn48;have hT1:=hT.mono p1;have hc:=w.count;have loop:∀(F i:Nat),48-i+70<F->i<=48->(∀(j:Nat)(q:Pg),j<i->T[j]?=some q->q.leaf=true->dR_ q.keys key=false)->bm_.l4 F key v x 48 none 0 (i:Int) H1 Q:=by
  intro F;induction F with
  |zero=>intro i h;omega
  | succ F ih=>
   intro i hF hi hno;rw[bm_.l4_eq];by_cases hik:i<48
   ·obtain⟨l,o,c,p,rfl,hcc,hp,hpc,g0,g1,g2,g3,g4⟩:=hT1.get hik;have etN:tN (i:Int)=i:=rfl;have hpl:p.leaf=c.l:=hpc.leaf;have hidx:(leI 0 (i:Int)&&ltI (i:Int) (nI 48))=true:=by simp;omega
    rw[ay_ s_,af_];refine ab_ hidx ?_;rw[ad_,etN,ac_ (v:= .sl c.a1 c.n1 1) (by exact g2),ah_];refine xW_ hpc.keys ?_;simp only[aH_,aD_,bD_,ai_,ak_,a8_];rw[af_];refine ab_ hidx ?_;rw[ad_,ac_ (v:= .bool c.l) (by exact g1),ak_,ao_ o_];have next:(p.leaf=true->dR_ p.keys key=false)->bm_.l4 F key v (some (l,o)) 48 none 0 ((i+1:Nat):Int) H1 Q:=λhq=>ih (i+1) o_ o_ λj q hj hjq hql=>by
     by_cases e:j=i
     .subst e;rw[hp]at hjq;obtain rfl:=Option.some.inj hjq;exact hq hql
     .exact hno j q o_ hjq hql
    refine aa_ (λel=>?_) (λel=>next λh=>by rw[hpl,el]at h;cases h);refine aa_ (λeb=>?_) λeb=>next λ_=>eb;have hl:p.leaf=true:=by rw[hpl,el]
    refine sO_ hT1 hn λx' ds H2 g=>?_;simp only[ez_,bc_,ah_,bI_];obtain⟨l2,o2,c2,p2,rfl,hcc2,hp2,hpc2,f0,f1,f2,f3,f4⟩:=g.ot.tr.get hik;rw[hp]at hp2;obtain rfl:=Option.some.inj hp2;rw[af_];refine ab_ hidx ?_;rw[ad_,ac_ (v:= .sl c2.a2 c2.n2 1) (by exact f3),ah_,af_];obtain⟨hsl,hse⟩:=ri_ eb;have hmay:fm_ p:=by
     have:=w.leafIn hp hl;exact ((ef_ p).1 (s.used hp (by
      have:=s.metU hp;cases hu:p.used with
      |true=>rfl
      |false=>
       have hz:=vM_ s.rest (by rw[s.len];exact hik) hp;rw[this,hu]at hz;unfold cS_ at hz;rw[hl]at hz;simp at hz)).2.1)
    have hvl:=(hmay.2.leaf hl).1;have hn2:=hpc2.vals.len;refine ab_ s_ ?_;have hT48:=w.len;have hdl:=g.ot.len;have hTi:T[i]'o_=p:=by rw[kG o_]at hp;exact Option.some.inj hp
    have hdi:ds[i]'o_=c2:=by rw[kG o_]at hcc2;exact Option.some.inj hcc2
    obtain⟨l3,e3,hw⟩:=g.val (i:=i) (j:=b2_ p.keys key) o_ o_ (by rw[hTi];omega) v (K:=λH34=>Q (.tup [yB (some (l2,o2)) 48,nN 0]) H34) (λH' g'=>by
     rw[hTi]at g';obtain⟨w',hfs⟩:=w.setVal hp hl eb k3;have hz:vq_ T key v=0:=by rw[hins];cases hq:cc_ (cL_ T) key with|none=>rw[hq]at hfs;cases hfs|some _=>rfl
     exact hQ2 hz e0 _ _ _ H' (p1.trans g'.pre) g'.ot.tr ⟨w'.pos',w'.sound.2,w'.len,λ_=>⟨i,p,hp,hl,eb,rfl⟩,λq=>(by rw[hfs]at q;cases q)⟩)
    rw[hdi]at e3;rw[e3,ad_];have ez:0+tN (b2_ p.keys key:Int)*1=b2_ p.keys key:=by rw[kN,Nat.mul_one];rfl
    rw[ez];exact hw
   ·have hi48:i=48:=by omega
    subst hi48;rw[aB_ t_];have hnone:cc_ (cL_ T) key=none:=w.noLeaf λj q hj hjl=>hno j q (by have:=(kC.1 hj).1;rw[w.len]at this;exact this) hj hjl;refine⟨49,?_⟩;refine pE_ hT1 49 0 H1 _ none 0 [] s.good o_ (k8 _) (.inl ⟨rfl,rfl,rfl⟩) rfl (by unfold cL_ at hc;omega) λa m H2 p2 hO hl=>?_;simp only[aJ_,ah_];rw[nil_append]at hO hl;have hm60:m<=60:=by rw[<-hl];exact hc
    refine aa_ (λef=>?_) λef=>?_
    ·have hf:vq_ T key v=1201:=by
      rw[hins,hnone];have:60<=(cL_ T).length:=by show 60<=(allD T 49 0).length;rw[hl];simp at ef;omega
      rw[lE this];rfl
     rw[hf]at hQ1;exact hQ1 H2 d_ (p1.trans p2)
    have hz:vq_ T key v=0:=by
     rw[hins];have: ¬ 60<=(cL_ T).length:=by show ¬ 60<=(allD T 49 0).length;rw[hl];simp at ef;omega
     rw[lH this,Bool.and_false]
    have hm59:m<=59:=i_ ef
    have kv:=hO.kv hl;have hasc:Asc (cL_ T):=w.sub.asc.1;have hok:nd_ (cL_ T):=w.sub.asc.2;have fin:∀i:Nat,i<=m->(∀x∈(cL_ T).take i,blt x.1 key=true)->(∀x∈(cL_ T).drop i,blt key x.1=true)->
     chk true (chk (leI 0 (i:Int)) (chk ((leN 0 (tN (i:Int)))&&((leN (tN (i:Int)) m)||(kz_ H2 a ((tN (i:Int))*2)))) (chk true (rdN H2 (shf a 0) (((tN (i:Int))-0)*2) λc22=>
      chk true (Am.ap H2 tKV 2 32 none 0 c22 ((tN (i:Int))-0) λx23 n24 H25=>
      chk true (Am.ap H25 tKV 2 32 x23 n24 [(.str key),(.str v)] 1 λx26 n27 H28=>
      chk true (chk (leI 0 (i:Int)) (chk (leN (tN (i:Int)) m) (chk true (rdN H28 (shf a ((tN (i:Int))*2)) ((m-(tN (i:Int)))*2) λc29=>
      chk true (Am.ap H28 tKV 2 32 x26 n27 c29 (m-(tN (i:Int))) λx30 n31 H32=>
      cl ba_ [(nL x30 n31 2)] H32 λr33 H34=>
      rA r33 λc35=>
      uC c35 λv36 c37=>
      dL 5 v36 λx38 n39=>
      uN c37 (Q (.tup [(.a [(.sl x38 n39 5)]),(nN 0)]) H34)))))))))))):=λi hi h1 h2=>by
     have etN:tN (i:Int)=i:=rfl;have kvA:=kv.part 0 i o_;have kvB:=kv.part i (m-i) o_;rw[drop_zero]at kvA;rw[k7 (l:=(allD T 49 0).drop i) (by rw[length_drop];omega)]at kvB;change Kv H2 (shf a (0*2)) i ((cL_ T).take i)at kvA;change Kv H2 (shf a (i*2)) (m-i) ((cL_ T).drop i)at kvB;rw[etN,af_];refine ab_ t_ ?_;refine ab_ s_ ?_;have sh0:shf a 0=shf a (0*2):=rfl;rw[af_,Nat.sub_zero,sh0,d5_ kvA.cells,af_];refine j9_ (H0:=H2) o_ (k8 _) (.inl ⟨rfl,o_,rfl⟩) (by rw[nC_,kvA.len]) (by unfold Lim;omega) λa3 H3 o3 x3 f3=>?_;rw[nil_append,kN]at o3;rw[kN,af_];refine j9_ (H0:=H2) o_ x3.pre o3 (by rfl) (by unfold Lim;omega) λa4 H4 o4 x4 f4=>?_;rw[af_];refine ab_ t_ ?_;refine ab_ s_ ?_;have e34:H2<+:H4:=x4.pre;rw[af_,d5_ (kvB.mono e34).cells,af_];refine j9_ (H0:=H2) o_ x4.pre o4 (by rw[nC_,kvB.len]) (by unfold Lim;omega) λa5 H5 o5 x5 f5=>?_;have hput:insK (cL_ T) key v=(cL_ T).take i++(key,v)::(cL_ T).drop i:=by
      have:=wA_ (v:=v) h1 h2;rw[lD]at this;exact this
     have hcell:bZ_ ((cL_ T).take i)++[.str key,.str v]++bZ_ ((cL_ T).drop i)=bZ_ (insK (cL_ T) key v):=by
      rw[hput,oD_];show _=bZ_ ((cL_ T).take i)++(.str key:: .str v::bZ_ ((cL_ T).drop i));simp
     rw[hcell]at o5;have hlen:(insK (cL_ T) key v).length=i+1+(m-i):=by
      rw[hput,kI,length_cons,kvA.len,kvB.len];omega
     refine uT_ (o5.kv hlen) o_ λH6 tp cs' p6 oT=>?_;simp only[ez_,bc_,ah_,bI_];obtain⟨b1,b2⟩:=C6_ (rF_ hasc key v) (Ic_ hok k1 k2 k3) o_;exact hQ2 hz e0 _ _ _ H6 (p1.trans (p2.trans (x5.pre.trans p6))) oT.tr ⟨b1,b2,oT.lenT,λq=>(by rw[hnone]at q;cases q),λ_=>rfl⟩
    have l15:∀(F i:Nat),m-i<F->i<=m->(∀x∈(cL_ T).take i,blt x.1 key=true)->bm_.l15 F key v none 0 a m (i:Int) H2 Q:=by
     intro F;induction F with
     |zero=>intro i h;omega
     | succ F ihF=>
      intro i hF hi h1;rw[bm_.l15_eq];by_cases him:i<m
      ·obtain⟨l,o,rfl,q1,q2⟩:=kv.get (i:=i) (by show i<(allD T 49 0).length;omega);have etN:tN (i:Int)=i:=rfl;have hil:i<(cL_ T).length:=by show i<(allD T 49 0).length;omega
       rw[ay_ s_,af_];refine ab_ s_ ?_;rw[ad_,etN,kQ,ac_ q1,aq_,h2_];refine aa_ (λe=>?_) λe=>?_
       .rw[ao_ o_];refine ihF (i+1) o_ o_ λx hx=>?_;rw[take_succ_eq_append_getElem hil]at hx;rcases kD.1 hx with z|z
        .exact h1 x z
        .rw[mem_singleton.1 z];exact e
       ·have hne:(cL_ T)[i].1≠key:=λq=>by
         have:=lj_ hasc (kE hil);rw[q,hnone]at this;cases this
        have hgt:=Af_ e hne;have hd:∀x∈(cL_ T).drop i,blt key x.1=true:=λx hx=>by
         rw[lB hil]at hx;rcases kU.1 hx with z|z
         .rw[z];exact hgt
         .have hd:=hasc;rw[<-lD i (cL_ T)]at hd;have hd2:=(kZ.1 hd).2.1;rw[lB hil]at hd2;exact dw_ hgt ((kW.1 hd2).1 x z)
        exact fin i hi h1 hd
      .rw[aB_ s_];refine fin i hi h1 λx hx=>?_;rw[drop_of_length_le (by show (allD T 49 0).length<=i;omega)]at hx;simp at hx
    exact l15 F 0 o_ o_ λx hx=>j_ hx
 exact loop 129 0 o_ o_ λj q hj=>o_
def FI_(h:Jp_ T A key v)(C:0<aL_ T):el_ A=insK (el_ T) key v/\∀e,ky_ e A=0:=by
 have F:el_ A=cL_ A:=by unfold el_;rw[lE h.pos]
 have D:el_ T=cL_ T:=by unfold el_;rw[lE C]
 exact⟨by rw[F,D,h.ent],λe=>by unfold ky_;rw[lE h.pos]⟩
end
abbrev LKey:=Int × Y_
abbrev LVal:=Int × Bool
structure StD where
 snaps:List (Y_ × SnapR)
 links:List (LKey × LVal)
 inos:List (Int × InoR)
def ekS(s:Y_):RV:= .s (.str s)
def ekI(n:Int):RV:= nN n
def ekL(k:LKey):RV:= .a [.int .i64 k.1,.str k.2]
def evS(x:SnapR):RV:= .a x.cells
def evI(x:InoR):RV:= .a x.cells
def evL(v:LVal):RV:= .a [.int .i64 v.1,.bool v.2]
def okS:um_ false [.str] ekS:=⟨λ_=>rfl,λa b h=>by cases h;rfl⟩
def okI:um_ false [.int .i64] ekI:=⟨λ_=>rfl,λa b h=>by cases h;rfl⟩
def okL:um_ true [.int .i64,.str] ekL:=⟨λ_=>rfl,λa b h=>by
 have⟨A,r⟩:=a;simp only[ekL,RV.a.injEq,List.cons.injEq,GV.int.injEq,GV.str.injEq]at h;rw[h.1.2,h.2.1]⟩
def fd_(v:Y_):Option LVal:=match eqI (sz v) 2&&leI (byt v 1) 1 with|true=>some (byt v 0,eqI (byt v 1) 1)|false=>none
def kJ_ (st:StD) (p:Y_ × Y_):Option StD:=match cu_ p.1 with
 |some n=>(match bB_ p.2 with|some x=>some { st with snaps:=fP_ st.snaps n x }|none=>none)
 | none=>match b1_ p.1 with
  |some k=>(match fd_ p.2 with|some v=>some { st with links:=fP_ st.links k v }|none=>none)
  |none=>match c7_ p.1 with
   |some i=>(match cR_ p.2 with|some x=>some { st with inos:=fP_ st.inos i x }|none=>none)
   |none=>none
structure fb_(H:Hp)(sp:Nat)(c0:GV)(ms ml mi:Nat)(c4:GV)(st:StD):Prop where
 row:∃t,H[sp]?=some (.row true t [c0,.map (some ms),.map (some ml),.map (some mi),c4])
 snaps:dS_ ekS evS H ms st.snaps
 links:dS_ ekL evL H ml st.links
 inos:dS_ ekI evI H mi st.inos
 d1:ms≠ml
 d2:ms≠mi
 d3:ml≠mi
section
variable{H:Hp}{Q:Post}{sp ms ml mi:Nat}{c0 c4:GV}{st:StD}
theorem fb_.rd(h:fb_ H sp c0 ms ml mi c4 st):gt H sp 0=some c0/\gt H sp 1=some (.map (some ms))/\gt H sp 2=some (.map (some ml))/\gt H sp 3=some (.map (some mi))/\gt H sp 4=some c4:=by
 have⟨t,r⟩:=h.row;simp[aY_ r]
def fb_.spn(h:fb_ H sp c0 ms ml mi c4 st):sp≠ms/\sp≠ml/\sp≠mi:=by
 have⟨t,A⟩:=h.row;refine⟨λe=>?_,λe=>?_,λe=>?_⟩
 .have⟨C,c,r,_⟩:=h.snaps.ex;rw[<-e,A]at r;cases r
 .have⟨C,c,r,_⟩:=h.links.ex;rw[<-e,A]at r;cases r
 .have⟨C,c,r,_⟩:=h.inos.ex;rw[<-e,A]at r;cases r
structure Upd(H H':Hp)(P:Nat->Prop):Prop where
 len:H'.length=H.length
 row:∀l,¬ P l->H'[l]?=H[l]?
def sP_ {k v:Y_} (Y:k.size<=140737488351232) (Z:v.size<=140737488351232) (h:fb_ H sp c0 ms ml mi c4 st)
 (A:kJ_ st (k,v)=none->∀H',Upd H H' (λl=>l=ms\/l=ml\/l=mi)->Q (gB false) H')
 (D:∀N,kJ_ st (k,v)=some N->∀H',Upd H H' (λl=>l=ms\/l=ml\/l=mi)->fb_ H' sp c0 ms ml mi c4 N->Q (gB true) H'):
 dN_ [yQ sp,.agg [.str k,.str v]] H Q:=by
 obtain⟨g0,g1,g2,g3,g4⟩:=h.rd;obtain⟨n1,n2,n3⟩:=h.spn;obtain⟨t,V⟩:=h.row;refine⟨1,?_⟩;rw[ov_];refine yL_ Y ?_;unfold kJ_ at A D;cases hn:cu_ k with
 | some n=>
  simp only[hn]at A D;refine yj_ Z ?_;have O:((bB_ v).getD kU_).cells=[.int .i64 ((bB_ v).getD kU_).id,.int .i64 ((bB_ v).getD kU_).kind,.str ((bB_ v).getD kU_).parent,.str ((bB_ v).getD kU_).label]:=rfl;rw[O];simp only[aH_,aD_,eN_,bc_,ai_,aq_,bD_,a8_,ad_];rw[ac_ g1,c6_];refine iM_ okS h.snaps n ((bB_ v).getD kU_) λH' F r G=>?_;cases J:bB_ v with
  |none=>
   rw[J]at A;exact A rfl _ ⟨F,λl C=>r l λq=>C (.inl q)⟩
  |some x=>
   rw[J]at D G;refine D _ rfl H' ⟨F,λl C=>r l λq=>C (.inl q)⟩ ⟨⟨t,by rw[r _ n1];exact V⟩,G,h.links.keep (r _ h.d1.symm),h.inos.keep (r _ h.d2.symm),h.d1,h.d2,h.d3⟩
 | none=>
  simp only[hn]at A D;refine yP_ Y ?_;simp only[aH_,aD_,bD_,ai_];cases hp:b1_ k with
  | some key=>
   simp[hp]at A D;simp only[Option.isSome_some];refine aa_ (λe=>?_) λe=>?_
   .have:fd_ v=none:=by unfold fd_;rw[dZ_ e];rfl
    rw[this]at A;exact A rfl _ ⟨rfl,λ_ _=>rfl⟩
   ·have U:=eB_ e;have hs2:v.size=2:=by simp at U;omega
    refine ab_ s_ ?_;refine aa_ (λW=>?_) λW=>?_
    .have:fd_ v=none:=by unfold fd_;rw[U,show leI (byt v 1) 1=false by simp at W ⊢;omega];rfl
     rw[this]at A;exact A rfl _ ⟨rfl,λ_ _=>rfl⟩
    .have C:fd_ v=some (byt v 0,eqI (byt v 1) 1):=by unfold fd_;rw[U,show leI (byt v 1) 1=true by simp at W ⊢;omega];rfl
     rw[C]at D;simp only[ad_];rw[ac_ g2,c6_];refine ab_ s_ (ab_ s_ ?_);rw[show tN 0=0 from rfl,fn_];refine iM_ okL h.links key (byt v 0,eqI (byt v 1) 1) λH' F r G=>?_;exact D _ rfl H' ⟨F,λl C=>r l λq=>C (.inr (.inl q))⟩ ⟨⟨t,by rw[r _ n2];exact V⟩,h.snaps.keep (r _ h.d1),G,h.inos.keep (r _ h.d3.symm),h.d1,h.d2,h.d3⟩
  | none=>
   simp[hp]at A D;refine uK_ ?_;simp[aH_];refine wg_ Z ?_;have O:((cR_ v).getD yQ_).cells=[.int .i64 ((cR_ v).getD yQ_).links,.str ((cR_ v).getD yQ_).content]:=rfl;rw[O];simp[aH_];rw[ac_ g3,c6_];refine iM_ okI h.inos ((c7_ k).getD 0) ((cR_ v).getD yQ_) λH' F r G=>?_;cases I:c7_ k with
   |none=>
    rw[I]at A;exact A rfl _ ⟨F,λl C=>r l λq=>C (.inr (.inr q))⟩
   | some i=>
    rw[I]at A D G;cases J:cR_ v with
    |none=>rw[J]at A;exact A rfl _ ⟨F,λl C=>r l λq=>C (.inr (.inr q))⟩
    |some x=>
     rw[J]at D G;exact D _ rfl H' ⟨F,λl C=>r l λq=>C (.inr (.inr q))⟩ ⟨⟨t,by rw[r _ n3];exact V⟩,h.snaps.keep (r _ h.d2),h.links.keep (r _ h.d3),G,h.d1,h.d2,h.d3⟩
end
def jq_ (st:StD) (p:Y_ × Y_):Option StD:=match cu_ p.1 with
 |some n=>(match bB_ p.2 with|some x=>some { st with snaps:=st.snaps++[(n,x)] }|none=>none)
 | none=>match b1_ p.1 with
  |some k=>(match fd_ p.2 with|some v=>some { st with links:=st.links++[(k,v)] }|none=>none)
  |none=>match c7_ p.1 with
   |some i=>(match cR_ p.2 with|some x=>some { st with inos:=st.inos++[(i,x)] }|none=>none)
   |none=>none
def Bb_(p:Y_ × SnapR):List GV:= .str p.1::p.2.cells
def Bi_(p:LKey × LVal):List GV:=[.int .i64 p.1.1,.str p.1.2,.int .i64 p.2.1,.bool p.2.2]
def inoC(p:Int × InoR):List GV:= .int .i64 p.1::p.2.cells
structure dd_(B H:Hp)(sp:Nat)(a1:Pl)(n1:Nat)(a2:Pl)(n2:Nat)(a3:Pl)(n3:Nat)(st:StD):Prop where
 row:∃t,H[sp]?=some (.row true t [.sl a1 n1 5,.sl a2 n2 4,.sl a3 n3 3])
 pre:B<+:H
 base:B.length<=sp
 snaps:Own H B.length GD_ a1 (n1*5) (st.snaps.flatMap Bb_)
 links:Own H B.length zM_ a2 (n2*4) (st.links.flatMap Bi_)
 inos:Own H B.length Ib_ a3 (n3*3) (st.inos.flatMap inoC)
 l1:n1=st.snaps.length
 l2:n2=st.links.length
 l3:n3=st.inos.length
 d12:Dj a1 a2
 d13:Dj a1 a3
 d23:Dj a2 a3
 s1:a1≠some (sp,0)
 s2:a2≠some (sp,0)
 s3:a3≠some (sp,0)
section
variable{B H:Hp}{Q:Post}{sp n1 n2 n3:Nat}{a1 a2 a3:Pl}{st:StD}
def dd_.spl(h:dd_ B H sp a1 n1 a2 n2 a3 n3 st):sp<H.length:=by
 have⟨t,r⟩:=h.row;grind
def lk_{a r:Pl}(C:∀l o,r=some (l,o)->H.length<=l/\o=0)(h:Own H b t a n cs):Dj r a:=λl A D=>by
 have:=(C l 0 A).1;have:=h.lt' D;omega
def dd_.putS (h:dd_ B H sp a1 n1 a2 n2 a3 n3 st) (x:Y_ × SnapR) (V:n1<=1000)
 (U:∀r H',dd_ B H' sp r (n1+1) a2 n2 a3 n3 { st with snaps:=st.snaps++[x] }->K H'):
 ap H GD_ 5 64 a1 n1 (Bb_ x) 1 λI D G=>wr G sp (0+0) (.sl I D 5) K:=by
 have⟨t,N⟩:=h.row;have F:=h.spl;refine j9_ o_ h.pre h.snaps rfl (by unfold Lim;omega) λr H' O ex J=>?_;have C:H'[sp]?=some (.row true t [.sl a1 n1 5,.sl a2 n2 4,.sl a3 n3 3]):=by rw[ex.row sp F h.s1];exact N
 have A:r≠some (sp,0):=λe=>g_
 exact ce_ C t_ (U r _ ⟨⟨t,g_⟩,dI_ ex.pre h.base _,h.base,by
  have:=O.set A (.row true t [.sl r (n1+1) 5,.sl a2 n2 4,.sl a3 n3 3]);simpa using this,
  (h.links.after h.d12 ex).set h.s2 _,(h.inos.after h.d13 ex).set h.s3 _,by simp[h.l1],h.l2,h.l3,lk_ J h.links,lk_ J h.inos,h.d23,A,h.s2,h.s3⟩)
def dd_.putL (h:dd_ B H sp a1 n1 a2 n2 a3 n3 st) (x:LKey × LVal) (V:n2<=1000)
 (U:∀r H',dd_ B H' sp a1 n1 r (n2+1) a3 n3 { st with links:=st.links++[x] }->K H'):
 ap H zM_ 4 40 a2 n2 (Bi_ x) 1 λI D G=>wr G sp (0+1) (.sl I D 4) K:=by
 have⟨t,N⟩:=h.row;have F:=h.spl;refine j9_ o_ h.pre h.links rfl (by unfold Lim;omega) λr H' O ex J=>?_;have C:H'[sp]?=some (.row true t [.sl a1 n1 5,.sl a2 n2 4,.sl a3 n3 3]):=by rw[ex.row sp F h.s2];exact N
 have A:r≠some (sp,0):=λe=>g_
 exact ce_ C t_ (U r _ ⟨⟨t,g_⟩,dI_ ex.pre h.base _,h.base,(h.snaps.after h.d12.symm ex).set h.s1 _,by
  have:=O.set A (.row true t [.sl a1 n1 5,.sl r (n2+1) 4,.sl a3 n3 3]);simpa using this,
  (h.inos.after h.d23 ex).set h.s3 _,h.l1,by simp[h.l2],h.l3,(lk_ J h.snaps).symm,h.d13,lk_ J h.inos,h.s1,A,h.s3⟩)
def dd_.putI (h:dd_ B H sp a1 n1 a2 n2 a3 n3 st) (x:Int × InoR) (V:n3<=1000)
 (U:∀r H',dd_ B H' sp a1 n1 a2 n2 r (n3+1) { st with inos:=st.inos++[x] }->K H'):
 ap H Ib_ 3 32 a3 n3 (inoC x) 1 λI D G=>wr G sp (0+2) (.sl I D 3) K:=by
 have⟨t,N⟩:=h.row;have F:=h.spl;refine j9_ o_ h.pre h.inos rfl (by unfold Lim;omega) λr H' O ex J=>?_;have C:H'[sp]?=some (.row true t [.sl a1 n1 5,.sl a2 n2 4,.sl a3 n3 3]):=by rw[ex.row sp F h.s3];exact N
 have A:r≠some (sp,0):=λe=>g_
 exact ce_ C t_ (U r _ ⟨⟨t,g_⟩,dI_ ex.pre h.base _,h.base,(h.snaps.after h.d13.symm ex).set h.s1 _,(h.links.after h.d23.symm ex).set h.s2 _,by
  have:=O.set A (.row true t [.sl a1 n1 5,.sl a2 n2 4,.sl r (n3+1) 3]);simpa using this,
  h.l1,h.l2,by simp[h.l3],h.d12,(lk_ J h.snaps).symm,(lk_ J h.links).symm,h.s1,h.s2,A⟩)
theorem dd_.rd(h:dd_ B H sp a1 n1 a2 n2 a3 n3 st):gt H sp (0+0)=some (.sl a1 n1 5)/\gt H sp (0+1)=some (.sl a2 n2 4)/\gt H sp (0+2)=some (.sl a3 n3 3):=by
 have⟨t,r⟩:=h.row;simp[aY_ r]
def vk_ {k v:Y_} (hk:k.size<=140737488351232) (hv:v.size<=140737488351232) (h:dd_ B H sp a1 I a2 n2 a3 J st) (Y:I<=1000/\n2<=1000/\J<=1000)
 (r:jq_ st (k,v)=none->∀a1 I a2 n2 a3 J D H',dd_ B H' sp a1 I a2 n2 a3 J D->Q (gB false) H')
 (A:∀D,jq_ st (k,v)=some D->∀a1 I a2 n2 a3 J H',dd_ B H' sp a1 I a2 n2 a3 J D->Q (gB true) H'):
 d3_ [yQ sp,.agg [.str k,.str v]] H Q:=by
 have⟨g1,g2,g3⟩:=h.rd;refine⟨1,?_⟩;rw[py_];refine ru_ hk ?_;unfold jq_ at r A;cases N:cu_ k with
 |some n=>
  simp only[N]at r A;refine qD_ hv ?_;have Z:((bB_ v).getD kU_).cells=[.int .i64 ((bB_ v).getD kU_).id,.int .i64 ((bB_ v).getD kU_).kind,.str ((bB_ v).getD kU_).parent,.str ((bB_ v).getD kU_).label]:=rfl;rw[Z];simp only[aH_,aD_,eN_,bc_,ai_,aq_,bI_,bD_,a8_,ad_];rw[ac_ g1,ah_,af_];refine h.putS (n,(bB_ v).getD kU_) Y.1 λa' H' C=>?_;cases G:bB_ v with
  |none=>rw[G]at r;exact r rfl _ _ _ _ _ _ _ _ C
  |some x=>rw[G]at A C;exact A _ rfl _ _ _ _ _ _ _ C
 | none=>
  simp only[N]at r A;refine rb_ hk ?_;simp only[aH_,aD_,bD_,ai_];cases hp:b1_ k with
  | some key=>
   simp only[hp]at r A;simp only[Option.isSome_some];refine aa_ (λe=>?_) λe=>?_
   .have:fd_ v=none:=by unfold fd_;rw[dZ_ e];rfl
    rw[this]at r;exact r rfl _ _ _ _ _ _ _ _ h
   ·have W:=eB_ e;have hs2:v.size=2:=by simp at W;omega
    refine ab_ s_ ?_;refine aa_ (λe3=>?_) λe3=>?_
    .have:fd_ v=none:=by unfold fd_;rw[W,show leI (byt v 1) 1=false by simp at e3 ⊢;omega];rfl
     rw[this]at r;exact r rfl _ _ _ _ _ _ _ _ h
    .have hl:fd_ v=some (byt v 0,eqI (byt v 1) 1):=by unfold fd_;rw[W,show leI (byt v 1) 1=true by simp at e3 ⊢;omega];rfl
     rw[hl]at A;simp only[ad_];rw[ac_ g2,ah_];refine ab_ s_ (ab_ s_ ?_);rw[show tN 0=0 from rfl,fn_,af_];exact h.putL (key,(byt v 0,eqI (byt v 1) 1)) Y.2.1 λa' H' C=>A _ rfl _ _ _ _ _ _ _ C
  | none=>
   simp[hp]at r A;refine ps_ ?_;simp only[aH_,aD_,bD_,ai_];refine pc_ hv ?_;have Z:((cR_ v).getD yQ_).cells=[.int .i64 ((cR_ v).getD yQ_).links,.str ((cR_ v).getD yQ_).content]:=rfl;rw[Z];simp only[aH_,aD_,eN_,bc_,ai_,aq_,bD_,ad_];rw[ac_ g3,ah_,af_];refine h.putI ((c7_ k).getD 0,(cR_ v).getD yQ_) Y.2.2 λa' H' C=>?_;cases F:c7_ k with
   |none=>rw[F]at r;exact r rfl _ _ _ _ _ _ _ _ C
   |some i=>
    rw[F]at r A C;cases G:cR_ v with
    |none=>rw[G]at r;exact r rfl _ _ _ _ _ _ _ _ C
    |some x=>rw[G]at A C;exact A _ rfl _ _ _ _ _ _ _ C
end
theorem iJ_(s:Y_)(l:Nat):bs (sub s l s.size)=(bs s).drop l:=by
 unfold sub bs;simp[k7]
def tN_(s:Y_)(j:Nat)(h:j<s.size):((bs s)[j]?.map λb=>(b.toNat:Int))=some (byt s j):=by
 unfold byt;have:j<(bs s).length:=a_
 unfold bs at this ⊢;grind
def xK_ (D:j<s.size) (C:j<t.size) (h:byt s j=byt t j):(bs s)[j]?=(bs t)[j]? :=by
 have r:=tN_ s j D;have A:=tN_ t j C;cases a:(bs s)[j]? with
 |none=>rw[a]at r;simp at r
 | some x=>
  cases b:(bs t)[j]? with
  |none=>rw[b]at A;simp at A
  |some y=>
   rw[a]at r;rw[b]at A;simp at r A;have:x.toNat=y.toNat:=o_
   rw[UInt8.toNat_inj.1 this]
def fX_(h:cu_ k=some n):1<=k.size/\byt k 0=115/\aZ_ n 4=true/\n=sub k 1 k.size:=by
 unfold cu_ at h;split at h
 .rename_i e;simp only[kR]at e;cases h;exact⟨i_ e,a_,e.2.2,rfl⟩
 .cases h
def fY_{x:LKey}(h:b1_ k=some x):2<=k.size/\byt k 0=102/\1<=byt k 1/\aZ_ x.2 3=true/\x=(byt k 1,sub k 2 k.size):=by
 unfold b1_ at h;split at h
 .rename_i e;simp only[kR]at e;cases h;exact⟨i_ e,a_,u_ e.2.2.1,e.2.2.2,rfl⟩
 .cases h
def gI_(h:c7_ k=some i):k.size=2/\byt k 0=105/\1<=byt k 1/\i=byt k 1:=by
 unfold c7_ at h;split at h
 .rename_i e;simp only[kR]at e;cases h;exact⟨i_ e,a_,u_ e.2.2,rfl⟩
 .cases h
theorem Gu_ (h:cu_ k=some n) (D:cu_ k'=some n):k=k':=by
 have⟨N,O,_,G⟩:=fX_ h;have⟨I,F,_,r⟩:=fX_ D;have A:=xK_ (s:=k) (t:=k') (j:=0) o_ o_ o_;have C:(bs k).drop 1=(bs k').drop 1:=by rw[<-iJ_,<-iJ_,<-G,<-r]
 apply jc_;cases a:bs k with
 |nil=>have:=congrArg length a;rw[hC_]at this;simp only[length_nil]at this;omega
 |cons x J=>cases b:bs k' with
  |nil=>have:=congrArg length b;rw[hC_]at this;simp only[length_nil]at this;omega
  |cons y U=>rw[a,b]at A C;simp at A C;rw[A,C]
theorem CE_{x:LKey}(h:b1_ k=some x)(I:b1_ k'=some x):k=k':=by
 have⟨V,W,_,_,Y⟩:=fY_ h;have⟨N,J,_,_,D⟩:=fY_ I;have G:byt k 1=byt k' 1:=g_
 have F:sub k 2 k.size=sub k' 2 k'.size:=g_
 have r:=xK_ (s:=k) (t:=k') (j:=0) o_ o_ o_;have C:=xK_ o_ o_ G;have A:(bs k).drop 2=(bs k').drop 2:=by rw[<-iJ_,<-iJ_,F]
 apply jc_
 match a:bs k,b:bs k' with
 |[],_=>have:=congrArg length a;rw[hC_]at this;simp only[length_nil]at this;omega
 |[_],_=>have:=congrArg length a;rw[hC_]at this;simp[length_nil]at this;omega
 |_::_::_,[]=>have:=congrArg length b;rw[hC_]at this;simp only[length_nil]at this;omega
 |_::_::_,[_]=>have:=congrArg length b;rw[hC_]at this;simp[length_nil]at this;omega
 |x0::x1::U,O::Z::ys=>rw[a,b]at r C A;simp at r C A;rw[r,C,A]
theorem H7_(h:c7_ k=some i)(G:c7_ k'=some i):k=k':=by
 have⟨W,V,_,N⟩:=gI_ h;have⟨F,C,_,D⟩:=gI_ G;have A:=xK_ (s:=k) (t:=k') (j:=0) o_ o_ o_;have r:=xK_ (s:=k) (t:=k') (j:=1) o_ o_ o_;apply jc_;have l1:(bs k).length=2:=a_
 have l2:(bs k').length=2:=a_
 match a:bs k,b:bs k' with
 |[I,U],[J,O]=>rw[a,b]at A r;simp at A r;rw[A,r]
 |[],_=>rw[a]at l1;simp at l1
 |[_],_=>rw[a]at l1;simp at l1
 |_::_::_::_,_=>rw[a]at l1;simp at l1
 |_,[]=>rw[b]at l2;simp at l2
 |_,[_]=>rw[b]at l2;simp at l2
 |_,_::_::_::_=>rw[b]at l2;simp at l2
def ij_(f:StD->Y_ × Y_->Option StD):StD->KV->Option StD
 |st,[]=>some st
 |st,p::ps=>match f st p with|some st'=>ij_ f st' ps|none=>none
def st0:StD:=⟨[],[],[]⟩
structure EW_(st:StD)(ks:List Y_):Prop where
 snaps:∀x∈st.snaps,∃k∈ks,cu_ k=some x.1
 links:∀x∈st.links,∃k∈ks,b1_ k=some x.1
 inos:∀x∈st.inos,∃k∈ks,c7_ k=some x.1
theorem lE_ [DecidableEq α] {k:α} {v:β} (h:∀p∈ps,p.1≠k):fP_ ps k v=ps++[(k,v)]:=by
 unfold fP_;have:look ps k=none:=by
  unfold look;grind
 grind
def Gg_ {st:StD} (F:EW_ st ks) {p:Y_ × Y_} (O:p.1∉ks):kJ_ st p=jq_ st p/\∀r,jq_ st p=some r->EW_ r (p.1::ks):=by
 unfold kJ_ jq_;have D:∀{α β:Type}{J:List (α × β)} {f:Y_->Option α},(∀x∈J,∃k∈ks,f k=some x.1)->∀x∈J,∃k∈p.1::ks,f k=some x.1:=λh x V=>by
  grind
 have ap:∀{α β:Type}{J:List (α × β)} {f:Y_->Option α} {a:α} {b:β},(∀x∈J,∃k∈ks,f k=some x.1)->f p.1=some a->∀x∈J++[(a,b)],∃k∈p.1::ks,f k=some x.1:=λ{_ _ _ _ a b} h e x V=>by
  grind
 cases U:cu_ p.1 with
 | some n=>
  cases bB_ p.2 with
  |none=>exact⟨rfl,λ_ h=>g_⟩
  | some x=>
   dsimp;rw[lE_ λq I e=>by
    have⟨k,N,A⟩:=F.snaps q I;rw[e]at A;exact O (Gu_ U A▸N)]
   exact⟨rfl,λr h=>by cases h;exact⟨ap F.snaps U,D F.links,D F.inos⟩⟩
 | none=>
  cases G:b1_ p.1 with
  | some key=>
   cases fd_ p.2 with
   |none=>exact⟨rfl,λ_ h=>g_⟩
   | some x=>
    dsimp;rw[lE_ λq I e=>by
     have⟨k,N,A⟩:=F.links q I;rw[e]at A;exact O (CE_ G A▸N)]
    exact⟨rfl,λr h=>by cases h;exact⟨D F.snaps,ap F.links G,D F.inos⟩⟩
  | none=>
   cases C:c7_ p.1 with
   |none=>exact⟨rfl,λ_ h=>g_⟩
   | some i=>
    cases cR_ p.2 with
    |none=>exact⟨rfl,λ_ h=>g_⟩
    | some x=>
     dsimp;rw[lE_ λq I e=>by
      have⟨k,N,A⟩:=F.inos q I;rw[e]at A;exact O (H7_ C A▸N)]
     exact⟨rfl,λr h=>by cases h;exact⟨D F.snaps,D F.links,ap F.inos C⟩⟩
def zi_:∀{ps:KV}{st:StD}{ks:List Y_},EW_ st ks->(ps.map (·.1)).Nodup->(∀p∈ps,p.1∉ks)->ij_ kJ_ st ps=ij_ jq_ st ps/\∀r,ij_ jq_ st ps=some r->∃A,EW_ r A/\∀k∈A,k∈ks\/∃p∈ps,p.1=k
 |[],st,ks,F,_,_=>⟨rfl,λr h=>by cases h;exact⟨ks,F,λk D=> .inl D⟩⟩
 | p::ps,st,ks,F,nd,I=>by
  have⟨e,G⟩:=Gg_ F (I p t_);rw[map_cons,nodup_cons]at nd;unfold ij_;rw[e];cases h:jq_ st p with
  |none=>exact⟨rfl,λ_ h=>g_⟩
  | some r=>
   have⟨N,C⟩:=zi_ (G r h) nd.2 λq O J=>by
    grind
   grind
def eW_(ps:KV):Option StD:=ij_ jq_ st0 ps
def Hm_(nd:(ps.map (·.1)).Nodup):ij_ kJ_ st0 ps=eW_ ps:=
 (zi_ ⟨(λx h=>absurd h not_mem_nil),(λx h=>absurd h not_mem_nil),(λx h=>absurd h not_mem_nil)⟩ nd λ_ _ h=>absurd h not_mem_nil).1
def tJ_(h:Asc ps):(ps.map (·.1)).Nodup:=by
 unfold Asc at h;refine Pairwise.map _ (λa b r e=>?_) h;rw[e,b0_]at r;cases r
def d8_ {α:Type} [DecidableEq α]:∀(L A:List α),A.Nodup->(∀x∈A,x∈L)->A.length<=L.length/\(¬ L.Nodup->A.length<L.length)
 |[],A,_,F=>by
  cases A with
  |nil=>exact⟨kO _,λh=>(h nodup_nil).elim⟩
  |cons a A=>have:=F a t_;cases this
 | x::L,A,G,F=>by
  have C:=G.erase x;have D:∀y∈A.erase x,y∈L:=λy I=>by
   grind
  have⟨O,J⟩:=d8_ L (A.erase x) C D;have N:A.length<=(A.erase x).length+1:=g_
  refine⟨s_,λr=>?_⟩;rw[nodup_cons,Classical.not_and_iff_not_or_not,Classical.not_not]at r;rcases r with q|q
  ·have:=(d8_ L A G λy I=>by
    rcases kU.1 (F y I) with z|z
    .grind
    .exact z).1
   grind
  .grind
def yS_{α:Type}[DecidableEq α]{L A:List α}(C:A.Nodup)(h:∀x,x∈A↔x∈L):A.length=L.length↔L.Nodup:=by
 have⟨F,D⟩:=d8_ L A C λx r=>(h x).1 r;constructor
 .grind
 .intro q;have:=(d8_ A L q λx r=>(h x).2 r).1;omega
theorem CH_ [DecidableEq α] {v:β} (n:α):n∈(fP_ ps k v).map (·.1)↔n∈ps.map (·.1)\/n=k:=by
 rw[oL_];cases h:look ps k with
 |none=>simp
 |some x=>
  have:=cU_ h;grind
def kg_{B H H':Hp}(p:B<+:H)(A:H'.length=H.length)(h:∀l,l<B.length->H'[l]?=H[l]?):B<+:H':=by
 rw[prefix_iff_eq_take];apply ext_getElem?;intro i;rw[getElem?_take];split
 .rename_i r;rw[h i r,a9_ p r]
 .grind
section
variable{H:Hp}{Q:Post}{sp ms ml mi:Nat}{c0 c4:GV}{st:StD}
def evB(b:Bool):RV:= .s (.bool b)
theorem fb_.keep(h:fb_ H sp c0 ms ml mi c4 st)(r:∀l,l<H.length->H'[l]?=H[l]?):fb_ H' sp c0 ms ml mi c4 st:=by
 have⟨t,A⟩:=h.row;exact⟨⟨t,g_⟩,h.snaps.keep (r _ h.snaps.lt),h.links.keep (r _ h.links.lt),h.inos.keep (r _ h.inos.lt),h.d1,h.d2,h.d3⟩
def ll_{r:α->RV}{ev:β->RV}(H:Hp):dS_ r ev (H++[.map [] 0]) H.length ([]:List (α × β)):=
 ⟨⟨[],0,t_,rfl,(λe h=>absurd h not_mem_nil),nodup_nil⟩,nodup_nil⟩
def rV_ (h:fb_ H sp c0 ms ml mi c4 st) (hn:st.snaps.length<=1000) (hQ:∀H',H<+:H'->Q (gB (decide ((st.snaps.map λx=>x.2.id).Nodup))) H'):
 bo_ [yQ sp] H Q:=by
 obtain⟨t,hr⟩:=h.row;have hsp:=(kC.1 hr).1;refine⟨st.snaps.length+2,?_⟩;rw[nj_];simp only[ad_,kN,fv_,ed_];have p0:=b4_ H (.map [] 0);have h0:=h.keep (H':=H++[.map [] 0]) λl hl=>by rw[kM hl]
 obtain⟨_,g1,_⟩:=h0.rd;rw[ac_ g1,c6_];refine wC_ h0.snaps λo R0=>?_;have e0:(H++[Obj.map [] 0]).length=H.length+1:=t_
 rw[e0] at R0 ⊢;have loop:∀(f:Nat)(js:List Nat)(G:Hp)(ids:List (Int × Bool)),st.snaps.length-js.length<f->H<+:G->G.length=H.length+2->fh_ ekS evS G (H.length+1) ms st.snaps js->dS_ ekI evB G H.length ids->
  (∀n,n∈ids.map (·.1)↔∃j,j∈js/\∃h:j<st.snaps.length,st.snaps[j].2.id=n)->js.length<=st.snaps.length->
  bo_.l3 f (some (sp,0)) (some H.length) (H.length+1) 0 G Q:=by
  intro f;induction f with
  |zero=>intro js G ids h;omega
  | succ f ih=>
   intro js G ids hf hG hl R M hm hle;have hms:ms<H.length:=h.snaps.lt;rw[bo_.l3_eq];refine xP_ R o_ (λj hj hjs G1 l1 k1 R1=>?_) λhperm=>?_
   ·refine rc_ R1 hj ?_;have hc:(evS st.snaps[j].2)= .a [.int .i64 st.snaps[j].2.id,.int .i64 st.snaps[j].2.kind,.str st.snaps[j].2.parent,.str st.snaps[j].2.label]:=rfl;rw[hc];simp only[ekS,bD_,aq_,eN_,bc_,ai_,bI_];refine iM_ (ev:=evB) okI (M.keep (k1 _ o_)) st.snaps[j].2.id true λG2 l2 k2 M2=>?_;have hlj:(js++[j]).length<=st.snaps.length:=by
     have hsub:=(d8_ (List.range st.snaps.length) (js++[j]) R1.nod λx hx=>mem_range.2 (R1.lt x hx)).1;rw[length_range]at hsub;exact hsub
    rw[kI,length_singleton]at hlj;refine ih (js++[j]) G2 _ (by rw[kI,length_singleton];omega) ?_ o_ (R1.keep (k2 _ o_) (k2 _ o_)) M2 (λn=>?_) (by rw[kI,length_singleton];omega)
    .refine kg_ hG o_ λl hl=>?_;rw[k2 l o_,k1 l o_]
    ·rw[CH_,hm n];constructor
     .rintro (⟨i,hi,x⟩|q)
      .exact⟨i,by simp[hi],x⟩
      .exact⟨j,t_,hj,q.symm⟩
     ·rintro⟨i,hi,hx,e⟩;rcases kD.1 hi with z|z
      .exact .inl ⟨i,z,hx,e⟩
      .have:i=j:=by simpa using z
       subst this;exact .inr e.symm
   ·refine l1_ M ?_;have hG':=h.keep (H':=G) λl hl=>a9_ hG hl;obtain⟨_,g1,_⟩:=hG'.rd;simp only[ad_,kN];rw[ac_ g1,c6_];refine l1_ hG'.snaps ?_;have key:(ids.map (·.1)).length=(st.snaps.map λx=>x.2.id).length↔(st.snaps.map λx=>x.2.id).Nodup:=yS_ M.nodup λn=>by
     rw[hm n,lA];constructor
     .rintro⟨j,_,hj,e⟩;exact⟨_,kE hj,e⟩
     .rintro⟨x,hx,e⟩;obtain⟨j,hj,rfl⟩:=kK hx;exact⟨j,hperm.mem_iff.2 (mem_range.2 hj),hj,e⟩
    rw[k9,k9]at key;have:eqI (nI ids.length) (nI st.snaps.length)=decide ((st.snaps.map λx=>x.2.id).Nodup):=by
     rw[Bool.eq_iff_iff];simp only[iF_,jj_,decide_eq_true_eq];rw[<-key];omega
    rw[this];exact hQ G hG
 refine loop _ [] _ [] t_ (p0.trans (b4_ _ _)) t_ R0 ((ll_ H).keep (by rw[kM t_])) (λn=>t_) t_
end
theorem Fm_ [DecidableEq α] (k n:α) (v:β):look (fP_ ps k v) n=if n=k then some v else look ps n:=by
 unfold fP_;cases h:look ps k with
 | none=>
  have D:=oZ_ h;by_cases e:n=k
  .unfold look;grind
  .rw[if_neg e];unfold look;rw[find?_append];cases ps.find? (λp=>decide (p.1=n)) with
   |some x=>rfl
   |none=>simp[Ne.symm e]
 | some x=>
  have A:=cU_ h;clear h;unfold look;induction ps with
  |nil=>cases A
  | cons p ps C=>
   by_cases F:p.1=k
   ·by_cases e:n=k
    .grind
    ·have same:∀l:List (α × β),((l.map λp=>if p.1=k then (k,v) else p).find? λp=>decide (p.1=n))=l.find? λp=>decide (p.1=n):=by
      intro l;induction l with
      |nil=>rfl
      |cons q l r=>
       grind
     grind
   .grind
theorem kc_ [DecidableEq α] {ps:List (α × β)} (n:α):n∈ps.map (·.1)↔∃v,look ps n=some v:=by
 constructor
 ·intro h;cases A:look ps n with
  |some v=>exact⟨v,rfl⟩
  |none=>
   have⟨p,C,e⟩:=lA.1 h;exact absurd e (oZ_ A p C)
 .rintro⟨v,r⟩;exact lA.2 ⟨_,cU_ r,rfl⟩
def fF_(st:StD)(i:Int):Nat:=st.links.countP λl=>decide (l.2.1=i)
def dG_(st:StD):Bool:=st.links.all (λl=>st.inos.any λx=>decide (x.1=l.2.1))&&st.inos.all λx=>decide ((fF_ st x.1:Int)=x.2.links)
section
variable{H:Hp}{Q:Post}{sp ms ml mi:Nat}{c0 c4:GV}{st:StD}
def evN(n:Int):RV:= nN n
def cj(st:StD)(js:List Nat)(n:Int):Nat:=js.countP λj=>decide (((st.links[j]?).map (·.2.1))=some n)
def lkN(c:Nat):Option Int:=match c with|0=>none|c+1=>some ((c+1:Nat):Int)
theorem JW_ (h:js.Perm (List.range st.links.length)) (n:Int):cj st js n=fF_ st n:=by
 unfold cj fF_;rw[h.countP_eq];have e:∀l:List (LKey × LVal),(List.range l.length).countP (λj=>decide ((l[j]?).map (·.2.1)=some n))=l.countP λx=>decide (x.2.1=n):=by
  intro l;induction l with
  |nil=>rfl
  |cons x l r=>
   rw[length_cons,range_succ_eq_map,countP_cons,countP_map,countP_cons,<-r];congr 1;simp
 grind
end
section
variable{H:Hp}{Q:Post}{sp ms ml mi:Nat}{c0 c4:GV}{st:StD}
def o6_{ev:β->RV}{ps:List (α × β)}(R:fh_ ek ev G it l ps js):js.length<=ps.length:=by
 have h:=(d8_ (List.range ps.length) js R.nod λx r=>mem_range.2 (R.lt x r)).1;grind
def Bj_ {ns:List Int} (U:ns.Nodup) (J:∀n,n∈ns↔fF_ st n≠0) (hi:(st.inos.map (·.1)).Nodup) (Z:∀x∈st.inos,(fF_ st x.1:Int)=x.2.links) (I:∀x∈st.inos,1<=x.2.links):ns.length=st.inos.length↔dG_ st=true:=by
 have r:∀i∈st.inos.map (·.1),i∈ns:=λi h=>by
  grind
 have C:(st.inos.all λx=>decide ((fF_ st x.1)=x.2.links))=true:=by
  grind
 have N:∀l∈st.links,l.2.1∈ns:=λl I=>by
  rw[J];have:0<fF_ st l.2.1:=countP_pos_iff.2 ⟨l,I,t_⟩;omega
 unfold dG_;rw[C,Bool.and_true,all_eq_true];constructor
 ·intro e l A;have O:l.2.1∈st.inos.map (·.1):=by
   refine Classical.byContradiction λq=>?_;have V:=(d8_ ns (l.2.1::st.inos.map (·.1)) (nodup_cons.2 ⟨q,hi⟩) λx F=>by
    rcases kU.1 F with z|z
    .grind
    .exact r x z).1
   grind
  grind
 ·intro h;have Y:=(d8_ ns (st.inos.map (·.1)) hi r).1;have V:=(d8_ (st.inos.map (·.1)) ns U λn G=>by
   have W:=(J n).1 G;have:0<fF_ st n:=o_
   have⟨l,A,e⟩:=countP_pos_iff.1 this;have e:l.2.1=n:=u_ e
   have⟨x,F,D⟩:=any_eq_true.1 (h l A);have D:x.1=l.2.1:=u_ D
   exact lA.2 ⟨x,F,by rw[D,e]⟩).1
  grind
def ql_ (h:fb_ H sp c0 ms ml mi c4 st) (hn:st.links.length<=1000/\st.inos.length<=1000) (hlk:∀x∈st.inos,1<=x.2.links) (hQ:∀H',H<+:H'->Q (gB (dG_ st)) H'):
 aF_ [yQ sp] H Q:=by
 obtain⟨t,hr⟩:=h.row;have hsp:=(kC.1 hr).1;have hml:ml<H.length:=h.links.lt;have hmi:mi<H.length:=h.inos.lt;refine⟨st.links.length+st.inos.length+4,?_⟩;rw[l0_];simp only[ad_,kN,fv_,ed_];have p0:=b4_ H (.map [] 0);have h0:=h.keep (H':=H++[.map [] 0]) λl hl=>by rw[kM hl]
 obtain⟨_,_,g2,_⟩:=h0.rd;rw[ac_ g2,c6_];refine wC_ h0.links λo R0=>?_;have e0:(H++[Obj.map [] 0]).length=H.length+1:=t_
 rw[e0] at R0 ⊢;have second:∀(f:Nat)(js:List Nat)(G:Hp)(ns:List (Int × Int)),st.inos.length-js.length<f->H<+:G->fh_ ekI evI G (H.length+2) mi st.inos js->dS_ ekI evN G H.length ns->
  (∀n,look ns n=lkN (fF_ st n))->(∀j∈js,∀(hj:j<st.inos.length),(fF_ st st.inos[j].1:Int)=st.inos[j].2.links)->js.length<=st.inos.length->
  aF_.l7 f (some (sp,0)) (some H.length) (H.length+2) 0 G Q:=by
  intro f;induction f with
  |zero=>intro js G ns h;omega
  | succ f ih=>
   intro js G ns hf hG R M hm hok hle;rw[aF_.l7_eq];refine xP_ R o_ (λj hj hjs G1 l1 k1 R1=>?_) λhperm=>?_
   ·refine rc_ R1 hj ?_;have hc:(evI st.inos[j].2)= .a [.int .i64 st.inos[j].2.links,.str st.inos[j].2.content]:=rfl;rw[hc];simp only[ekI,bD_,aq_,eN_,bc_,ai_,bI_];have hv:(match look ns st.inos[j].1 with|some v=>v|none=>0)=(fF_ st st.inos[j].1:Int):=by
     rw[hm];cases fF_ st st.inos[j].1<;>rfl
    have fin:cq_ (!(eqI (fF_ st st.inos[j].1:Int) st.inos[j].2.links)) (Q (gB false) G1) (aF_.l7 f (some (sp,0)) (some H.length) (H.length+2) 0 G1 Q):=by
     have hG1:H<+:G1:=kg_ hG (by have:=(IsPrefix.length_le hG);omega) λl hl=>by rw[k1 l o_]
     refine aa_ (λe=>?_) λe=>?_
     ·have hne: ¬ (fF_ st st.inos[j].1:Int)=st.inos[j].2.links:=by simpa using e
      have:dG_ st=false:=by
       unfold dG_;have:(st.inos.all λx=>decide ((fF_ st x.1:Int)=x.2.links))=false:=by
        rw[Bool.eq_false_iff];intro q;rw[all_eq_true]at q;exact hne (by simpa using q _ (kE hj))
       rw[this,Bool.and_false]
      rw[<-this];exact hQ _ hG1
     ·have heq:(fF_ st st.inos[j].1:Int)=st.inos[j].2.links:=by simpa using e
      have hlj:=o6_ R1;rw[kI,length_singleton]at hlj;refine ih (js++[j]) G1 ns (by rw[kI,length_singleton];omega) hG1 R1 (M.keep (k1 _ o_)) hm (λi hi hj'=>?_) (by rw[kI,length_singleton];omega);rcases kD.1 hi with q|q
      .exact hok i q hj'
      .have:i=j:=by simpa using q
       subst this;exact heq
    refine fH_ (ev:=evN) okI (M.keep (k1 _ o_)) st.inos[j].1 (λv hl=>?_) λhl=>?_
    .rw[hl]at hv;simp only[evN,bD_,ai_];rw[show v=(fF_ st st.inos[j].1:Int) from hv];exact fin
    .rw[hl]at hv;simp only[bD_,ai_];rw[show (0:Int)=(fF_ st st.inos[j].1:Int) from hv];exact fin
   ·refine l1_ M ?_;have hG':=h.keep (H':=G) λl hl=>a9_ hG hl;obtain⟨_,_,_,g3,_⟩:=hG'.rd;simp only[ad_,kN];rw[ac_ g3,c6_];refine l1_ hG'.inos ?_;have hc:∀x∈st.inos,(fF_ st x.1:Int)=x.2.links:=λx hx=>by
     obtain⟨j,hj,rfl⟩:=kK hx;exact hok j (hperm.mem_iff.2 (mem_range.2 hj)) hj
    have key:=Bj_ (st:=st) (ns:=ns.map (·.1)) M.nodup (λn=>by
     rw[kc_,hm n];cases fF_ st n<;>simp[lkN]) h.inos.nodup hc hlk
    rw[k9]at key;have:eqI (nI ns.length) (nI st.inos.length)=dG_ st:=by
     rw[Bool.eq_iff_iff];simp only[iF_,jj_,decide_eq_true_eq];rw[<-key];omega
    rw[this];exact hQ G hG
 have first:∀(f:Nat)(js:List Nat)(G:Hp)(ns:List (Int × Int)),(st.links.length-js.length)+st.inos.length+2<f->H<+:G->G.length=H.length+2->fh_ ekL evL G (H.length+1) ml st.links js->dS_ ekI evN G H.length ns->
  (∀n,look ns n=lkN (cj st js n))->js.length<=st.links.length->aF_.l3 f (some (sp,0)) (some H.length) (H.length+1) 0 G Q:=by
  intro f;induction f with
  |zero=>intro js G ns h;omega
  | succ f ih=>
   intro js G ns hf hG hl R M hm hle;rw[aF_.l3_eq];refine xP_ R o_ (λj hj hjs G1 l1 k1 R1=>?_) λhperm=>?_
   ·refine rc_ R1 hj ?_;simp only[ekL,evL,bD_,aq_,ak_,eN_,bc_,ai_,bI_];have hlj:=o6_ R1;rw[kI,length_singleton]at hlj;have hcb:cj st js st.links[j].2.1<=js.length:=countP_le_length;have hstep:∀n,cj st (js++[j]) n=if n=st.links[j].2.1 then cj st js n+1 else cj st js n:=λn=>by
     unfold cj;rw[countP_append,countP_singleton,kG hj];by_cases e:n=st.links[j].2.1
     .rw[if_pos e];simp[e]
     .rw[if_neg e];simp[Ne.symm e]
    have go:∀v:Int,v=(cj st js st.links[j].2.1:Int)->yg_ G1 (some H.length) false [.int .i64] (nN st.links[j].2.1) (nN (ae_ .i64 (v+1))) λH23=>aF_.l3 f (some (sp,0)) (some H.length) (H.length+1) 0 H23 Q:=λv hv=>by
     rw[hv,ao_ o_];refine iM_ (ev:=evN) okI (M.keep (k1 _ o_)) st.links[j].2.1 ((cj st js st.links[j].2.1+1:Nat):Int) λG2 l2 k2 M2=>?_;refine ih (js++[j]) G2 _ (by rw[kI,length_singleton];omega) ?_ o_ (R1.keep (k2 _ o_) (k2 _ o_)) M2 (λn=>?_) (by rw[kI,length_singleton];omega)
     .refine kg_ hG o_ λl hl=>?_;rw[k2 l o_,k1 l o_]
     .rw[Fm_,hstep n,hm n];by_cases e:n=st.links[j].2.1
      .rw[if_pos e,if_pos e,e];rfl
      .rw[if_neg e,if_neg e]
    refine fH_ (ev:=evN) okI (M.keep (k1 _ o_)) st.links[j].2.1 (λv hl=>?_) λhl=>?_
    .simp only[evN,bD_,ai_];refine go v ?_;rw[hm]at hl;cases hcj:cj st js st.links[j].2.1 with
     |zero=>rw[hcj]at hl;cases hl
     |succ c=>rw[hcj]at hl;cases hl;rfl
    .simp only[bD_,ai_];refine go 0 ?_;rw[hm]at hl;cases hcj:cj st js st.links[j].2.1 with
     |zero=>rfl
     |succ c=>rw[hcj]at hl;cases hl
   .have hG':=h.keep (H':=G) λl hl=>a9_ hG hl;obtain⟨_,_,_,g3,_⟩:=hG'.rd;simp only[ad_,kN];rw[ac_ g3,c6_];refine wC_ hG'.inos λo R2=>?_;simp only[ed_];rw[hl]at R2 ⊢;exact second f [] _ ns s_ (hG.trans (b4_ _ _)) R2 (M.keep (by rw[kM o_])) (λn=>by rw[hm n,JW_ hperm]) (λj hj=>absurd hj not_mem_nil) t_
 refine first _ [] _ [] t_ (p0.trans (b4_ _ _)) t_ R0 ((ll_ H).keep (by rw[kM t_])) (λn=>rfl) t_
end
end Go.Am
namespace Go.Am
open List
open Go.Proofs
def KE_:∀x y:List UInt8,Lib.compareBytes x y=if Op.bytesLess x y=true then -1 else if Op.bytesLess y x=true then 1 else 0
 |[],[]=>rfl
 |[],_::_=>rfl
 |_::_,[]=>rfl
 | a::x,b::y=>by
  simp[Op.bytesLess,Lib.compareBytes];rcases Nat.lt_trichotomy a.toNat b.toNat with h|h|h
  .grind
  .have r:=UInt8.toNat_inj.1 h;subst r;have A: ¬ a<a:=λq=>by grind
   simp[A];exact KE_ x y
  .grind
def BI_(a b:Y_):Int:=if blt a b=true then -1 else if blt b a=true then 1 else 0
theorem JE_(a b:Y_):Lib.compareBytes a.data.toList b.data.toList=BI_ a b:=KE_ _ _
theorem Em_(a b:Y_):ltI (BI_ a b) 0=blt a b:=by
 unfold BI_ ltI;grind
theorem El_(a b:Y_):eqI (BI_ a b) 0=decide (a=b):=by
 unfold BI_;rcases g4_ a b with h|h|h
 .simp_all
 .rw[h.2.1,h.2.2];simp[h.1]
 .simp_all
theorem A8_ {i j:Nat} (h:i+j<=1000000000):ae_ .i64 (ra_ .u64 (ae_ .u64 (ae_ .i64 ((i:Int)+j))) 1)=(((i+j) / 2:Nat):Int):=by
 rw[cf_ (n:=(i:Int)+j) o_ o_];have e:ae_ .u64 (i+j)=i+j:=by
  simp[ae_,IntKind.wrap,IntKind.bits];omega
 rw[e];have r:ra_ .u64 (i+j) 1=(((i+j) / 2:Nat)):=by
  show Int.fdiv (i+j) (2 ^ (min 1 64))=_;grind
 rw[r,cf_ o_ o_]
abbrev FileR:=Y_ × Y_ × Bool
def wk_(f:FileR):List GV:=[.str f.1,.str f.2.1,.bool f.2.2]
def bJ_:List FileR->List GV
 |[]=>[]
 |f::fs=>wk_ f++bJ_ fs
theorem e0_:∀fs:List FileR,(bJ_ fs).length=fs.length*3
 |[]=>rfl
 |f::fs=>by rw[bJ_,kI,e0_ fs,length_cons];simp[wk_];omega
theorem gS_:∀fs r:List FileR,bJ_ (fs++r)=bJ_ fs++bJ_ r
 |[],_=>rfl
 |f::fs,r=>by rw[cons_append,bJ_,bJ_,gS_ fs r,kV]
def zv_:∀(fs:List FileR)(i:Nat)(h:i<fs.length),(bJ_ fs)[i*3]?=some (.str fs[i].1)/\(bJ_ fs)[i*3+1]?=some (.str fs[i].2.1)/\(bJ_ fs)[i*3+2]?=some (.bool fs[i].2.2)
 |[],i,h=>g_
 |f::fs,0,_=>⟨rfl,rfl,rfl⟩
 | f::fs,i+1,h=>by
  have A:=zv_ fs i g_;have r:∀k,(bJ_ (f::fs))[(i+1)*3+k]?=(bJ_ fs)[i*3+k]? :=λk=>by
   rw[bJ_,getElem?_append_right (by simp[wk_];omega)];congr 1;simp[wk_];omega
  exact⟨by rw[show (i+1)*3=(i+1)*3+0 from rfl,r 0];exact A.1,g_,by rw[r 2];exact A.2.2⟩
theorem CY_(fs:List FileR)(i:Nat)(h:i<=fs.length):(bJ_ fs).take (i*3)=bJ_ (fs.take i):=by
 have e:bJ_ fs=bJ_ (fs.take i)++bJ_ (fs.drop i):=by rw[<-gS_,lD]
 rw[e,take_left' (by rw[e0_,lC];omega)]
theorem Cr_(fs:List FileR)(i:Nat)(h:i<=fs.length):(bJ_ fs).drop (i*3)=bJ_ (fs.drop i):=by
 have e:bJ_ fs=bJ_ (fs.take i)++bJ_ (fs.drop i):=by rw[<-gS_,lD]
 rw[e,drop_left' (by rw[e0_,lC];omega)]
def bR_(H:Hp)(a:Pl)(fs:List FileR):Prop:=(a=none/\fs=[])\/∃l,a=some (l,0)/\H[l]?=some (.row true gl_ (bJ_ fs))
def hO_(fs:List FileR):Prop:=fs.Pairwise λx y=>blt x.1 y.1=true
def gk_(fs:List FileR)(s:Y_):Nat:=fs.countP λf=>blt f.1 s
def vL_(fs:List FileR)(s:Y_):gk_ fs s<=fs.length:=countP_le_length
def h0_:∀{fs:List FileR}(h:hO_ fs)(s:Y_)(i:Nat)(hi:i<fs.length),blt fs[i].1 s=true↔i<gk_ fs s
 |[],_,_,_,hi=>g_
 | f::fs,h,s,i,hi=>by
  have r:=kW.1 h;unfold gk_;rw[countP_cons];cases e:blt f.1 s with
  | true=>
   rw[if_pos rfl];cases i with
   |zero=>simp[e]
   |succ i=>
    have:=h0_ r.2 s i g_;simp;rw[this];unfold gk_;omega
  | false=>
   have A:fs.countP (λf=>blt f.1 s)=0:=by
    rw[countP_eq_zero];intro x C q;rw[dw_ (r.1 x C) q]at e;cases e
   rw[A];cases i with
   |zero=>simp[e]
   |succ i=>
    grind
end Go.Am
namespace Go.Am
open List
open Go.Proofs
section
variable{H:Hp}{Q:Post}
theorem bR_.gets(h:H[l]?=some (.row true gl_ (bJ_ fs)))(i:Nat)(hi:i<fs.length):gt H l (i*3)=some (.str fs[i].1)/\gt H l (i*3+1)=some (.str fs[i].2.1)/\gt H l (i*3+1+1)=some (.bool fs[i].2.2):=by
 have:=zv_ fs i hi;simp[aY_ h];grind
def iQ_(r:Q (gI (BI_ a b)) H):dk_ [gS a,gS b] H Q:=by
 refine⟨1,?_⟩;rw[qO_];refine⟨1,?_⟩;rw[lc_];refine⟨a,b,rfl,?_⟩;rw[JE_];simp_all
def i4_(r:Q (gI (BI_ a b)) H):cW_ [(rG_,dj_)] rG_ [.agg [.str a,.str c,.bool d],gS b] H Q:=by
 refine⟨1,?_⟩;rw[qE_];refine iQ_ ?_;simp_all
def gd_ {a:Pl} {fs:List FileR} {s:ByteArray} (h:bR_ H a fs) (ha:hO_ fs) (hn:fs.length<=1000)
 (hQ:Q (.tup [nN ((gk_ fs s:Nat):Int),.s (.bool (fs.any λf=>decide (f.1=s)))]) H):
 cM_ [nL a fs.length 3,gS s] H Q:=by
 refine⟨1,?_⟩;rw[tE_];refine⟨fs.length+2,?_⟩;rw[eG_];have go:∀(f i j:Nat),j-i<f->i<=gk_ fs s->gk_ fs s<=j->j<=fs.length->∀{R:Post},R (.tup [nN ((gk_ fs s:Nat):Int),.s (.bool (fs.any λf=>decide (f.1=s)))]) H->
  al_.l3 (cW_ [(rG_,dj_)]) f a fs.length s rG_ [] ((fs.length:Nat):Int) ((i:Nat):Int) ((j:Nat):Int) H R:=by
  intro f;induction f with
  |zero=>intro i j h;omega
  | succ f ih=>
   intro i j hf h1 h2 h3 R hR;rw[al_.l3_eq];refine aa_ (λe=>?_) λe=>?_
   ·have hij:i<j:=by simpa using e
    rw[A8_ o_];have hm:(i+j) / 2<fs.length:=o_
    refine ab_ rfl (ab_ s_ ?_);rcases h with⟨_,h⟩|⟨l,rfl,h⟩
    .rw[h]at hm;cases hm
    ·obtain⟨r1,r2,r3⟩:=bR_.gets h _ hm;have etn:∀k:Nat,tN (k:Int)=k:=λ_=>rfl;simp only[ad_,kN,etn];rw[ac_ r1,aq_,ac_ r2,aq_,ac_ r3,ak_];refine i4_ ?_;simp only[aJ_,ai_];rw[Em_,ao_ o_];have hp:=h0_ ha s _ hm;refine aa_ (λe=>?_) (λe=>?_)
     .exact ih _ _ o_ (h_ (hp.1 e)) h2 h3 hR
     ·exact ih _ _ (by omega) h1 (by rw[e]at hp;have: ¬ (i+j) / 2<gk_ fs s:=λq=>by cases hp.2 q
                                     omega) o_ hR
   ·have hij: ¬ i<j:=by simpa using e
    have hi:i=gk_ fs s:=o_
    subst hi;refine aa_ (λe=>?_) λe=>?_
    ·have hm:gk_ fs s<fs.length:=by simpa using e
     refine ab_ rfl (ab_ s_ ?_);rcases h with⟨_,h⟩|⟨l,rfl,h⟩
     .rw[h]at hm;cases hm
     ·obtain⟨r1,r2,r3⟩:=bR_.gets h _ hm;have etn:∀k:Nat,tN (k:Int)=k:=λ_=>rfl;simp only[ad_,kN,etn];rw[ac_ r1,aq_,ac_ r2,aq_,ac_ r3,ak_];refine i4_ ?_;simp only[aJ_,ai_];rw[El_];have:decide (fs[gk_ fs s].1=s)=fs.any λf=>decide (f.1=s):=by
       rw[Bool.eq_iff_iff,any_eq_true];simp only[decide_eq_true_eq];refine⟨λe=>⟨_,kE hm,e⟩,fun⟨x,hx,e⟩=>?_⟩;obtain⟨k,hk,rfl⟩:=kK hx;have hk1:=h0_ ha s k hk;rw[e,b0_]at hk1;have hle:gk_ fs s<=k:=by
        refine Nat.le_of_not_lt λq=>?_;cases hk1.2 q
       rcases Nat.lt_or_eq_of_le hle with q|q
       .have hlt:=(kS.1 ha) _ _ hm hk q;rw[e]at hlt;have:=(h0_ ha s _ hm).1 hlt;omega
       .simp only[q];exact e
      rw[this];exact hR
    ·have hm: ¬ gk_ fs s<fs.length:=by simpa using e
     have:(fs.any λf=>decide (f.1=s))=false:=by
      rw[any_eq_false];intro x hx q;obtain⟨k,hk,rfl⟩:=kK hx;have hk1:=h0_ ha s k hk;have q':fs[k].1=s:=u_ q
      rw[q',b0_]at hk1;have: ¬ k<gk_ fs s:=λz=>by cases hk1.2 z
      omega
     rw[this]at hR;exact hR
 refine go _ 0 fs.length o_ (kP _) (vL_ _ _) (kO _) ?_;simp only[aH_,aD_,bD_,ai_,ak_,a8_];exact hQ
end
end Go.Am
namespace Go.Am
open List
theorem HT_:isNone (none:Pl)=true:=rfl
theorem H8_(q:Nat × Nat):isNone (some q:Pl)=false:=rfl
theorem bN0:cq_ (!false) x y=x:=rfl
theorem bN1:cq_ (!true) x y=y:=rfl
structure Jr_(H:Hp)(a:Pl)(H':Hp):Prop where
 len:H'.length=H.length+2
 row:∀l,l<H.length->a≠some (l,0)->H'[l]?=H[l]?
section
variable{H:Hp}{Q:Post}{n i b l t z by_:Nat}{a:Pl}{zs vs cs:List GV}
def vA_(h:Own H b t a (n*z) cs)(Z:1<=z)(U:vs.length=z)(hb:b<=H.length)(hi:i<=n)(A:(n+1)*by_<=Lim)
 (O:∀H',Jr_ H a H'->Own H' b t (some (H.length+1,0)) ((n+1)*z) (cs.take (i*z)++(vs++cs.drop (i*z)))->Q (nL (some (H.length+1,0)) (n+1) z) H'):
 BF_ t z by_ [nL a n z,gI (i:Int),nL (some (ln H,0)) 1 z] (pu H (.row false mV_ vs)) Q:=by
 have e:ln (pu H (.row false mV_ vs))=H.length+1:=t_
 have e1:=Nat.add_mul n 1 z;refine⟨a,n,i,ln H,vs,rfl,hi,A,t_,U,?_⟩;rw[e];rcases h with⟨rfl,J,rfl⟩|⟨l,rfl,V,N,D⟩;have J:=(Nat.mul_eq_zero.1 J).resolve_right o_;subst J;refine .inl ⟨rfl,rfl,O _ ⟨t_,λl W _=>by simp[kM,W]⟩ (.inr ⟨_,rfl,o_,?_,by simp[U]⟩)⟩;simp_all;refine .inr ⟨l,cs,rfl,by rw[pu,kM ((kC.1 N).1)];exact N,D,O _ ⟨t_,λY I F=>?_⟩ (.inr ⟨_,rfl,o_,?_,s_⟩)⟩;rw[pu,kM s_,kF λq=>F (by rw[q]),pu,kM I];simp_all
def JH_ (hr:H[l]?=some (.row true t cs)) (hc:cs.length=n*z) (hz:zs.length=z) (z1:1<=z) (hi:i<n) (hl:n*by_<=Lim) (hn:n<=1000000)
 (hQ:Q (nL (some (l,0)) (n-1) z) (H.set l (.row true t (cs.take (i*z)++(cs.drop ((i+1)*z)++zs))))):
 chk true (chk (leI 0 (nI n)) (chk (leI 0 ((i+1:Nat):Int)) (chk (leI 0 (i:Int)) (chk ((leN (tN (i:Int)) (tN ((i+1:Nat):Int)))&&((leN (tN ((i+1:Nat):Int)) (tN (nI n)))&&((leN (tN (nI n)) n)&&(n3_ H (some (l,0)) ((tN (nI n))*z))))) (cq_ (eqI (i:Int) ((i+1:Nat):Int))
  (Q (nL (some (l,0)) n z) H)
  (chk true (chk (leI 0 (i:Int)) (chk ((leN 0 (tN (i:Int)))&&((leN (tN (i:Int)) n)||(kz_ H (some (l,0)) ((tN (i:Int))*z)))) (chk true (chk (leI 0 ((i+1:Nat):Int)) (chk (leN (tN ((i+1:Nat):Int)) n) (chk true (rdN H (shf (some (l,0)) ((tN ((i+1:Nat):Int))*z)) ((n-(tN ((i+1:Nat):Int)))*z) λc0=>
  chk true (ap H t z by_ (shf (some (l,0)) 0) ((tN (i:Int))-0) c0 (n-(tN ((i+1:Nat):Int))) λx1 n2 H3=>
  chk true (chk (leI 0 (nI n)) (chk (leI 0 (nI n2)) (chk ((leN (tN (nI n2)) (tN (nI n)))&&((leN (tN (nI n)) n2)||(kz_ H3 x1 ((tN (nI n))*z)))) (chk true (clr H3 (shf x1 ((tN (nI n2))*z)) ((tN (nI n))-(tN (nI n2))) zs λH4=>
  Q (nL x1 n2 z) H4))))))))))))))))))):=by
 have hlt:=(kC.1 hr).1;have e0:tN (i:Int)=i:=rfl;have e1:tN ((i+1:Nat):Int)=i+1:=rfl;have e2:tN (nI n)=n:=rfl;have a1:=Nat.add_mul i 1 z;have a2:=Nat.mul_le_mul_right z (show i+1<=n from hi);have a3:=Nat.sub_mul n (i+1) z;have a4:=Nat.sub_mul n 1 z;have a5:i+(n-(i+1))=n-1:=o_
 have a6:=Nat.mul_le_mul_right by_ (Nat.sub_le n 1);rw[af_];refine ab_ t_ (ab_ s_ (ab_ t_ (ab_ ?_ ?_)))
 .rw[e0,e1,e2];simp[n3_,hr,hc];omega
 rw[aB_ s_,af_];refine ab_ t_ (ab_ s_ ?_);rw[af_];refine ab_ s_ (ab_ s_ ?_);rw[af_,e0,e1];have hcs:cells? H (shf (some (l,0)) ((i+1)*z)) ((n-(i+1))*z)=some (cs.drop ((i+1)*z)):=by
  simp only[shf,cells?,hr,kN];rw[if_pos o_,k7 s_]
 rw[d5_ hcs,af_];have hd:(cs.drop ((i+1)*z)).length=(n-(i+1))*z:=by rw[length_drop];omega
 unfold ap app?;rw[if_pos ⟨by rw[Nat.sub_zero,a5];omega,hd⟩];simp only[shf,hr,kQ,Nat.sub_zero,kN];rw[if_neg (by rintro⟨_,_,q⟩;omega),a5,if_pos o_];simp only;have e3:tN (nI (n-1))=n-1:=rfl;have hl1:(cs.take (i*z)++cs.drop ((i+1)*z)).length=(n-1)*z:=by rw[kI,lC,hd];omega
 have hlr:(cs.drop ((n-1)*z)).length=z:=by rw[length_drop];omega
 rw[af_];refine ab_ t_ (ab_ t_ (ab_ ?_ ?_))
 .rw[e2,e3];simp only[kz_,kH hlt,kI,hl1,hlr];simp;omega
 rw[af_,e2,e3,(o_:n-(n-1)=1)];unfold clr;simp only[shf,kH hlt,kN,Nat.one_mul];refine⟨by rw[kI,hl1,hlr,hz];omega,?_⟩;rw[set_set,take_left' hl1,drop_of_length_le (l:=cs.take (i*z)++cs.drop ((i+1)*z)++cs.drop ((n-1)*z)) (by rw[kI,hl1,hlr,hz];omega)];simpa using hQ
end
end Go.Am
