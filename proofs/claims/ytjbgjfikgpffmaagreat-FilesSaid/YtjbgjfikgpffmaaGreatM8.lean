import Derived.Test.YtjbgjfikgpffmaaGreatM7
set_option linter.all false
set_option autoImplicit true
set_option relaxedAutoImplicit true
set_option maxRecDepth 100000
namespace Go.Am
section
variable{T:List Pg}{a:Pl}{cs:List PC}{H0:Hp}{lo hi lb lm:Nat}{t t':TypeId}
def vu_(f:Nat)(F:BW H t lb lm t')(ne:lb≠lm)(l1:lo<=lb)(l2:lb<hi)(D:∀H',Ch lo hi H H'->BW H' t lb lm t'->Q (.tup []) H'):
 ag_.at (f+1) [yQ lb,yA x n,gI i,gI d,gS kl,gS kh] H Q:=by
 have⟨⟨C,A,r⟩,met,hl,hm⟩:=F;refine⟨1,?_⟩;rw[j3_,ad_,ac_ (by rw[aY_ r];rfl),ak_,oY_,ad_];refine ce_ r t_ (D _ (Ch.set _ l1 l2) ⟨⟨C,A,?_⟩,met,hl,?_⟩)
 .grind
 .grind
def wc_ (hT:Tr H0 a 48 cs T) (hlo:H0.length<=lo) (l1:lo<=lb) (l2:lb<hi) (m1:lo<=lm) (m2:lm<hi):
 ∀(f at_ deep:Nat)(kl kh:Y_)(st:WS)(H:Hp)(Q:Post),gr_ st.met<f->H0<+:H->BOK H t t' lb lm st->at_<48->1<=deep->deep+f<=1000->st.count+4*gr_ st.met<=1000->
  (∀H',Ch lo hi H H'->BW H' t lb lm t'->cT_ T f at_ deep kl kh st=none->Q (.tup []) H')->
  (∀H' st',Ch lo hi H H'->BOK H' t t' lb lm st'->cT_ T f at_ deep kl kh st=some st'->Q (.tup []) H')->
  ag_.at f [yQ lb,yA a 48,gI (at_:Int),gI (deep:Int),gS kl,gS kh] H Q:=by
 intro f;induction f with
 |zero=>intro _ _ _ _ _ _ _ h;omega
 | succ f ih=>
  intro at_ deep kl kh st H Q hu h0 hB hat hd1 hdf hct hQ1 hQ2
  obtain⟨l,o,c,p,rfl,hc,hp,hpc,g0,g1,g2,g3,g4⟩:=hT.get hat;have hl0:=Hb_ g0;simp only[j4_ T f at_ deep kl kh st hp]at hQ1 hQ2;have hpH:=hpc.mono h0;have hpl:p.leaf=c.l:=hpc.leaf;have hlm:st.met.length=48:=hB.len;have hmet:st.met[at_]?=some (st.met[at_]'o_):=kG o_;have mlt:=(kC.1 hB.met).1;have no:okD p at_ kl kh st=false->∀H',Ch lo hi H H'->BW H' t lb lm t'->Q (.tup []) H':=λe H' c' b'=>hQ1 H' c' b' (by rw[e])
  refine⟨3*p.kids.length+5,?_⟩;rw[j3_,ad_,ac_ (v:= .bool false) (by rw[aY_ hB.row];rfl),ak_,gC_];rw[ad_,ac_ (v:= .sl (some (lm,0)) 48 1) (by rw[aY_ hB.row];rfl),ah_,af_];refine ab_ s_ ?_;have etN:tN (at_:Int)=at_:=rfl
  rw[ad_,etN,ac_ (v:= .bool (st.met[at_]'o_)) (by rw[aY_ hB.met];simp[hlm,hat]),ak_];refine aa_ (λe=>hB.wrong l1 l2 λH' c' b'=>no (by unfold okD;rw[hmet,e];rfl) H' c' b') λem=>?_;rw[af_];refine ab_ s_ ?_;rw[ad_,cx_ (cd_ h0 g0) (cd_ h0 g1) (cd_ h0 g2) (cd_ h0 g3) (cd_ h0 g4)];refine ry_ hpH λb hb=>?_;simp only[aJ_,ak_];refine aa_ (λe=>hB.wrong l1 l2 λH' c' b'=>no (by unfold okD;cases hm:kL_ p with|true=>(rw[hb.2 ((ef_ p).1 hm)]at e;cases e)|false=>simp) H' c' b') λeb=>?_;have hmay:fm_ p:=hb.1 (by cases b<;>simp_all);have hmayB:kL_ p=true:=(ef_ p).2 hmay;have hn1:=hpH.keys.len;rw[ad_,ac_ (v:= .sl (some (lm,0)) 48 1) (by rw[aY_ hB.row];rfl),ah_,af_];refine ab_ s_ ?_;rw[ad_];refine ce_ hB.met (by simp[hlm];omega) ?_;have ez:0+at_*1=at_:=o_
  rw[ez,<-List.map_set];have c1:Ch lo hi H (H.set lm (.row true t' ((st.met.set at_ true).map GV.bool))):=Ch.set _ m1 m2;have h02:=c1.pre h0 hlo;have hB2:BOK (H.set lm (.row true t' ((st.met.set at_ true).map GV.bool))) t t' lb lm ⟨st.met.set at_ true,st.deep,st.count⟩:=
   ⟨by rw[kF (Ne.symm hB.ne)];exact hB.row,kH mlt,by simp[hlm],hB.ne⟩
  generalize H.set lm (.row true t' ((st.met.set at_ true).map GV.bool))=H2 at c1 h02 hB2 ⊢;rw[af_];refine ab_ s_ ?_;rw[ad_,cx_ (cd_ h02 g0) (cd_ h02 g1) (cd_ h02 g2) (cd_ h02 g3) (cd_ h02 g4)];have hks:Ss H2 c.a1 c.n1 p.keys:=(hpc.mono h02).keys;have wrong2:okD p at_ kl kh st=false->pS (some (lb,0)) λn m=>wr H2 n (m+3) (.bool true) λH'=>Q (.tup []) H':=λe=>hB2.wrong l1 l2 λH' c' b'=>no e H' (c1.trans c') b'
  have tail:okD p at_ kl kh st=true->cq_ c.l (pS (some (lb,0)) λn88 n89=>rd H2 n88 (n89+1) λv90=>dI .i64 v90 λi91=>cq_ (eqI i91 0)
   (pS (some (lb,0)) λn92 n93=>wr H2 n92 (n93+1) (.int .i64 (deep:Int)) λH94=>ag_.l10 (ag_.at f) (3*p.kids.length+4) (some (lb,0)) (deep:Int) c.u c.l c.a1 c.n1 c.a2 c.n2 c.a3 c.n3 H94 Q)
   (ag_.l10 (ag_.at f) (3*p.kids.length+4) (some (lb,0)) (deep:Int) c.u c.l c.a1 c.n1 c.a2 c.n2 c.a3 c.n3 H2 Q))
   (ag_.l13 (ag_.at f) (3*p.kids.length+4) (some (lb,0)) (deep:Int) kl kh (some (l,o)) 48 c.u c.l c.a1 c.n1 c.a2 c.n2 c.a3 c.n3 0 H2 Q):=by
   intro hok;rw[hok]at hQ1 hQ2;dsimp only at hQ1 hQ2;refine aa_ (λe=>?_) λe=>?_
   ·have hlf:p.leaf=true:=by rw[hpl,e]
    rw[hlf]at hQ1 hQ2;dsimp only at hQ1 hQ2;have lblt:=(kC.1 hB2.row).1;have fin:∀(d:Nat)(H3:Hp),H3[lb]?=some (.row true t [.sl (some (lm,0)) 48 1,.int .i64 (d:Int),.int .i64 st.count,.bool false])->H3[lm]?=H2[lm]? ->Ch lo hi H H3->
     leafD p deep ⟨st.met.set at_ true,st.deep,st.count⟩=(match decide (d=deep) with|true=>some ⟨st.met.set at_ true,deep,st.count+p.keys.length⟩|false=>none)->
     ag_.l10 (ag_.at f) (3*p.kids.length+4) (some (lb,0)) (deep:Int) c.u c.l c.a1 c.n1 c.a2 c.n2 c.a3 c.n3 H3 Q:=by
     intro d H3 hr3 hm3 c3 he;have lb3:=(kC.1 hr3).1;rw[ag_.l10_eq,ad_,ac_ (v:= .int .i64 (d:Int)) (by rw[aY_ hr3];rfl),ai_,ad_];refine ce_ hr3 t_ ?_;have hr4:=kH (a:=(Obj.row true t ([GV.sl (some (lm,0)) 48 1,.int .i64 (d:Int),.int .i64 st.count,.bool false].set 3 (.bool (!(eqI (d:Int) (deep:Int))))))) lb3;have c4:=c3.trans (Ch.set (Obj.row true t ([GV.sl (some (lm,0)) 48 1,.int .i64 (d:Int),.int .i64 st.count,.bool false].set 3 (.bool (!(eqI (d:Int) (deep:Int)))))) l1 l2);have hm4:(H3.set lb (Obj.row true t ([GV.sl (some (lm,0)) 48 1,.int .i64 (d:Int),.int .i64 st.count,.bool false].set 3 (.bool (!(eqI (d:Int) (deep:Int)))))))[lm]?=H2[lm]? :=by rw[kF hB2.ne,hm3]
     generalize H3.set lb (Obj.row true t ([GV.sl (some (lm,0)) 48 1,.int .i64 (d:Int),.int .i64 st.count,.bool false].set 3 (.bool (!(eqI (d:Int) (deep:Int))))))=H4 at hr4 c4 hm4 ⊢;have lb4:=(kC.1 hr4).1;rw[ad_,ac_ (v:= .int .i64 st.count) (by rw[aY_ hr4];rfl),ai_,ad_];have w:ae_ .i64 ((st.count:Int)+nI c.n1)=((st.count+p.keys.length:Nat):Int):=by have:=hmay.1;rw[cf_ s_ s_];simp[hn1]
     rw[w];refine ce_ hr4 t_ ?_;have c5:=c4.trans (Ch.set (Obj.row true t (([GV.sl (some (lm,0)) 48 1,.int .i64 (d:Int),.int .i64 st.count,.bool false].set 3 (.bool (!(eqI (d:Int) (deep:Int))))).set (0+2) (.int .i64 ((st.count+p.keys.length:Nat):Int)))) l1 l2);have hr5:=kH (a:=(Obj.row true t (([GV.sl (some (lm,0)) 48 1,.int .i64 (d:Int),.int .i64 st.count,.bool false].set 3 (.bool (!(eqI (d:Int) (deep:Int))))).set (0+2) (.int .i64 ((st.count+p.keys.length:Nat):Int))))) lb4;by_cases ed:d=deep
     .subst ed;rw[lE rfl]at he;refine hQ2 _ _ c5 ⟨?_,?_,by simp[hlm],hB2.ne⟩ he
      .rw[hr5];simp[iF_]
      .rw[kF hB2.ne,hm4];exact hB2.met
     ·rw[lH ed]at he;refine hQ1 _ c5 ⟨⟨(d:Int),((st.count+p.keys.length:Nat):Int),?_⟩,st.met.set at_ true,by simp[hlm],?_⟩ he
      .have ed': ¬ ((d:Int)=(deep:Int)):=by omega
       rw[hr5];simp[iF_,ed']
      .rw[kF hB2.ne,hm4];exact hB2.met
    rw[ad_,ac_ (v:= .int .i64 st.deep) (by rw[aY_ hB2.row];rfl),ai_];refine aa_ (λez=>?_) λez=>?_
    .have hz:st.deep=0:=by simp at ez;omega
     rw[ad_];refine ce_ hB2.row t_ ?_;refine fin deep _ ?_ (by rw[kF hB2.ne]) (c1.trans (Ch.set _ l1 l2)) ?_
     .rw[kH lblt];rfl
     .unfold leafD;simp[hz]
    .have hz: ¬ st.deep=0:=by simp at ez;omega
     refine fin st.deep H2 hB2.row rfl c1 ?_;unfold leafD;dsimp only;rw[lH hz];by_cases ed:st.deep=deep
     .rw[lE ed]
     .rw[lH ed]
   ·have hlf:p.leaf=false:=by rw[hpl,e]
    rw[hlf]at hQ1 hQ2;dsimp only at hQ1 hQ2;obtain⟨k1,k2,k3,k4,k5⟩:=hmay.2.inner hlf;have hm1:st.met[at_]?=some false:=by rw[hmet,em]
    have hus:=o2_ hm1;have hn3:=hpH.kids.len;have hk5:p.kids.length<=5:=h_ hmay.1
    have hf1:1<=f:=o_
    generalize hR:gG_ (λk i s=>cT_ T f k.toNat (deep+1) (loK p kl i) (hiK p kh i) s) p.kids 0 ⟨st.met.set at_ true,st.deep,st.count⟩=R at hQ1 hQ2;have wd:ae_ .i64 ((deep:Int)+1)=((deep+1:Nat):Int):=ao_ o_;have step:∀(g i:Nat)(H3:Hp)(hik:i<p.kids.length),H0<+:H3->
     (ag_.at f [yQ lb,yA (some (l,o)) 48,gI p.kids[i],gI ((deep+1:Nat):Int),gS (loK p kl i),gS (hiK p kh i)] H3 λr4 H5=>
      ag_.l13 (ag_.at f) g (some (lb,0)) (deep:Int) kl kh (some (l,o)) 48 c.u c.l c.a1 c.n1 c.a2 c.n2 c.a3 c.n3 ((i+1:Nat):Int) H5 Q)->
     ag_.l13 (ag_.at f) (g+3) (some (lb,0)) (deep:Int) kl kh (some (l,o)) 48 c.u c.l c.a1 c.n1 c.a2 c.n2 c.a3 c.n3 (i:Int) H3 Q:=by
     intro g i H3 hik h03 hstep;have hkeys:Ss H3 c.a1 c.n1 p.keys:=(hpc.mono h03).keys;have hkids:Is H3 c.a3 c.n3 p.kids:=(hpc.mono h03).kids;rw[ag_.l13_eq,ay_ s_];have s20:∀x y,x=loK p kl i->y=hiK p kh i->ag_.l20 (ag_.at f) (g+1) (some (lb,0)) (deep:Int) kl kh (some (l,o)) 48 c.u c.l c.a1 c.n1 c.a2 c.n2 c.a3 c.n3 (i:Int) x y H3 Q:=by
      intro x y ex ey;subst ex;subst ey;rw[ag_.l20_eq,af_,hkids.rd i rfl hik,wd,ao_ o_];exact hstep
     have s18:∀x,x=loK p kl i->ag_.l18 (ag_.at f) (g+2) (some (lb,0)) (deep:Int) kl kh (some (l,o)) 48 c.u c.l c.a1 c.n1 c.a2 c.n2 c.a3 c.n3 (i:Int) x kh H3 Q:=by
      intro x ex;rw[ag_.l18_eq];refine aa_ (λe=>?_) λe=>?_
      .have hk:i<p.keys.length:=by have:=hkeys.len;simp at e;omega
       rw[af_,hkeys.rd i rfl hk];exact s20 _ _ ex (by unfold hiK;rw[kG hk];rfl)
      .have hk:p.keys.length<=i:=by have:=hkeys.len;simp at e;omega
       exact s20 _ _ ex (by unfold hiK;rw[List.getElem?_eq_none hk];rfl)
     refine aa_ (λe=>?_) λe=>?_
     .have h0i:0<i:=by simpa using e
      obtain⟨j,rfl⟩:∃j,i=j+1:=⟨i-1,o_⟩;have hj:j<p.keys.length:=o_
      rw[af_,en_ o_,hkeys.rd j rfl hj];exact s18 _ (by unfold loK;rw[lE o_];simp[hj])
     .have h0i:i=0:=by simp at e;omega
      subst h0i;exact s18 _ rfl
    have bad:∀(g i:Nat)(H3:Hp),3*(p.kids.length-i)<g->i<=p.kids.length->H0<+:H3->Ch lo hi H H3->BW H3 t lb lm t'->R=none->ag_.l13 (ag_.at f) g (some (lb,0)) (deep:Int) kl kh (some (l,o)) 48 c.u c.l c.a1 c.n1 c.a2 c.n2 c.a3 c.n3 (i:Int) H3 Q:=by
     intro g;induction g using Nat.strongRecOn with
     |_ g ihg=>
      intro i H3 hg hi' h03 c03 hW3 hRn;by_cases hik:i<p.kids.length
      .obtain⟨g,rfl⟩:∃g',g=g'+3:=⟨g-3,o_⟩;refine step g i H3 hik h03 ?_;obtain⟨f',rfl⟩:∃f',f=f'+1:=⟨f-1,o_⟩;refine vu_ (lo:=lo) (hi:=hi) f' hW3 hB2.ne l1 l2 λH4 c4 b4=>?_;exact ihg g o_ (i+1) H4 o_ o_ (c4.pre h03 hlo) (c03.trans c4) b4 hRn
      .obtain⟨g,rfl⟩:∃g',g=g'+1:=⟨g-1,o_⟩;rw[ag_.l13_eq,aB_ (by have:=(hpc.mono h03).kids.len;simp;omega)];exact hQ1 H3 c03 hW3 hRn
    have loop:∀(g i:Nat)(H3:Hp)(s3:WS),3*(p.kids.length-i)<g->i<=p.kids.length->H0<+:H3->Ch lo hi H H3->BOK H3 t t' lb lm s3->gr_ s3.met<f->s3.count+4*gr_ s3.met<=1000->
     gG_ (λk i s=>cT_ T f k.toNat (deep+1) (loK p kl i) (hiK p kh i) s) (p.kids.drop i) i s3=R->
     ag_.l13 (ag_.at f) g (some (lb,0)) (deep:Int) kl kh (some (l,o)) 48 c.u c.l c.a1 c.n1 c.a2 c.n2 c.a3 c.n3 (i:Int) H3 Q:=by
     intro g;induction g using Nat.strongRecOn with
     | _ g ihg=>
      intro i H3 s3 hg hi' h03 c03 hW3 hu3 hc3 heq;by_cases hik:i<p.kids.length
      .obtain⟨g,rfl⟩:∃g',g=g'+3:=⟨g-3,o_⟩;refine step g i H3 hik h03 ?_;rw[lB hik,fC_]at heq;have hk48:=k4 p.kids[i] (kE hik);have ek:p.kids[i]=((p.kids[i].toNat:Nat):Int):=by omega
       have hkl:(p.kids[i].toNat)<48:=o_
       generalize hkk:p.kids[i]=kk at*;rw[ek];refine ih kk.toNat (deep+1) (loK p kl i) (hiK p kh i) s3 H3 _ hu3 h03 hW3 hkl o_ o_ hc3 (λH4 c4 b4 hw=>?_) λH4 s4 c4 hW4 hw=>?_
       .rw[hw]at heq;exact bad g (i+1) H4 o_ o_ (c4.pre h03 hlo) (c03.trans c4) b4 heq.symm
       .rw[hw]at heq;dsimp only at heq;obtain⟨u1,u2,u3,u4⟩:=iU_ T _ _ _ _ _ _ _ hw;exact ihg g o_ (i+1) H4 s4 o_ o_ (c4.pre h03 hlo) (c03.trans c4) hW4 o_ o_ heq
      .obtain⟨g,rfl⟩:∃g',g=g'+1:=⟨g-1,o_⟩;rw[ag_.l13_eq,aB_ (by have:=(hpc.mono h03).kids.len;simp;omega)];rw[List.drop_of_length_le o_]at heq;exact hQ2 H3 s3 c03 hW3 heq.symm
    exact loop _ 0 H2 _ o_ (kP _) h02 c1 hB2 (by dsimp only;omega) (by dsimp only;omega) hR
  have hB0:(!(decide (0<at_)&&decide (p.keys.length<2)))=true->okD p at_ kl kh st=gu_ kl kh p.keys:=by intro e;unfold okD;rw[hmet,em,hmayB,e];simp
  refine aa_ (λe=>?_) λe=>?_
  ·have hz:0<at_:=by simp at e;omega
   refine aa_ (λe2=>wrong2 ?_) λe2=>?_
   .have:p.keys.length<2:=by simp at e2;omega
    unfold okD;simp[hz,this]
   ·have hs:(!(decide (0<at_)&&decide (p.keys.length<2)))=true:=by
     have: ¬ p.keys.length<2:=i_ e2
     simp[this]
    exact Cq_ hks hmay.2.rising (λhh=>tail (by rw[hB0 hs,hh])) λhh=>wrong2 (by rw[hB0 hs,hh])
  .have hz:at_=0:=by simp at e;omega
   have hs:(!(decide (0<at_)&&decide (p.keys.length<2)))=true:=by subst hz;rfl
   exact Cq_ hks hmay.2.rising (λhh=>tail (by rw[hB0 hs,hh])) λhh=>wrong2 (by rw[hB0 hs,hh])
end
end Go.Am
