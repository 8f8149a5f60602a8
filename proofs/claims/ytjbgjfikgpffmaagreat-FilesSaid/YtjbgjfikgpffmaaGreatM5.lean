import Derived.Test.YtjbgjfikgpffmaaGreatM4
set_option linter.all false
set_option autoImplicit true
set_option relaxedAutoImplicit true
set_option maxRecDepth 100000
namespace Go.Am
theorem cd_ {H H':Hp} (A:H<+:H') (h:gt H l o=some v):gt H' l o=some v:=by
 have r:l<H.length:=by
  unfold gt at h;cases e:H[l]? with
  |none=>rw[e]at h;cases h
  |some x=>exact (kC.1 e).1
 unfold gt;rw[a9_ A r];exact h
def Hb_(h:gt H l o=some v):l<H.length:=by
 unfold gt at h;cases e:H[l]? with
 |none=>rw[e]at h;cases h
 |some x=>exact (kC.1 e).1
theorem fC_(rec:Int->Nat->WS->Option WS)(k:Int)(ks:List Int)(i:Nat)(st:WS):gG_ rec (k::ks) i st=(match rec k i st with|none=>none|some h=>gG_ rec ks (i+1) h):=rfl
section
variable{T:List Pg}{a:Pl}{cs:List PC}{H0:Hp}{lo hi lw lm:Nat}{t t':TypeId}
def uZ_ (hT:Tr H0 a 48 cs T) (hlo:H0.length<=lo) (l1:lo<=lw) (l2:lw<hi) (m1:lo<=lm) (m2:lm<hi):
 ∀(f at_ deep:Nat)(kl kh:Y_)(st:WS)(H:Hp)(Q:Post),gr_ st.met<f->H0<+:H->WOK H t t' lw lm a st->at_<48->1<=deep->deep+f<=1000->st.count+4*gr_ st.met<=1000->
  (∀H',Ch lo hi H H'->cT_ T f at_ deep kl kh st=none->Q (gB false) H')->
  (∀H' st',Ch lo hi H H'->WOK H' t t' lw lm a st'->cT_ T f at_ deep kl kh st=some st'->Q (gB true) H')->
  aC_.at f [yQ lw,gI (at_:Int),gI (deep:Int),.agg [.str kl,.str kh,.bool (decide (kh.size=0))]] H Q:=by
 intro f;induction f with
 |zero=>intro _ _ _ _ _ _ _ h;omega
 | succ f ih=>
  intro at_ deep kl kh st H Q hu h0 hW hat hd1 hdf hct hQ1 hQ2
  obtain⟨l,o,c,p,rfl,hc,hp,hpc,g0,g1,g2,g3,g4⟩:=hT.get hat;have hl0:=Hb_ g0;simp only[j4_ T f at_ deep kl kh st hp]at hQ1 hQ2;have hpH:=hpc.mono h0;have hpl:p.leaf=c.l:=hpc.leaf;have hlm:st.met.length=48:=hW.len;have hmet:st.met[at_]?=some (st.met[at_]'o_):=kG o_;have wlt:=(kC.1 hW.row).1;have mlt:=(kC.1 hW.met).1;have no:okD p at_ kl kh st=false->∀H',Ch lo hi H H'->Q (gB false) H':=λe H' c'=>hQ1 H' c' (by rw[e])
  refine⟨p.kids.length+3,?_⟩;rw[pq_,ad_,ac_ (v:= .sl (some (l,o)) 48 5) (by rw[aY_ hW.row];rfl),ah_,af_];refine ab_ s_ ?_;rw[ad_,ad_,ac_ (v:= .sl (some (lm,0)) 48 1) (by rw[aY_ hW.row];rfl),ah_,af_];refine ab_ s_ ?_;have etN:tN (at_:Int)=at_:=rfl
  rw[ad_,etN,ac_ (v:= .bool (st.met[at_]'o_)) (by rw[aY_ hW.met];simp[hlm,hat]),ak_];refine aa_ (λe=>no (by unfold okD;rw[hmet,e];rfl) H (Ch.refl _ _ _)) λem=>?_;rw[cx_ (cd_ h0 g0) (cd_ h0 g1) (cd_ h0 g2) (cd_ h0 g3) (cd_ h0 g4)];refine iN_ hpH λb H1 p1 hb=>?_;simp only[aJ_,ak_];have h01:=h0.trans p1;have c01:Ch lo hi H H1:=Ch.of_pre p1;refine aa_ (λe=>no (by unfold okD;cases hm:kL_ p with|true=>(rw[hb.2 ((ef_ p).1 hm)]at e;cases e)|false=>simp) H1 c01) λeb=>?_;have hmay:fm_ p:=hb.1 (by cases b<;>simp_all);have hmayB:kL_ p=true:=(ef_ p).2 hmay;have hn1:=hpH.keys.len;have hks:Ss H1 c.a1 c.n1 p.keys:=(hpH.mono p1).keys;by_cases hsm:0<at_/\p.keys.length<2
  .rw[ay_ s_,ac_ (v:= .sl c.a1 c.n1 1) (by exact cd_ h01 g2),ah_,ay_ s_];exact no (by unfold okD;simp[hsm]) H1 c01
  have hsB:(!(decide (0<at_)&&decide (p.keys.length<2)))=true:=by
   rw[Bool.not_eq_true',Bool.and_eq_false_iff,decide_eq_false_iff_not,decide_eq_false_iff_not];omega
  have hgo:∀H2,H0<+:H2->Ch lo hi H H2->WOK H2 t t' lw lm (some (l,o)) ⟨st.met.set at_ true,st.deep,st.count⟩->okD p at_ kl kh st=true->p.leaf=false->
   aC_.l8 (aC_.at f) (p.kids.length+2) (some (lw,0)) (deep:Int) kl kh (decide (kh.size=0)) l (o+at_*5) c.a3 c.n3 (nI c.n3) 0 H2 Q:=by
   intro H2 h02 c02 hW2 hok hlf;rw[hok,hlf]at hQ1 hQ2;dsimp only at hQ1 hQ2;obtain⟨k1,k2,k3,k4,k5⟩:=hmay.2.inner hlf;have hm1:st.met[at_]?=some false:=by rw[hmet,em]
   have hus:=o2_ hm1;have hn3:=hpH.kids.len;have hk5:p.kids.length<=5:=h_ hmay.1
   generalize hR:gG_ (λk i s=>cT_ T f k.toNat (deep+1) (loK p kl i) (hiK p kh i) s) p.kids 0 ⟨st.met.set at_ true,st.deep,st.count⟩=R at hQ1 hQ2;have loop:∀(g i:Nat)(H3:Hp)(s3:WS),p.kids.length-i<g->i<=p.kids.length->H0<+:H3->Ch lo hi H H3->WOK H3 t t' lw lm (some (l,o)) s3->gr_ s3.met<f->s3.count+4*gr_ s3.met<=1000->
    gG_ (λk i s=>cT_ T f k.toNat (deep+1) (loK p kl i) (hiK p kh i) s) (p.kids.drop i) i s3=R->
    aC_.l8 (aC_.at f) g (some (lw,0)) (deep:Int) kl kh (decide (kh.size=0)) l (o+at_*5) c.a3 c.n3 (nI c.n3) (i:Int) H3 Q:=by
    intro g;induction g with
    |zero=>intro i H3 s3 h;omega
    | succ g ihg=>
     intro i H3 s3 hg hi' h03 c03 hW3 hu3 hc3 heq;rw[aC_.l8_eq];by_cases hik:i<p.kids.length
     .rw[lB hik]at heq;rw[fC_]at heq;have hk48:=k4 p.kids[i] (kE hik);have ek:p.kids[i]=((p.kids[i].toNat:Nat):Int):=by omega
      have hkl:(p.kids[i].toNat)<48:=o_
      have hki:Is H3 c.a3 c.n3 p.kids:=(hpc.mono h03).kids;rw[ay_ s_,af_,hki.rd i rfl hik];rw[ac_ (v:= .sl c.a1 c.n1 1) (by exact cd_ h03 g2),ah_];refine lF_ (p:=p) (hpc.mono h03).keys (λk hk=>(hmay.2.keys k hk).1) rfl (by have:=(hpc.mono h03).keys.len;omega) ?_;simp only[ez_,bc_,aq_,ak_,bI_];have wd:ae_ .i64 ((deep:Int)+1)=((deep+1:Nat):Int):=ao_ o_;rw[wd];generalize hkk:p.kids[i]=kk at*;rw[ek];refine ih kk.toNat (deep+1) (loK p kl i) (hiK p kh i) s3 H3 _ hu3 h03 hW3 hkl o_ o_ hc3 (λH4 c4 hw=>?_) λH4 s4 c4 hW4 hw=>?_
      .simp only[aJ_,ak_];rw[ay_ d_];rw[hw]at heq;exact hQ1 H4 (c03.trans c4) heq.symm
      .simp only[aJ_,ak_];rw[aB_ d_,ao_ o_];rw[hw]at heq;dsimp only at heq;obtain⟨u1,u2,u3,u4⟩:=iU_ T _ _ _ _ _ _ _ hw;exact ihg (i+1) H4 s4 o_ o_ (c4.pre h03 hlo) (c03.trans c4) hW4 o_ o_ heq
     .rw[aB_ s_];rw[List.drop_of_length_le o_]at heq;exact hQ2 H3 s3 c03 hW3 heq.symm
   exact loop _ 0 H2 _ o_ (kP _) h02 c02 hW2 (by dsimp only;omega) (by dsimp only;omega) hR
  rcases Nat.eq_zero_or_pos at_ with hz|hz
  case' inl=>rw[aB_ s_]
  case' inr=>rw[ay_ s_,ac_ (v:= .sl c.a1 c.n1 1) (by exact cd_ h01 g2),ah_,aB_ s_]
  all_goals
   rw[ac_ (v:= .sl c.a1 c.n1 1) (by exact cd_ h01 g2),ah_]
   refine mk_ hks rfl ?_
   simp only[aJ_,ak_]
   refine aa_ (λe=>no (by unfold okD;simp at e;rw[e];simp) H1 c01) λeh=>?_
   have hhold:gu_ kl kh p.keys=true:=u_ eh
   have hok:okD p at_ kl kh st=true:=by unfold okD;rw[hmet,em,hmayB,hsB,hhold];rfl
   have hW1:=hW.mono p1
   rw[ad_,ac_ (v:= .sl (some (lm,0)) 48 1) (by rw[aY_ hW1.row];rfl),ah_,af_]
   refine ab_ s_ ?_
   rw[ad_]
   refine ce_ hW1.met (by simp[hlm];omega) ?_
   have ez:0+at_*1=at_:=o_
   rw[ez,<-List.map_set]
   have c1:Ch lo hi H (H1.set lm (.row true t' ((st.met.set at_ true).map GV.bool))):=c01.trans (Ch.set _ m1 m2)
   have h02:=c1.pre h0 hlo
   have mlt1:=(kC.1 hW1.met).1
   have hW2:WOK (H1.set lm (.row true t' ((st.met.set at_ true).map GV.bool))) t t' lw lm (some (l,o)) ⟨st.met.set at_ true,st.deep,st.count⟩:=
    ⟨by rw[kF (Ne.symm hW.ne)];exact hW1.row,kH mlt1,by simp[hlm],hW.ne⟩
   rw[ac_ (v:= .bool c.l) (by exact cd_ h02 g1),ak_]
   refine aa_ (λe=>?_) λe=>?_
   .have hlf:p.leaf=true:=by rw[hpl,e]
    rw[hok,hlf]at hQ1 hQ2;dsimp only at hQ1 hQ2;refine nO_ (p:=p) (lo:=lo) (hi:=hi) hW2 (cd_ h02 g2) hn1 (h_ hmay.1) hd1 (by dsimp only;omega) l1 l2 o_ (λe H' c'=>?_) λst' H' e c' hW'=>?_
    .simp only[aJ_,ak_];exact hQ1 H' (c1.trans c') e
    .simp only[aJ_,ak_];exact hQ2 H' st' (c1.trans c') hW' e
   .have hlf:p.leaf=false:=by rw[hpl,e]
    rw[ac_ (v:= .sl c.a3 c.n3 1) (by exact cd_ h02 g4),ah_];exact hgo _ h02 c1 hW2 hok hlf
end
end Go.Am
