import Derived.Test.YtjbgjfikgpffmaaGreatM5
set_option linter.all false
set_option autoImplicit true
set_option relaxedAutoImplicit true
set_option maxRecDepth 100000
namespace Go.Am
open List
section
variable{H:Hp}{Q:Post}{c:PC}{p:Pg}
theorem xf_ (h:ke_ H u l a1 n1 a2 n2 a3 n3 p) {X:Bool->Prop} (F:X (cL_ p)):
 b1_ (!u) (b1_ (!l) (X (eqI (ac_ .i64 ((ac_ .i64 ((nI n1)+(nI n2)))+(nI n3))) 0)) (X false)) (X false):=by
 have⟨J,O,C,r,A⟩:=h;have G:=C.len;have I:=r.len;have N:=A.len;have l1:=C.lim;have l2:=r.lim;have l3:=A.lim;unfold cL_ at F;refine aa_ (λe=>?_) λe=>?_
 ·refine aa_ (λD=>?_) (λD=>?_)
  ·rw[b5_ (n:=nI n1+nI n2) s_ s_,b5_ s_ s_,iv_];have:decide (nI n1+nI n2+nI n3=0)=(p.keys.isEmpty&&(p.vals.isEmpty&&p.kids.isEmpty)):=by
    rw[Bool.eq_iff_iff];simp only[decide_eq_true_eq,kR,isEmpty_iff_length_eq_zero];simp only[i3_];omega
   grind
  .grind
 .grind
theorem qR_(h:c.at H p)(r:Q (gB (cL_ p)) H):fM_ [.agg [.bool c.u,.bool c.l,.sl c.a1 c.n1 1,.sl c.a2 c.n2 1,.sl c.a3 c.n3 1]] H Q:=by
 refine⟨1,?_⟩;rw[uh_];exact xf_ h (X:=λb=>Q (gB b) H) r
theorem qA_(h:c.at H p)(r:Q (gB (cL_ p)) H):fW_ [.agg [.bool c.u,.bool c.l,.sl c.a1 c.n1 1,.sl c.a2 c.n2 1,.sl c.a3 c.n3 1]] H Q:=by
 refine⟨1,?_⟩;rw[uo_];exact xf_ h (X:=λb=>Q (gB b) H) r
end
def mq_(T:List Pg)(met:List Bool)(k:Nat):Bool:=(List.range k).all λi=>met[i]?.getD true||cL_ (T[i]?.getD noPg)
theorem pR_(T:List Pg)(met:List Bool)(k:Nat):mq_ T met (k+1)=(mq_ T met k&&(met[k]?.getD true||cL_ (T[k]?.getD noPg))):=by simp[mq_,range_succ]
theorem AK_(h:mq_ T met k=false)(A:k<=m):mq_ T met m=false:=by
 induction A with
 |refl=>exact h
 |step _ r=>rw[pR_,r];rfl
section
variable{T:List Pg}{a:Pl}{cs:List PC}{H0 H:Hp}{Q:Post}{lw lm:Nat}{t t':TypeId}{st:WS}
theorem nf_ (hT:Tr H0 a 48 cs T) (h0:H0<+:H) (hW:WOK H t t' lw lm a st) (hQ:Q (.g (.bool (hx_ T st.met))) H):bF_ [yQ lw] H Q:=by
 have hlm:=hW.len;have hlT:=hT.lenT;have hQ':Q (.g (.bool (mq_ T st.met 48))) H:=by have:hx_ T st.met=mq_ T st.met 48:=by unfold hx_ mq_;rw[hlT]
                                                                                    rw[<-this];exact hQ
 have loop:∀f k:Nat,48-k<f->k<=48->mq_ T st.met k=true->bF_.l2 f (some (lw,0)) a 48 (nI 48) (k:Int) H Q:=by
  intro f;induction f with
  |zero=>intro k hf;omega
  | succ f ih=>
   intro k hf hk hr;rw[bF_.l2_eq];by_cases hkn:k<48
   ·obtain⟨l,o,c,p,rfl,hc,hp,hpc,g0,g1,g2,g3,g4⟩:=(hT.mono h0).get hkn;have hs:=pR_ T st.met k;have hmet:st.met[k]?=some (st.met[k]'o_):=kG o_;rw[hr,hmet,hp,Option.getD_some,Option.getD_some,Bool.true_and]at hs;rw[az_ s_,af_];refine ab_ s_ ?_;have etN:tN (k:Int)=k:=rfl;rw[ae_,etN,cP_ g0 g1 g2 g3 g4,ae_,ad_ (v:= .sl (some (lm,0)) 48 1) (by rw[aY_ hW.row];rfl),ah_,af_];refine ab_ s_ ?_;rw[ae_,ad_ (v:= .bool (st.met[k]'o_)) (by rw[aY_ hW.met];simp[hlm,hkn]),am_,an_ o_];refine aa_ (λe=>?_) (λe=>?_)
    ·have em:st.met[k]'o_=false:=by simpa using e
     rw[em,Bool.false_or]at hs;refine qR_ hpc ?_;simp only[aO_,am_];refine aa_ (λe2=>?_) λe2=>?_
     .have:cL_ p=false:=by simpa using e2
      rw[this]at hs;rw[AK_ hs o_]at hQ';exact hQ'
     .have:cL_ p=true:=by simpa using e2
      rw[this]at hs;exact ih (k+1) o_ o_ hs
    .have em:st.met[k]'o_=true:=by simpa using e
     rw[em,Bool.true_or]at hs;exact ih (k+1) o_ o_ hs
   .obtain rfl:k=48:=by omega
    rw[aA_ d_];rw[hr]at hQ';exact hQ'
 refine⟨50,?_⟩;rw[qn_,ae_,ad_ (v:= .sl a 48 5) (by rw[aY_ hW.row];rfl),ah_];exact loop 49 0 o_ (kP _) rfl
theorem r3_:∀n,gd_ (replicate n false)=n
 |0=>rfl
 |n+1=>by have:=r3_ n;unfold gd_;simp
theorem um_ {n lt:Nat} (hT:Tr H a n cs T) (hg:gt H lt 0=some (.sl a n 5)) (hQ:∀H',H<+:H'->Q (gI (aK_ T:Int)) H'):hp_ [yQ lt] H Q:=by
 refine⟨1,?_⟩;have hlT:=hT.lenT;rw[xG_,ae_,ad_ (v:= .sl a n 5) (by exact hg),ah_];refine aa_ (λe=>?_) λe=>?_
 .have: ¬ T.length=48:=by simp at e;omega
  have h0:aK_ T=0:=by unfold aK_;rw[lH this]
  grind
 ·obtain rfl:n=48:=by simp at e;omega
  have hlt:=Gt_ hg;have p1:=bU_ H (.row true tB (k8_ (tN 48) [.bool false]));rw[ae_,ad_ (v:= .sl a 48 5) (by exact hg),ah_,ad_ (v:= .sl a 48 5) (by exact b8_ p1 hg),ah_];refine⟨rfl,?_⟩;simp only[e3_,dS_];have p2:=p1.trans (bU_ _ (.row true Gu_ [.sl a 48 5,.sl (some (H.length,0)) 48 1,.int .i64 (-1),.int .i64 0]));have hl1:(H++[Obj.row true tB (k8_ (tN 48) [.bool false])]).length=H.length+1:=by simp
  have hW:WOK ((H++[.row true tB (k8_ (tN 48) [.bool false])])++[.row true Gu_ [.sl a 48 5,.sl (some (H.length,0)) 48 1,.int .i64 (-1),.int .i64 0]]) Gu_ tB (H.length+1) H.length a ws0:=by
   refine⟨?_,?_,rfl,o_⟩
   .rw[getElem?_append_right t_,hl1];simp[ws0,pd]
   .rw[kV,getElem?_append_right (kO _)];simp;rfl
  rw[hl1];have hu:gd_ ws0.met=48:=r3_ 48;refine⟨49,?_⟩;refine uH_ (T:=T) (H0:=H) hT (lo:=H.length) (hi:=H.length+2) (kO _) o_ o_ (kO _) o_ 49 0 1 (mkS []) (mkS []) ws0 _ _ o_ p2 hW o_ o_ o_ (by rw[hu];show 0+4*48<=1000;omega) (λH' c' hw=>?_) λH' st' c' hW' hw=>?_
  .simp only[aO_,am_];rw[az_ d_];have h0:aK_ T=0:=by unfold aK_;rw[lE hlT];dsimp only;rw[hw]
   have:=hQ H' (c'.pre p2 (kO _));rw[h0]at this;omega
  ·simp only[aO_,am_];rw[aA_ d_];have p3:=c'.pre p2 (kO _);refine nf_ hT p3 hW' ?_;simp only[aO_,am_];obtain⟨_,_,u3,u4⟩:=iJ_ T _ _ _ _ _ _ _ hw;have hh:aK_ T=(match hx_ T st'.met&&decide (st'.count<=60) with|true=>st'.deep|false=>0):=by unfold aK_;rw[lE hlT];dsimp only;rw[hw];rfl
   refine aa_ (λe=>?_) λe=>?_
   .grind
   ·have er:hx_ T st'.met=true:=by simpa using e
    rw[er,Bool.true_and]at hh;rw[ad_ (v:= .int .i64 st'.count) (by rw[aY_ hW'.row];rfl),ai_];refine aa_ (λe=>?_) λe=>?_
    .have: ¬ st'.count<=60:=by simp at e;omega
     grind
    .have:st'.count<=60:=by simp at e;omega
     rw[lE this]at hh;rw[ad_ (v:= .int .i64 (pd st'.deep)) (by rw[aY_ hW'.row];rfl),ai_,Gp_ (u3 (kO _))];have:=hQ H' p3;rw[hh]at this;omega
theorem ik_(A:Tr H a n cs T)(C:∀H',H<+:H'->Q (gB (decide (0<aK_ T))) H'):d5_ [yA a n] H Q:=by
 refine⟨1,?_⟩;rw[wB_];have r:=bU_ H (.row true tTr [.sl a n 5]);refine um_ (A.mono r) (by simp[gt]) λH' D=>?_;have:=C H' (r.trans D);simp_all
end
end Go.Am
