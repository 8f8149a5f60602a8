import Derived.Test.YtjbgjfikgpffmaaGreatM5
set_option linter.all false
set_option autoImplicit true
set_option relaxedAutoImplicit true
set_option maxRecDepth 100000
namespace Go.Am
open List
section
variable{H:Hp}{Q:Post}{c:PC}{p:Pg}
def vZ_ (h:jy_ H u l a1 n1 a2 n2 a3 n3 p) {X:Bool->Prop} (F:X (cS_ p)):
 cq_ (!u) (cq_ (!l) (X (eqI (ae_ .i64 ((ae_ .i64 ((nI n1)+(nI n2)))+(nI n3))) 0)) (X false)) (X false):=by
 have⟨J,O,C,r,A⟩:=h;have G:=C.len;have I:=r.len;have N:=A.len;have l1:=C.lim;have l2:=r.lim;have l3:=A.lim;unfold cS_ at F;refine aa_ (λe=>?_) λe=>?_
 ·refine aa_ (λD=>?_) (λD=>?_)
  ·rw[cf_ (n:=nI n1+nI n2) s_ s_,cf_ s_ s_,iF_];have:decide (nI n1+nI n2+nI n3=0)=(p.keys.isEmpty&&(p.vals.isEmpty&&p.kids.isEmpty)):=by
    rw[Bool.eq_iff_iff];simp only[decide_eq_true_eq,kR,isEmpty_iff_length_eq_zero];simp only[jj_];omega
   grind
  .grind
 .grind
def rN_(h:c.at H p)(r:Q (gB (cS_ p)) H):f7_ [.agg [.bool c.u,.bool c.l,.sl c.a1 c.n1 1,.sl c.a2 c.n2 1,.sl c.a3 c.n3 1]] H Q:=by
 refine⟨1,?_⟩;rw[vf_];exact vZ_ h (X:=λb=>Q (gB b) H) r
def rE_(h:c.at H p)(r:Q (gB (cS_ p)) H):ga_ [.agg [.bool c.u,.bool c.l,.sl c.a1 c.n1 1,.sl c.a2 c.n2 1,.sl c.a3 c.n3 1]] H Q:=by
 refine⟨1,?_⟩;rw[uL_];exact vZ_ h (X:=λb=>Q (gB b) H) r
end
def mF_(T:List Pg)(met:List Bool)(k:Nat):Bool:=(List.range k).all λi=>met[i]?.getD true||cS_ (T[i]?.getD noPg)
theorem p0_(T:List Pg)(met:List Bool)(k:Nat):mF_ T met (k+1)=(mF_ T met k&&(met[k]?.getD true||cS_ (T[k]?.getD noPg))):=by simp[mF_,range_succ]
theorem CU_(h:mF_ T met k=false)(A:k<=m):mF_ T met m=false:=by
 induction A with
 |refl=>exact h
 |step _ r=>rw[p0_,r];rfl
section
variable{T:List Pg}{a:Pl}{cs:List PC}{H0 H:Hp}{Q:Post}{lw lm:Nat}{t t':TypeId}{st:WS}
def nw_ (hT:Tr H0 a 48 cs T) (h0:H0<+:H) (hW:WOK H t t' lw lm a st) (hQ:Q (.g (.bool (hI_ T st.met))) H):bF_ [yQ lw] H Q:=by
 have hlm:=hW.len;have hlT:=hT.lenT;have hQ':Q (.g (.bool (mF_ T st.met 48))) H:=by have:hI_ T st.met=mF_ T st.met 48:=by unfold hI_ mF_;rw[hlT]
                                                                                    rw[<-this];exact hQ
 have loop:∀f k:Nat,48-k<f->k<=48->mF_ T st.met k=true->bF_.l2 f (some (lw,0)) a 48 (nI 48) (k:Int) H Q:=by
  intro f;induction f with
  |zero=>intro k hf;omega
  | succ f ih=>
   intro k hf hk hr;rw[bF_.l2_eq];by_cases hkn:k<48
   ·obtain⟨l,o,c,p,rfl,hc,hp,hpc,g0,g1,g2,g3,g4⟩:=(hT.mono h0).get hkn;have hs:=p0_ T st.met k;have hmet:st.met[k]?=some (st.met[k]'o_):=kG o_;rw[hr,hmet,hp,Option.getD_some,Option.getD_some,Bool.true_and]at hs;rw[ay_ s_,af_];refine ab_ s_ ?_;have etN:tN (k:Int)=k:=rfl;rw[ad_,etN,cx_ g0 g1 g2 g3 g4,ad_,ac_ (v:= .sl (some (lm,0)) 48 1) (by rw[aY_ hW.row];rfl),ah_,af_];refine ab_ s_ ?_;rw[ad_,ac_ (v:= .bool (st.met[k]'o_)) (by rw[aY_ hW.met];simp[hlm,hkn]),ak_,ao_ o_];refine aa_ (λe=>?_) (λe=>?_)
    ·have em:st.met[k]'o_=false:=by simpa using e
     rw[em,Bool.false_or]at hs;refine rN_ hpc ?_;simp only[aJ_,ak_];refine aa_ (λe2=>?_) λe2=>?_
     .have:cS_ p=false:=by simpa using e2
      rw[this]at hs;rw[CU_ hs o_]at hQ';exact hQ'
     .have:cS_ p=true:=by simpa using e2
      rw[this]at hs;exact ih (k+1) o_ o_ hs
    .have em:st.met[k]'o_=true:=by simpa using e
     rw[em,Bool.true_or]at hs;exact ih (k+1) o_ o_ hs
   .obtain rfl:k=48:=by omega
    rw[aB_ d_];rw[hr]at hQ';exact hQ'
 refine⟨50,?_⟩;rw[qk_,ad_,ac_ (v:= .sl a 48 5) (by rw[aY_ hW.row];rfl),ah_];exact loop 49 0 o_ (kP _) rfl
def tV_:∀n,gr_ (replicate n false)=n
 |0=>rfl
 |n+1=>by have:=tV_ n;unfold gr_;simp
def va_ {n lt:Nat} (hT:Tr H a n cs T) (hg:gt H lt 0=some (.sl a n 5)) (hQ:∀H',H<+:H'->Q (gI (aL_ T:Int)) H'):hs_ [yQ lt] H Q:=by
 refine⟨1,?_⟩;have hlT:=hT.lenT;rw[yz_,ad_,ac_ (v:= .sl a n 5) (by exact hg),ah_];refine aa_ (λe=>?_) λe=>?_
 .have: ¬ T.length=48:=by simp at e;omega
  have h0:aL_ T=0:=by unfold aL_;rw[lH this]
  grind
 ·obtain rfl:n=48:=by simp at e;omega
  have hlt:=Hb_ hg;have p1:=b4_ H (.row true tB (lo_ (tN 48) [.bool false]));rw[ad_,ac_ (v:= .sl a 48 5) (by exact hg),ah_,ac_ (v:= .sl a 48 5) (by exact cd_ p1 hg),ah_];refine⟨rfl,?_⟩;simp only[fv_,ed_];have p2:=p1.trans (b4_ _ (.row true GG_ [.sl a 48 5,.sl (some (H.length,0)) 48 1,.int .i64 (-1),.int .i64 0]));have hl1:(H++[Obj.row true tB (lo_ (tN 48) [.bool false])]).length=H.length+1:=t_
  have hW:WOK ((H++[.row true tB (lo_ (tN 48) [.bool false])])++[.row true GG_ [.sl a 48 5,.sl (some (H.length,0)) 48 1,.int .i64 (-1),.int .i64 0]]) GG_ tB (H.length+1) H.length a ws0:=by
   refine⟨?_,?_,rfl,o_⟩
   .rw[getElem?_append_right t_,hl1];simp[ws0,pd]
   .rw[kV,getElem?_append_right (kO _)];simp;rfl
  rw[hl1];have hu:gr_ ws0.met=48:=tV_ 48;refine⟨49,?_⟩;refine uZ_ (T:=T) (H0:=H) hT (lo:=H.length) (hi:=H.length+2) (kO _) o_ o_ (kO _) o_ 49 0 1 (mkS []) (mkS []) ws0 _ _ o_ p2 hW o_ o_ o_ (by rw[hu];show 0+4*48<=1000;omega) (λH' c' hw=>?_) λH' st' c' hW' hw=>?_
  .simp only[aJ_,ak_];rw[ay_ d_];have h0:aL_ T=0:=by unfold aL_;rw[lE hlT];dsimp only;rw[hw]
   have:=hQ H' (c'.pre p2 (kO _));rw[h0]at this;omega
  ·simp only[aJ_,ak_];rw[aB_ d_];have p3:=c'.pre p2 (kO _);refine nw_ hT p3 hW' ?_;simp only[aJ_,ak_];obtain⟨_,_,u3,u4⟩:=iU_ T _ _ _ _ _ _ _ hw;have hh:aL_ T=(match hI_ T st'.met&&decide (st'.count<=60) with|true=>st'.deep|false=>0):=by unfold aL_;rw[lE hlT];dsimp only;rw[hw];rfl
   refine aa_ (λe=>?_) λe=>?_
   .grind
   ·have er:hI_ T st'.met=true:=by simpa using e
    rw[er,Bool.true_and]at hh;rw[ac_ (v:= .int .i64 st'.count) (by rw[aY_ hW'.row];rfl),ai_];refine aa_ (λe=>?_) λe=>?_
    .have: ¬ st'.count<=60:=by simp at e;omega
     grind
    .have:st'.count<=60:=by simp at e;omega
     rw[lE this]at hh;rw[ac_ (v:= .int .i64 (pd st'.deep)) (by rw[aY_ hW'.row];rfl),ai_,Gp_ (u3 (kO _))];have:=hQ H' p3;rw[hh]at this;omega
def iu_(A:Tr H a n cs T)(C:∀H',H<+:H'->Q (gB (decide (0<aL_ T))) H'):eh_ [yA a n] H Q:=by
 refine⟨1,?_⟩;rw[wo_];have r:=b4_ H (.row true tTr [.sl a n 5]);refine va_ (A.mono r) (by simp[gt]) λH' D=>?_;have:=C H' (r.trans D);simp_all
end
end Go.Am
