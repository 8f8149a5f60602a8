import Derived.Test.YtjbgjfikgpffmaaGreatM12
set_option linter.all false
set_option autoImplicit true
set_option relaxedAutoImplicit true
set_option maxRecDepth 100000
namespace Go.Am
open List
structure GT(B H:Hp)(tp:Nat)(ds:List PC)(T:List Pg)(X:Nat->Prop)(off:Nat->Prop):Prop where
 pre:B<+:H
 ot:OT H B.length tPg (some (tp,0)) 48 ds T
 wo:∀i (h:i<ds.length),WoP H B.length 1000 ds[i]
 base:∀i (h:i<ds.length) l,(ds[i]).on l->B.length<=l
 own:∀i (h:i<ds.length) (h':i<T.length),X i->(ds[i]).own H B.length T[i]
 ap:∀i j (hi:i<ds.length) (hj:j<ds.length),i≠j->∀l,(ds[i]).on l-> ¬ (ds[j]).on l
 off:∀l,off l->B.length<=l/\l≠tp/\∀i (h:i<ds.length),¬ (ds[i]).on l
section
variable{B H H':Hp}{tp:Nat}{ds:List PC}{T:List Pg}{X X' off off':Nat->Prop}{i:Nat}{c:PC}{p:Pg}
theorem GT.onlt(g:GT B H tp ds T X off)(i:Nat)(h:i<ds.length)(A:(ds[i]).on l):l<H.length:=g.ot.onlt (kE h) A
theorem GT.keep (g:GT B H tp ds T X off) (F:∀l,l<H.length-> ¬ off l->H'[l]?=H[l]?) (I:H.length<=H'.length):GT B H' tp ds T X off:=by
 have on:=λi h l A=>F l (g.onlt i h A) λq=>(g.off l q).2.2 i h A;have⟨Y,N⟩:=g.ot.at_row;have V:=F tp (kC.1 N).1 λq=>(g.off tp q).2.1 rfl;have D:B<+:H':=by
  rw[prefix_iff_eq_take];apply ext_getElem?;intro l;rw[getElem?_take];split;rename_i A;have:=g.pre.length_le;rw[F l o_ (λh=>by have:=(g.off l h).1;omega),aS_ g.pre A];grind
 refine⟨D,g.ot.keep (λl e=>by grind) λc U l A=>?_,λi h=>(g.wo i h).keepOn (on i h),g.base,λi h O J=>(g.own i h O J).keep (on i h),g.ap,g.off⟩;obtain⟨i,W,rfl⟩:=kK U;grind
theorem GT.mono(g:GT B H tp ds T X off)(A:H<+:H'):GT B H' tp ds T X off:=g.keep (λl D _=>aS_ A D) A.length_le
theorem GT.reoff(g:GT B H tp ds T X off)(h:∀l,off' l->B.length<=l/\l≠tp/\∀i (h:i<ds.length),¬ (ds[i]).on l):GT B H tp ds T X off':=⟨g.pre,g.ot,g.wo,g.base,g.own,g.ap,h⟩
theorem GT.weak(g:GT B H tp ds T X off)(h:∀i,X' i->X i):GT B H tp ds T X' off:=⟨g.pre,g.ot,g.wo,g.base,λi D F A=>g.own i D F (h i A),g.ap,g.off⟩
theorem GT.turn (g:GT B H tp ds T X off) (hi:i<ds.length) (hlen:H.length<=H'.length) (F:∀l,l<H.length-> ¬ (ds[i]).on l->l≠tp-> ¬ off l->H'[l]?=H[l]?)
 (W:H'[tp]?=some (.row true tPg (aZ_ (ds.set i c)))) (hc:c.at H' p) (hw:WoP H' B.length 1000 c)
 (N:∀l,c.on l->l≠tp/\ ¬ off l/\B.length<=l/\∀j (Y:j<ds.length),j≠i-> ¬ (ds[j]).on l) (hX:∀j,X' j->(j=i/\c.own H' B.length p)\/(j≠i/\X j)):
 GT B H' tp (ds.set i c) (T.set i p) X' off:=by
 have q1:=g.ot.len;have⟨hb,hr⟩:=g.ot.at_row;have htp:=(kC.1 hr).1;have D:=λj h O l A=>F l (g.onlt j h A) (g.ap j i h hi O l A) (λe=>g.ot.off _ (kE h) l A (by rw[e])) λq=>(g.off l q).2.2 j h A;have U:B<+:H':=by
  rw[prefix_iff_eq_take];apply ext_getElem?;intro l;rw[getElem?_take];split;rename_i A;rw[F l o_ (λh=>by have:=g.base i hi l h;omega) o_ (λh=>by have:=(g.off l h).1;omega),aS_ g.pre A];exact getElem?_eq_none o_
 refine⟨U,⟨.inr ⟨tp,rfl,hb,W,by rw[cs_];simp[q1]⟩,by simp[q1],by simp[g.ot.lenT],λj I J=>?_,λd hd l A e=>?_⟩,λj h=>?_,λj h l A=>?_,λj h h' hx=>?_,λj k Y Z O l I J=>?_,λl A=>?_⟩;rw[getElem_set,getElem_set];by_cases e:i=j;rw[if_pos e,if_pos e];exact hc;rw[if_neg e,if_neg e];simp at I J;exact (g.ot.all j I J).keep (D j I (Ne.symm e));cases e;rcases mem_or_eq_of_mem_set hd with q|q;exact g.ot.off d q tp A rfl;subst q;exact (N tp A).1 rfl;rw[getElem_set];by_cases e:i=j;rw[if_pos e];exact hw;rw[if_neg e];simp at h;exact (g.wo j h).keepOn (D j h (Ne.symm e));rw[getElem_set]at A;by_cases e:i=j;rw[if_pos e]at A;exact (N l A).2.2.1;rw[if_neg e]at A;simp at h;exact g.base j h l A;rw[getElem_set,getElem_set];rcases hX j hx with⟨e,ho⟩|⟨e,hx'⟩;rw[if_pos e.symm,if_pos e.symm];exact ho;rw[if_neg (Ne.symm e),if_neg (Ne.symm e)];simp at h h';exact (g.own j h h' hx').keep (D j h e);rw[getElem_set]at I J;simp at Y Z;by_cases e1:i=j;rw[if_pos e1]at I;by_cases V:i=k;omega;rw[if_neg V]at J;exact (N l I).2.2.2 k Z (Ne.symm V) J;rw[if_neg e1]at I;by_cases V:i=k;rw[if_pos V]at J;exact (N l J).2.2.2 j Y (Ne.symm e1) I;rw[if_neg V]at J;exact g.ap j k Y Z O l I J;have⟨o1,o2,o3⟩:=g.off l A;grind
theorem GT.gt(g:GT B H tp ds T X off)(hi:i<ds.length)(A:j<5):Am.gt H tp (i*5+j)=(ds[i]).cells[j]? :=by
 rw[aY_ g.ot.at_row.2];exact jL_ hi A
theorem GT.cells(g:GT B H tp ds T X off)(hi:i<ds.length):Am.gt H tp (0+i*5)=some (.bool ds[i].u)/\Am.gt H tp (0+i*5+1)=some (.bool ds[i].l)/\Am.gt H tp (0+i*5+2)=some (.sl ds[i].a1 ds[i].n1 1)/\Am.gt H tp (0+i*5+3)=some (.sl ds[i].a2 ds[i].n2 1)/\Am.gt H tp (0+i*5+4)=some (.sl ds[i].a3 ds[i].n3 1):=by
 rw[kN];exact⟨g.gt hi (j:=0) o_,g.gt hi o_,g.gt hi o_,g.gt hi o_,g.gt hi o_⟩
end
def xP_(le:Nat)(fa:Pl)(l:Nat):Prop:=l=le\/∃o,fa=some (l,o)
structure WM(B H:Hp)(le tp:Nat)(ds:List PC)(T:List Pg)(X:Nat->Prop)(fa:Pl)(ws:List Int):Prop where
 g:GT B H tp ds T X (xP_ le fa)
 fre:(fa=none/\ws=[]/\H[le]?=some (.row true is_ [.sl (some (tp,0)) 48 5,.sl none 0 1]))\/∃lf rest,fa=some (lf,0)/\FR H le lf ws.length (.sl (some (tp,0)) 48 5) ws rest
section
variable{B H H':Hp}{le tp:Nat}{ds:List PC}{T:List Pg}{X X':Nat->Prop}{fa:Pl}{ws:List Int}{i:Nat}{c:PC}{p:Pg}{Q:Post}
theorem WM.gtE(m:WM B H le tp ds T X fa ws):Am.gt H le 0=some (.sl (some (tp,0)) 48 5):=by
 rcases m.fre with⟨_,_,h⟩|⟨D,A,_,h⟩;rw[aY_ h];rfl;rw[aY_ h.wr];rfl
theorem WM.le_lt(m:WM B H le tp ds T X fa ws):le<H.length:=by
 rcases m.fre with⟨_,_,h⟩|⟨D,A,_,h⟩;grind;exact (kC.1 h.wr).1
theorem WM.off_lt(m:WM B H le tp ds T X fa ws)(h:xP_ le fa l):l<H.length:=by
 rcases h with rfl|⟨o,e⟩;exact m.le_lt;rcases m.fre with⟨q,_,_⟩|⟨D,A,q,h⟩;grind;rw[q]at e;cases e;exact (kC.1 h.row).1
theorem BD_(m:WM B H le tp ds T X fa ws)(F:∀l,xP_ le fa l->H'[l]?=H[l]?):
 (fa=none/\ws=[]/\H'[le]?=some (.row true is_ [.sl (some (tp,0)) 48 5,.sl none 0 1]))\/∃D A,fa=some (D,0)/\FR H' le D ws.length (.sl (some (tp,0)) 48 5) ws A:=by
 rcases m.fre with⟨e,I,h⟩|⟨D,A,e,h⟩;exact .inl ⟨e,I,by rw[F le (.inl rfl)];exact h⟩;exact .inr ⟨D,A,e,⟨by rw[F le (.inl rfl)];exact h.wr,by rw[F D (.inr ⟨0,e⟩)];exact h.row,h.len,h.lim⟩⟩
theorem WM.mono(m:WM B H le tp ds T X fa ws)(A:H<+:H'):WM B H' le tp ds T X fa ws:=⟨m.g.mono A,BD_ m λl D=>aS_ A (m.off_lt D)⟩
theorem WM.weak(m:WM B H le tp ds T X fa ws)(h:∀i,X' i->X i):WM B H le tp ds T X' fa ws:=⟨m.g.weak h,m.fre⟩
theorem WM.turn(m:WM B H le tp ds T X fa ws)(hi:i<ds.length)(F:H.length<=H'.length)(A:∀l,l<H.length-> ¬ (ds[i]).on l->l≠tp->H'[l]?=H[l]?)
 (D:H'[tp]?=some (.row true tPg (aZ_ (ds.set i c)))) (W:c.at H' p) (V:WoP H' B.length 1000 c)
 (J:∀l,c.on l->l≠tp/\ ¬ xP_ le fa l/\B.length<=l/\∀j (Z:j<ds.length),j≠i-> ¬ (ds[j]).on l) (Y:∀j,X' j->(j=i/\c.own H' B.length p)\/(j≠i/\X j)):
 WM B H' le tp (ds.set i c) (T.set i p) X' fa ws:=
 ⟨m.g.turn hi F (λl N O U _=>A l N O U) D W V J Y,BD_ m λl I=>A l (m.off_lt I) ((m.g.off l I).2.2 i hi) (m.g.off l I).2.1⟩
theorem WM.lay(m:WM B H le tp ds T X fa ws)(hi:i<ds.length)(V:c.at H p)(O:WoP H B.length 1000 c)(A:∀l,c.on l->l≠tp/\ ¬ xP_ le fa l/\B.length<=l/\∀j (J:j<ds.length),j≠i-> ¬ (ds[j]).on l)
 (Y:∀H',WM B H' le tp (ds.set i c) (T.set i p) (λj=>j≠i/\X j) fa ws->H'.length=H.length->(∀l,l≠tp->H'[l]?=H[l]?)->K H'):
 wr H tp (0+i*5) (.bool c.u) λU=>wr U tp (0+i*5+1) (.bool c.l) λW=>wr W tp (0+i*5+1+1) (.sl c.a1 c.n1 1) λZ=>wr Z tp (0+i*5+1+1+1) (.sl c.a2 c.n2 1) λN=>wr N tp (0+i*5+1+1+1+1) (.sl c.a3 c.n3 1) K:=by
 have⟨hb,I⟩:=m.g.ot.at_row;rw[kN];have F:∀l,l≠tp->(H.set tp (.row true tPg (aZ_ (ds.set i c))))[l]?=H[l]? :=λl D=>by grind
 refine wr5 I hi (Y _ (m.turn hi t_ (λl _ _ D=>F l D) (kH ((kC.1 I).1)) (V.keep λl D=>F l (A l D).1) (O.keepOn λl D=>F l (A l D).1) A λj J=> .inr J) t_ F)
theorem WM.pop(m:WM B H le tp ds T X fa ws)(V:ws≠[])(W:∀x A H',(A++[x]).Perm ws->WM B H' le tp ds T X fa A->H'.length=H.length->(∀l,¬ xP_ le fa l->H'[l]?=H[l]?)->Q (.g (.iface 3 (.int .i64 x))) H'):
 iU_ [.g (.iface sQ_ (.ptr (some (le,1))))] H Q:=by
 rcases m.fre with⟨_,e,_⟩|⟨O,F,e,h⟩;grind;refine xw_ h (length_pos_iff.2 V) λx A U H' J I N=>?_;refine W x A H' U ⟨m.g.keep (λl _ D=>N l (λq=>D (.inl q)) λq=>D (.inr ⟨0,g_⟩)) o_,.inr ⟨O,x::F,e,by rw[J.len];exact J⟩⟩ I λl D=>N l (λq=>D (.inl q)) λq=>D (.inr ⟨0,by rw[e,q]⟩)
theorem AD_(m:WM B H le tp ds T X fa ws)(U:ws≠[])(F:∀x∈ws,0<=x/\x<48)
 (V:∀(x:Int)(A:List Int) H',(A++[x]).Perm ws->WM B H' le tp ds T X fa A->H'.length=H.length->(∀l,¬ xP_ le fa l->H'[l]?=H[l]?)->Q (gI x) (H'.set tp (.row true tPg (aZ_ (ds.set x.toNat c))))):
 cb_ [yQ le,.agg [.bool c.u,.bool c.l,.sl c.a1 c.n1 1,.sl c.a2 c.n2 1,.sl c.a3 c.n3 1]] H Q:=by
 have Y:=m.g.ot.len;refine⟨1,?_⟩;rw[mG_,ae_,kN];refine m.pop U λx A N J I D O=>?_;have⟨W,Z⟩:=F x (J.mem_iff.1 t_);refine⟨rfl,?_⟩;simp only[ai_];rw[ae_,kQ,ad_ I.gtE,ah_,af_];refine ab_ (by simp_all) ?_;rw[ae_,kN];have ex:tN x=x.toNat:=rfl;exact wr5 I.g.ot.at_row.2 o_ (V x A N J I D O)
theorem FB_ (m:WM B H le tp ds T X fa ws) (hn:ws≠[]) (F:∀x∈ws,0<=x/\x<48) (hc:c.at H p) (hw:WoP H B.length 1000 c)
 (V:∀l,c.on l->l≠tp/\ ¬ xP_ le fa l/\B.length<=l/\∀j (W:j<ds.length),¬ (ds[j]).on l)
 (hQ:∀(x:Int)(A:List Int) H',(A++[x]).Perm ws->WM B H' le tp (ds.set x.toNat c) (T.set x.toNat p) (λj=>j≠x.toNat/\X j) fa A->H'.length=H.length->(∀l,¬ xP_ le fa l->l≠tp->H'[l]?=H[l]?)->Q (gI x) H'):
 cb_ [yQ le,.agg [.bool c.u,.bool c.l,.sl c.a1 c.n1 1,.sl c.a2 c.n2 1,.sl c.a3 c.n3 1]] H Q:=by
 have q1:=m.g.ot.len;refine AD_ m hn F λx A O hp m1 I Y=>?_;have⟨x1,x2⟩:=F x (hp.mem_iff.1 t_);have J:∀l,l≠tp->(O.set tp (.row true tPg (aZ_ (ds.set x.toNat c))))[l]?=O[l]? :=λl D=>by rw[kF (Ne.symm D)]
 have Z:∀l,c.on l->(O.set tp (.row true tPg (aZ_ (ds.set x.toNat c))))[l]?=H[l]? :=λl D=>by
  have⟨N,U,_,_⟩:=V l D;rw[J l N,Y l U]
 refine hQ x A _ hp (m1.turn o_ t_ (λl _ _ D=>J l D) (kH ((kC.1 m1.g.ot.at_row.2).1)) (hc.keep Z) (hw.keepOn Z) (λl D=>?_) λj W=> .inr W) (by simp[I]) λl N U=>by rw[J l U,Y l N]
 grind
end
section
variable{H:Hp}{Q:Post}{b n i:Nat}{a:Pl}
theorem Own.ge(h:Own H b t a n cs)(e:a=some (l,o)):b<=l:=by
 rcases h with⟨q,_⟩|⟨m,q,A,_⟩;grind;grind
theorem sT_{xs:List Y_}(h:Own H b tS a n (xs.map GV.str))(A:b<=H.length)(hi:i<=n)(F:n<=1000)
 (D:∀H',Jn_ H a H'->Own H' b tS (some (H.length+1,0)) (n+1) ((xs.take i++s::xs.drop i).map GV.str)->Q (nL (some (H.length+1,0)) (n+1) 1) H'):
 slices_Insert__string_string [nL a n 1,gI (i:Int),nL (some (ln H,0)) 1 1] (pu H (.row false mC_ [.str s])) Q:=by
 refine vb_ (by rwa [Nat.mul_one]) (kO _) rfl A hi (by unfold Lim;omega) λH' q o=>D H' q ?_;simp_all
theorem EN_{xs:List Int}(h:Own H b tI a n (xs.map (GV.int .i64)))(A:b<=H.length)(hi:i<=n)(F:n<=1000)
 (D:∀H',Jn_ H a H'->Own H' b tI (some (H.length+1,0)) (n+1) ((xs.take i++s::xs.drop i).map (GV.int .i64))->Q (nL (some (H.length+1,0)) (n+1) 1) H'):
 slices_Insert__int_int [nL a n 1,gI (i:Int),nL (some (ln H,0)) 1 1] (pu H (.row false mC_ [.int .i64 s])) Q:=by
 refine vb_ (by rwa [Nat.mul_one]) (kO _) rfl A hi (by unfold Lim;omega) λH' q o=>D H' q ?_;simp_all
end
section
variable{H:Hp}{Q:Post}{u l:Bool}{a1:Pl}{n1:Nat}{a2:Pl}{n2:Nat}{a3:Pl}{n3:Nat}{p:Pg}
theorem C2_(D:iR_ p)(h:p.keys.length<=5):small p:=by
 refine⟨λs F=>by have:=(D.keys s F).2;omega,λs F=>?_,o_,?_,?_⟩;cases A:p.leaf with
 |true=>have:=(D.leaf A).2.2 s F;omega
 |false=>rw[(D.inner A).2.1]at F;cases F
 cases A:p.leaf with
 |true=>have:=(D.leaf A).1;omega
 |false=>rw[(D.inner A).2.1];simp
 cases A:p.leaf with
 |true=>rw[(D.leaf A).2.1];simp
 |false=>have:=(D.inner A).2.2.1;omega
theorem uc_ (h:ke_ H u l a1 n1 a2 n2 a3 n3 p) (F:iR_ p)
 (hQ1:p.keys.length≠5->Q (.tup [.a [.bool false,.bool false,.sl none 0 1,.sl none 0 1,.sl none 0 1],.s (.str (mkS [])),.a [.bool false,.bool false,.sl none 0 1,.sl none 0 1,.sl none 0 1],nN 900]) H)
 (J:p.keys.length=5->∀(I:b2_ p<p.keys.length)(c d:PC) H',H<+:H'->c.at H' (eW_ p (b2_ p))->d.at H' (eA_ p (b2_ p))->WoP H' H.length 1000 c->WoP H' H.length 1000 d->(∀m,c.on m->H.length<=m/\ ¬ d.on m)->(∀m,d.on m->H.length<=m)->
  Q (.tup [.a [.bool c.u,.bool c.l,.sl c.a1 c.n1 1,.sl c.a2 c.n2 1,.sl c.a3 c.n3 1],.s (.str p.keys[b2_ p]),.a [.bool d.u,.bool d.l,.sl d.a1 d.n1 1,.sl d.a2 d.n2 1,.sl d.a3 d.n3 1],nN 0]) H'):
 dc_ [.agg [.bool u,.bool l,.sl a1 n1 1,.sl a2 n2 1,.sl a3 n3 1]] H Q:=by
 have e1:=h.keys.len;have O:=h.leaf;refine⟨2,?_⟩;rw[xQ_];by_cases Y:p.keys.length=5
 rotate_left
 rw[az_ s_];grind;rw[aA_ s_];refine ol_ h λbb Z N hb=>?_;simp[aO_];rw[hb.2 F,aA_ t_];have I:b2_ p<p.keys.length:=by unfold b2_;cases p.leaf<;>simp<;>omega
 have key:dc_.l6 1 u l a1 n1 a2 n2 a3 n3 false false none 0 none 0 none 0 false false none 0 none 0 none 0 (b2_ p) Z Q:=by
  rw[dc_.l6_eq];refine tS_ (h.mono N) (C2_ F o_) I (λe=>(F.leaf e).1) (λe=>(F.inner e).2.2.1) λc d H2 p2 hc hd wc W U V=>?_;simp[aL_];have A:=N.length_le;exact J Y I c d H2 (N.trans p2) hc hd (wc.base A) (W.base A) (λm D=>⟨Nat.le_trans A (U m D).1,(U m D).2⟩) λm D=>Nat.le_trans A (V m D)
 cases e:l with
 |true=>
  subst e;rw[az_ rfl];have:(b2_ p:Int)=3:=by unfold b2_;rw[O];rfl
  grind
 |false=>
  subst e;rw[aA_ rfl];have:(b2_ p:Int)=2:=by unfold b2_;rw[O];rfl
  grind
end
section
variable{B H:Hp}{le tp:Nat}{ds:List PC}{T:List Pg}{X:Nat->Prop}{fa:Pl}{ws:List Int}{i:Nat}{p:Pg}{Q:Post}{key v:Y_}
theorem Ca_ (m:WM B H le tp ds T X fa ws) (hp:T[i]?=some p) (hf:iR_ p) (hws:∀x∈ws,1<=x/\x<48) (hx:∀x∈ws,x.toNat≠i) (hne:p.keys.length=5->ws≠[])
 (hQ1:p.keys.length≠5->Q (gP none) H)
 (hQ2:p.keys.length=5->∀(hk:b2_ p<p.keys.length)(x:Int)(init:List Int) H' ds' lq,(init++[x]).Perm ws->WM B H' le tp ds' ((T.set i (eW_ p (b2_ p))).set x.toNat (eA_ p (b2_ p))) (λj=>j≠x.toNat/\j≠i/\X j) fa init->
  H'[lq]?=some (.row true xc_ [.str p.keys[b2_ p],.int .i64 x])->H.length<=lq->Q (yQ lq) H'):
 bS_ [yQ le,gI (i:Int)] H Q:=by
 have q1:=m.g.ot.len;have q2:=m.g.ot.lenT;have hiT:=(kC.1 hp).1;have eT:T[i]'hiT=p:=(kC.1 hp).2;have hi:i<ds.length:=by omega
 obtain⟨a0,a1,a2,a3,a4⟩:=m.g.cells hi;have hat:=m.g.ot.all i hi hiT;rw[eT]at hat;have ei:tN (i:Int)=i:=rfl;refine⟨1,?_⟩;rw[lj_,ae_,kQ,ad_ m.gtE,ah_,af_];refine ab_ s_ ?_;rw[ae_,ei,cP_ a0 a1 a2 a3 a4];refine uc_ hat hf (λh5=>?_) λh5 hk c d H1 p1 hc hd wc wd oc od=>?_
 .simp only[aL_,aI_,eQ_,bg_,am_,ah_,bL_,bI_,au_,ai_,bf_];rw[az_ d_];exact hQ1 h5
 ·simp only[aL_,aI_,eQ_,bg_,am_,ah_,bL_,bI_,au_,ai_,bf_];rw[aA_ d_];have m1:=m.mono p1;have hBH:=m.g.pre.length_le;have l1:=p1.length_le;have htp:=(kC.1 m.g.ot.at_row.2).1;rw[ae_,kQ,ad_ m1.gtE,ah_,af_];refine ab_ s_ ?_;rw[ae_];refine m1.lay (i:=i) (c:=c) (p:=eW_ p (b2_ p)) hi hc (wc.base hBH) (λl hl=>?_) λH2 m2 l2 k2=>?_
  .have:=(oc l hl).1;exact⟨o_,λq=>by have:=m.off_lt q;omega,o_,λj hj _ hl'=>by have:=m.g.onlt j hj hl';omega⟩
  have kd:∀l,d.on l->H2[l]?=H1[l]? :=λl hl=>k2 l (by have:=od l hl;omega);refine FB_ m2 (hne h5) (λx hx=>⟨by have:=(hws x hx).1;omega,(hws x hx).2⟩) (c:=d) (p:=eA_ p (b2_ p)) (hd.keep kd) ((wd.base hBH).keepOn kd) (λl hl=>?_) λx init H3 hperm m3 l3 k3=>?_
  .have hl':=od l hl;refine⟨o_,λq=>by have:=m.off_lt q;omega,o_,λj hj hon=>?_⟩;rw[getElem_set]at hon;by_cases e:i=j
   .rw[if_pos e]at hon;exact (oc l hon).2 hl
   .rw[if_neg e]at hon;have:=m.g.onlt j (by simpa using hj) hon;omega
  simp only[aO_,ai_];have hxi:x.toNat≠i:=hx x (hperm.mem_iff.1 t_);have pr:=bU_ H3 (.row true xc_ [.str p.keys[b2_ p],.int .i64 x]);refine hQ2 h5 hk x init _ _ H3.length hperm ((m3.mono pr).weak λj hj=>hj) ?_ o_;simp[pu]
theorem WM.insLeaf (m:WM B H le tp ds T X fa ws) (hp:T[i]?=some p) (hX:X i) {s:Nat} (hs:s<=p.keys.length) (hv:p.vals.length=p.keys.length) (hsm:small p) (h4:p.keys.length<=900) (hk:key.size<=1000) (hvs:v.size<=1000) {K:Hp->Prop}
 (hK:∀H' ds',WM B H' le tp ds' (T.set i (Co_ p s key v)) X fa ws->K H'):
 rd H tp (0+i*5+2) λv27=>dL 1 v27 λx28 n29=>rd H tp (0+i*5+3) λv30=>dL 1 v30 λx31 n32=>
 cl slices_Insert__string_string [(nL x28 n29 1),(gI (s:Int)),(nL (some ((ln H),0)) 1 1)] (pu H (.row false 1000003 [(.str key)])) λr33 H34=>
 rG r33 λv35=>dL 1 v35 λx36 n37=>rd H34 tp (0+i*5+3) λv38=>dL 1 v38 λx39 n40=>
 eqv (nL x31 n32 1) (nL x39 n40 1) (cl slices_Insert__string_string [(nL x31 n32 1),(gI (s:Int)),(nL (some ((ln H34),0)) 1 1)] (pu H34 (.row false 1000003 [(.str v)])) λr41 H42=>
 rG r41 λv43=>dL 1 v43 λx44 n45=>wr H42 tp (0+i*5+2) (.sl x36 n37 1) λH46=>wr H46 tp (0+i*5+3) (.sl x44 n45 1) K):=by
 have q1:=m.g.ot.len;have q2:=m.g.ot.lenT;have hiT:=(kC.1 hp).1;have eT:T[i]'hiT=p:=(kC.1 hp).2;have hi:i<ds.length:=by omega
 obtain⟨a0,a1,a2,a3,a4⟩:=m.g.cells hi;have hat:=m.g.ot.all i hi hiT;have ho:=m.g.own i hi hiT hX;rw[eT]at hat ho;have e1:=hat.keys.len;have e2:=hat.vals.len;have hBH:=m.g.pre.length_le;obtain⟨hb,hr⟩:=m.g.ot.at_row;have htp:=(kC.1 hr).1;have off:=m.g.ot.off _ (kE hi);rw[ad_ a2,ah_,ad_ a3,ah_];refine sT_ ho.keys hBH o_ o_ λH1 w1 o1=>?_;simp only[aO_,ah_];have r1:H1[tp]?=H[tp]? :=w1.row tp htp λe=>off tp ⟨0,.inl e⟩ rfl;have g3:gt H1 tp (0+i*5+3)=some (.sl ds[i].a2 ds[i].n2 1):=by rw[<-a3];unfold gt;rw[r1]
 rw[ad_ g3,ah_];refine⟨rfl,?_⟩;have ov:Own H1 B.length tS ds[i].a2 ds[i].n2 (p.vals.map GV.str):=ho.vals.keep λl e=>w1.row l (ho.vals.lt' e) λq=>ho.d12 l 0 0 q e;have ok:Own H1 B.length tI ds[i].a3 ds[i].n3 (p.kids.map (GV.int .i64)):=ho.kids.keep λl e=>w1.row l (ho.kids.lt' e) λq=>ho.d13 l 0 0 q e;refine sT_ ov (by have:=w1.len;omega) o_ o_ λH2 w2 o2=>?_;simp only[aO_,ah_];have hl1:=w1.len;have hl2:=w2.len;have r2:H2[tp]?=H[tp]? :=by rw[w2.row tp o_ λe=>off tp ⟨0,.inr (.inl e)⟩ rfl,r1]
 have hr2:H2[tp]?=some (.row true tPg (aZ_ ds)):=by rw[r2];exact hr
 have htp2:=(kC.1 hr2).1;refine It_ hr2 hi ?_;have kp:∀l,l≠tp->(H2.set tp (.row true tPg (aZ_ (ds.set i ⟨ds[i].u,ds[i].l,some (H.length+1,0),ds[i].n1+1,some (H1.length+1,0),ds[i].n2+1,ds[i].a3,ds[i].n3⟩))))[l]?=H2[l]? :=λl hl=>by rw[kF (Ne.symm hl)]
 have ow:(⟨ds[i].u,ds[i].l,some (H.length+1,0),ds[i].n1+1,some (H1.length+1,0),ds[i].n2+1,ds[i].a3,ds[i].n3⟩:PC).own (H2.set tp (.row true tPg (aZ_ (ds.set i ⟨ds[i].u,ds[i].l,some (H.length+1,0),ds[i].n1+1,some (H1.length+1,0),ds[i].n2+1,ds[i].a3,ds[i].n3⟩)))) B.length (Co_ p s key v):=by
  refine⟨ho.used,ho.leaf,o1.keep λl e=>?_,o2.keep λl e=>?_,ok.keep λl e=>?_,λl o o' q1 q2=>?_,λl o o' q1 q2=>?_,λl o o' q1 q2=>?_⟩
  .have:l=H.length+1:=by cases e;rfl
   rw[kp l o_,w2.row l o_ λq=>by have:=ho.vals.lt' q;omega]
  .have:l=H1.length+1:=by cases e;rfl
   rw[kp l o_]
  .have hlt:=ho.kids.lt' e;rw[kp l λq=>off l ⟨0,.inr (.inr e)⟩ (by rw[q]),w2.row l o_ λq=>ho.d23 l 0 0 q e]
  .simp at q1 q2;omega
  ·simp at q1;have:=ho.kids.lt' (show ds[i].a3=some (l,0) by
    rcases ho.kids with⟨e,_,_⟩|⟨l',e,_⟩
    .have q2':ds[i].a3=some (l,o'):=q2;rw[e]at q2';cases q2'
    .have q2':ds[i].a3=some (l,o'):=q2;rw[e]at q2';cases q2';exact e)
   omega
  ·simp at q1;have:=ho.kids.lt' (show ds[i].a3=some (l,0) by
    rcases ho.kids with⟨e,_,_⟩|⟨l',e,_⟩
    .have q2':ds[i].a3=some (l,o'):=q2;rw[e]at q2';cases q2'
    .have q2':ds[i].a3=some (l,o'):=q2;rw[e]at q2';cases q2';exact e)
   omega
 have at':(⟨ds[i].u,ds[i].l,some (H.length+1,0),ds[i].n1+1,some (H1.length+1,0),ds[i].n2+1,ds[i].a3,ds[i].n3⟩:PC).at (H2.set tp (.row true tPg (aZ_ (ds.set i ⟨ds[i].u,ds[i].l,some (H.length+1,0),ds[i].n1+1,some (H1.length+1,0),ds[i].n2+1,ds[i].a3,ds[i].n3⟩)))) (Co_ p s key v):=by
  refine⟨hat.used,hat.leaf,⟨ow.keys.cells,?_,?_⟩,⟨ow.vals.cells,?_,?_⟩,⟨ow.kids.cells,hat.kids.len,hat.kids.lim⟩⟩
  .show ds[i].n1+1=(p.keys.take s++key::p.keys.drop s).length;simp;omega
  .show (ds[i].n1+1)*16<=_;omega
  .show ds[i].n2+1=(p.vals.take s++v::p.vals.drop s).length;simp;omega
  .show (ds[i].n2+1)*16<=_;omega
 obtain⟨s1,s2,s3,s4,s5⟩:=hsm;have sm:small (Co_ p s key v):=by
  refine⟨λk hk'=>?_,λk hk'=>?_,?_,?_,s5⟩
  .rcases lO_ hk' with z|z
   .rw[z];omega
   .exact s1 k z
  .rcases lO_ hk' with z|z
   .rw[z];omega
   .exact s2 k z
  .show (p.keys.take s++key::p.keys.drop s).length<=1000;simp;omega
  .show (p.vals.take s++v::p.vals.drop s).length<=1000;simp;omega
 refine hK _ _ (m.turn (c:=⟨ds[i].u,ds[i].l,some (H.length+1,0),ds[i].n1+1,some (H1.length+1,0),ds[i].n2+1,ds[i].a3,ds[i].n3⟩) hi s_ (λl h1 h2 h3=>?_) (kH htp2) at' (ow.wo at' sm) (λl hl=>?_) λj hj=>?_)
 .rw[kp l h3,w2.row l o_ λq=>h2 ⟨0,.inr (.inl q)⟩,w1.row l h1 λq=>h2 ⟨0,.inl q⟩]
 ·obtain⟨o,e|e|e⟩:=hl
  .have:l=H.length+1:=by cases e;rfl
   exact⟨o_,λq=>by have:=m.off_lt q;omega,o_,λj hj _ hl'=>by have:=m.g.onlt j hj hl';omega⟩
  .have:l=H1.length+1:=by cases e;rfl
   exact⟨o_,λq=>by have:=m.off_lt q;omega,o_,λj hj _ hl'=>by have:=m.g.onlt j hj hl';omega⟩
  .have hon:(ds[i]).on l:=⟨o,.inr (.inr e)⟩;exact⟨λq=>off l hon (by rw[q]),λq=>(m.g.off l q).2.2 i hi hon,m.g.base i hi l hon,λj hj hne=>m.g.ap i j hi hj (Ne.symm hne) l hon⟩
 .by_cases e:j=i
  .exact .inl ⟨e,ow⟩
  .exact .inr ⟨e,hj⟩
end
section
variable{B H:Hp}{le tp:Nat}{ds:List PC}{T:List Pg}{X:Nat->Prop}{fa:Pl}{ws:List Int}{i:Nat}{p:Pg}{Q:Post}{key v:Y_}
theorem zC_{A l:Nat}(F:H[A]?=some (.row true xc_ cs))(I:H[l]?=some (.row true t cs'))(D:xc_≠t):A≠l:=λe=>by
 grind
theorem WM.insInner (m:WM B H le tp ds T X fa ws) (hp:T[i]?=some p) (hX:X i) {s:Nat} (hs:s<=p.keys.length) (hv:p.kids.length=p.keys.length+1) (hsm:small p) (h4:p.keys.length<=900) {lq:Nat} {x:Int} (hq:H[lq]?=some (.row true xc_ [.str key,.int .i64 x])) (hk:key.size<=1000) {K:Hp->Prop}
 (hK:∀H' ds',WM B H' le tp ds' (T.set i (xU_ p s key x)) X fa ws->K H'):
 rd H tp (0+i*5+2) λv28=>dL 1 v28 λx29 n30=>pS (some (lq,0)) λn31 n32=>rd H n31 (n32+0) λv33=>dS v33 λs34=>
 rd H tp (0+i*5+4) λv35=>dL 1 v35 λx36 n37=>pS (some (lq,0)) λn38 n39=>rd H n38 (n39+1) λv40=>dI .i64 v40 λi41=>
 cl slices_Insert__string_string [(nL x29 n30 1),(gI (s:Int)),(nL (some ((ln H),0)) 1 1)] (pu H (.row false 1000003 [(.str s34)])) λr42 H43=>
 rG r42 λv44=>dL 1 v44 λx45 n46=>rd H43 n38 (n39+1) λv47=>dI .i64 v47 λi48=>eqv (gI i41) (gI i48) (rd H43 tp (0+i*5+4) λv49=>dL 1 v49 λx50 n51=>
 eqv (nL x36 n37 1) (nL x50 n51 1) (cl slices_Insert__int_int [(nL x36 n37 1),(gI (ac_ .i64 ((s:Int)+1))),(nL (some ((ln H43),0)) 1 1)] (pu H43 (.row false 1000003 [(.int .i64 i41)])) λr52 H53=>
 rG r52 λv54=>dL 1 v54 λx55 n56=>wr H53 tp (0+i*5+2) (.sl x45 n46 1) λH57=>wr H57 tp (0+i*5+4) (.sl x55 n56 1) K)):=by
 have q1:=m.g.ot.len;have q2:=m.g.ot.lenT;have hiT:=(kC.1 hp).1;have eT:T[i]'hiT=p:=(kC.1 hp).2;have hi:i<ds.length:=by omega
 obtain⟨a0,a1,a2,a3,a4⟩:=m.g.cells hi;have hat:=m.g.ot.all i hi hiT;have ho:=m.g.own i hi hiT hX;rw[eT]at hat ho;have e1:=hat.keys.len;have e3:=hat.kids.len;have hBH:=m.g.pre.length_le;obtain⟨hb,hr⟩:=m.g.ot.at_row;have htp:=(kC.1 hr).1;have off:=m.g.ot.off _ (kE hi);have gq0:gt H lq (0+0)=some (.str key):=by rw[aY_ hq];rfl
 have gq1:gt H lq (0+1)=some (.int .i64 x):=by rw[aY_ hq];rfl
 have hlq:=(kC.1 hq).1;rw[ad_ a2,ah_,ae_,ad_ gq0,au_,ad_ a4,ah_,ae_,ad_ gq1,ai_];refine sT_ ho.keys hBH o_ o_ λH1 w1 o1=>?_;simp only[aO_,ah_];have r1:H1[tp]?=H[tp]? :=w1.row tp htp λe=>off tp ⟨0,.inl e⟩ rfl;have rq:H1[lq]?=H[lq]? :=w1.row lq hlq λe=>by
  rcases ho.keys with⟨q,_,_⟩|⟨l,q,_,hl,_⟩
  .rw[q]at e;cases e
  .rw[q]at e;cases e;exact zC_ hq hl d_ rfl
 have gq1':gt H1 lq (0+1)=some (.int .i64 x):=by rw[<-gq1];unfold gt;rw[rq]
 rw[ad_ gq1',ai_];refine⟨rfl,?_⟩;have g4:gt H1 tp (0+i*5+4)=some (.sl ds[i].a3 ds[i].n3 1):=by rw[<-a4];unfold gt;rw[r1]
 rw[ad_ g4,ah_];refine⟨rfl,?_⟩;have ov:Own H1 B.length tS ds[i].a2 ds[i].n2 (p.vals.map GV.str):=ho.vals.keep λl e=>w1.row l (ho.vals.lt' e) λq=>ho.d12 l 0 0 q e;have ok:Own H1 B.length tI ds[i].a3 ds[i].n3 (p.kids.map (GV.int .i64)):=ho.kids.keep λl e=>w1.row l (ho.kids.lt' e) λq=>ho.d13 l 0 0 q e;rw[an_ o_];refine EN_ ok (by have:=w1.len;omega) o_ o_ λH2 w2 o2=>?_;simp only[aO_,ah_];have hl1:=w1.len;have hl2:=w2.len;have r2:H2[tp]?=H[tp]? :=by rw[w2.row tp o_ λe=>off tp ⟨0,.inr (.inr e)⟩ rfl,r1]
 have hr2:H2[tp]?=some (.row true tPg (aZ_ ds)):=by rw[r2];exact hr
 have htp2:=(kC.1 hr2).1;refine IC_ hr2 hi ?_;have kp:∀l,l≠tp->(H2.set tp (.row true tPg (aZ_ (ds.set i ⟨ds[i].u,ds[i].l,some (H.length+1,0),ds[i].n1+1,ds[i].a2,ds[i].n2,some (H1.length+1,0),ds[i].n3+1⟩))))[l]?=H2[l]? :=λl hl=>by rw[kF (Ne.symm hl)]
 have a2at:∀{l o},ds[i].a2=some (l,o)->ds[i].a2=some (l,0):=λ{l o} q2=>by
  rcases ho.vals with⟨e,_,_⟩|⟨l',e,_⟩
  .rw[e]at q2;cases q2
  .rw[e]at q2;cases q2;exact e
 have ow:(⟨ds[i].u,ds[i].l,some (H.length+1,0),ds[i].n1+1,ds[i].a2,ds[i].n2,some (H1.length+1,0),ds[i].n3+1⟩:PC).own (H2.set tp (.row true tPg (aZ_ (ds.set i ⟨ds[i].u,ds[i].l,some (H.length+1,0),ds[i].n1+1,ds[i].a2,ds[i].n2,some (H1.length+1,0),ds[i].n3+1⟩)))) B.length (xU_ p s key x):=by
  refine⟨ho.used,ho.leaf,o1.keep λl e=>?_,ov.keep λl e=>?_,o2.keep λl e=>?_,λl o o' q1 q2=>?_,λl o o' q1 q2=>?_,λl o o' q1 q2=>?_⟩
  .have:l=H.length+1:=by cases e;rfl
   rw[kp l o_,w2.row l o_ λq=>by have:=ho.kids.lt' q;omega]
  .have hlt:=ho.vals.lt' e;rw[kp l λq=>off l ⟨0,.inr (.inl e)⟩ (by rw[q]),w2.row l o_ λq=>ho.d23 l 0 0 e q]
  .have:l=H1.length+1:=by cases e;rfl
   rw[kp l o_]
  .have hlt:=ho.vals.lt' (a2at q2);simp at q1;omega
  .simp at q1 q2;omega
  .have hlt:=ho.vals.lt' (a2at q1);simp at q2;omega
 have at':(⟨ds[i].u,ds[i].l,some (H.length+1,0),ds[i].n1+1,ds[i].a2,ds[i].n2,some (H1.length+1,0),ds[i].n3+1⟩:PC).at (H2.set tp (.row true tPg (aZ_ (ds.set i ⟨ds[i].u,ds[i].l,some (H.length+1,0),ds[i].n1+1,ds[i].a2,ds[i].n2,some (H1.length+1,0),ds[i].n3+1⟩)))) (xU_ p s key x):=by
  refine⟨hat.used,hat.leaf,⟨ow.keys.cells,?_,?_⟩,⟨ow.vals.cells,hat.vals.len,hat.vals.lim⟩,⟨ow.kids.cells,?_,?_⟩⟩
  .show ds[i].n1+1=(p.keys.take s++key::p.keys.drop s).length;simp;omega
  .show (ds[i].n1+1)*16<=_;omega
  .show ds[i].n3+1=(p.kids.take (s+1)++x::p.kids.drop (s+1)).length;simp;omega
  .show (ds[i].n3+1)*8<=_;omega
 obtain⟨s1,s2,s3,s4,s5⟩:=hsm;have sm:small (xU_ p s key x):=by
  refine⟨λk hk'=>?_,s2,?_,s4,?_⟩
  .rcases lO_ hk' with z|z
   .rw[z];omega
   .exact s1 k z
  .show (p.keys.take s++key::p.keys.drop s).length<=1000;simp;omega
  .show (p.kids.take (s+1)++x::p.kids.drop (s+1)).length<=1000;simp;omega
 refine hK _ _ (m.turn (c:=⟨ds[i].u,ds[i].l,some (H.length+1,0),ds[i].n1+1,ds[i].a2,ds[i].n2,some (H1.length+1,0),ds[i].n3+1⟩) hi s_ (λl h1 h2 h3=>?_) (kH htp2) at' (ow.wo at' sm) (λl hl=>?_) λj hj=>?_)
 .rw[kp l h3,w2.row l o_ λq=>h2 ⟨0,.inr (.inr q)⟩,w1.row l h1 λq=>h2 ⟨0,.inl q⟩]
 ·obtain⟨o,e|e|e⟩:=hl
  .have:l=H.length+1:=by cases e;rfl
   exact⟨o_,λq=>by have:=m.off_lt q;omega,o_,λj hj _ hl'=>by have:=m.g.onlt j hj hl';omega⟩
  .have hon:(ds[i]).on l:=⟨o,.inr (.inl e)⟩;exact⟨λq=>off l hon (by rw[q]),λq=>(m.g.off l q).2.2 i hi hon,m.g.base i hi l hon,λj hj hne=>m.g.ap i j hi hj (Ne.symm hne) l hon⟩
  .have:l=H1.length+1:=by cases e;rfl
   exact⟨o_,λq=>by have:=m.off_lt q;omega,o_,λj hj _ hl'=>by have:=m.g.onlt j hj hl';omega⟩
 .by_cases e:j=i
  .exact .inl ⟨e,ow⟩
  .exact .inr ⟨e,hj⟩
theorem WM.setVal (m:WM B H le tp ds T X fa ws) (hp:T[i]?=some p) (hX:X i) {s:Nat} (hs:s<p.vals.length) (hsm:small p) (hvs:v.size<=1000) {K:Hp->Prop}
 (hK:∀H' ds',WM B H' le tp ds' (T.set i ⟨p.used,p.leaf,p.keys,p.vals.set s v,p.kids⟩) X fa ws->K H'):
 rd H tp (0+i*5+3) λv21=>dL 1 v21 λx22 n23=>chk true (chk ((leI 0 (s:Int))&&(ltI (s:Int) (nI n23))) (pS x22 λn24 n25=>wr H n24 (n25+((tN (s:Int))*1)) (.str v) K)):=by
 have q1:=m.g.ot.len;have q2:=m.g.ot.lenT;have hiT:=(kC.1 hp).1;have eT:T[i]'hiT=p:=(kC.1 hp).2;have hi:i<ds.length:=by omega
 obtain⟨a0,a1,a2,a3,a4⟩:=m.g.cells hi;have hat:=m.g.ot.all i hi hiT;have ho:=m.g.own i hi hiT hX;rw[eT]at hat ho;have e2:=hat.vals.len;obtain⟨lv,v1,v2,v3,v4⟩:=kF_ ho.vals o_;have onv:(ds[i]).on lv:=⟨0,.inr (.inl v1)⟩;obtain⟨hb,hr⟩:=m.g.ot.at_row;have htp:=(kC.1 hr).1;have nvt:lv≠tp:=λe=>by subst e;exact m.g.ot.off _ (kE hi) _ onv rfl
 have es:tN (s:Int)=s:=rfl;rw[ad_ a3,ah_,af_];refine ab_ s_ ?_;rw[v1,ae_,es,kN,Nat.mul_one];refine b4_ v3 s_ ?_;have em:(p.vals.map GV.str).set s (.str v)=(p.vals.set s v).map GV.str:=by rw[<-List.map_set]
 rw[em];have hlv:=(kC.1 v3).1;have kp:∀l,l≠lv->(H.set lv (.row true tS ((p.vals.set s v).map GV.str)))[l]?=H[l]? :=λl hl=>by rw[kF (Ne.symm hl)]
 have ow:(ds[i]).own (H.set lv (.row true tS ((p.vals.set s v).map GV.str))) B.length ⟨p.used,p.leaf,p.keys,p.vals.set s v,p.kids⟩:=by
  refine⟨ho.used,ho.leaf,ho.keys.keep λl e=>kp l λq=>ho.d12 l 0 0 e (by rw[v1,q]),.inr ⟨lv,v1,v2,kH hlv,s_⟩,ho.kids.keep λl e=>kp l λq=>ho.d23 lv 0 0 v1 (by rw[e,q]),ho.d12,ho.d13,ho.d23⟩
 have at':(ds[i]).at (H.set lv (.row true tS ((p.vals.set s v).map GV.str))) ⟨p.used,p.leaf,p.keys,p.vals.set s v,p.kids⟩:=⟨hat.used,hat.leaf,⟨ow.keys.cells,hat.keys.len,hat.keys.lim⟩,⟨ow.vals.cells,s_,hat.vals.lim⟩,⟨ow.kids.cells,hat.kids.len,hat.kids.lim⟩⟩;obtain⟨s1,s2,s3,s4,s5⟩:=hsm;have sm:small ⟨p.used,p.leaf,p.keys,p.vals.set s v,p.kids⟩:=by
  refine⟨s1,λk hk'=>?_,s3,by simpa using s4,s5⟩;rcases mem_or_eq_of_mem_set hk' with z|z
  .exact s2 k z
  .rw[z];omega
 refine hK _ _ (m.turn (c:=ds[i]) hi t_ (λl h1 h2 h3=>kp l λq=>h2 (by rw[q];exact onv)) (by rw[kp tp (Ne.symm nvt),set_getElem_self];exact hr) at' (ow.wo at' sm) (λl hon=>?_) λj hj=>?_)
 .exact⟨λq=>m.g.ot.off _ (kE hi) l hon (by rw[q]),λq=>(m.g.off l q).2.2 i hi hon,m.g.base i hi l hon,λj hj hne=>m.g.ap i j hi hj (Ne.symm hne) l hon⟩
 .by_cases e:j=i
  .exact .inl ⟨e,ow⟩
  .exact .inr ⟨e,hj⟩
end
structure rc_(P:List Nat)(ws:List Int):Prop where
 rng:∀x∈ws,1<=x/\x<48
 nd:ws.Nodup
 out:∀x∈ws,x.toNat∉P
theorem rc_.pop(h:rc_ P ws)(F:(init++[x]).Perm ws):rc_ P init/\(1<=x/\x<48)/\x.toNat∉P/\(∀y∈init,y.toNat≠x.toNat)/\x∈ws/\(∀y∈init,y∈ws)/\init.length+1=ws.length:=by
 have I:x∈ws:=F.mem_iff.1 t_;have D:∀y∈init,y∈ws:=λy A=>F.mem_iff.1 g_;have⟨J,O,N⟩:=kT.1 (F.nodup_iff.2 h.nd);refine⟨⟨λy A=>h.rng y (D y A),J,λy A=>h.out y (D y A)⟩,h.rng x I,h.out x I,λy A e=>?_,I,D,by rw[<-F.length_eq];simp⟩;have a:=h.rng y (D y A);grind
def Rp(H:Hp)(r:Option (Y_ × Int))(rp:Pl):Prop:=match r with
 |none=>rp=none
 |some (s,x)=>∃lq,rp=some (lq,0)/\H[lq]?=some (.row true xc_ [.str s,.int .i64 x])
def Ki_(T':List Pg)(d a:Nat)(P':List Nat)(qs:KV)(r:Option (Y_ × Int)):Prop:=match r with
 |none=>Sub T' d a P' qs
 |some (s,x)=>∃PX psX PY psY,cC_ T' d a PX psX/\cC_ T' d x.toNat PY psY/\P'=PX++PY/\psX++psY=qs/\(∀e∈psX,blt e.1 s=true)/\(∀e∈psY,blt e.1 s=false)/\(1<=s.size/\s.size<=6)/\1<=x/\x<48/\x.toNat∉PX
structure JH_(T T':List Pg)(d a:Nat)(P P':List Nat)(ws ws':List Int)(qs:KV)(r:Option (Y_ × Int)):Prop where
 len:T'.length=T.length
 nd:P'.Nodup
 sub:∀j∈P,j∈P'
 new:∀j∈P',j∈P\/∃x∈ws,x.toNat=j
 out:∀j,j∉P'->T'[j]?=T[j]?
 wsub:∀x∈ws',x∈ws
 fr:rc_ P' ws'
 count:ws'.length+P'.length=ws.length+P.length
 res:Ki_ T' d a P' qs r
 half:∀s x,r=some (s,x)->x∈ws
section
variable{B H:Hp}{le tp d a:Nat}{ds:List PC}{T T' T1:List Pg}{X:Nat->Prop}{fa:Pl}{ws:List Int}{p p1:Pg}{P P1:List Nat}{ps qs:KV}{Q:Post}{key v:Y_}
theorem Ar_(m:WM B H le tp ds T X fa ws)(hS:Bs_ T d a P qs)(Z:T[a]?=some p)(h5:p.keys.length<=5)(U:P.Nodup)(D:rc_ P ws)(O:p.keys.length=5->ws≠[])
 (hQ:∀H' J T' P' Y X' r rp,WM B H' le tp J T' X' fa Y->JH_ T T' d a P P' ws Y qs r->(r=none->T'=T)->(∀j,j∉P'->X j->X' j)->Rp H' r rp->Q (gP rp) H'):
 bS_ [yQ le,gI (a:Int)] H Q:=by
 have V:=hS;have⟨p',W,hf,hc⟩:=hS;rw[Z]at W;obtain rfl:=Option.some.inj W;have F:a∈P:=by rcases hc with⟨_,_,e,_⟩|⟨_,_,_,_,e,_⟩<;>simp[e]
 have q2:=m.g.ot.lenT;refine Ca_ m Z hf D.rng (λx hx e=>D.out x hx (by rw[e];exact F)) O (λh=>?_) λh hk x N H' J lq I m' hq _=>?_;exact hQ H ds T P ws X none none m ⟨rfl,U,λj h=>h,λj h=> .inl h,λj _=>rfl,λx h=>h,D,rfl,V.sub Z o_,λs x e=>by cases e⟩ (λ_=>rfl) (λj _ h=>h) rfl;have⟨f1,f2,f3,f4,f5,f6,f7⟩:=D.pop I;have hxa:x.toNat≠a:=λe=>f3 (by rw[e];exact F);have hxl:x.toNat<T.length:=by omega
 have ta:((T.set a (eW_ p (b2_ p))).set x.toNat (eA_ p (b2_ p)))[a]?=some (eW_ p (b2_ p)):=by rw[kF hxa,kH ((kC.1 Z).1)]
 have tx:((T.set a (eW_ p (b2_ p))).set x.toNat (eA_ p (b2_ p)))[x.toNat]?=some (eA_ p (b2_ p)):=by rw[kH (by simpa)]
 have to:∀j,j≠a->j≠x.toNat->((T.set a (eW_ p (b2_ p))).set x.toNat (eA_ p (b2_ p)))[j]?=T[j]? :=λj h1 h2=>by rw[kF (Ne.symm h2),kF (Ne.symm h1)]
 obtain⟨PX,psX,PY,psY,s1,s2,s3,s4,s5,s6,s7,s8⟩:=Fz_ V Z h U f3 (λj A hja=>to j hja λe=>f3 (by rw[<-e];exact A)) ta tx hk;refine hQ H' J _ (PX++PY) N _ (some (p.keys[b2_ p],x)) (some (lq,0)) m' ⟨t_,s4,λj A=>(s5 j).2 (.inl A),λj A=>?_,λj A=>?_,f6,⟨f1.rng,f1.nd,λy hy hy'=>?_⟩,o_,?_,λs x' e=>by cases e;exact f5⟩ (λe=>by cases e) (λj A hx=>⟨λe=>A ((s5 j).2 (.inr e)),λe=>A ((s5 j).2 (.inl (by rw[e];exact F))),hx⟩) ⟨lq,rfl,hq⟩;rcases (s5 j).1 A with q|q;exact .inl q;exact .inr ⟨x,f5,q.symm⟩;grind;rcases (s5 _).1 hy' with q|q;exact f1.out y hy q;exact f4 y hy q;exact⟨PX,psX,PY,psY,s1,s2,rfl,s3,s7,s8,hf.keys _ (kE hk),f2.1,f2.2,λq=>(kT.1 s4).2.2 _ q _ s2.1.head rfl
⟩
structure Jx_(T T':List Pg)(d a:Nat)(key v:Y_)(P P':List Nat)(ws ws':List Int)(ps:KV)(r:Option (Y_ × Int)):Prop where
 fin:JH_ T T' d a P P' ws ws' (insK ps key v) r
 keys:r=none->∃p q,T[a]?=some p/\T'[a]?=some q/\p.keys.length<=q.keys.length
theorem F4_ (m:WM B H le tp ds T X fa ws) (hS:Sub T d a P ps) (hp:T[a]?=some p) (hl:p.leaf=true) (hX:X a) (hfr:rc_ P ws) (hcnt:3*ps.length+3<=4*(ws.length+P.length)) (h1:1<=key.size) (h2:key.size<=6) (h3:v.size<=10)
 (hQ:∀H' ds' T' P' ws' X' r rp,WM B H' le tp ds' T' X' fa ws'->Jx_ T T' d a key v P P' ws ws' ps r->(∀j,j∉P'->X j->X' j)->Rp H' r rp->Q (gP rp) H'):
 de_ [yQ le,gI (a:Int),gS key,gS v] H Q:=by
 have q1:=m.g.ot.len;have q2:=m.g.ot.lenT;have hlt:=(kC.1 hp).1;have eT:T[a]'hlt=p:=(kC.1 hp).2;have hm:=hS.may hp;have h4:=hm.1;obtain⟨e1,e2,e3⟩:=hS.leafD hp hl;obtain⟨f1,f2,f3⟩:=hm.2.leaf hl;have hat:=m.g.ot.all a o_ hlt;rw[eT]at hat;obtain⟨a0,a1,a2,a3,a4⟩:=m.g.cells (i:=a) o_;have ei:tN (a:Int)=a:=rfl;have hsl:bY_ p.keys key<=p.keys.length:=rO_;refine⟨1,?_⟩;rw[mS_,ae_,kQ,ad_ m.gtE,ah_,af_];refine ab_ s_ ?_;rw[ae_,ei,ad_ a2,ah_];refine hM_ hat.keys ?_;simp only[aL_,aI_,bI_,ai_,am_,bf_];cases hb:dD_ p.keys key with
 | true=>
  rw[az_ rfl];obtain⟨hs,hk⟩:=rs_ hb;have hasc:=hS.asc.1;obtain⟨L,v0,R,es,hS2⟩:=Sub.setVal (v:=v) hp hl hb h3 hS (by rw[e2];simp) (by rw[e2];simp);have hL:∀x∈L,blt x.1 key=true:=λx hx=>by
   rw[es]at hasc;exact (kZ.1 hasc).2.2 x hx _ mem_cons_self
  have eins:insK ps key v=L++(key,v)::R:=by rw[es];exact Bv_ hL
  refine m.setVal hp hX (s:=bY_ p.keys key) (v:=v) o_ (hC_ hm) o_ λH' ds' m'=>?_;refine hQ H' ds' _ P ws X none none m' ⟨⟨t_,by rw[e2];simp,λj h=>h,λj h=> .inl h,λj hj=>?_,λx h=>h,hfr,rfl,by rw[eins];exact hS2,λs x e=>by cases e⟩,λ_=>⟨p,_,hp,kH hlt,kO _⟩⟩ (λj _ h=>h) rfl;rw[kF];intro e;subst e;exact hj (by rw[e2];simp)
 | false=>
  rw[aA_ rfl];obtain⟨g1,g2,hF⟩:=GI_ (v:=v) hS hp hl hb h1 h2 h3;refine m.insLeaf hp hX hsl f1 (hC_ hm) o_ o_ o_ λH1 ds1 m1=>?_;have hp1:(T.set a (Co_ p (bY_ p.keys key) key v))[a]?=some (Co_ p (bY_ p.keys key) key v):=kH hlt;have hk1:(Co_ p (bY_ p.keys key) key v).keys.length=p.keys.length+1:=by
   show (p.keys.take _++key::p.keys.drop _).length=_;simp;omega
  have hps:ps.length=p.keys.length:=by rw[e3,length_zip];omega
  refine Ar_ m1 hF hp1 o_ (by rw[e2];simp) hfr (λh=>?_) λH' ds' T' P' ws' X' r rp m' fin hnone hX' hrp=>?_
  .rw[e2]at hcnt;intro e;rw[e]at hcnt;simp at hcnt;omega
  simp only[aO_,gs_];refine hQ H' ds' T' P' ws' X' r rp m' ⟨⟨by rw[fin.len];simp,fin.nd,fin.sub,fin.new,λj hj=>?_,fin.wsub,fin.fr,fin.count,fin.res,fin.half⟩,λhr=>⟨p,_,hp,by rw[hnone hr];exact hp1,o_⟩⟩ hX' hrp;rw[fin.out j hj,kF];intro e;subst e;exact hj (fin.sub _ (by rw[e2];simp))
end
section
variable{T:List Pg}{d a:Nat}{p:Pg}{P:List Nat}{ps:KV}{key:Y_}
theorem mZ_.pages (I:∀k P ps,R k P ps->4*P.length+2<=3*ps.length):∀{ks:List Int}{ss:List Y_}{P:List Nat}{ps:KV},mZ_ R ks ss P ps->4*P.length+2*ks.length<=3*ps.length
 |[],[],P,ps,h=>by rw[h.1];simp
 |k::ks,s::ss,P,ps,⟨U,A,O,D,V,F,J,N,_,_⟩=>by
  have y:=mZ_.pages I F;grind
theorem l0_.pages(D:∀k P ps,R k P ps->4*P.length+2<=3*ps.length)(h:l0_ R kc A P ps):4*P.length+2*kc.length<=3*ps.length:=by
 cases A with
 |nil=>rw[h.1,h.2.1];simp
 |cons s A=>exact bm_.pages D h.1
theorem Bs_.pages(h:Bs_ T d a P ps)(U:T[a]?=some p)(W:p.keys.length=5):4*P.length+8<=3*ps.length:=by
 have⟨q,V,D,J⟩:=h;rcases J with⟨e,A,I,F⟩|⟨A,O,N,e,I,F⟩;have:=(D.leaf A).1;grind;have x:=bm_.pages (λ_ _ _ h=>cC_.pages h) F;have y:=(D.inner A).2.2.1;grind
end
section
variable{B:Hp}{le tp:Nat}{fa:Pl}{key v:Y_}
theorem Cc_ (h1:1<=key.size) (h2:key.size<=6) (h3:v.size<=10):∀(d:Nat){H:Hp}{ds:List PC}{T:List Pg}{X:Nat->Prop}{ws:List Int}{a:Nat}{P:List Nat}{ps:KV}{p:Pg}{Q:Post},WM B H le tp ds T X fa ws->Sub T d a P ps->P.Nodup->(∀i∈P,X i)->rc_ P ws->T[a]?=some p->
 (3*ps.length+5<=4*(ws.length+P.length)\/(2<=p.keys.length/\3*ps.length+3<=4*(ws.length+P.length)))->
 (hQ:∀H' ds' T' P' ws' X' r rp,WM B H' le tp ds' T' X' fa ws'->Jx_ T T' d a key v P P' ws ws' ps r->(∀j,j∉P'->X j->X' j)->Rp H' r rp->Q (gP rp) H')->
 a4_.at d [yQ le,gI (a:Int),gS key,gS v] H Q
 |0,H,ds,T,X,ws,a,P,ps,p,Q,m,hS,_,_,_,_,_,_=>hS.elim
 | n+1,H,ds,T,X,ws,a,P,ps,p,Q,m,hS,hnd,hX,hfr,hp,hcnt,hQ=>by
  have q1:=m.g.ot.len;have q2:=m.g.ot.lenT;have hm:=hS.may hp;have hlt:=(kC.1 hp).1;have eTa:T[a]'hlt=p:=(kC.1 hp).2;have at_a:=m.g.ot.all a o_ hlt;rw[eTa]at at_a;obtain⟨a0,a1,a2,a3,a4⟩:=m.g.cells (i:=a) o_;have ea:tN (a:Int)=a:=rfl;have hsm:=hC_ hm;have hlf:=at_a.leaf;refine⟨1,?_⟩;rw[nk_,ae_,kQ,ad_ m.gtE,ah_,af_];refine ab_ s_ ?_;rw[ae_,ea,ad_ a1,am_];cases hl:p.leaf with
  |true=>
   rw[az_ (by rw[<-hlf,hl])];refine F4_ m hS hp hl (hX a hS.head) hfr o_ h1 h2 h3 λH' ds' T' P' ws' X' r rp m' pr hx hr=>?_;simp only[aO_,gs_];exact hQ H' ds' T' P' ws' X' r rp m' pr hx hr
  | false=>
   rw[aA_ (by rw[<-hlf,hl])];obtain⟨d,PA,psA,Pi,psi,PC,psC,ed,kd⟩:=yR_ (key:=key) hS hp hl;obtain rfl:n=d+1:=by omega
   obtain⟨f1,f2,f3,f4,f5⟩:=hm.2.inner hl;have hnd':=hnd;rw[kd.eP]at hnd';have n0:=nodup_cons.1 hnd';have n1:=kT.1 n0.2;have n2:=kT.1 n1.2.1;have hi:=kd.hi;have hm4:=hm.1;have kr:=f4 _ (kE hi);have ek:p.kids[ci_ p.keys key]=(((p.kids[ci_ p.keys key]).toNat:Nat):Int):=by omega
   have inP:∀i∈Pi,i∈P:=λi h=>by rw[kd.eP];simp[h]
   have aPi:a∉Pi:=λh=>n0.1 (by simp[h]);have kle:=(gI_ (key:=key) (b3_ hm.2.rising)).2.2;have c1:=mZ_.pages (λ_ _ _ h=>cC_.pages h) kd.pre;have c2:=l0_.pages (λ_ _ _ h=>cC_.pages h) kd.suf;have c3:P.length=1+(PA.length+(Pi.length+PC.length)):=by rw[kd.eP];simp;omega
   have c4:ps.length=psA.length+(psi.length+psC.length):=by rw[kd.eps];simp
   have c5:(p.kids.take (ci_ p.keys key)).length=ci_ p.keys key:=by simp;omega
   have c6:(p.kids.drop (ci_ p.keys key+1)).length=p.kids.length-(ci_ p.keys key+1):=by simp
   rw[c5]at c1;rw[c6]at c2;obtain⟨kq,hkq,hkq2⟩:=kd.kid.2;refine kS_ (o:=0+a*5) a2 at_a.keys ?_;simp only[aO_,ai_];rw[ad_ a4,ah_,af_,at_a.kids.rd _ rfl hi,ek];refine Cc_ h1 h2 h3 (d+1) m kd.kid.1 n2.1 (λi h=>hX i (inP i h)) ⟨hfr.rng,hfr.nd,λx hx hxi=>hfr.out x hx (inP _ hxi)⟩ hkq (.inr ⟨hkq2,o_⟩) ?_;intro H1 ds1 T1 Pi' ws1 X1 r rp m1 pr hX1 hrp;have r1:=m1.g.ot.len;have r2:=m1.g.ot.lenT;have fi:=pr.fin;have frOut:∀x∈ws,x.toNat∉P:=hfr.out;have memPi:∀j∈Pi',j∈P->j∈Pi:=λj hj hjP=>by
    rcases fi.new j hj with q|⟨x,hx,e⟩
    .exact q
    .exact (frOut x hx (by rw[e];exact hjP)).elim
   have aPi':a∉Pi':=λh=>aPi (memPi a h hS.head);have hp1:T1[a]?=some p:=by rw[fi.out a aPi'];exact hp
   have eTa1:T1[a]'o_=p:=(kC.1 hp1).2;have disjA:∀j∈PA++PC,j∉Pi':=λj hj h=>by
    have hjP:j∈P:=by rw[kd.eP];simp only[kD]at hj;rcases hj with z|z<;>simp[z]
    have:=memPi j h hjP;rcases kD.1 hj with z|z
    .exact n1.2.2 j z j (by simp[this]) rfl
    .exact n2.2.2 j this j z rfl
   have hA:∀j∈PA++PC,T1[j]?=T[j]? :=λj hj=>fi.out j (disjA j hj);have hx1a:X1 a:=hX1 a aPi' (hX a hS.head);simp only[aO_,gs_];have key1:∀{P1:List Nat},(∀j,j∈P1↔j∈Pi')->(a::(PA++(P1++PC))).length=1+(PA.length+(Pi'.length+PC.length))->P1.Nodup->
    (a::(PA++(P1++PC))).Nodup/\(∀j∈P,j∈a::(PA++(P1++PC)))/\(∀j∈a::(PA++(P1++PC)),j∈P\/∃x∈ws,x.toNat=j)/\(∀x∈ws1,x.toNat∉a::(PA++(P1++PC))):=λ{P1} hm1 hl1 hn1=>by
    refine⟨nodup_cons.2 ⟨λh=>?_,kT.2 ⟨n1.1,kT.2 ⟨hn1,n2.2.1,λu hu w hw e=>?_⟩,λu hu w hw e=>?_⟩⟩,λj hj=>?_,λj hj=>?_,λx hx h=>?_⟩
    .simp only[kD]at h;rcases h with z|z|z
     .exact n0.1 (by simp[z])
     .exact aPi' ((hm1 a).1 z)
     .exact n0.1 (by simp[z])
    .subst e;exact disjA u (by simp[hw]) ((hm1 u).1 hu)
    .subst e;rcases kD.1 hw with z|z
     .exact disjA u (by simp[hu]) ((hm1 u).1 z)
     .exact n1.2.2 u hu u (by simp[z]) rfl
    .rw[kd.eP]at hj;simp only[kU,kD]at hj ⊢;rcases hj with z|z|z|z
     .exact .inl z
     .exact .inr (.inl z)
     .exact .inr (.inr (.inl ((hm1 j).2 (fi.sub j z))))
     .exact .inr (.inr (.inr z))
    ·simp only[kU,kD]at hj;rw[kd.eP];rcases hj with z|z|z|z
     .exact .inl (by simp[z])
     .exact .inl (by simp[z])
     .rcases fi.new j ((hm1 j).1 z) with q|q
      .exact .inl (by simp[q])
      .exact .inr q
     .exact .inl (by simp[z])
    .have hxw:=fi.wsub x hx;have nP:=frOut x hxw;rw[kd.eP]at nP;simp only[kU,kD]at h nP;rcases h with z|z|z|z
     .exact nP (.inl z)
     .exact nP (.inr (.inl z))
     .exact fi.fr.out x hx ((hm1 _).1 z)
     .exact nP (.inr (.inr (.inr z)))
   have cnt1:=fi.count;cases r with
   |none=>
    have hrp':rp=none:=hrp;subst hrp';rw[Ip_,az_ rfl];obtain⟨p0,p1',hp0,hp1',hkk⟩:=pr.keys rfl;rw[hkq]at hp0;obtain rfl:=Option.some.inj hp0;have hsub:cC_ T1 (d+1) (p.kids[ci_ p.keys key]).toNat Pi' (insK psi key v):=⟨fi.res,p1',hp1',o_⟩;have hfin:=kd.put1 hp hm hl rfl hA hp1 hsub;obtain⟨k1,k2,k3,k4⟩:=key1 (P1:=Pi') (λj=>Iff.rfl) s_ fi.nd;refine hQ H1 ds1 T1 _ ws1 X1 none none m1 ⟨⟨fi.len,k1,k2,k3,λj hj=>fi.out j λh=>hj (by simp[h]),fi.wsub,⟨fi.fr.rng,fi.fr.nd,k4⟩,by simp only[length_cons,kI];omega,hfin,λs x e=>by cases e⟩,λ_=>⟨p,p,hp,hp1,kO _⟩⟩ (λj hj hx=>hX1 j (λh=>hj (by simp[h])) hx) rfl
   | some sx=>
    obtain⟨s,x⟩:=sx;obtain⟨lq,e,hq⟩:=hrp;subst e;rw[Hd_,aA_ rfl];obtain⟨PX,psX,PY,psY,s1,s2,s3,s4,s5,s6,s7,s8,s9,s10⟩:=fi.res;have ex:(x.toNat:Int)=x:=by omega
    have hxw:=fi.half s x rfl;have hxP:x.toNat∉P:=frOut x hxw;have hmm:∀j,j∈PX++PY↔j∈Pi':=λj=>by rw[s3]
    refine m1.insInner hp1 hx1a kle f3 hsm o_ hq o_ λH2 ds2 m2=>?_;have hlt1:=(kC.1 hp1).1;have hp2:(T1.set a (xU_ p (ci_ p.keys key) s x))[a]?=some (xU_ p (ci_ p.keys key) s x):=kH hlt1;have out2:∀j,j≠a->(T1.set a (xU_ p (ci_ p.keys key) s x))[j]?=T1[j]? :=λj hj=>kF (Ne.symm hj);have nX:∀j∈PX++PY,j≠a:=λj hj e=>aPi' ((hmm a).1 (by rw[<-e];exact hj));have nA:∀j∈PA++PC,j≠a:=λj hj e=>by
     subst e;rcases kD.1 hj with z|z
     .exact n0.1 (by simp[z])
     .exact n0.1 (by simp[z])
    have hSF:=kd.put2 (T1:=T1.set a (xU_ p (ci_ p.keys key) s x)) (f:=x.toNat) (v:=v) hp hm hl rfl hxP o_ o_ s7 (λj hj=>by rw[out2 j (nA j hj)];exact hA j hj)
     (s1.keep λj hj=>out2 j (nX j (by simp[hj]))) (s2.keep λj hj=>out2 j (nX j (by simp[hj]))) s4 s5 s6 (by rw[ex];exact hp2)
    have hk5:(xU_ p (ci_ p.keys key) s x).keys.length=p.keys.length+1:=by
     show (p.keys.take _++s::p.keys.drop _).length=_;simp;omega
    have eas:PX++(PY++PC)=(PX++PY)++PC:=by simp
    rw[eas]at hSF;have hl3:(PX++PY).length=Pi'.length:=by rw[s3]
    obtain⟨k1,k2,k3,k4⟩:=key1 (P1:=PX++PY) hmm (by simp only[length_cons,kI]at hl3 ⊢;omega) (by rw[<-s3];exact fi.nd);have hfr1:rc_ (a::(PA++((PX++PY)++PC))) ws1:=⟨fi.fr.rng,fi.fr.nd,k4⟩;have hlen1:(a::(PA++((PX++PY)++PC))).length=1+(PA.length+(Pi'.length+PC.length)):=by simp only[length_cons,kI]at hl3 ⊢;omega
    have hins:=HR_ (k:=key) (v:=v) hS.asc.1;refine Ar_ m2 hSF hp2 o_ k1 hfr1 (λh5 e=>?_) λH3 ds3 T3 P3 ws3 X3 r3 rp3 m3 fin3 hn3 hX3 hrp3=>?_
    .have:=hSF.pages hp2 h5;rw[hlen1]at this;rw[e]at cnt1;simp only[length_nil]at cnt1;omega
    simp only[aO_,gs_];have cnt3:=fin3.count;rw[hlen1]at cnt3;have inP3:∀j∈a::(PA++((PX++PY)++PC)),j∈P3:=fin3.sub;have inP4:∀j∈Pi',j∈P3:=λj h=>inP3 j (mem_cons_of_mem _ (kD.2 (.inr (kD.2 (.inl ((hmm j).2 h))))));refine hQ H3 ds3 T3 P3 ws3 X3 r3 rp3 m3 ⟨⟨by rw[fin3.len];simp[fi.len],fin3.nd,λj hj=>inP3 j (k2 j hj),λj hj=>?_,λj hj=>?_,λy hy=>fi.wsub y (fin3.wsub y hy),fin3.fr,o_,fin3.res,λs' x' e=>fi.wsub x' (fin3.half s' x' e)⟩,λhr=>⟨p,_,hp,by rw[hn3 hr];exact hp2,o_⟩⟩ (λj hj hx=>hX3 j hj (hX1 j (λh=>hj (inP4 j h)) hx)) hrp3
    .rcases fin3.new j hj with q|⟨y,hy,e⟩
     .exact k3 j q
     .exact .inr ⟨y,fi.wsub y hy,e⟩
    .rw[fin3.out j hj,out2 j λe=>hj (inP3 j (by simp[e]))];exact fi.out j λh=>hj (inP4 j h)
end
theorem bm_.pagesMay {G:Nat->Prop} (D:∀k P ps,R k P ps->∀i∈P,G i):∀{ks:List Int}{ss:List Y_}{P:List Nat}{ps:KV},bm_ R ks ss P ps->∀i∈P,G i
 |[],_,_,_,h,_,_=>h.elim
 |k::ks,[],P,ps,h,i,A=>D _ _ _ h.2 i A
 |k::ks,s::ss,P,ps,⟨W,F,O,J,U,N,I,V,_,_⟩,i,A=>by
  subst I;rcases kD.1 A with q|q;grind;exact bm_.pagesMay D N i q
theorem Sub.pagesMay:∀{d a:Nat}{P:List Nat}{ps:KV},Sub T d a P ps->∀i∈P,∃p,T[i]?=some p/\fa_ p
 |0,_,_,_,h,_,_=>h.elim
 |d+1,a,P,ps,h,i,A=>by
  obtain⟨p,hp,hm,⟨_,_,e,_⟩|⟨_,F,e,D⟩⟩:=h;grind;subst e;rcases kU.1 A with q|q;grind;exact bm_.pagesMay (λk P ps h i A=>Sub.pagesMay h.1 i A) D i q
def im_(T:List Pg)(i:Nat):Bool:=match T[i]? with|some p=>p.used|none=>false
section
variable{T T':List Pg}{d:Nat}{P:List Nat}{ps:KV}
theorem fy_.used(w:fy_ T d P ps)(hi:i<48):i∈P↔im_ T i=true:=by
 have F:=w.len;constructor;intro h;have⟨p,A,D⟩:=w.sub.pagesMay i h;unfold im_;rw[A];exact D.2.used;refine λh=>Decidable.byContradiction λq=>?_;have:=w.rest i _ (kG o_) q;unfold im_ at h;unfold cL_ at this;grind
def ld_(T:List Pg)(k:Nat):List Int:=List.map (λi:Nat=>(i:Int)) ((List.range k).filter λi=> !im_ T i)
theorem vW_(T:List Pg)(k:Nat):ld_ T (k+1)=ld_ T k++(match im_ T k with|true=>[]|false=>[(k:Int)]):=by
 unfold ld_;rw[range_succ,filter_append,kL];grind
theorem yb_:x∈ld_ T k↔∃i:Nat,x=i/\i<k/\im_ T i=false:=by
 unfold ld_;grind
theorem AE_(T:List Pg)(k:Nat):(ld_ T k).Nodup:=by
 unfold ld_;rw[Nodup,pairwise_map];exact ((nodup_range).sublist filter_sublist).imp λh e=>h o_
theorem xl_ (q:Nat->Bool):∀l:List Nat,(l.filter q).length+(l.filter λi=> !q i).length=l.length
 |[]=>rfl
 |x::l=>by
  have:=xl_ q l;grind
theorem fy_.frees (w:fy_ T d P ps) (F:ws.Perm (ld_ T 48)):rc_ P ws/\ws.length+P.length=48:=by
 refine⟨⟨λx I=>?_,F.nodup_iff.2 (AE_ T 48),λx I J=>?_⟩,?_⟩;have⟨i,e,N,D⟩:=yb_.1 (F.mem_iff.1 I);have:i≠0:=λq=>by
  subst q;rw[(w.used o_).1 w.sub.head]at D;cases D
 omega;have⟨i,e,N,D⟩:=yb_.1 (F.mem_iff.1 I);subst e;have:(i:Int).toNat=i:=rfl;rw[this,w.used N,D]at J;grind;have A:P.Perm ((List.range 48).filter λi=>im_ T i):=by
  refine (perm_ext_iff_of_nodup w.nodup ((nodup_range).sublist filter_sublist)).2 λi=>?_;rw[mem_filter,mem_range];constructor;intro h;have:=w.sub.inT i h;rw[w.len]at this;exact⟨this,(w.used this).1 h⟩;rintro⟨U,O⟩;exact (w.used U).2 O
 rw[A.length_eq,F.length_eq];unfold ld_;have:=xl_ (λi=>im_ T i) (List.range 48);grind
def Em_(T:List Pg):Nat:=(T.map gK).sum
theorem y0_ (h:0<aK_ T):Em_ T=(cD_ T).length:=by
 have ⟨st,s⟩:=SF.of h;rw[<-s.sums.1];have A:=tF_ h;have:∀l:List Pg,(∀p∈l,p∈T)->(l.map gK).sum=oK_ gK l:=by
  intro l;induction l with
  |nil=>intro _;rfl
  |cons p l I=>
   intro F;have D:=I λq J=>F q (mem_cons_of_mem _ J);unfold oK_ at D ⊢;rw[map_cons,sum_cons,map_cons,sum_cons,D];rcases A p (F p t_) with q|q;rw[((dZ_ p).1 q).2.used];rw[q];rfl
 exact this T λp A=>A
theorem Fr_ (h:Sub T d k P ps) (F:T[k]?=some p) (J:T'[t]?=some p) (U:P.Nodup) (Z:∀i∈P,i≠k->T'[i]?=T[i]?):Sub T' d t (t::P.tail) ps:=by
 have I:=h.may F;cases A:p.leaf with
 |true=>
  have⟨e,D,O⟩:=h.leafD F A;subst e;subst D;exact⟨p,J,I,.inl ⟨rfl,A,rfl,O⟩⟩
 |false=>
  have⟨d',W,e,D,N⟩:=h.innD F A;subst e;subst D;exact⟨p,J,I,.inr ⟨A,W,rfl,N.imp λj Q qs Y V=>Y.keep λi hi=>Z i g_ λe=>(nodup_cons.1 U).1 g_⟩⟩
theorem Sub.eHead(h:Sub T d a P ps):P=a::P.tail:=by
 cases d with
 |zero=>exact h.elim
 |succ d=>obtain⟨p,_,_,⟨_,_,e,_⟩|⟨_,A,e,_⟩⟩:=h<;>simp[e]
theorem Ij_(O:cC_ T d 0 PX psX)(hY:cC_ T d x.toNat PY psY)(hq:psX++psY=qs)(lt:∀e∈psX,blt e.1 s=true)(ge:∀e∈psY,blt e.1 s=false)(hs:1<=s.size/\s.size<=6)
 (hx:1<=x/\x<48) (hy:1<=y/\y<48) (Z:(PX++PY).Nodup) (N:y.toNat∉PX++PY) (hr:T[0]?=some r) (F:T.length=48) (D:∀i p,T[i]?=some p->i∉PX++PY->cL_ p=true) (hc:qs.length<=60):
 ∃P,fy_ ((T.set 0 ⟨true,false,[s],[],[y,x]⟩).set y.toNat r) (d+1) P qs:=by
 have eX:=O.1.eHead;have n1:=kT.1 Z;have h0X:=O.1.head;have xY:=hY.1.head;have y0:y.toNat≠0:=by omega
 have xy:y.toNat≠x.toNat:=λe=>N (by rw[e];simp[xY]);have t0:((T.set 0 (⟨true,false,[s],[],[y,x]⟩)).set y.toNat r)[0]?=some ⟨true,false,[s],[],[y,x]⟩:=by rw[kF y0,kH o_]
 have ty:((T.set 0 (⟨true,false,[s],[],[y,x]⟩)).set y.toNat r)[y.toNat]?=some r:=by rw[kH s_]
 have Y:∀i,i≠0->i≠y.toNat->((T.set 0 (⟨true,false,[s],[],[y,x]⟩:Pg)).set y.toNat r)[i]?=T[i]? :=λi h1 h2=>by rw[kF (Ne.symm h2),kF (Ne.symm h1)]
 have I:∀i∈PX++PY,i≠y.toNat:=λi A e=>N (by rw[<-e];exact A);have⟨q,J,W⟩:=O.2;rw[hr]at J;obtain rfl:=Option.some.inj J;refine⟨0::((y.toNat::PX.tail)++PY),by simp[F],⟨_,t0,⟨t_,⟨rfl,ee_ t_,λk U=>?_,λe=>(by cases e),λ_=>⟨t_,rfl,rfl,λk U=>?_,?_⟩⟩⟩,.inr ⟨rfl,_,rfl,?_⟩⟩,g_,λi p hp A=>?_,hc⟩;rw[mem_singleton.1 U];exact hs;simp[kU]at U;rcases U with e|e;rw[e];exact hy;rw[e];exact hx;have:y≠x:=λe=>xy (by rw[e]);simp[this];refine⟨y.toNat::PX.tail,psX,PY,psY,⟨Fr_ (T':=(T.set 0 (⟨true,false,[s],[],[y,x]⟩)).set y.toNat r) O.1 hr ty n1.1 λi A V=>Y i V (I i (by simp[A])),_,ty,W⟩,⟨rfl,hY.keep (T':=(T.set 0 (⟨true,false,[s],[],[y,x]⟩)).set y.toNat r) λi A=>Y i ((λi A e=>n1.2.2 0 h0X i A e.symm:∀i∈PY,i≠0) i A) (I i (by simp[A]))⟩,rfl,hq.symm,lt,ge⟩;simp only[kU,kD,not_or]at A;rw[Y i A.1 A.2.1.1]at hp;refine D i p hp λh=>?_;rcases kD.1 h with z|z;rw[eX]at z;rcases kU.1 z with z|z;exact A.1 z;exact A.2.1.2 z;exact A.2.2 z
end
section
variable{H:Hp}{Q:Post}{x:Pl}{n:Nat}{T:List Pg}{cs:List Am.PC}
theorem IE_(h:p.keys.length<=1000):gK p<=1000:=by unfold gK;cases p.leaf<;>simp<;>omega
theorem zF_ {l0:Nat} (hT:Tr H x n cs T) (hg:gt H l0 0=some (.sl x n 5)) (hn:n<=48) (hs:∀p∈T,small p) (hQ:Q (gI (Em_ T:Int)) H):bM_ [yQ l0] H Q:=by
 have hlT:=hT.lenT;have sumle:∀k,k<=n->((T.take k).map gK).sum<=1000*k:=by
  intro k;induction k with
  |zero=>intro _;simp
  |succ k ih=>
   intro hk;have hk':k<T.length:=by omega
   rw[take_succ_eq_append_getElem hk',kL,sum_append];have:=IE_ (hs _ (kE hk')).2.2.1;simp only[map_cons,map_nil,sum_cons,sum_nil];have:=ih o_;omega
 have loop:∀(f k:Nat),n-k<f->k<=n->bM_.l3 f ((((T.take k).map gK).sum:Nat):Int) x n (nI n) (k:Int) H Q:=by
  intro f;induction f with
  |zero=>intro k h;omega
  | succ f ih=>
   intro k hf hk;rw[bM_.l3_eq];by_cases hkn:k<n
   ·obtain⟨l,o,c,p,rfl,hc,hpp,hpc,g0,g1,g2,g3,g4⟩:=hT.get hkn;have etN:tN (k:Int)=k:=rfl;rw[az_ s_,af_];refine ab_ s_ ?_;rw[ae_,etN,cP_ g0 g1 g2 g3 g4,an_ o_];have e1:=hpc.keys.len;have hk':k<T.length:=by omega
    have eT:T[k]=p:=(kC.1 hpp).2;have es:((T.take (k+1)).map gK).sum=((T.take k).map gK).sum+gK p:=by
     rw[take_succ_eq_append_getElem hk',eT];simp
    have b1:=sumle k o_;have b2:=IE_ (hs p (by rw[<-eT];exact kE hk')).2.2.1;have b3:=(hs p (by rw[<-eT];exact kE hk')).2.2.1;have next:=ih (k+1) o_ o_;rw[es]at next;have hl:=hpc.leaf;unfold gK at next b2;cases hpl:p.leaf with
    |true=>
     rw[hpl]at next;rw[az_ (by rw[<-hl,hpl]),i3_,e1,b5_ o_ o_];have e2:(((T.take k).map gK).sum:Int)+(p.keys.length:Int)=((((T.take k).map gK).sum+p.keys.length:Nat):Int):=by omega
     rw[e2];exact next
    |false=>
     rw[hpl]at next;rw[aA_ (by rw[<-hl,hpl])];exact next
   .obtain rfl:k=n:=by omega
    rw[aA_ t_,k7 o_];exact hQ
 refine⟨n+2,?_⟩;rw[q3_,ae_,kQ,ad_ hg,ah_];exact loop (n+1) 0 o_ (kP _)
end
section
variable{B H:Hp}{le tp:Nat}{ds:List Am.PC}{T:List Pg}{X off:Nat->Prop}{fa:Pl}{ws:List Int}{Q:Post}
theorem CT.gt(g:CT B H tPg (some (tp,0)) 48 ds T)(D:∀p∈T,small p):GT B H tp ds T (λ_=>True) (λ_=>False):=by
 have J:=g.ot.len;have N:=g.ot.lenT;refine⟨g.pre,g.ot,λi h=>(g.own i h o_).wo (g.ot.all i h o_) (D _ (kE _)),λi h l F=>?_,λi h I _=>g.own i h I,g.ap,λl h=>h.elim⟩;have A:=g.own i h o_;obtain⟨o,e|e|e⟩:=F;exact A.keys.ge e;exact A.vals.ge e;exact A.kids.ge e
structure JQ_(T A:List Pg)(key v:Y_):Prop where
 pos:0<aK_ A
 ent:cD_ A=insK (cD_ T) key v
theorem CR_ {key v:Y_} {P:List Nat} {d:Nat} (f:Nat) (m:WM B H le tp ds T (λ_=>True) fa ws) (w:fy_ T d P (cD_ T)) (hp:ws.Perm (ld_ T 48)) (hc:(insK (cD_ T) key v).length<=60) (h1:1<=key.size) (h2:key.size<=6) (h3:v.size<=10) {x8:Pl} {n9:Nat} {a2:Pl} {n3:Nat}
 (hQ:∀H' ds' T' X' off',GT B H' tp ds' T' X' off'->JQ_ T T' key v->Q (.tup [yB (some (tp,0)) 48,nN 0]) H'):
 br_.l8 (f+1) key v a2 n3 le 0 le 0 x8 n9 48 48 H Q:=by
 obtain⟨fr,cnt⟩:=w.frees hp;have q1:=m.g.ot.len;have q2:=m.g.ot.lenT;obtain⟨p0,hp0⟩:=w.sub.get;rw[br_.l8_eq,aA_ d_];refine⟨d,Cc_ h1 h2 h3 d (a:=0) m w.sub w.nodup (λ_ _=>trivial) fr hp0 (.inl (by have:=w.count;omega)) λH1 ds1 T1 P1 ws1 X1 r rp m1 pr hX1 hrp=>?_⟩;have fi:=pr.fin;have q3:=m1.g.ot.len;have q4:=m1.g.ot.lenT;have rest1:∀(i:Nat) p,T1[i]?=some p->i∉P1->cL_ p=true:=λi p hp hi=>by
  rw[fi.out i hi]at hp;exact w.rest i p hp λh=>hi (fi.sub i h)
 have cnt1:=fi.count;simp only[aO_,gs_];cases r with
 |none=>
  have hrp':rp=none:=hrp;subst hrp';rw[Ip_,aA_ d_,kQ,ad_ m1.gtE,ah_];have w1:fy_ T1 d P1 (insK (cD_ T) key v):=⟨o_,fi.res,fi.nd,rest1,hc⟩;refine hQ H1 ds1 T1 X1 _ m1.g ⟨w1.pos',w1.sound.2⟩
 | some sx=>
  obtain⟨s,x⟩:=sx;obtain⟨lq,e,hq⟩:=hrp;subst e;obtain⟨PX,psX,PY,psY,s1,s2,s3,s4,s5,s6,s7,s8,s9,s10⟩:=fi.res;rw[Hd_,az_ d_,kQ,ad_ m1.gtE,ah_,af_];refine ab_ d_ ?_;obtain⟨b0,b1,b2,b3,b4⟩:=m1.g.cells (i:=0) o_;have et0:tN 0=0:=rfl;rw[ae_,et0,cP_ b0 b1 b2 b3 b4];have hpg:=cC_.pages s1;have hpg2:=cC_.pages s2;have hPl:P1.length=PX.length+PY.length:=by rw[s3];simp
  have hql:psX.length+psY.length<=60:=by rw[<-s4]at hc;simpa using hc
  have hne:ws1≠[]:=λe=>by rw[e]at cnt1;simp at cnt1;omega
  refine AD_ m1 hne (λy hy=>⟨by have:=(fi.fr.rng y hy).1;omega,(fi.fr.rng y hy).2⟩) (c:=ds1[0]'o_) λy init H2 hperm m2 l2 k2=>?_;obtain⟨f1,f2,f3,f4,f5,f6,f7⟩:=fi.fr.pop hperm;simp only[aO_,ai_];have hr2:=m2.g.ot.at_row.2;have htp:=(kC.1 hr2).1;have hyl:y.toNat<ds1.length:=by omega
  have y0:y.toNat≠0:=by omega
  have hle:=m2.le_lt;have hlet:le≠tp:=(m2.g.off le (.inl rfl)).2.1;have hlq2:H2[lq]?=H1[lq]? :=k2 lq λh=>by
   rcases h with rfl|⟨o,e⟩
   .rcases m1.fre with⟨_,e,_⟩|⟨lf,rest,e,hf⟩
    .exact hne e
    .exact zC_ hq hf.wr d_ rfl
   .rcases m1.fre with⟨e',_,_⟩|⟨lf,rest,e',hf⟩
    .rw[e']at e;cases e
    .rw[e']at e;cases e;exact zC_ hq hf.row d_ rfl
  have hq2:H2[lq]?=some (.row true xc_ [.str s,.int .i64 x]):=by rw[hlq2];exact hq
  have hlqt:lq≠tp:=λe=>by rw[e,hr2]at hq2;simp at hq2;exact absurd hq2.1 d_
  have hlq:=(kC.1 hq2).1;have g0:∀Z:List Obj,gt (H2.set tp (.row true tPg (aZ_ (ds1.set y.toNat (ds1[0]'o_))))++Z) le 0=some (.sl (some (tp,0)) 48 5):=λZ=>by
   rw[<-m2.gtE];unfold gt;rw[kM (by simpa using hle),kF (Ne.symm hlet)]
  have gq0:∀Z:List Obj,gt (H2.set tp (.row true tPg (aZ_ (ds1.set y.toNat (ds1[0]'o_))))++Z) lq 0=some (.str s):=λZ=>by
   have:gt H2 lq 0=some (.str s):=by rw[aY_ hq2];rfl
   rw[<-this];unfold gt;rw[kM (by simpa using hlq),kF (Ne.symm hlqt)]
  have gq1:∀Z:List Obj,gt (H2.set tp (.row true tPg (aZ_ (ds1.set y.toNat (ds1[0]'o_))))++Z) lq 1=some (.int .i64 x):=λZ=>by
   have:gt H2 lq 1=some (.int .i64 x):=by rw[aY_ hq2];rfl
   rw[<-this];unfold gt;rw[kM (by simpa using hlq),kF (Ne.symm hlqt)]
  have z0:=g0 [];have zq0:=gq0 [];have zq1:=gq1 [];rw[append_nil]at z0 zq0 zq1;rw[ad_ z0,ah_,ae_,kQ,ad_ zq0,au_,ae_,kN,ad_ zq1,ai_];have fin:∀(Z:List Obj)(lk ln':Nat),Z.length=2->(H2++Z)[lk]?=some (.row true tS [.str s])->(H2++Z)[ln']?=some (.row true tI [.int .i64 y,.int .i64 x])->H2.length<=lk->H2.length<=ln'->lk≠ln'->
   wr (H2.set tp (.row true tPg (aZ_ (ds1.set y.toNat (ds1[0]'o_))))++Z) tp (0*5) (.bool true) λH66=>wr H66 tp (0*5+1) (.bool false) λH67=>wr H67 tp (0*5+1+1) (.sl (some (lk,0)) 1 1) λH68=>wr H68 tp (0*5+1+1+1) (.sl none 0 1) λH69=>wr H69 tp (0*5+1+1+1+1) (.sl (some (ln',0)) 2 1) λH70=>
    rd H70 le 0 λv71=>dL 5 v71 λx72 n73=>Q (.tup [(.a [(.sl x72 n73 5)]),(nN 0)]) H70:=λZ lk ln' hZ hk hn hlk hln hne'=>by
   have ra:(H2.set tp (.row true tPg (aZ_ (ds1.set y.toNat (ds1[0]'o_))))++Z)[tp]?=some (.row true tPg (aZ_ (ds1.set y.toNat (ds1[0]'o_)))):=by
    rw[kM (by simpa using htp)];exact kH htp
   refine wr5 (i:=0) (c:=⟨true,false,some (lk,0),1,none,0,some (ln',0),2⟩) ra s_ ?_;have eset:(H2.set tp (.row true tPg (aZ_ (ds1.set y.toNat (ds1[0]'o_))))++Z)=(H2++Z).set tp (.row true tPg (aZ_ (ds1.set y.toNat (ds1[0]'o_)))):=(set_append_left _ _ htp).symm;rw[eset,set_set];have mZ:=m2.mono (prefix_append H2 Z);have hBl:=m2.g.pre.length_le;have htpZ:tp<(H2++Z).length:=by rw[kI];omega
   have kp:∀(cs:List GV) l,l≠tp->((H2++Z).set tp (.row true tPg cs))[l]?=(H2++Z)[l]? :=λcs l hl=>by rw[kF (Ne.symm hl)]
   have g1:gt ((H2++Z).set tp (.row true tPg (aZ_ ((ds1.set y.toNat (ds1[0]'o_)).set 0 ⟨true,false,some (lk,0),1,none,0,some (ln',0),2⟩)))) le 0=some (.sl (some (tp,0)) 48 5):=by
    rw[<-mZ.gtE];unfold gt;rw[kp _ le hlet]
   rw[ad_ g1,ah_];have onr:∀l,(⟨true,false,some (lk,0),1,none,0,some (ln',0),2⟩:Am.PC).on l->l=lk\/l=ln':=λl hl=>by
    obtain⟨o,e|e|e⟩:=hl
    .cases e;exact .inl rfl
    .cases e
    .cases e;exact .inr rfl
   have at0:∀cs,(⟨true,false,some (lk,0),1,none,0,some (ln',0),2⟩:Am.PC).at ((H2++Z).set tp (.row true tPg cs)) ⟨true,false,[s],[],[y,x]⟩:=λcs=>by
    have k1:((H2++Z).set tp (.row true tPg cs))[lk]?=some (.row true tS [.str s]):=by rw[kp _ lk o_];exact hk
    have k2:((H2++Z).set tp (.row true tPg cs))[ln']?=some (.row true tI [.int .i64 y,.int .i64 x]):=by rw[kp _ ln' o_];exact hn
    exact⟨rfl,rfl,⟨by simp[cells?,k1],rfl,by show 1*16<=_;omega⟩,⟨rfl,rfl,by show 0*16<=_;omega⟩,⟨by simp[cells?,k2],rfl,by show 2*8<=_;omega⟩⟩
   have wo0:∀cs,WoP ((H2++Z).set tp (.row true tPg cs)) B.length 1000 ⟨true,false,some (lk,0),1,none,0,some (ln',0),2⟩:=λcs=>by
    have k1:((H2++Z).set tp (.row true tPg cs))[lk]?=some (.row true tS [.str s]):=by rw[kp _ lk o_];exact hk
    have k2:((H2++Z).set tp (.row true tPg cs))[ln']?=some (.row true tI [.int .i64 y,.int .i64 x]):=by rw[kp _ ln' o_];exact hn
    refine⟨.inr ⟨lk,0,[s],rfl,o_,k1,t_,λz hz=>?_⟩,.inl rfl,.inr ⟨ln',0,[y,x],rfl,o_,k2,t_⟩,by show 1<=1000;omega,by show 0<=1000;omega,by show 2<=1000;omega⟩;rw[mem_singleton.1 hz];omega
   have t1:=mZ.g.turn (i:=0) (H':=(H2++Z).set tp (.row true tPg (aZ_ (ds1.set 0 ⟨true,false,some (lk,0),1,none,0,some (ln',0),2⟩)))) (c:=⟨true,false,some (lk,0),1,none,0,some (ln',0),2⟩) (p:=⟨true,false,[s],[],[y,x]⟩) (X':=λ_=>False) o_ t_ (λl _ _ hl _=>kp _ l hl) (kH htpZ) (at0 _) (wo0 _)
    (λl hl=>by
     have hl':H2.length<=l:=by rcases onr l hl with e|e<;>omega
     exact⟨o_,λq=>by have:=m2.off_lt q;omega,o_,λj hj _ hon=>by have:=m2.g.onlt j hj hon;omega⟩) λj hj=>hj.elim
   have t2:=t1.turn (i:=y.toNat) (H':=(H2++Z).set tp (.row true tPg (aZ_ ((ds1.set 0 ⟨true,false,some (lk,0),1,none,0,some (ln',0),2⟩).set y.toNat (ds1[0]'o_))))) (c:=ds1[0]'o_) (p:=T1[0]'o_) (X':=λ_=>False) s_ t_ (λl _ _ hl _=>by rw[kp _ l hl,kp _ l hl]) (kH htpZ)
    ((mZ.g.ot.all 0 o_ o_).keep λl hl=>kp _ l λe=>mZ.g.ot.off _ (kE o_) l hl (by rw[e])) ((mZ.g.wo 0 o_).keepOn λl hl=>kp _ l λe=>mZ.g.ot.off _ (kE o_) l hl (by rw[e]))
    (λl hl=>by
     refine⟨λe=>mZ.g.ot.off _ (kE o_) l hl (by rw[e]),λq=>(mZ.g.off l q).2.2 0 o_ hl,mZ.g.base 0 o_ l hl,λj hj hne2 hon=>?_⟩;rw[getElem_set]at hon;by_cases e:0=j
     .rw[if_pos e]at hon;have:=m2.g.onlt 0 o_ hl;rcases onr l hon with z|z<;>omega
     .rw[if_neg e]at hon;exact mZ.g.ap 0 j o_ (by simpa using hj) e l hl hon) λj hj=>hj.elim
   rw[set_comm _ _ (Ne.symm y0)]at t2;have e0:T1[0]?=some (T1[0]'o_):=kG o_;obtain⟨P2,w2⟩:=Ij_ (y:=y) s1 s2 s4 s5 s6 s7 ⟨s8,s9⟩ f2 (by rw[<-s3];exact fi.nd) (by rw[<-s3];exact f3) e0 o_ (λi p hp hi=>rest1 i p hp (by rw[s3];exact hi)) hc;exact hQ _ _ _ _ _ t2 ⟨w2.pos',w2.sound.2⟩
  have eln:ln (H2.set tp (.row true tPg (aZ_ (ds1.set y.toNat (ds1[0]'o_)))))=H2.length:=by simp[ln]
  have elp:∀o,ln (pu (H2.set tp (.row true tPg (aZ_ (ds1.set y.toNat (ds1[0]'o_))))) o)=H2.length+1:=λo=>by simp[ln,pu]
  refine⟨?_,?_⟩
  .simp only[e3_];have A:=gq1 [.row true 9 [.str s]];have A0:=g0 [.row true 9 [.str s]];rw[ad_ A,ai_];refine⟨rfl,?_⟩;rw[ad_ A0,ah_];refine⟨rfl,?_⟩;rw[kV];have B0:=gq0 ([Obj.row true 9 [.str s]]++[.row true 3 [.int .i64 y,.int .i64 x]]);have B1:=g0 ([Obj.row true 9 [.str s]]++[.row true 3 [.int .i64 y,.int .i64 x]]);rw[ad_ B0,au_];refine⟨rfl,?_⟩;rw[ad_ B1,ah_];refine⟨rfl,?_⟩;rw[af_];refine ab_ d_ ?_;rw[ae_];have F:=fin ([Obj.row true 9 [.str s]]++[.row true 3 [.int .i64 y,.int .i64 x]]) H2.length (H2.length+1) rfl t_ (by rw[<-kV,getElem?_append_right t_];simp) (kO _) o_ o_;simp only[dS_,kI,length_set,length_cons,length_nil,kN,kQ]at F ⊢;exact F
  .simp only[e3_];have A:=gq0 [.row true 3 [.int .i64 y,.int .i64 x]];have A0:=g0 [.row true 3 [.int .i64 y,.int .i64 x]];rw[ad_ A,au_];refine⟨rfl,?_⟩;rw[ad_ A0,ah_];refine⟨rfl,?_⟩;rw[kV];have B0:=gq1 ([Obj.row true 3 [.int .i64 y,.int .i64 x]]++[.row true 9 [.str s]]);have B1:=g0 ([Obj.row true 3 [.int .i64 y,.int .i64 x]]++[.row true 9 [.str s]]);rw[ad_ B0,ai_];refine⟨rfl,?_⟩;rw[ad_ B1,ah_];refine⟨rfl,?_⟩;rw[af_];refine ab_ d_ ?_;rw[ae_];have F:=fin ([Obj.row true 3 [.int .i64 y,.int .i64 x]]++[.row true 9 [.str s]]) (H2.length+1) H2.length rfl (by rw[<-kV,getElem?_append_right t_];simp) t_ o_ (kO _) o_;simp only[dS_,kI,length_set,length_cons,length_nil,kN,kQ]at F ⊢;exact F
end
section
variable{B H:Hp}{le tp:Nat}{ds:List Am.PC}{T:List Pg}{Q:Post}{key v:Y_}{P:List Nat}{d:Nat}
theorem GT.all{X A:Nat->Prop}(g:GT B H tp ds T X A)(I:Hp)(h:∀l,B.length<=l->l<H.length->I[l]?=H[l]?):Tr I (some (tp,0)) 48 ds T:=by
 have⟨O,N⟩:=g.ot.at_row;refine (g.ot.keep (λl e=>by grind) λc J l F=>?_).tr;obtain⟨i,D,rfl⟩:=kK J;exact h l (g.base i D l F) (g.onlt i D F)
theorem BC_ (w:fy_ T d P (cD_ T)) (hc:(insK (cD_ T) key v).length<=60) (h1:1<=key.size) (h2:key.size<=6) (h3:v.size<=10) {a2:Pl} {n3:Nat}
 (hQ:∀H' ds' T' X' off',GT B H' tp ds' T' X' off'->JQ_ T T' key v->Q (.tup [yB (some (tp,0)) 48,nN 0]) H'):
 ∀(f k:Nat)(fa:Pl)(ws:List Int)(H:Hp),48-k<f->k<=48->GT B H tp ds T (λ_=>True) (xP_ le fa)->FA H B.length le (.sl (some (tp,0)) 48 5) fa ws->ws.Perm (ld_ T k)->br_.l8 f key v a2 n3 le 0 le 0 (some (tp,0)) 48 48 (k:Int) H Q:=by
 intro f;induction f with
 |zero=>intro k _ _ _ h;omega
 | succ f ih=>
  intro k fa ws H hf hk g hfa hp;have q1:=g.ot.len;have q2:=g.ot.lenT;by_cases hk48:k=48
  .subst hk48;refine CR_ f ⟨g,?_⟩ w hp hc h1 h2 h3 hQ;rcases hfa with h|⟨lf,e,hb,h⟩
   .exact .inl h
   .exact .inr ⟨lf,[],e,h⟩
  ·obtain⟨c0,c1,c2,c3,c4⟩:=g.cells (i:=k) o_;have etN:tN (k:Int)=k:=rfl;rw[br_.l8_eq,az_ s_,af_];refine ab_ s_ ?_;rw[ae_,etN,cP_ c0 c1 c2 c3 c4,an_ o_];have hat:=g.ot.all k o_ o_;have hu:im_ T k=ds[k].u:=by
    unfold im_;rw[kG o_];exact hat.used
   refine aa_ (λe=>?_) λe=>?_
   ·have e:im_ T k=false:=by rw[hu];cases h:ds[k].u<;>simp_all
    have hlw:ws.length<1000:=by
     have:=hp.length_eq;have h2:(ld_ T k).length<=k:=by
      unfold ld_;rw[k9];have:=length_filter_le (λi=> !im_ T i) (List.range k);rwa [length_range]at this
     omega
    rw[kN];refine xi_ hfa g.pre.length_le hlw λlf ws' H' hperm hfa' hlf hlf' hkeep=>?_;have htp:=(kC.1 g.ot.at_row.2).1;refine ih (k+1) (some (lf,0)) ws' H' o_ o_ ((g.keep (λl hl hno=>hkeep l hl (λq=>hno (.inl q)) λo q=>hno (.inr ⟨o,q⟩)) o_).reoff λl hl=>?_) hfa' ?_
    ·rcases hl with rfl|⟨o,e⟩
     .exact g.off _ (.inl rfl)
     .have e:lf=l:=by cases e;rfl
      subst e;exact⟨by have:=g.pre.length_le;omega,o_,λi hi hon=>by have:=g.onlt i hi hon;omega⟩
    .rw[vW_,e];exact hperm.trans (hp.append_right _)
   .have e:im_ T k=true:=by rw[hu];cases h:ds[k].u<;>simp_all
    exact ih (k+1) fa ws H o_ o_ g hfa (by rw[vW_,e,append_nil];exact hp)
variable{x:Pl}{n:Nat}{cs:List Am.PC}
theorem pN_ (hT:Tr H x n cs T) (e0:0<aK_ T) (k1:1<=key.size) (k2:key.size<=6) (k3:v.size<=10) (hc:(insK (cD_ T) key v).length<=60)
 (hQ:∀a ds A H',H<+:H'->(∀I:Hp,(∀l,H.length<=l->l<H'.length->I[l]?=H'[l]?)->Tr I a 48 ds A)->0<aK_ A->cD_ A=insK (cD_ T) key v->Q (.tup [yB a 48,nN 0]) H'):
 br_ [yA x n,gS key,gS v] H Q:=by
 have pA:=bU_ H (.row true tTr [(.sl x n 5)]);have g0:gt (pu H (.row true tTr [(.sl x n 5)])) (ln H) 0=some (.sl x n 5):=by simp[gt,pu,ln]
 refine⟨60,?_⟩;rw[tp_,ad_ g0,ah_];have hTA:=hT.mono pA;refine ik_ hTA λH1 p1=>?_;simp only[aO_,am_];rw[lE e0,aA_ d_];refine pp_ ?_;simp only[aO_,am_];rw[lE k1,lE k2,aA_ d_];refine mu_ ?_;simp only[aO_,am_];rw[lE k3,aA_ d_];obtain⟨P,w⟩:=op_ e0;have hn48:n=48:=by have:=hT.lenT;have:=w.len;omega
 subst hn48;have hs:=tW_ e0;have g1:gt H1 (ln H) 0=some (.sl x 48 5):=b8_ p1 g0;rw[ad_ g1,ah_];refine nz_ (hTA.mono p1) λH2 p2=>?_;simp only[aL_,aI_,bI_,au_,am_,ai_,bf_];have g2:gt H2 (ln H) 0=some (.sl x 48 5):=b8_ p2 g1;rw[Cf_ e0];have work:∀H3:Hp,H2<+:H3->(rd H3 (ln H) 0 λv37=>dL 5 v37 λx38 n39=>cl cA_ [(.agg [(.sl x38 n39 5)])] H3 λr40 H41=>rA r40 λc42=>uC c42 λv43 c44=>dL 5 v43 λx45 n46=>uN c44 (rd (pu H41 (.row true is_ [(.sl x45 n46 5),(.sl none 0 1)])) (ln H41) 0 λv47=>dL 5 v47 λx48 n49=>
  br_.l8 59 key v none 0 (ln H41) 0 (ln H41) 0 x48 n49 (nI n49) 0 (pu H41 (.row true is_ [(.sl x45 n46 5),(.sl none 0 1)])) Q)):=λH3 p3=>by
  have p:=p1.trans (p2.trans p3);rw[ad_ (b8_ p3 g2),ah_];refine mm_ (hTA.mono p) o_ hs λa' ds H4 g=>?_;simp only[eK_,bg_,ah_,bL_];obtain⟨tp,ea,hb,hr,_⟩:=kF_ g.ot.own (by have:=g.ot.len;omega);subst ea;have g4:gt (pu H4 (.row true is_ [(.sl (some (tp,0)) 48 5),(.sl none 0 1)])) (ln H4) 0=some (.sl (some (tp,0)) 48 5):=by simp[gt,pu,ln]
  rw[ad_ g4,ah_];have htp:=(kC.1 hr).1;refine BC_ w hc k1 k2 k3 (λH' ds' T' X' off' gt' q=>hQ _ _ _ _ (((pA.trans p).trans gt'.pre)) (λI hI=>gt'.all I λl a b=>hI l (Nat.le_trans (pA.trans p).length_le a) b) q.pos q.ent) 59 0 none [] _ o_ o_ (((g.gt hs).mono (bU_ H4 _)).reoff λl hl=>?_) (.inl ⟨rfl,rfl,by simp[pu,ln]⟩) (Perm.refl _);rcases hl with rfl|⟨o,e⟩
  .refine⟨g.pre.length_le,by unfold ln;omega,λi hi hon=>?_⟩;have:=(g.gt hs).onlt i hi hon;unfold ln at this;omega
  .cases e
 cases hf:(b7_ (cD_ T) key).isSome with
 | false=>
  rw[az_ d_];refine zF_ (hTA.mono (p1.trans p2)) g2 o_ hs ?_;simp only[aO_,ai_];have hl:(insK (cD_ T) key v).length=(cD_ T).length+1:=by
   rw[vC_ w.sub.asc.1];cases h:b7_ (cD_ T) key with
   |none=>rfl
   |some _=>rw[h]at hf;cases hf
  rw[y0_ e0,aA_ s_];exact work H2 (k8 _)
 |true=>
  rw[aA_ d_];exact work H2 (k8 _)
end
section
variable{H:Hp}{Q:Post}{x:Pl}{n:Nat}{T:List Pg}{cs:List Am.PC}{key:Y_}
theorem Ce_(N:Tr H x n cs T)(hn:n*80<=140737488351232)(F:0<aK_ T)(V:(b7_ (cD_ T) key).isSome=true)
 (hQ:∀a Y T' H',H<+:H'->(∀I:Hp,(∀l,H.length<=l->l<H'.length->I[l]?=H'[l]?)->Tr I a 48 Y T')->0<aK_ T'->cD_ T'=iE_ (cD_ T) key->Q (.tup [yB a 48,.s (.bool true),nN 0]) H'):
 cX_ [yA x n,gS key] H Q:=by
 refine⟨2,?_⟩;rw[wL_];refine nz_ N λH1 G=>?_;simp[aL_];have e1:kf_ 1100 T=0:=by unfold kf_;rw[lE F]
 rw[e1,aA_ t_,Cf_ F];have⟨P,w⟩:=op_ F;have D:n=48:=by have:=N.lenT;have:=w.len;omega
 subst D;have Z:=tW_ F;refine mm_ (N.mono G) o_ Z λa' Y I g=>?_;simp[eK_];have⟨tp,ea,gm⟩:=g.cm Z;rw[V,az_ rfl];have⟨v,hv⟩:=Option.isSome_iff_exists.1 V;have A:=vv_ hv;refine⟨aK_ T,yB_ (aK_ T) (a:=0) gm w.sub w.nodup (λ_ _=>trivial) ⟨_,A,rfl⟩ o_ λH3 ds3 T3 X3 P3 g3 dr _=>?_⟩;refine Fh_ g3 w dr (by have:=HT_ (ps:=cD_ T) (k:=key);have:=w.count;omega) λH4 J T4 X4 r hw=>?_;have⟨d4,P4,U⟩:=hw;rw[cX_.l8_eq,kQ,ad_ r.gtE,ah_];have hb:=G.length_le;refine hQ _ J T4 _ (G.trans r.pre) (λH5 k=>(r.ot.keep (λl e=>?_) λc W l O=>?_).tr) U.pos' U.sound.2
 .exact k l (by have:=r.ot.own.above e;omega) (r.ot.own.lt' e)
 .obtain⟨i,hi,rfl⟩:=kK W;exact k l (by have:=r.base i hi l O;omega) (r.ot.onlt W O)
end
def TrP(P:Nat->Prop)(H:Hp)(x:Pl)(n:Nat)(cs:List PC)(A:List Pg):Prop:=∀H':Hp,(∀l,l<H.length-> ¬ P l->H'[l]?=H[l]?)->Tr H' x n cs A
structure TrX(H:Hp)(x:Pl)(n:Nat)(ps:KV)(P:Nat->Prop):Prop where
 ex:∃cs A,0<aK_ A/\cD_ A=ps/\TrP P H x n cs A
theorem ze_(h:0<aK_ T):d7_ T=cD_ T:=by unfold d7_;rw[lE h]
theorem HK_{H G:Hp}(h:∀l,l<H.length->G[l]?=H[l]?):H<+:G:=g1_ (Nat.le_of_not_lt λq=>by
 have:=h _ q;rw[getElem?_eq_none (kO _),kG q]at this;cases this) h
section
variable{H:Hp}{Q:Post}{x:Pl}{n:Nat}{ps:KV}{k v:Y_}{P:Nat->Prop}
theorem TrP.keep(h:TrP P H x n cs A)(J:H.length<=H'.length)(e:∀l,l<H.length-> ¬ P l->H'[l]?=H[l]?):TrP P H' x n cs A:=λI k=>h I λl a b=>by grind
theorem TrP.mono(h:TrP P H x n cs A)(p:H<+:H'):TrP P H' x n cs A:=h.keep p.length_le λl a _=>aS_ p a
theorem TrP.tr(h:TrP P H x n cs A):Tr H x n cs A:=h H λ_ _ _=>rfl
theorem TrP.of(h:Tr H x n cs A):TrP (λ_=>False) H x n cs A:=λI k=>h.mono (HK_ λl a=>k l a id)
theorem TrX.keep(h:TrX H x n ps P)(J:H.length<=H'.length)(e:∀l,l<H.length-> ¬ P l->H'[l]?=H[l]?):TrX H' x n ps P:=by
 have⟨F,A,r,D,G⟩:=h.ex;exact⟨F,A,r,D,G.keep J e⟩
theorem TrX.mono(h:TrX H x n ps P)(p:H<+:H'):TrX H' x n ps P:=h.keep p.length_le λl a _=>aS_ p a
theorem TrX.tr(h:TrX H x n ps P):TrK H x n ps:=by
 have⟨F,A,r,D,G⟩:=h.ex;exact⟨F,A,G.tr,r,by rw[ze_ r];exact D⟩
theorem Dv_(r:Tr H x n cs A)(h:0<aK_ A):n=48:=by
 have⟨P,w⟩:=op_ h;have:=r.lenT;have:=w.len;omega
theorem Jj_(h:TrX H x n ps P)(Y:∀l,P l->l<H.length)(I:(b7_ ps k).isSome=true)
 (O:∀a H',H<+:H'->TrX H' a 48 (iE_ ps k) P->Q (.tup [yB a 48,.s (.bool true),nN 0]) H'):cX_ [yA x n,gS k] H Q:=by
 have⟨Z,A,r,F,V⟩:=h.ex;have D:=V.tr;subst F;refine Ce_ D (by rw[Dv_ D r];omega) r I λa U N H' p t J G=>O a H' p ⟨U,N,J,G,λW q=>t W λl a b=>q l b λz=>by grind⟩
theorem HY_(h:TrX H x n ps P)(Y:∀l,P l->l<H.length)(O:1<=k.size)(U:k.size<=6)(I:v.size<=10)(J:(insK ps k v).length<=60)
 (V:∀a H',H<+:H'->TrX H' a 48 (insK ps k v) P->Q (.tup [yB a 48,nN 0]) H'):br_ [yA x n,gS k,gS v] H Q:=by
 have⟨Z,A,r,F,D⟩:=h.ex;subst F;refine pN_ D.tr r O U I J λa W N H' p t F G=>V a H' p ⟨W,N,F,G,λM q=>t M λl a b=>q l b λz=>by grind⟩
end
theorem G4_{ps A:KV}(F:Asc ps)(D:(A.map (·.1)).Nodup)(h:∀k,b7_ ps k=look A k):ps.Perm A:=by
 refine (perm_ext_iff_of_nodup (g6_ (td_ F)) (g6_ D)).2 λp=>⟨λr=>?_,λr=>?_⟩;exact cW_ (by rw[<-h];exact ln_ F r);exact vv_ (by rw[h];exact hi_ D r)
theorem ye_{α:Type}{l:List α}(hi:i<l.length)(k:α):k∈l.take (i+1)↔k∈l.take i\/k=l[i]:=by
 rw[take_add_one,kG hi,kD];simp
theorem r1_{kv:KV}(hi:i<kv.length)(k:Y_):k∈(kv.take (i+1)).map (·.1)↔k∈(kv.take i).map (·.1)\/k=kv[i].1:=by
 rw[take_add_one,kG hi,kL,kD];simp
theorem yW_(A:Asc kv)(hi:i<kv.length):kv[i].1∉(kv.take i).map (·.1):=λq=>by
 have⟨p,D,e⟩:=lA.1 q;obtain⟨j,r,rfl⟩:=kK D;rw[lC]at r;rw[getElem_take]at e;have:=kS.1 A j i o_ hi o_;rw[e,bO_]at this;cases this
section
variable{H:Hp}{Q:Post}{sp ms ml mi:Nat}{c4:GV}{st:StD}{x:Pl}{n:Nat}{kv:KV}{E:Nat->Sm}{P:Nat->Prop}
open Classical in
theorem uP_ (h:eZ_ H sp (.sl x n 5) ms ml mi c4 st) (ok:y5_ st) (hn:d8_ st<=60) (hX:TrX H x n kv P) (hP:∀l,P l->l<H.length)
 (hQ:∀H' x' kv',H<+:H'->TrX H' x' 48 kv' P->kv'.Perm (ti_ st)->Q (yA x' 48) H'):
 aN_ E [yQ sp] H Q:=by
 have hT:=hX.tr;obtain⟨cs0,A0,hT0,h0,e0⟩:=hT.ex;have hkv:mT_ kv:=by rw[<-e0];exact zB_ A0
 have hka:Asc kv:=hT.asc;have hkl:kv.length<=60:=by rw[<-e0];exact ns_ A0
 have hn48:=Dv_ hT0 h0;refine⟨kv.length+1601,?_⟩;rw[oZ_];obtain⟨g0,_⟩:=h.rd;simp only[ae_,kN,kQ];rw[ad_ g0,ah_];have hn3:st.snaps.length<=60/\st.links.length<=60/\st.inos.length<=60:=by unfold d8_ at hn;omega
 refine p3_ h ok o_ λH1 mw ps p1 M1 hmw hp=>?_;simp only[aO_,cZ_];rw[ad_ (cf_ p1 g0),ah_];refine⟨rfl,?_⟩;refine ps_ (hT0.mono p1) λa m H2 p2 o2 l2=>?_;simp only[aL_,aI_,bI_,ah_,ai_,bf_,e3_,dS_];rw[e0]at o2 l2;subst l2;have hps:ps.length<=60:=by rw[hp.length_eq];unfold ti_;unfold d8_ at hn;simp;omega
 have M2:=M1.keep (aS_ p2 M1.lt);have nd:=M1.nodup;have p12:H<+:H2:=p1.trans p2;have hmw2:=M2.lt;have sz_ps:∀p∈ps,(1<=p.1.size/\p.1.size<=6)/\p.2.size<=10:=λp hp'=>by
  have hq:=hp.mem_iff.1 hp';unfold ti_ at hq;simp only[kD,lA]at hq;rcases hq with⟨z,hz,rfl⟩|⟨z,hz,rfl⟩|⟨z,hz,rfl⟩
  .exact⟨Ef_ (ok.snaps z hz).1,Et_ (ok.snaps z hz).2⟩
  .exact⟨Eq_ (ok.links z hz).2.1,by show (uz_ z.2).size<=10;unfold uz_;rw[iC_];simp⟩
  .exact⟨by show 1<=(nF_ z.1).size/\(nF_ z.1).size<=6;unfold nF_;rw[iC_];simp,D9_ (ok.inos z hz).2⟩
 have loop13:∀(zs:List Y_)(az:Pl),zs.Perm (ps.map (·.1))->∀(f i:Nat)(G:Hp)(x':Pl)(kv':KV),zs.length-i<f->i<=zs.length->H<+:G->(∀j (hj:j<zs.length),∃l,az=some (l,0)/\gt G l j=some (.str zs[j]))->dC_ ekS evX G mw ps->dC_ ekS evX G H2.length kv->
  TrX G x' 48 kv' P->(∀k,b7_ kv' k=if k∈zs.take i then look ps k else if (look ps k).isSome=true then b7_ kv k else none)->
  aN_.l13 E f none 0 x' 48 (some mw) (some H2.length) az zs.length (nI zs.length) (i:Int) G Q:=by
  intro zs az hz f;induction f with
  |zero=>intro i G x' kv' h;omega
  | succ f ih=>
   intro i G x' kv' hf hi hG hr M D t hfk;have hzl:zs.length<=900:=by rw[hz.length_eq,k9];omega
   rw[aN_.l13_eq];refine aa_ (λe=>?_) λe=>?_
   ·have hi':i<zs.length:=by simpa using e
    obtain⟨l,rfl,hc⟩:=hr i hi';refine ab_ rfl (ab_ s_ ?_);have etn:∀k:Nat,tN (k:Int)=k:=λ_=>rfl;simp only[ae_,kN,etn,Nat.mul_one];rw[ad_ hc,au_];have hin:=hz.mem_iff.1 (kE hi');obtain⟨w,hw⟩:=(j1_ (ps:=ps) _).1 hin;have hnt:zs[i]∉zs.take i:=λq=>by
     obtain⟨j,hj,e⟩:=kK q;rw[lC]at hj;rw[getElem_take]at e;exact kS.1 (hz.nodup_iff.2 nd) j i o_ hi' o_ e
    have hcur:b7_ kv' zs[i]=b7_ kv zs[i]:=by rw[hfk,if_neg hnt,hw,if_pos (show (some w).isSome=true from rfl)]
    have e2:ac_ .i64 ((i:Int)+1)=((i+1:Nat):Int):=an_ o_;have step:∀(kv2:KV),(∀k,b7_ kv2 k=if zs[i]=k then some w else b7_ kv' k)->∀k,b7_ kv2 k=if k∈zs.take (i+1) then look ps k else if (look ps k).isSome=true then b7_ kv k else none:=λkv2 h2 k=>by
     rw[h2];by_cases q:zs[i]=k
     .subst q;rw[if_pos rfl,if_pos ((ye_ hi' _).2 (.inr rfl)),hw]
     .rw[if_neg q,hfk];have:k∈zs.take (i+1)↔k∈zs.take i:=by rw[ye_ hi'];exact⟨λz=>z.resolve_right λw=>q w.symm,.inl⟩
      simp only[this]
    have hc2:(insK kv' zs[i] w).length<=60:=by
     have:=(dG_ (ps.map (·.1)) ((insK kv' zs[i] w).map (·.1)) (td_ (qU_ t.tr.asc _ _)) λk hk=>?_).1
     .rw[k9,k9]at this;omega
     ·obtain⟨p,hp,rfl⟩:=lA.1 hk;have hp:=ln_ (qU_ t.tr.asc _ _) hp;rw[yS_ t.tr.asc]at hp;by_cases q:zs[i]=p.1
      .rw[<-q];exact hin
      ·rw[lH q]at hp;simp only at hp;rw[hfk]at hp;split at hp
       .exact (j1_ _).2 ⟨_,hp⟩
       .split at hp
        .rename_i z;exact (j1_ _).2 (Option.isSome_iff_exists.1 z)
        .cases hp
    refine fv_ (ev:=evX) okS D zs[i] (λv0 hv0=>?_) λhv0=>?_;simp only[evX,bI_,au_];rw[aA_ (show (!true)=false from rfl)];refine fv_ (ev:=evX) okS M zs[i] (λv hv=>?_) λhv=>by rw[hw]at hv;cases hv
    rw[hw]at hv;cases hv;simp only[evX,bI_,au_];refine aa_ (λe=>?_) λe=>?_
    rotate_left
    .have e:v0=w:=by simpa using e
     rw[e2];refine ih (i+1) G x' kv' o_ o_ hG hr M D t (step _ λk=>?_);by_cases q:zs[i]=k
     .subst q;rw[if_pos rfl,hcur,ln_ hka (cW_ hv0),e]
     .rw[if_neg q]
    simp only[bI_,au_];rw[az_ (show (!false)=true from rfl)]
    all_goals
     refine fv_ (ev:=evX) okS M zs[i] (λv hv=>?_) λhv=>by rw[hw]at hv;cases hv
     rw[hw]at hv;cases hv
     simp only[evX,bI_,au_]
     obtain⟨⟨z1,z2⟩,z3⟩:=sz_ps _ (cW_ hw)
     refine HY_ t (λl hl=>by have:=hP l hl;have:=hG.length_le;omega) z1 z2 z3 hc2 λa' G2 q2 t2=>?_
     simp only[aL_,aI_,eQ_,bg_,ah_,bL_,bI_,ai_,bf_]
     rw[e2]
     refine ih (i+1) G2 a' _ o_ o_ (hG.trans q2) (λj hj=>?_) (M.keep (aS_ q2 M.lt)) (D.keep (aS_ q2 D.lt)) t2 (step _ λk=>?_)
     .obtain⟨l',e',c'⟩:=hr j hj;exact⟨l',e',cf_ q2 c'⟩
     .rw[yS_ t.tr.asc];by_cases q:zs[i]=k
      .rw[lE q,if_pos q]
      .rw[lH q,if_neg q]
   ·have hi':i=zs.length:=by simp at e;omega
    refine hQ G x' kv' hG t ((G4_ t.tr.asc nd λk=>?_).trans hp);rw[hfk,hi',take_length];by_cases q:k∈zs
    .rw[if_pos q]
    ·have:look ps k=none:=by
      cases z:look ps k with
      |none=>rfl
      |some v=>exact absurd (hz.mem_iff.2 ((j1_ k).2 ⟨v,z⟩)) q
     rw[if_neg q,this];rfl
 have loop5:∀(f i:Nat)(G:Hp)(x':Pl)(n':Nat)(kv':KV),1500+(kv.length-i)<f->i<=kv.length->(∀l,l<H2.length->G[l]?=H2[l]?)->H2.length<G.length->dC_ ekS evX G H2.length (kv.take i)->
  TrX G x' n' kv' (λl=>P l\/l=H2.length)->(∀k,b7_ kv' k=if k∈(kv.take i).map (·.1)/\look ps k=none then none else b7_ kv k)->
  aN_.l5 E f none 0 x' n' (some mw) (some H2.length) a kv.length (nI kv.length) (i:Int) G Q:=by
  intro f;induction f with
  |zero=>intro i G x' n' kv' h;omega
  | succ f ih=>
   intro i G x' n' kv' hf hi hk hl D t hfk;have M:=M2.keep (hk _ hmw2);rw[aN_.l5_eq];refine aa_ (λe=>?_) λe=>?_
   ·have hi':i<kv.length:=by simpa using e
    obtain⟨l,o,rfl,q1,q2⟩:=Kv.get (H:=H2) ⟨o2.cells,rfl⟩ hi';have hlo:=o2.ltAny rfl;refine ab_ rfl (ab_ s_ ?_);have etn:∀k:Nat,tN (k:Int)=k:=λ_=>rfl;simp only[ae_,etn];have r1:gt G l (o+i*2)=some (.str kv[i].1):=by unfold gt at q1 ⊢;rw[hk l hlo];exact q1
    have r2:gt G l (o+i*2+1)=some (.str kv[i].2):=by unfold gt at q2 ⊢;rw[hk l hlo];exact q2
    rw[ad_ r1,au_,ad_ r2,au_];refine u6_ D (λq hq e=>yW_ hka hi' (lA.2 ⟨q,hq,e⟩)) λG1 l1 k1 D1=>?_;have e1:kv.take i++[(kv[i].1,kv[i].2)]=kv.take (i+1):=by rw[take_add_one,kG hi'];rfl
    rw[e1]at D1;have e2:ac_ .i64 ((i:Int)+1)=((i+1:Nat):Int):=an_ o_;rw[e2];have t1:=t.keep (H':=G1) o_ λl _ hne=>k1 l λz=>hne (.inr z);have M':=M.keep (k1 mw o_);have hfi:b7_ kv kv[i].1=some kv[i].2:=ln_ hka (kE hi');have hcur:b7_ kv' kv[i].1=some kv[i].2:=by rw[hfk,if_neg λz=>yW_ hka hi' z.1,hfi]
    refine fv_ (ev:=evX) okS M' kv[i].1 (λw hw=>?_) λhw=>?_
    ·simp only[evX,bI_,au_];rw[aA_ (show (!true)=false from rfl)];refine ih (i+1) G1 x' n' kv' o_ o_ (λl hl'=>by rw[k1 l o_,hk l hl']) o_ D1 t1 λk=>?_;rw[hfk];by_cases q:k=kv[i].1
     .subst q;rw[if_neg (λz=>by rw[hw]at z;cases z.2),if_neg λz=>by rw[hw]at z;cases z.2]
     .have:k∈(kv.take (i+1)).map (·.1)↔k∈(kv.take i).map (·.1):=by rw[r1_ hi'];exact⟨λz=>z.resolve_right q,.inl⟩
      simp only[this]
    ·simp only[bI_,au_];rw[az_ (show (!false)=true from rfl)];refine Jj_ t1 (λl hl=>by have:=p12.length_le;rcases hl with hl|rfl;have:=hP l hl;omega;omega) (by rw[hcur];rfl) λa' G2 p' t2=>?_;simp only[aL_,aI_,eQ_,bg_,ah_,bL_,bI_,am_,ai_,bf_];have:=p'.length_le;refine ih (i+1) G2 a' 48 _ o_ o_ (λl hl'=>by rw[aS_ p' o_,k1 l o_,hk l hl']) o_ (D1.keep (aS_ p' D1.lt)) t2 λk=>?_;rw[EF_ t1.tr.asc,hfk];by_cases q:kv[i].1=k
     .subst q;rw[lE rfl];show none=_;rw[if_pos ⟨(r1_ hi' _).2 (.inr rfl),hw⟩]
     .rw[lH q];have:k∈(kv.take (i+1)).map (·.1)↔k∈(kv.take i).map (·.1):=by rw[r1_ hi'];exact⟨λz=>z.resolve_right λw=>q w.symm,.inl⟩
      simp only[this]
   ·have hi':i=kv.length:=by simp at e;omega
    subst hi';rw[take_length]at D hfk;refine⟨1,?_⟩;rw[fH_];simp only[aO_,dS_,e3_];refine ym_ M (λp hp'=>by have:=(sz_ps p hp').1;omega) o_ (.inr rfl) λzs hz hasc G2 az q2 hr=>?_;simp only[aO_,ah_];have t':TrX G x' n' kv' P:=by
     obtain⟨F,A,r,D,K⟩:=t.ex;exact⟨F,A,r,D,λI k=>K I λl a b=>k l a λz=>b (.inl z)⟩
    replace t':=t'.mono q2;obtain⟨cs',A',hT',h',_⟩:=t.tr.ex;have:=Dv_ hT' h';subst this;have hzl:zs.length<=900:=by rw[hz.length_eq,k9];omega
    refine loop13 zs az hz f 0 G2 x' kv' o_ o_ ((p12.trans (g1_ o_ hk)).trans q2) hr (M.keep (aS_ q2 M.lt)) (D.keep (aS_ q2 D.lt)) t' λk=>?_;rw[hfk];simp only[take_zero,not_mem_nil,if_false];cases z:look ps k with
    |some v=>simp
    |none=>
     by_cases q:k∈kv.map (·.1)
     .simp[q]
     .have:b7_ kv k=none:=hl_ λy hy e=>q (lA.2 ⟨y,hy,e⟩);simp[q,this]
 have tX:TrX (H2++[Obj.map [] 0]) x n kv (λl=>P l\/l=H2.length):=by
  obtain⟨F,A,r,D,K⟩:=hX.ex;have:=p12.length_le;exact⟨F,A,r,D,λI k=>K I λl a b=>by rw[k l s_ λz=>z.elim b o_,kM o_,aS_ p12 a]⟩
 exact loop5 _ 0 _ x n kv o_ o_ (λl hl=>by rw[kM hl]) t_ (lw_ H2) tX λk=>by simp
end
def h6_ (id frm:Int) (st:StD) (l:LKey × LVal):StD:=match decide (l.1.1=frm) with
 |false=>st
 |true=>match look st.inos l.2.1 with
  |none=>st
  |some y=>⟨st.snaps,st.links++[((id,l.1.2),(l.2.1,false))],fz_ st.inos l.2.1 ⟨y.links+1,y.content⟩⟩
def rP_ (st:StD) (parent:Y_):StD:=match decide (parent=mkS []) with
 |true=>st
 |false=>match look st.snaps parent with
  |none=>st
  |some x=>st.links.foldl (h6_ (ec_ st) x.id) st
def d1_(st:StD)(name parent:Y_)(kind:Int):StD:=let s:=rP_ st parent;⟨s.snaps++[(name,⟨ec_ st,kind,parent,mkS []⟩)],s.links,s.inos⟩
def Iu_(st:StD)(l:LKey × LVal):FileR:=(l.1.2,(bA_ st l).2.1,false)
structure Kid(st:StD)(id frm:Int)(ls:List (LKey × LVal))(st':StD):Prop where
 sto:Sto st'
 snaps:st'.snaps=st.snaps
 len:st'.links.length<=st.links.length+ls.length
 nos:st'.inos.length=st.inos.length
 sub:∀l,l∈st'.links↔l∈st.links\/∃m∈ls,m.1.1=frm/\l=((id,m.1.2),(m.2.1,false))
 text:∀k,(∃y',(k,y')∈st'.inos)↔∃y,(k,y)∈st.inos
 same:∀k y' y,(k,y')∈st'.inos->(k,y)∈st.inos->y'.content=y.content
theorem Bc_ {st:StD} (h:Sto st) {id frm:Int} (h1:1<=id) (h2:id<=255) (hu:∀l∈st.links,l.1.1≠id) (hl:st.links.length<=60) {ls:List (LKey × LVal)} {l:LKey × LVal} (hin:l∈st.links) (hsub:∀m∈ls,m∈st.links) (hnew:∀m∈ls,m.1≠l.1) (hls:ls.length<=60) {st':StD} (k:Kid st id frm ls st'):Kid st id frm (ls++[l]) (h6_ id frm st' l):=by
 unfold h6_;cases e:decide (l.1.1=frm) with
 | false=>
  dsimp only;have e': ¬ l.1.1=frm:=by simpa using e
  refine⟨k.sto,k.snaps,by rw[kI];have:=k.len;omega,k.nos,λm=>?_,k.text,k.same⟩;rw[k.sub];constructor
  .rintro (q|⟨x,hx,q⟩)
   .exact .inl q
   .exact .inr ⟨x,by simp[hx],q⟩
  ·rintro (q|⟨x,hx,q1,q2⟩)
   .exact .inl q
   ·rcases kD.1 hx with z|z
    .exact .inr ⟨x,z,q1,q2⟩
    .have:x=l:=by simpa using z
     subst this;exact absurd q1 e'
 | true=>
  dsimp only;have e':l.1.1=frm:=by simpa using e
  obtain⟨y0,_,hy0,_⟩:=h.ino hin;obtain⟨y,hy⟩:=(k.text l.2.1).2 ⟨y0,hy0⟩;have hlk:=(d4_ k.sto.nd.inos).2 hy;rw[hlk];dsimp only;obtain⟨e1,e2⟩:=dQ_.1 k.sto.lk;have hcy:=e2 _ hy;dsimp only at hcy;have hmay:=(k.sto.ok.inos _ hy).2;have hcl:ft_ st' l.2.1<=st'.links.length:=countP_le_length;have hyb:y.links<=120:=by have:=k.len;omega
  have hpm:=rX_ k.sto.nd.inos (v:=(⟨y.links+1,y.content⟩:InoR)) hlk;have hkey:∀m∈st'.links,m.1≠(id,l.1.2):=λm hm q=>by
   rcases (k.sub m).1 hm with z|⟨x,hx,z1,z2⟩
   .exact hu m z (by rw[q])
   .rw[z2]at q;have q2':=congrArg (λz:LKey=>z.2) q;have q2:x.1.2=l.1.2:=q2';exact hnew x hx (Prod.ext (by rw[z1,e']) q2)
  have hc:∀n,ft_ ⟨st'.snaps,st'.links++[((id,l.1.2),(l.2.1,false))],fz_ st'.inos l.2.1 ⟨y.links+1,y.content⟩⟩ n=ft_ st' n+(if l.2.1=n then 1 else 0):=λn=>by
   unfold ft_;dsimp only;rw[countP_append];by_cases z:l.2.1=n<;>simp[z]
  refine⟨⟨⟨k.sto.ok.snaps,λm hm=>?_,λx hx=>?_⟩,⟨k.sto.nd.snaps,?_,wr_ k.sto.nd.inos hlk⟩,dQ_.2 ⟨λm hm=>?_,λx hx=>?_⟩⟩,k.snaps,?_,?_,λm=>?_,λn=>?_,λn y' y'' g1 g2=>?_⟩
  ·rcases kD.1 hm with q|q
   .exact k.sto.ok.links m q
   .have:m=((id,l.1.2),(l.2.1,false)):=by simpa using q
    subst this;obtain⟨_,c2,c3,c4⟩:=h.ok.links l hin;exact⟨⟨h1,h2⟩,c2,c3,c4⟩
  ·rcases (hpm x).1 hx with q|q
   .subst q;obtain⟨c1,c2⟩:=k.sto.ok.inos _ hy;refine⟨c1,?_⟩;unfold eg_ at c2 ⊢;simp only[kR]at c2 ⊢;have c21:1<=y.links:=by simpa using c2.1.1
    exact⟨⟨s_,s_⟩,c2.2⟩
   .exact k.sto.ok.inos x q.1
  .dsimp only;rw[kL,kT];refine⟨k.sto.nd.links,t_,λa ha b hb q=>?_⟩;obtain⟨m,hm,rfl⟩:=lA.1 ha;have:b=(id,l.1.2):=by simpa using hb
   exact hkey m hm (by rw[q,this])
  ·dsimp only;have tomem:∀n z,(n,z)∈st'.inos->∃z',(n,z')∈fz_ st'.inos l.2.1 ⟨y.links+1,y.content⟩:=λn z hz=>by
    by_cases q:n=l.2.1
    .exact⟨_,(hpm _).2 (.inl (by rw[q]))⟩
    .exact⟨z,(hpm _).2 (.inr ⟨hz,q⟩)⟩
   rcases kD.1 hm with q|q
   .obtain⟨z,hz⟩:=e1 m q;exact tomem _ z hz
   .have:m=((id,l.1.2),(l.2.1,false)):=by simpa using q
    subst this;exact tomem _ y hy
  .rw[hc];rcases (hpm x).1 hx with q|q
   .subst q;grind
   .rw[if_neg (Ne.symm q.2)];exact e2 x q.1
  .dsimp only;rw[kI,kI];have:=k.len;simp;omega
  .dsimp only;rw[<-k.nos];unfold fz_;rw[hlk,k9]
  ·dsimp only;rw[kD,k.sub];constructor
   .rintro ((q|⟨x,hx,q⟩)|q)
    .exact .inl q
    .exact .inr ⟨x,by simp[hx],q⟩
    .exact .inr ⟨l,t_,e',by simpa using q⟩
   ·rintro (q|⟨x,hx,q1,q2⟩)
    .exact .inl (.inl q)
    ·rcases kD.1 hx with z|z
     .exact .inl (.inr ⟨x,z,q1,q2⟩)
     .have:x=l:=by simpa using z
      subst this;exact .inr (by simp[q2])
  ·dsimp only;rw[<-k.text];constructor
   .rintro⟨y',q⟩;rcases (hpm _).1 q with z|z
    .have:=congrArg Prod.fst z;dsimp only at this;exact⟨y,by rw[this];exact hy⟩
    .exact⟨y',z.1⟩
   .rintro⟨y',q⟩;by_cases z:n=l.2.1
    .exact⟨_,(hpm _).2 (.inl (by rw[z]))⟩
    .exact⟨y',(hpm _).2 (.inr ⟨q,z⟩)⟩
  .dsimp only at g1;rcases (hpm _).1 g1 with z|z
   .have z1:=congrArg Prod.fst z;have z2:=congrArg Prod.snd z;dsimp only at z1 z2;rw[z2];rw[z1]at g2;exact k.same l.2.1 y y'' hy g2
   .exact k.same n y' y'' z.1 g2
theorem Am_ (h:Sto st) {id frm:Int} (N:1<=id) (G:id<=255) (I:∀l∈st.links,l.1.1≠id) (J:st.links.length<=60):∀(D ls:List (LKey × LVal)) (r:StD),st.links=ls++D->Kid st id frm ls r->Kid st id frm st.links (D.foldl (h6_ id frm) r)
 |[],ls,r,e,k=>by
  grind
 |m::D,ls,r,e,k=>by
  have O:m∈st.links:=by grind
  have A:=h.nd.links;rw[e,kL,kT]at A;refine Am_ h N G I J D (ls++[m]) _ g_ (Bc_ h N G I J O (λx F=>by grind) (λx F q=>?_) ?_ k)
  .exact A.2.2 x.1 (lA.2 ⟨x,F,rfl⟩) m.1 t_ q
  .grind
theorem Kid.file(h:Sto st){id frm:Int}(k:Kid st id frm ls st')(I:l∈st.links)(G:l'.2.1=l.2.1):(bA_ st' l').2.1=(bA_ st l).2.1:=by
 have⟨y,F,D,_⟩:=h.ino I;have⟨J,r⟩:=(k.text l.2.1).2 ⟨y,D⟩;have A:=(d4_ k.sto.nd.inos).2 r;unfold bA_;rw[G,F,A];exact k.same _ _ _ r D
theorem Br_ (h:hF_ is name parent kind=0):aX_ name 4=true/\(parent=mkS []\/aX_ parent 4=true)/\(kind=0\/kind=1)/\ch_ is name=none/\kM_ is parent=true/\is.length<6:=by
 unfold hF_ at h;cases F:aX_ name 4 with
 |false=>rw[F]at h;cases h
 | true=>
  rw[F]at h;cases I:decide (parent=mkS [])||aX_ parent 4 with
  |false=>rw[I]at h;cases h
  | true=>
   rw[I]at h;cases A:eqI kind 0||eqI kind 1 with
   |false=>rw[A]at h;cases h
   | true=>
    rw[A]at h;cases D:ch_ is name with
    |some i=>rw[D]at h;cases h
    | none=>
     rw[D]at h;cases G:kM_ is parent with
     |false=>rw[G]at h;cases h
     | true=>
      rw[G]at h;cases r:leI 6 is.length with
      |true=>rw[r]at h;cases h
      |false=>
       refine⟨rfl,?_,?_,rfl,rfl,by simp at r;omega⟩
       .grind
       .simp_all
structure JW_(st st':StD)(name:Y_)(id:Int)(kind:Int)(parent:Y_):Prop where
 good:dY_ st'
 snaps:st'.snaps=st.snaps++[(name,⟨id,kind,parent,mkS []⟩)]
 bare:∀fs,ce_ st' id fs->∀f∈fs,f.2.2=false
theorem wt_ (h:Sto st) (N:d8_ st<=60) (r:Y_):∃frm ls,Kid st (ec_ st) frm ls (rP_ st r)/\(ls=[]\/(r≠mkS []/\ls=st.links/\∃x,look st.snaps r=some x/\frm=x.id)):=by
 unfold d8_ at N;have⟨⟨I,F⟩,_,k4⟩:=sj_ (st:=st) o_;have base:∀frm,Kid st (ec_ st) frm [] st:=λfrm=>⟨h,rfl,t_,rfl,λl=>by simp,λk=>Iff.rfl,λk y U G J=>by
  have D:=(d4_ h.nd.inos).2 G;have A:=(d4_ h.nd.inos).2 J;rw[D]at A;rw[Option.some.inj A]⟩
 unfold rP_;cases e:decide (r=mkS []) with
 |true=>exact⟨0,[],base 0,.inl rfl⟩
 | false=>
  cases O:look st.snaps r with
  |none=>exact⟨0,[],base 0,.inl rfl⟩
  |some x=>
   exact⟨x.id,st.links,Am_ h I F k4 o_ st.links [] st rfl (base x.id),.inr ⟨by simpa using e,rfl,x,rfl,rfl⟩⟩
theorem Ai_ {st:StD} (g:dY_ st) (hm:d8_ st<=60) {is:List InfoR} (his:cy_ st is) {name parent:Y_} {kind:Int} (hp:hF_ is name parent kind=0):JW_ st (d1_ st name parent kind) name (ec_ st) kind parent:=by
 obtain⟨w1,w2,w3,w4,w5,w6⟩:=Br_ hp;have hm':=hm;unfold d8_ at hm';obtain⟨⟨k1,k2⟩,k3,k4⟩:=sj_ (st:=st) o_;obtain⟨frm,ls,K,hls⟩:=wt_ g.sto hm parent;have hsn:(d1_ st name parent kind).snaps=st.snaps++[(name,⟨ec_ st,kind,parent,mkS []⟩)]:=by
  unfold d1_;dsimp only;rw[K.snaps]
 have hlk:(d1_ st name parent kind).links=(rP_ st parent).links:=rfl;have hin:(d1_ st name parent kind).inos=(rP_ st parent).inos:=rfl;have hfile:∀l,bA_ (d1_ st name parent kind) l=bA_ (rP_ st parent) l:=λl=>by unfold bA_;rw[hin]
 have hslen:is.length=st.snaps.length:=by have:=his.perm.length_eq;simpa using this
 have hnew:∀x∈st.snaps,x.1≠name:=λx hx e=>by
  obtain⟨i,hi,ei,_⟩:=his.put g.sto.nd.snaps hx;unfold ch_ at w4;rw[find?_eq_none]at w4;exact w4 i hi (by rw[ei];simpa using e)
 have hlsub:∀m∈ls,m∈st.links:=λm h=>by
  rcases hls with q|⟨_,q,_⟩
  .rw[q]at h;cases h
  .rw[q]at h;exact h
 have other:∀j,j≠ec_ st->∀fs,ce_ (d1_ st name parent kind) j fs↔ce_ st j fs:=λj hj fs=>by
  have key:∀f,(∃l∈(d1_ st name parent kind).links,l.1.1=j/\f=bA_ (d1_ st name parent kind) l)↔∃l∈st.links,l.1.1=j/\f=bA_ st l:=λf=>by
   have same:∀l∈st.links,bA_ (d1_ st name parent kind) l=bA_ st l:=λl hl=>by
    rw[hfile];exact Prod.ext rfl (Prod.ext (K.file g.sto hl rfl) rfl)
   constructor
   .rintro⟨l,q1,q2,q3⟩;rw[hlk]at q1;rcases (K.sub l).1 q1 with z|⟨m,hm,z1,z2⟩
    .exact⟨l,z,q2,by rw[q3,same l z]⟩
    .rw[z2]at q2;exact absurd q2.symm hj
   .rintro⟨l,q1,q2,q3⟩;exact⟨l,(K.sub l).2 (.inl q1),q2,by rw[q3,same l q1]⟩
  exact⟨λg=>⟨g.asc,λf=>(g.mem f).trans (key f)⟩,λg=>⟨g.asc,λf=>(g.mem f).trans (key f).symm⟩⟩
 have own:∀fs,ce_ (d1_ st name parent kind) (ec_ st) fs->∀f∈fs,∃m∈ls,m.1.1=frm/\f=Iu_ st m:=λfs hf f hff=>by
  obtain⟨l,q1,q2,q3⟩:=(hf.mem f).1 hff;rcases (K.sub l).1 q1 with z|⟨m,hm,z1,z2⟩
  .exact absurd q2 (k4 l z)
  .refine⟨m,hm,z1,?_⟩;rw[q3,hfile];unfold Iu_;refine Prod.ext (by rw[z2];rfl) (Prod.ext (K.file g.sto (hlsub m hm) (by rw[z2])) (by rw[z2];rfl))
 have sto:Sto (d1_ st name parent kind):=by
  refine⟨⟨λx hx=>?_,K.sto.ok.links,K.sto.ok.inos⟩,⟨?_,K.sto.nd.links,K.sto.nd.inos⟩,?_⟩
  ·rw[hsn]at hx;rcases kD.1 hx with q|q
   .exact g.sto.ok.snaps x q
   ·have:x=(name,⟨ec_ st,kind,parent,mkS []⟩):=by simpa using q
    subst this;refine⟨w1,?_⟩;unfold fu_;simp only[kR,Bool.or_eq_true];refine⟨⟨by simpa using k1,by simpa using k2⟩,⟨?_,?_⟩,?_,rfl⟩
    .rcases w3 with q|q<;>rw[q]<;>rfl
    .rcases w3 with q|q<;>rw[q]<;>rfl
    .rcases w2 with q|q
     .exact .inl (by simpa using q)
     .exact .inr q
  .rw[hsn,kL,kT];refine⟨g.sto.nd.snaps,t_,λa ha b hb e=>?_⟩;obtain⟨x,hx,rfl⟩:=lA.1 ha;have:b=name:=by simpa using hb
   exact hnew x hx (by rw[e,this])
  .exact K.sto.lk
 have par:parent=mkS []\/∃y,look st.snaps parent=some y/\y.kind=2:=by
  unfold kM_ at w5;rw[Bool.or_eq_true,decide_eq_true_eq]at w5;rcases w5 with q|q
  .exact .inl q
  ·right;cases hf:ch_ is parent with
   |none=>rw[hf]at q;cases q
   |some i=>
    rw[hf]at q;obtain⟨him,hin⟩:=dU_ hf;obtain⟨z,hz,ez,_⟩:=his.get him;refine⟨z.2,?_,?_⟩
    .have:=hi_ g.sto.nd.snaps hz;rw[show z.1=parent by rw[ez]at hin;exact hin]at this;exact this
    .rw[ez]at q;simpa using q
 refine⟨u0_ sto ?_ ?_ (λy hy fs hf=>?_) λy hy=>?_,hsn,λfs hf f hff=>?_⟩
 .rw[hsn,kL,kT];refine⟨g.ids,t_,λa ha b hb e=>?_⟩;obtain⟨x,hx,rfl⟩:=lA.1 ha;have:b=ec_ st:=by simpa using hb
  exact k3 x hx (by rw[e,this])
 .rw[hsn,kI];simp;omega
 ·rw[hsn]at hy;rcases kD.1 hy with q|q
  .exact g.info y q fs ((other _ (k3 y q) fs).1 hf)
  ·have:y=(name,⟨ec_ st,kind,parent,mkS []⟩):=by simpa using q
   subst this;dsimp only at hf ⊢;have hown:=own fs hf;rcases hls with q|⟨hne,q,x,hx,hfrm⟩
   ·have:fs=[]:=by
     cases fs with
     |nil=>rfl
     |cons f fs=>obtain⟨m,hm,_⟩:=hown f t_;rw[q]at hm;cases hm
    subst this;refine (eE_ (i:=⟨name,kind,parent,mkS [],[]⟩) Pairwise.nil).2 ⟨w1,?_,kP _,(λf hf=>absurd hf not_mem_nil),kP _⟩;dsimp only;omega
   ·obtain⟨fs0,hf0⟩:=q5_ g.sto frm;have hold:=g.info _ (cW_ hx) fs0 (by dsimp only;rw[<-hfrm];exact hf0);obtain⟨o1,o2,o3,o4,o5⟩:=(eE_ (i:=⟨parent,x.kind,x.parent,x.label,fs0⟩) hf0.asc).1 hold;dsimp only at o1 o2 o3 o4 o5;have hmem:∀f∈fs,∃f0∈fs0,f=(f0.1,f0.2.1,false):=λf hff=>by
     obtain⟨m,hm,z1,z2⟩:=hown f hff;exact⟨bA_ st m,(hf0.mem _).2 ⟨m,hlsub m hm,z1,rfl⟩,by rw[z2];rfl⟩
    refine (eE_ (i:=⟨name,kind,parent,mkS [],fs⟩) hf.asc).2 ⟨w1,?_,kP _,λf hff=>?_,?_⟩
    .dsimp only;rcases w3 with z|z<;>rw[z]<;>decide
    .obtain⟨f0,h0,e0⟩:=hmem f hff;have:=o4 f0 h0;unfold es_ at this ⊢;simp only[kR]at this ⊢;rw[e0];exact⟨this.1,this.2.1,t_⟩
    ·dsimp only;have hsub:=(dG_ (fs0.map λf=>f.1) (fs.map λf=>f.1) (by
      unfold Nodup;rw[pairwise_map];exact hf.asc.imp λr q=>by rw[q,bO_]at r;cases r) λs hs=>by
      obtain⟨f,hff,rfl⟩:=lA.1 hs;obtain⟨f0,h0,e0⟩:=hmem f hff;exact lA.2 ⟨f0,h0,by rw[e0]⟩).1
     rw[k9,k9]at hsub;omega
 ·have mono:∀p,gH_ (xO_ st.snaps) p->gH_ (xO_ (d1_ st name parent kind).snaps) p:=λp=>gH_.mono λz hz hk=>by
   obtain⟨x,hx,e⟩:=mc_.1 hz;exact⟨z,mc_.2 ⟨x,by rw[hsn];simp[hx],e⟩,rfl,hk,rfl⟩
  rw[hsn]at hy;rcases kD.1 hy with q|q
  .exact mono _ (g.hdr his y q)
  .have:y=(name,⟨ec_ st,kind,parent,mkS []⟩):=by simpa using q
   subst this;dsimp only;refine mono _ ?_;rcases par with z|⟨p,hp1,hp2⟩
   .rw[z];exact .nil
   .have hpm:=cW_ hp1;have:=gH_.step (is:=xO_ st.snaps) (y:=⟨parent,p.kind,p.parent,p.label,[]⟩) (mc_.2 ⟨_,hpm,rfl⟩) hp2 (g.hdr his _ hpm);exact this
 .obtain⟨m,_,_,e⟩:=own fs hf f hff;rw[e];rfl
def eV_(st:StD)(name to:Y_):StD:=⟨st.snaps.map λx=>if x.1=name then (to,⟨x.2.id,2,x.2.parent,x.2.label⟩) else x,st.links,st.inos⟩
theorem vU_ (h:e7_ is name to=0):aX_ name 4=true/\aX_ to 4=true/\(∃i,ch_ is name=some i/\i.kind=0)/\ch_ is to=none:=by
 unfold e7_ at h;cases A:aX_ name 4&&aX_ to 4 with
 |false=>rw[A]at h;cases h
 | true=>
  rw[A]at h;rw[kR]at A;cases G:cY_ is name==0 with
  |false=>
   grind
  | true=>
   rw[G]at h;have r:cY_ is name=0:=by grind
   refine⟨A.1,A.2,?_,?_⟩
   ·unfold cY_ at r;cases D:ch_ is name with
    |none=>rw[D]at r;cases r
    |some i=>
     rw[D]at r;dsimp at r;cases F:eqI i.kind 0 with
     |true=>simpa using F
     |false=>rw[F]at r;cases r
   .cases D:ch_ is to with
    |none=>rfl
    |some i=>rw[D]at h;cases h
theorem Bb_ {st:StD} (g:dY_ st) {is:List InfoR} (his:cy_ st is) {name to:Y_} (hc:e7_ is name to=0):dY_ (eV_ st name to):=by
 obtain⟨w1,w2,⟨i,hi,hk⟩,hto⟩:=vU_ hc;have hnew:∀x∈st.snaps,x.1≠to:=λx hx e=>by
  obtain⟨i,hi,ei,_⟩:=his.put g.sto.nd.snaps hx;unfold ch_ at hto;grind
 have hkind:∀x∈st.snaps,x.1=name->x.2.kind=0:=λx hx e=>by
  obtain⟨him,hin⟩:=dU_ hi;obtain⟨z,hz,ez,_⟩:=his.get him;have h1:=hi_ g.sto.nd.snaps hz;have h2:=hi_ g.sto.nd.snaps hx;grind
 have hmem:∀y,y∈(eV_ st name to).snaps↔∃x∈st.snaps,(x.1≠name/\y=x)\/(x.1=name/\y=(to,⟨x.2.id,2,x.2.parent,x.2.label⟩)):=λy=>by
  unfold eV_;grind
 have hids:(eV_ st name to).snaps.map (λx=>x.2.id)=st.snaps.map λx=>x.2.id:=by
  unfold eV_;rw[map_map];apply map_congr_left;grind
 have hfiles:∀j fs,ce_ (eV_ st name to) j fs↔ce_ st j fs:=λj fs=>⟨λh=>⟨h.asc,h.mem⟩,λh=>⟨h.asc,h.mem⟩⟩;have sto:Sto (eV_ st name to):=by
  refine⟨⟨λy hy=>?_,g.sto.ok.links,g.sto.ok.inos⟩,⟨?_,g.sto.nd.links,g.sto.nd.inos⟩,g.sto.lk⟩
  .obtain⟨x,hx,⟨q,e⟩|⟨q,e⟩⟩:=(hmem y).1 hy
   .rw[e];exact g.sto.ok.snaps x hx
   .rw[e];refine⟨w2,?_⟩;have:=(g.sto.ok.snaps x hx).2;unfold fu_ at this ⊢;simp only[kR]at this ⊢;exact⟨this.1,⟨rfl,rfl⟩,this.2.2⟩
  .have hn:=g.sto.nd.snaps;unfold eV_;rw[map_map];unfold Nodup at hn ⊢;rw[pairwise_map]at hn ⊢;refine hn.imp_of_mem λ{a b} ha hb hab=>?_;grind
 refine u0_ sto (by rw[hids];exact g.ids) (by unfold eV_;dsimp only;rw[k9];exact g.few) (λy hy fs hf=>?_) λy hy=>?_
 .obtain⟨x,hx,⟨q,e⟩|⟨q,e⟩⟩:=(hmem y).1 hy
  .rw[e]at hf ⊢;exact g.info x hx fs ((hfiles _ fs).1 hf)
  .rw[e]at hf ⊢;have hf':=(hfiles _ fs).1 hf;have:=g.info x hx fs hf';obtain⟨o1,o2,o3,o4,o5⟩:=(eE_ (i:=⟨x.1,x.2.kind,x.2.parent,x.2.label,fs⟩) hf'.asc).1 this;refine (eE_ (i:=⟨to,2,x.2.parent,x.2.label,fs⟩) hf'.asc).2 ⟨w2,⟨t_,t_⟩,o3,λf hff=>?_,o5⟩;have:=o4 f hff;rw[hkind x hx q]at this;exact this
 ·have mono:∀p,gH_ (xO_ st.snaps) p->gH_ (xO_ (eV_ st name to).snaps) p:=λp=>gH_.mono λz hz hk=>by
   obtain⟨x,hx,e⟩:=mc_.1 hz;have hne:x.1≠name:=λq=>by
    have:=hkind x hx q;rw[e]at hk;dsimp only at hk;omega
   exact⟨z,mc_.2 ⟨x,(hmem x).2 ⟨x,hx,.inl ⟨hne,rfl⟩⟩,e⟩,rfl,hk,rfl⟩
  obtain⟨x,hx,⟨q,e⟩|⟨q,e⟩⟩:=(hmem y).1 hy
  .rw[e];exact mono _ (g.hdr his x hx)
  .rw[e];exact mono _ (g.hdr his x hx)
section
variable{H:Hp}{Q:Post}{x:Pl}{n:Nat}{cs:List PC}{T:List Pg}
structure ve_(T:List Pg)(st:StD):Prop where
 of:ofD T=some st
 good:dY_ st
 infos:cy_ st (aC_ st)
 asc:hR_ (aC_ st)
 from_:bz_ (aC_ st) (aC_ st).length 0=true
 many:d8_ st<=60
 size:(aC_ st).length<=900/\∀x∈aC_ st,x.name.size<=140737488351232/\x.files.length<=100000/\∀f∈x.files,f.1.size<=140737488351232
theorem e6_(h:ofD T=some st):ve_ T st:=by
 have⟨I,A,D⟩:=j6_ h;have G:=ky_.2 ⟨A,D⟩;have g:=dY_.of (lp_ T) G;have r:=iq_ (io_ (lp_ T) A);have J:=Bq_ A;have F:=ns_ T;have sz:=r.sizes (oJ_ A) o_;exact⟨h,g,r,r.asc',g.forest r,by unfold d8_;omega,o_,sz.2⟩
theorem z9_(h:TrK H x n ps):∃cs T,Tr H x n cs T/\ofD T=eo_ ps:=by
 have⟨cs,T,r,D,A⟩:=h.ex;unfold ofD;grind
theorem BF_ {st:StD} {x:SnapR} (G:k<st.snaps.length) (e:st.snaps[k].1=s) (r:∀j (D:j<st.snaps.length),j<k->st.snaps[j].1≠s) (A:look st.snaps s=some x):st.snaps[k].2=x:=by
 unfold look at A;have F:st.snaps.find? (λp=>decide (p.1=s))=some st.snaps[k]:=by
  rw[find?_eq_some_iff_getElem];grind
 grind
theorem tv_ {name path content:Y_} (hT:Tr H x n cs T) (hs1:name.size<=140737488351232) (hs2:path.size<=140737488351232)
 (h0:ofD T=none->∀H',H<+:H'->Q (.tup [yB none 0,nN 2000]) H')
 (h1:∀st e,ofD T=some st->co_ (aC_ st) name path content=e->e≠0->∀H',H<+:H'->Q (.tup [yB none 0,nN e]) H')
 (h2:∀st y,ofD T=some st->co_ (aC_ st) name path content=0->look st.snaps name=some y->∀H' x',H<+:H'->TrK H' x' 48 (eN_ (iO_ (fL_ st y.id path content)))->Q (.tup [yB x' 48,nN 0]) H'):
 cw_ [yA x n,gS name,gS path,gS content] H Q:=by
 refine⟨3,?_⟩;rw[wg_];have etn:∀k:Nat,tN (k:Int)=k:=λ_=>rfl;refine iA_ hT (λe H' p hp=>?_) λst e B H' sp a1 n1 a2 n2 a3 n3 hB hR=>?_
 .simp only[aL_,aI_,bI_,gs_,am_,bf_];exact aa_ (λ_=>h0 e H' hp) (λe=>by cases e)
 ·simp only[aL_,aI_,bI_,gs_,am_,bf_];refine aa_ (λe=>by cases e) λ_=>?_;have K:=e6_ e;have hm:=K.many;unfold d8_ at hm;obtain⟨_,hd,hok⟩:=j6_ e;refine fw_ hR ⟨o_,o_,o_⟩ (qT_ hok) λG a pG ha=>?_;simp only[aO_,ah_];refine sF_ ha K.asc K.from_ K.size.1 K.size.2 (λx hx=>by obtain⟨_,_,_,hf⟩:=K.infos.get hx;exact hf.asc) hs1 hs2 (λq=>?_) (λhw G1 b1 pG1 _=>?_)
  .simp only[aL_,aI_,bI_,ah_,ai_,bf_];rw[az_ (by simpa using q)];exact h1 st _ e rfl q G (hB.trans (hR.mono pG).pre)
  simp only[aL_,aI_,bI_,ah_,ai_,bf_];rw[aA_ d_];have hR1:=hR.mono (pG.trans pG1);obtain⟨w1,w2,w3,i,hi,hk,hfew⟩:=oI_ hw;obtain⟨him,hin⟩:=dU_ hi;obtain⟨z,hz,ez,hfz⟩:=K.infos.get him;have hy:look st.snaps name=some z.2:=by
   have:=hi_ K.good.sto.nd.snaps hz;rw[show z.1=name by rw[ez]at hin;exact hin]at this;exact this
  obtain⟨gd,W⟩:=pJ_ K.good K.infos o_ hw hy;have back:∀(st1:StD)(G:Hp)(a2:Pl)(n2:Nat)(a3:Pl)(n3:Nat),st1.snaps=st.snaps->st1.links.length<=100->st1.inos.length<=100->fL_ st z.2.id path content=jp_ st1 z.2.id path content->c7_ B G sp a1 n1 a2 n2 a3 n3 st1->cw_.l10 2 name path content none 0 (some (sp,0)) G Q:=by
   intro st1 G a2 n2 a3 n3 hs1 hl1 hi1 hwd hR;rw[cw_.l10_eq];refine nj_ hR o_ ?_;obtain⟨fr,hfr⟩:∃fr,el_ st1=fr:=⟨_,rfl⟩;rw[hfr];have hst:(⟨st1.snaps,st1.links++[((z.2.id,path),(fr,true))],st1.inos++[(fr,⟨1,content⟩)]⟩:StD)=fL_ st z.2.id path content:=by rw[hwd];unfold jp_;rw[hfr]
   clear hwd;simp only[aO_,ai_,ae_];obtain⟨g1,g2,g3⟩:=hR.rd;rw[ad_ g3,ah_];have hl3:=hR.l3;refine ab_ rfl ?_;refine hR.putI (fr,⟨1,content⟩) o_ λa3' G2 hR2=>?_;obtain⟨g1,g2,g3⟩:=hR2.rd;rw[ad_ g2,ah_,ad_ g1,ah_];have hsn:st1.snaps.length<=60:=by rw[hs1];omega
   refine gO_ hR2 (by dsimp only;omega) (λk hk ek hmin=>?_) λq=>?_
   .simp only[aO_,ai_];rw[ad_ g1,ah_];refine⟨rfl,?_⟩;rw[ad_ g2,ah_];refine⟨rfl,?_⟩;have hl1':=hR2.l1;have hl2':=hR2.l2;dsimp only at hl1' hl2' hk ek hmin;refine ab_ rfl (ab_ (by simp<;>omega) ?_);obtain⟨l,e1,r1,r2,_⟩:=hR2.snapG k hk;have hxk:=BF_ (st:=st1) hk ek hmin (by rw[hs1];exact hy);rw[e1];simp only[ae_,etn,kN,kQ];rw[ad_ r2,ai_];dsimp only;rw[hxk];refine ab_ rfl ?_;refine hR2.putL ((z.2.id,path),(fr,true)) o_ λa2' G3 hR3=>?_;have hR3':c7_ B G3 sp a1 n1 a2' (n2+1) a3' (n3+1) (fL_ st z.2.id path content):=by rw[<-hst];exact hR3
    have hdl:=congrArg (λs:StD=>s.links.length) hst;have hdi:=congrArg (λs:StD=>s.inos.length) hst;dsimp only at hdl hdi;rw[kI]at hdl hdi;refine i0_ hR3' gd.sto ⟨?_,?_,?_⟩ (tA_ gd).2.2 λG4 x' pG4 hT'=>?_
    .rw[W.snaps];omega
    .rw[<-hdl];simp;omega
    .rw[<-hdi];simp;omega
    .simp only[eK_,bg_,ah_,bL_];exact h2 st z.2 e hw hy G4 x' (hB.trans pG4) hT'
   ·obtain⟨j,hj,ej⟩:=kK hz;have:(z.1)≠name:=by
     have:=q j (by dsimp only;rw[hs1];exact hj);dsimp only at this;simp only[hs1,ej]at this;exact this
    exact absurd (by rw[ez]at hin;exact hin) this
  refine rJ_ hR1 ⟨o_,o_⟩ hy ?_;simp only[aO_,ai_];cases hfn:hV_ st z.2.id path with
  |none=>
   have hfo:l4_ st z.2.id path= -1:=by unfold l4_;unfold hV_ at hfn;rw[hfn]
   rw[hfo];refine aa_ (λe=>by simp at e) λ_=>?_;exact back st G1 a2 n2 a3 n3 rfl o_ o_ (by unfold fL_;rw[hfn]) hR1
  |some j=>
   have hfo:l4_ st z.2.id path=((j:Nat):Int):=by unfold l4_;unfold hV_ at hfn;rw[hfn]
   rw[hfo];obtain⟨hj,ej⟩:=fV_ hfn;refine aa_ (λ_=>?_) (λe=>by simp at e<;>omega);refine mr_ hR1 K.good.sto ⟨o_,o_⟩ hj λG2 a2' n2' a3' n3' hR2=>?_;obtain⟨yy,hyy,eqd⟩:=eS_ K.good.sto hj;refine back (ge_ st j) G2 a2' n2' a3' n3' (by rw[eqd]) ?_ ?_ (by unfold fL_;rw[hfn]) hR2
   .rw[eqd];dsimp only;have:=length_eraseIdx_le st.links j;omega
   .rw[eqd];dsimp only;unfold le_;refine Nat.le_trans (length_filter_le _ _) ?_;unfold fz_;rw[hyy,k9];omega
end
theorem FF_(h:Sto a)(A:x∈a.inos):∃l∈a.links,l.2.1=x.1:=by
 have F:=(dQ_.1 h.lk).2 x A;have r:=(h.ok.inos x A).2;unfold eg_ at r;simp at r;have:0<ft_ a x.1:=by omega
 have⟨l,D,e⟩:=countP_pos_iff.1 this;grind
theorem H9_(F:Asc ps)(A:Asc qs)(h:ps.Perm qs):ps=qs:=
 u4_ (λa e=>by rw[bO_]at e;cases e) (λa b D r=>by have:=dl_ D r;rw[bO_]at this;cases this) F A λx=>h.mem_iff
theorem EJ_(h:Sto a):(eN_ a).Perm (ti_ a)/\Asc (eN_ a):=by
 have:=ne_ Pairwise.nil (by simpa using yG_ h.ok h.nd);exact⟨by simpa[eN_] using this.1,this.2⟩
theorem ve_.fr(k:ve_ T st):FrK (aC_ st):=⟨k.asc,k.from_,k.size.1,k.size.2,λx A=>by
 have⟨s,_,e,D⟩:=k.infos.get A;exact⟨((eE_ D.asc).1 (wo_ k.from_ x A)).2.2.2.2,D.asc⟩⟩
section
variable{H:Hp}{Q:Post}{sp ms ml mi:Nat}{c0 c4:GV}{st:StD}{x:Pl}{n:Nat}{cs:List PC}{T:List Pg}
theorem uG_(h:eZ_ H sp c0 ms ml mi c4 st)(I:d8_ st<=1000)(J:Q (gI (d8_ st:Nat)) H):dT_ [yQ sp] H Q:=by
 refine⟨1,?_⟩;rw[pa_];have⟨_,D,A,F,_⟩:=h.rd;unfold d8_ at I J;simp only[ae_];rw[ad_ D,cZ_];refine l3_ h.snaps ?_;rw[ad_ A,cZ_];refine l3_ h.links ?_;rw[ad_ F,cZ_];refine l3_ h.inos ?_;unfold nI;rw[b5_ (n:=((st.snaps.length:Nat):Int)+(st.links.length:Nat)) o_ o_,b5_ o_ o_];grind
def NoT(Q:Post)(H:Hp)(e:Int):Prop:=∀H',H<+:H'->Q (.tup [yB none 0,nN e]) H'
def OkX(Q:Post)(P:Nat->Prop)(H:Hp)(kv:KV):Prop:=∀H' x',H<+:H'->TrX H' x' 48 kv P->Q (.tup [yB x' 48,nN 0]) H'
def OkT(Q:Post)(P:Nat->Prop)(H:Hp)(is:List InfoR):Prop:=∀H' x' cs T st,H<+:H'->TrP P H' x' 48 cs T->ofD T=some st->aC_ st=is->Q (.tup [yB x' 48,nN 0]) H'
structure Jw_ (E:Nat->Sm) (H:Hp) (T:List Pg) (f1:Nat) (c1:List (Nat × Nat)) (f2:Nat) (c2:List (Nat × Nat)) (err:StD->Int) (R:StD->StD->Prop):Prop where
 says:∀st,ofD T=some st->∀(H':Hp) b a (K:Post),H<+:H'->bW_ H' b a (aC_ st)->(∀H'':Hp,H'<+:H''->K (gI (err st)) H'')->E f1 (cpl [nL a (aC_ st).length 5] c1) H' K
 turn:∀st st1,ofD T=some st->err st=0->hc_ st st1->∀(H':Hp) sp ms ml mi c0 c4 (K:Post),H<+:H'->(H.length<=ms/\H.length<=ml/\H.length<=mi)->eZ_ H' sp c0 ms ml mi c4 st1->
  (∀(H'':Hp) st2,H<+:H''->eZ_ H'' sp c0 ms ml mi c4 st2->R st1 st2->K (.tup []) H'')->E f2 (cpl [yQ sp] c2) H' K
 ok:∀st st1 st2,ofD T=some st->err st=0->hc_ st st1->R st1 st2->Sto st2/\d8_ st2<=1000/\(ed_ st1=none->d8_ st2<=60)
theorem ml_ {f1 f2:Nat} {R:StD->StD->Prop} (hX:TrP P H x n cs T) (hP:∀l,P l->l<H.length) (t:Jw_ E H T f1 c1 f2 c2 err R)
 (h0:ofD T=none->NoT Q H 2000)
 (h1:∀st,ofD T=some st->err st≠0->NoT Q H (err st))
 (h2:∀st D A,ofD T=some st->err st=0->hc_ st D->R D A->OkX Q P H (eN_ A)):
 fS_ E [yA x n,.g (.fn f1 c1),.g (.fn f2 c2)] H Q:=by
 refine⟨1,?_⟩;rw[xB_];have hT:=hX.tr;refine kO_ hT (λe H' p q=>?_) λst e H1 O Z W Y b a o=>?_;exact h0 e H' q;have K:=e6_ e;simp[aL_];have⟨_,_,_,_,g4⟩:=o.at_.rd;rw[ad_ g4,ah_];refine t.says st e H1 b a _ o.pre o.infos λH2 p2=>?_;simp[aO_];refine aa_ (λz=>h1 st e (by simpa using z) _ (o.pre.trans p2)) λz=>?_;have z:err st=0:=by simpa using z
 have low:=o.low;have J:∀(G:Hp) O Z W Y c4 D A,H<+:G->eZ_ G O (.sl x n 5) Z W Y c4 A->hc_ st D->R D A->d8_ A<=60->
  cl (aN_ E) [(yQ O)] G λr48 H49=>rA r48 λc50=>uC c50 λv51 c52=>dL 5 v51 λx53 n54=>uN c52 (Q (.tup [(.a [(.sl x53 n54 5)]),(nN 0)]) H49):=λG O Z W Y c4 D A hG h2' F hR hm=>by
  refine uP_ h2' (t.ok st D A e z F hR).1.ok hm ((⟨_,_,(j6_ e).1,(ze_ (j6_ e).1).symm,hX⟩:TrX H x n (d7_ T) P).mono hG) (λl N=>Nat.lt_of_lt_of_le (hP l N) hG.length_le) λH' x' kv p t' hp=>?_;simp[eK_];have⟨z1,z2⟩:=EJ_ (t.ok st D A e z F hR).1;rw[H9_ t'.tr.asc z2 (hp.trans z1.symm)]at t';exact h2 st D A e z F hR H' x' (hG.trans p) t'
 refine t.turn st st e z (hc_.refl K.good.sto) H2 O Z W Y _ _ _ (o.pre.trans p2) ⟨low.1,low.2.1,low.2.2.1⟩ (o.at_.keep λl N=>aS_ p2 N) λH3 A I s3 r3=>?_;have⟨_,hm,_⟩:=t.ok st st A e z (hc_.refl K.good.sto) r3;refine uG_ s3 hm ?_;simp[aO_];refine aa_ (λz6=>?_) λz6=>?_;refine kO_ (hT.mono I) (λU=>by rw[e]at U;cases U) λst' U H4 sp' ms' ml' mi' b' a' V=>?_;rw[e]at U;cases U;have hmm:=K.many;unfold d8_ at hmm;have low':=V.low;have l3:=I.length_le;refine to_ V.at_ K.good.sto o_ λH5 D k5 l5 s5 F ho=>?_;have p5:H<+:H5:=g1_ (by have:=(I.trans V.pre).length_le;omega) λl N=>by
  rw[k5 l (by have:=(I.trans V.pre).length_le;omega) o_ o_,aS_ (I.trans V.pre) N]
 exact t.turn st D e z F H5 sp' ms' ml' mi' _ _ _ p5 o_ s5 λH6 A p6 s6 r6=>J H6 _ _ _ _ _ _ _ p6 s6 F r6 ((t.ok st D A e z F r6).2.2 ho);exact J H3 _ _ _ _ _ _ _ I s3 (hc_.refl K.good.sto) r3 (by simp at z6;omega)
end
theorem yL_(h:∀l∈st.links,∃x∈st.snaps,x.2.id=l.1.1):ed_ st=none:=by
 unfold ed_;grind
theorem Av_ (h:Sto a):a.inos.length<=a.links.length:=by
 have:=(dG_ (a.links.map (·.2.1)) (a.inos.map (·.1)) h.nd.inos λk A=>by
  obtain⟨x,F,rfl⟩:=lA.1 A;have⟨l,D,e⟩:=FF_ h F;exact lA.2 ⟨l,D,e⟩).1
 grind
theorem FQ_(g:hc_ st a):a.snaps.length=st.snaps.length/\a.links.length<=st.links.length/\a.inos.length<=a.links.length:=
 ⟨by rw[g.snaps],(dG_ st.links a.links (g6_ g.sto.nd.links) g.sub).1,Av_ g.sto⟩
structure qZ_(st st':StD)(d:Int)(path:Y_)(nw:List FileR):Prop where
 sto:Sto st'
 snaps:st'.snaps=st.snaps
 other:∀j,j≠d->∀fs,ce_ st' j fs↔ce_ st j fs
 own:∀fs fs',ce_ st d fs->ce_ st' d fs'->∀f,f∈fs'↔f∈nw\/(f∈fs/\f.1≠path)
theorem B4_.ft(w:B4_ st st' d path content):qZ_ st st' d path [(path,content,true)]:=
 ⟨w.sto,w.snaps,w.other,λF A h D f=>by rw[w.own F A h D,mem_singleton]⟩
theorem DG_ (h:Sto st) (hf:hV_ st d path=some i):qZ_ st (ge_ st i) d path []:=by
 have⟨A,V⟩:=fV_ hf;have Y:(ge_ st i).snaps=st.snaps:=by have⟨y,_,e⟩:=eS_ h A;rw[e]
 have key:∀l∈st.links,l.1=(d,path)->l=st.links[i]:=λl hl q=>by
  obtain⟨j,N,rfl⟩:=kK hl;have nd:=h.nd.links;have:=Nat.le_antisymm (Nat.le_of_not_lt λc=>absurd (kS.1 nd i j g_ g_ c) g_) (Nat.le_of_not_lt λc=>absurd (kS.1 nd j i g_ g_ c) g_);grind
 refine⟨k5_ h A,Y,λj N Z=>?_,λZ U I W f=>?_⟩;have m:∀f,(∃l∈(ge_ st i).links,l.1.1=j/\f=bA_ (ge_ st i) l)↔∃l∈st.links,l.1.1=j/\f=bA_ st l:=λf=>
  ⟨fun⟨l,a,b,c⟩=>⟨l,((gm_ h A l).1 a).1,b,by rw[c,ih_ h A a]⟩,fun⟨l,a,b,c⟩=>by
   have z:=(gm_ h A l).2 ⟨a,λe=>N g_⟩;exact⟨l,z,b,by rw[c,ih_ h A z]⟩⟩
 exact⟨λg=>⟨g.asc,λf=>(g.mem f).trans (m f)⟩,λg=>⟨g.asc,λf=>(g.mem f).trans (m f).symm⟩⟩;rw[W.mem];constructor;rintro⟨l,a,b,c⟩;have⟨D,F⟩:=(gm_ h A l).1 a;exact .inr ⟨(I.mem f).2 ⟨l,D,b,by rw[c,ih_ h A a]⟩,λe=>F (key l D (Prod.ext b (by rw[<-e,c];rfl)))⟩;rintro (q|⟨a,b⟩);cases q;have⟨l,D,F,J⟩:=(I.mem f).1 a;have z:=(gm_ h A l).2 ⟨D,λe=>b (by rw[J,e];show st.links[i].1.2=path;rw[V])⟩;exact⟨l,z,F,by rw[J,ih_ h A z]⟩
theorem qZ_.good_less(w:qZ_ st st' d path [])(g:dY_ st)(J:cy_ st is):dY_ st':=by
 refine u0_ w.sto (by rw[w.snaps];exact g.ids) (by rw[w.snaps];exact g.few) (λy I F D=>?_) (by rw[w.snaps];exact g.hdr J);rw[w.snaps]at I;by_cases e:y.2.id=d;have⟨O,N⟩:=q5_ g.sto y.2.id;have o:=(eE_ N.asc).1 (g.info y I O N);subst e;have m:=w.own O F N D;exact (eE_ D.asc).2 ⟨o.1,o.2.1,o.2.2.1,λf A=>o.2.2.2.1 f (((m f).1 A).resolve_left t_).1,Nat.le_trans (dG_ O F D.nodup λf A=>(((m f).1 A).resolve_left t_).1).1 o.2.2.2.2⟩;exact g.info y I F ((w.other _ e F).1 D)
theorem qZ_.infos (w:qZ_ st st' y.id path nw) (g:dY_ st) (h:cy_ st is) (Z:look st.snaps name=some y) (hK:K<is.length) (W:is[K].name=name) (fa:gN_ A) (fm:∀f,f∈A↔f∈nw\/(f∈is[K].files/\f.1≠path)):
 cy_ st' (is.set K ⟨is[K].name,is[K].kind,is[K].parent,is[K].label,A⟩):=by
 have U:(is.set K ⟨is[K].name,is[K].kind,is[K].parent,is[K].label,A⟩).map (·.name)=is.map (·.name):=by
  rw[List.map_set];exact lx_ g_
 refine⟨by rw[U,w.snaps];exact h.perm,by rw[U];exact h.asc,λi Y=>?_⟩;obtain⟨j,V,rfl⟩:=kK Y;rw[length_set]at V;rw[getElem_set];by_cases e:K=j;subst e;rw[if_pos rfl];have⟨x,D,F,I,N,J⟩:=(h.info _ (kE hK)).mem;have:x=y:=by grind
 subst this;have⟨gs,O⟩:=q5_ w.sto x.id;refine⟨x,by rw[w.snaps];exact D,F,I,N,fa,λf=>?_⟩;rw[fm,<-w.own _ gs J O,O.mem];rw[if_neg e];have⟨x,D,F,I,N,J⟩:=(h.info _ (kE V)).mem;refine⟨x,by rw[w.snaps];exact D,F,I,N,(w.other x.id (λq=>?_) _).2 J⟩;have z:=Ge_ g.ids (cW_ D) (cW_ Z) q;have z:is[j].name=name:=congrArg Prod.fst z;have asc:=kS.1 h.asc;rcases Nat.lt_or_gt_of_ne e with c|c;have:=asc K j g_ g_ c;simp at this;rw[W,z,bO_]at this;cases this;have:=asc j K g_ g_ c;simp at this;rw[W,z,bO_]at this;cases this
theorem yg_(h:cy_ st is)(D:ch_ is s=some i):∃y,look st.snaps s=some y/\i.kind=y.kind/\i.parent=y.parent/\i.label=y.label/\ce_ st y.id i.files:=by
 have⟨A,F⟩:=dU_ D;have⟨y,I⟩:=(h.info i A).mem;grind
theorem JK_(H:Hp)(a b c:Obj):(H++[a]++[b]++[c])[H.length]?=some a/\(H++[a]++[b]++[c])[H.length+1]?=some b/\(H++[a]++[b]++[c])[H.length+1+1]?=some c:=⟨t_,t_,by rw[getElem?_append_right t_];simp⟩
theorem IK_(H:Hp)(a b:Obj):(H++[a]++[b])[H.length]?=some a/\(H++[a]++[b])[H.length+1]?=some b:=by simp
theorem vi_(h:eU_ is s path=0):hJ_ is s path=0/\∀i,ch_ is s=some i->(i.files.any λf=>decide (f.1=path))=true:=by
 unfold eU_ at h;grind
theorem CX_(h:dY_ st)(I:ce_ st d fs)(J:(fs.any λf=>decide (f.1=path))=true):∃i,hV_ st d path=some i:=by
 have⟨f,D,A⟩:=any_eq_true.1 J;have⟨l,F,N,O⟩:=(I.mem f).1 D;cases h:hV_ st d path with
 |some i=>exact⟨i,rfl⟩
 |none=>exact absurd (Prod.ext N (by rw[O]at A;exact of_decide_eq_true A)) (qq_ h l F)
theorem u2_(K:ve_ T st)(g:hc_ st a):a.snaps.length<=60/\a.links.length<=60/\a.inos.length<=60:=by
 have:=K.many;unfold d8_ at this;have:=FQ_ g;omega
theorem qZ_.many(w:qZ_ st st' d path nw)(A:st'.links.length<=st.links.length+1):d8_ st'<=st.snaps.length+2*(st.links.length+1):=by
 have:=Av_ w.sto;unfold d8_;rw[w.snaps];omega
theorem Ae_(h:Sto st):(fL_ st d path content).links.length<=st.links.length+1:=by
 unfold fL_;split;rename_i i A;have⟨y,_,e⟩:=eS_ h (fV_ A).1;simp[jp_];grind;simp[jp_]
theorem x7_(h:Sto st)(N:ed_ st=none)(J:(∃s,(s,y)∈st.snaps)):ed_ (fL_ st y.id path content)=none:=by
 have own:=l6_ N;have⟨s,F⟩:=J;refine yL_ λl A=>?_;unfold fL_ at A ⊢;split at A;rename_i i I;have⟨D,_⟩:=fV_ I;have e:(ge_ st i).snaps=st.snaps:=by have⟨y,_,e⟩:=eS_ h D;rw[e]
 rcases kD.1 A with q|q;simp only[jp_,e];exact own l ((gm_ h D l).1 q).1;rw[mem_singleton.1 q];simp only[jp_,e];exact⟨_,F,rfl⟩;rcases kD.1 A with q|q;exact own l q;rw[mem_singleton.1 q];exact⟨_,F,rfl⟩
section
variable{H:Hp}{Q:Post}{x:Pl}{n:Nat}{cs:List PC}{T:List Pg}{name path content:Y_}{P:Nat->Prop}
theorem sX_(hT:TrP P H x n cs T)(hP:∀l,P l->l<H.length)(N:name.size<=140737488351232)(W:path.size<=140737488351232)
 (h0:ofD T=none->NoT Q H 2000)
 (h1:∀st,ofD T=some st->co_ (aC_ st) name path content≠0->NoT Q H (co_ (aC_ st) name path content))
 (h2:∀st A y,ofD T=some st->co_ (aC_ st) name path content=0->hc_ st A->look st.snaps name=some y->OkX Q P H (eN_ (fL_ A y.id path content))):
 dB_ [yA x n,gS name,gS path,gS content] H Q:=by
 refine⟨1,?_⟩;rw[vp_];simp only[e3_,dS_,kI];have p:H<+:H++[Obj.row true 9 [.str name]]++[.row true 9 [.str path]]++[.row true 9 [.str content]]:=by simp
 obtain⟨q1,q2,q3⟩:=JK_ H (.row true 9 [.str name]) (.row true 9 [.str path]) (.row true 9 [.str content]);refine ml_ (err:=λst=>co_ (aC_ st) name path content) (R:=λA I=>∃y,look A.snaps name=some y/\I=fL_ A y.id path content) (hT.mono p) (λl O=>Nat.lt_of_lt_of_le (hP l O) p.length_le) ⟨λst e H' b a K D V Y=>?_,λst A e J g H' sp ms ml mi c0 c4 K D low s Y=>?_,λst A I e J g Z=>?_⟩ (λe H' D=>?_) (λst e J H' D=>?_) λst A I e J g Z H' x' D t=>?_
 .refine⟨1,?_⟩;show as_ _ _ _ [nL a (aC_ st).length 5,yQ H.length,gP (some (H.length+1,0)),gP (some (H.length+1+1,0))] _ _;rw[tz_,ad_ (cf_ D (by rw[aY_ q1];rfl)),au_,ad_ (cf_ D (by rw[aY_ q2];rfl)),au_,ad_ (cf_ D (by rw[aY_ q3];rfl)),au_];refine rp_ V (e6_ e).fr N W λU a' n' p2=>?_;simp[aL_,aI_,bI_,ah_,ai_];exact Y U p2
 .refine⟨1,?_⟩;show as_ _ _ _ [yQ sp,yQ H.length,gP (some (H.length+1,0)),gP (some (H.length+1+1,0))] _ _;rw[sO_,ad_ (cf_ D (by rw[aY_ q1];rfl)),au_,ad_ (cf_ D (by rw[aY_ q2];rfl)),au_,ad_ (cf_ D (by rw[aY_ q3];rfl)),au_];have k:=e6_ e;obtain⟨_,_,_,i,V,_⟩:=oI_ J;obtain⟨y,F,_⟩:=yg_ (g.infos.2 k.infos) V;have:=u2_ k g;have lp:=D.length_le;refine sx_ s g.sto o_ F λU k2 l2 s2=>Y U _ (g1_ o_ λl O=>?_) s2 ⟨y,F,rfl⟩;rw[k2 l o_ o_ o_,aS_ D O]
 .obtain⟨y,F,rfl⟩:=Z;have k:=e6_ e;have b:=u2_ k g;have w:=(pJ_ (g.good k.good) (g.infos.2 k.infos) o_ J F);have m:=w.2.ft.many (Ae_ g.sto);refine⟨w.2.sto,o_,λho=>?_⟩;have:=tu_ w.1 (x7_ g.sto ho ⟨_,cW_ F⟩);omega
 .simp[aL_,aI_,eQ_,bg_,bI_,ah_,ai_];exact h0 e H' (p.trans D)
 .simp[aL_,aI_,eQ_,bg_,bI_,ah_,ai_,bL_,bf_];exact h1 st e J H' (p.trans D)
 .simp[aL_,aI_,eQ_,bg_,bI_,ah_,ai_];obtain⟨y,F,rfl⟩:=Z;exact h2 st A y e J g (by rw[<-g.snaps];exact F) H' x' (p.trans D) t
theorem rV_ (hT:TrP P H x n cs T) (hP:∀l,P l->l<H.length) (Y:name.size<=140737488351232) (W:path.size<=140737488351232)
 (h0:ofD T=none->NoT Q H 2000)
 (h1:∀st,ofD T=some st->eU_ (aC_ st) name path≠0->NoT Q H (eU_ (aC_ st) name path))
 (h2:∀st A y i,ofD T=some st->eU_ (aC_ st) name path=0->hc_ st A->look st.snaps name=some y->hV_ A y.id path=some i->OkX Q P H (eN_ (ge_ A i))):
 dy_ [yA x n,gS name,gS path] H Q:=by
 refine⟨1,?_⟩;rw[uO_];simp only[e3_,dS_,kI];have p:H<+:H++[Obj.row true 9 [.str name]]++[.row true 9 [.str path]]:=by simp
 have⟨q1,q2⟩:=IK_ H (.row true 9 [.str name]) (.row true 9 [.str path]);refine ml_ (err:=λst=>eU_ (aC_ st) name path) (R:=λA I=>∃y i,look A.snaps name=some y/\hV_ A y.id path=some i/\I=ge_ A i) (hT.mono p) (λl J=>Nat.lt_of_lt_of_le (hP l J) p.length_le) ⟨λst e H' b a K D F U=>?_,λst A e N g H' sp ms ml mi c0 c4 K D low s U=>?_,λst A I e N g V=>?_⟩ (λe H' D=>?_) (λst e N H' D=>?_) λst A I e N g V H' x' D t=>?_;refine⟨1,?_⟩;show as_ _ _ _ [nL a (aC_ st).length 5,yQ H.length,gP (some (H.length+1,0))] _ _;rw[q1_,ad_ (cf_ D (by rw[aY_ q1];rfl)),au_,ad_ (cf_ D (by rw[aY_ q2];rfl)),au_];refine p8_ F (e6_ e).fr Y W λZ a' n' p2=>?_;simp[aL_];exact U Z p2;refine⟨1,?_⟩;show as_ _ _ _ [yQ sp,yQ H.length,gP (some (H.length+1,0))] _ _;rw[ry_,ad_ (cf_ D (by rw[aY_ q1];rfl)),au_,ad_ (cf_ D (by rw[aY_ q2];rfl)),au_];have k:=e6_ e;have⟨f0,hfa⟩:=vi_ N;have⟨i,F⟩:∃i,ch_ (aC_ st) name=some i:=by
  have:=(BK_ f0).2.1;unfold cY_ at this;cases h:ch_ (aC_ st) name with
  |some i=>exact⟨i,rfl⟩
  |none=>rw[h]at this;cases this
 have⟨y,O,_,_,_,hfo⟩:=yg_ (g.infos.2 k.infos) F;have⟨j,hj⟩:=CX_ (g.good k.good) hfo (hfa i F);have lp:=D.length_le;refine rv_ s g.sto O hj λZ k2 l2 s2=>U Z _ (g1_ o_ λl J=>?_) s2 ⟨y,j,O,hj,rfl⟩;rw[k2 l o_ o_ o_,aS_ D J];obtain⟨y,i,O,F,rfl⟩:=V;have k:=e6_ e;have b:=u2_ k g;have w:=DG_ g.sto F;have⟨z,_,ed⟩:=eS_ g.sto (fV_ F).1;have J:(ge_ A i).links.length<=A.links.length:=by
  rw[ed];simp[length_eraseIdx];split<;>omega
 have m:=w.many o_;refine⟨w.sto,o_,λho=>?_⟩;have:=tu_ (w.good_less (g.good k.good) (g.infos.2 k.infos)) (yL_ λl J=>by
  rw[w.snaps];exact l6_ ho l ((gm_ g.sto (fV_ F).1 l).1 J).1)
 omega;simp[aL_];exact h0 e H' (p.trans D);simp[aL_];exact h1 st e N H' (p.trans D);simp[aL_];obtain⟨y,i,O,F,rfl⟩:=V;exact h2 st A y i e N g (by rw[<-g.snaps];exact O) F H' x' (p.trans D) t
end
def w2_ (T:List Pg) (name path:Y_):Y_ × Int:=match ofD T with
 |none=>(mkS [],2000)
 | some st=>match aX_ name 4 with
  |false=>(mkS [],1901)
  | true=>match ch_ (aC_ st) name with
   |none=>(mkS [],1903)
   | some i=>match aX_ path 3 with
    |false=>(mkS [],1907)
    |true=>match i.files.find? λf=>decide (f.1=path) with
     |none=>(mkS [],1908)
     |some f=>(f.2.1,0)
theorem sk_ (h:gN_ fs) (I:f∈fs) (e:f.1=path):(fs.find? λf=>decide (f.1=path))=some f:=by
 cases q:fs.find? λf=>decide (f.1=path) with
 |none=>exact absurd (lE e) g_
 |some g=>
  have A:g.1=path:=by grind
  obtain⟨i,D,rfl⟩:=kK I;obtain⟨j,F,rfl⟩:=kK (mem_of_find?_eq_some q);have asc:=kS.1 h;have:=Nat.le_antisymm (Nat.le_of_not_lt λc=>by have:=asc i j D F c;rw[e,A,bO_]at this;cases this) (Nat.le_of_not_lt λc=>by have:=asc j i F D c;rw[e,A,bO_]at this;cases this);grind
theorem z8_{fs:List FileR}(h:(fs.any λf:FileR=>decide (f.1=path))=false):(fs.find? λf=>decide (f.1=path))=none:=
 find?_eq_none.2 λf A=>by grind
theorem EK_ (h:cy_ st is) (A:ch_ is s=none):look st.snaps s=none:=by
 cases q:look st.snaps s with
 |none=>rfl
 |some x=>
  have⟨i,D,e⟩:=lA.1 (h.perm.mem_iff.2 (lA.2 ⟨_,cW_ q,rfl⟩));exact absurd (lE e) (find?_eq_none.1 A i D)
section
variable{H:Hp}{Q:Post}{x:Pl}{n:Nat}{cs:List PC}{T:List Pg}{E:Nat->Sm}{name path:Y_}
theorem r6_(D:Tr H x n cs T)
 (J:ofD T=none->∀H',H<+:H'->Q (.tup [yR none 0 5,nN 2000]) H')
 (A:∀st,ofD T=some st->∀H' b a,H<+:H'->H.length<=b->bW_ H' b a (aC_ st)->Q (.tup [yR a (aC_ st).length 5,nN 0]) H'):
 gF_ E [yA x n] H Q:=by
 refine⟨1,?_⟩;rw[vO_];refine kO_ D (λe H' p I=>by simp_all) λst e H' O V U N b a o=>?_;simp only[aL_,aI_,bI_,gs_,am_];have⟨_,_,_,_,F⟩:=o.at_.rd;rw[bN1,ae_,kN,ad_ F,ah_];exact A st e H' b a o.pre o.low.2.2.2.2 o.infos
theorem f3_ (hT:Tr H x n cs T) (hs1:name.size<=140737488351232) (hs2:path.size<=140737488351232) (hQ:∀H',H<+:H'->Q (.tup [.s (.str (w2_ T name path).1),nN (w2_ T name path).2]) H'):
 ef_ E [yA x n,gS name,gS path] H Q:=by
 refine⟨1,?_⟩;rw[xF_];refine⟨1,?_⟩;rw[xo_];unfold w2_ at hQ;refine r6_ hT (λe H' p=>?_) λst e H1 b a p1 _ i1=>?_
 .simp only[aL_,aI_,eQ_,bg_,bI_,au_,ah_,ai_,bL_,bf_];rw[az_ d_,az_ d_];simp only[e]at hQ;exact hQ H' p
 simp only[aL_,aI_,eQ_,bg_,bI_,au_,ah_,ai_,bL_,bf_];simp only[e]at hQ;have k:=(e6_ e).fr;rw[aA_ d_];refine e5_ hs1 ?_;simp only[aO_,am_];cases hw:aX_ name 4 with
 |false=>
  rw[bN0,az_ d_];simp only[hw]at hQ;exact hQ H1 p1
 | true=>
  simp only[hw]at hQ;rw[bN1];refine j5_ i1.rd k.asc (by have:=k.few;omega) ?_;simp only[aL_,aI_,bI_,am_,ai_,bf_];cases q:(aC_ st).any λy=>decide (y.name=name) with
  |false=>
   rw[bN0,az_ d_];simp only[jA_ k.asc q]at hQ;exact hQ H1 p1
  | true=>
   obtain⟨hp,hfi⟩:=nB_ k.asc q;generalize dF_ (aC_ st) name=K at hp hfi ⊢;simp only[hfi]at hQ;obtain⟨la,pf,e1,hb,r1,r2,r3,r4,r5,r6,_⟩:=i1.src _ hp;subst e1;obtain⟨h4,hfa⟩:=k.f4 _ (kE hp);rw[bN1,af_];refine ab_ s_ ?_;rw[ae_,show tN (K:Int)=K from rfl,kN,ad_ r1,au_,ad_ r2,ai_,ad_ r3,au_,ad_ r4,au_,ad_ r5,ah_,aA_ d_];refine f1_ hs2 ?_;simp only[aO_,am_];cases hw2:aX_ path 3 with
   |false=>
    rw[bN0];simp only[hw2]at hQ;exact hQ H1 p1
   | true=>
    simp only[hw2]at hQ;rw[bN1];refine fT_ r6 hfa o_ ?_;simp only[aL_,aI_,bI_,am_,ai_,bf_];cases q2:(aC_ st)[K].files.any λf=>decide (f.1=path) with
    |false=>
     rw[bN0];simp only[z8_ q2]at hQ;exact hQ H1 p1
    |true=>
     obtain⟨hpf,ef⟩:=zW_ hfa q2;simp only[sk_ hfa (kE hpf) ef]at hQ;obtain⟨l,o,e1,_,g2,_⟩:=r6.rd _ hpf;subst e1;rw[bN1,af_];refine ab_ s_ ?_;rw[ae_,show tN (f9_ (aC_ st)[K].files path:Int)=f9_ (aC_ st)[K].files path from rfl,ad_ g2,au_];exact hQ H1 p1
end
section
variable{H:Hp}{Q:Post}{x:Pl}{n:Nat}{cs:List PC}{T:List Pg}{name path content:Y_}{P:Nat->Prop}
theorem yU_ (k:ve_ T st) (g:hc_ st st1) (w:qZ_ st1 st2 y.id path nw) (W:dY_ st2) (D:look st.snaps name=some y) (U:FTo path nw G) (t:TrX H x n (eN_ st2) P):
 ∃cs T' A,TrP P H x n cs T'/\ofD T'=some A/\aC_ A=f4_ (aC_ st) name G:=by
 have⟨cs,T',J,e3,ht⟩:=t.ex;have e:ofD T'=eo_ (eN_ st2):=by unfold ofD;rw[lE J,ze_ J,e3]
 have⟨r,hr,sm,Z,_⟩:=E9_ W;have⟨i,N⟩:∃i,ch_ (aC_ st) name=some i:=by
  cases q:ch_ (aC_ st) name with
  |some i=>exact⟨i,rfl⟩
  |none=>rw[EK_ k.infos q]at D;cases D
 obtain⟨F,Y⟩:=nB_ k.asc (any_eq_true.2 ⟨i,(dU_ N).1,by simpa using (dU_ N).2⟩);have I:=(dU_ Y).2;have⟨z,_,_,_,_,hf⟩:=(k.infos.info _ (kE F)).mem;have⟨O,V⟩:=U _ hf.asc;exact⟨cs,T',r,ht,e.trans hr,by rw[AG_ k.asc F I];exact Z.unique (w.infos (g.good k.good) (g.infos.2 k.infos) (by rw[g.snaps];exact D) F I O V)⟩
theorem pA_(V:TrP P H x n cs T)(N:∀l,P l->l<H.length)(D:name.size<=140737488351232)(F:path.size<=140737488351232)
 (J:ofD T=none->NoT Q H 2000)
 (W:∀st,ofD T=some st->co_ (aC_ st) name path content≠0->NoT Q H (co_ (aC_ st) name path content))
 (Z:∀st,ofD T=some st->co_ (aC_ st) name path content=0->OkT Q P H (f4_ (aC_ st) name (l2_ path content))):
 dB_ [yA x n,gS name,gS path,gS content] H Q:=by
 refine sX_ V N D F J W λst O y e U g I H' x' p t=>?_;have k:=e6_ e;have b:=u2_ k g;have w:=pJ_ (g.good k.good) (g.infos.2 k.infos) o_ U (by rw[g.snaps];exact I);have⟨cs',T',A,q1,Y,q3⟩:=yU_ k g w.2.ft w.1 I oB_ t;exact Z st e U H' x' cs' T' A p q1 Y q3
theorem ov_(U:TrP P H x n cs T)(N:∀l,P l->l<H.length)(D:name.size<=140737488351232)(F:path.size<=140737488351232)
 (I:ofD T=none->NoT Q H 2000)
 (W:∀st,ofD T=some st->eU_ (aC_ st) name path≠0->NoT Q H (eU_ (aC_ st) name path))
 (Z:∀st,ofD T=some st->eU_ (aC_ st) name path=0->OkT Q P H (f4_ (aC_ st) name (za_ path))):
 dy_ [yA x n,gS name,gS path] H Q:=by
 refine rV_ U N D F I W λst O y i e e0 g J V H' x' p t=>?_;have k:=e6_ e;have w:=DG_ g.sto V;have⟨cs',T',A,q1,Y,q3⟩:=yU_ k g w (w.good_less (g.good k.good) (g.infos.2 k.infos)) J u1_ t;exact Z st e e0 H' x' cs' T' A p q1 Y q3
theorem mA_(I:TrP P H x n cs T)(N:∀l,P l->l<H.length)(o:ofD T=some st)(e:co_ (aC_ st) name path content=0)(F:name.size<=140737488351232)(D:path.size<=140737488351232)
 (J:OkT Q P H (f4_ (aC_ st) name (l2_ path content))):
 dB_ [yA x n,gS name,gS path,gS content] H Q:=
 pA_ I N F D (λq=>by grind) (λA q r=>by rw[o]at q;cases q;exact absurd e r) λA q _=>by rw[o]at q;cases q;exact J
theorem su_(I:TrP P H x n cs T)(N:∀l,P l->l<H.length)(o:ofD T=some st)(e:eU_ (aC_ st) name path=0)(F:name.size<=140737488351232)(D:path.size<=140737488351232)
 (J:OkT Q P H (f4_ (aC_ st) name (za_ path))):
 dy_ [yA x n,gS name,gS path] H Q:=
 ov_ I N F D (λq=>by grind) (λA q r=>by rw[o]at q;cases q;exact absurd e r) λA q _=>by rw[o]at q;cases q;exact J
theorem noP:∀l:Nat,False->l<n:=λ_=>False.elim
theorem i7_(A:Tr H x n cs T)(o:ofD T=some st)(e:aC_ st=is)(D:∀H' b a,H<+:H'->bW_ H' b a is->Q (.tup [yR a is.length 5,nN 0]) H'):d6_ [yA x n] H Q:=
 sg_ A (λq=>by grind) λF q=>by rw[o]at q;cases q;rw[e];exact λH' b a p _=>D H' b a p
end
section
variable{H:Hp}{Q:Post}{x:Pl}{n:Nat}{cs:List PC}{T:List Pg}{E:Nat->Sm}
end
theorem map_set{α β:Type}[DecidableEq α]{ps:List (α × β)}(r:(ps.map (·.1)).Nodup){k:α}{g:α × β->α × β}(D:m<ps.length)(h:ps[m].1=k):(ps.map λx=>if x.1=k then g x else x)=ps.set m (g ps[m]):=by
 apply ext_getElem t_;intro j A I;rw[getElem_map,getElem_set];have G:j<ps.length:=by grind
 by_cases e:m=j
 .grind
 .rw[if_neg e,if_neg];intro q;apply e;exact (getElem_inj (h₀:=by grind) (h₁:=by simpa) r).1 g_
section
variable{B H:Hp}{Q:Post}{sp n1 n2 n3:Nat}{a1 a2 a3:Pl}{st:StD}
theorem c7_.updS(h:c7_ B H sp (some (A,0)) n1 a2 n2 a3 n3 st)(V:m<st.snaps.length)(Y:j<5)(N:(AS_ st.snaps[m]).set j v=AS_ x')
 (W:∀D,D.length=H.length->c7_ B D sp (some (A,0)) n1 a2 n2 a3 n3 { st with snaps:=st.snaps.set m x' }->K D):wr H A (m*5+j) v K:=by
 have⟨t,Z⟩:=h.row;have O:=h.l1;rcases h.snaps with⟨q,_⟩|⟨l,e,J,r,U⟩
 .cases q
 .cases e;refine b4_ r o_ ?_;have I:=iS_ (m:=5) (λ_=>rfl) Y st.snaps m V N;have F:=(kC.1 r).1;rw[I];refine W _ t_ ⟨⟨t,g_⟩,dH_ h.pre J _,h.base,.inr ⟨A,rfl,J,by rw[kH F],by rw[<-I];simp[U]⟩,h.links.set (λe=>h.d12 A rfl e) _,h.inos.set (λe=>h.d13 A rfl e) _,by simpa using h.l1,h.l2,h.l3,h.d12,h.d13,h.d23,h.s1,h.s2,h.s3⟩
end
section
variable{H:Hp}{Q:Post}{x:Pl}{n:Nat}{cs:List PC}{T:List Pg}
theorem rm_ {A F:Y_} (hT:Tr H x n cs T) (Z:A.size<=140737488351232) (Y:F.size<=140737488351232)
 (h0:ofD T=none->∀H',H<+:H'->Q (.tup [yB none 0,nN 2000]) H')
 (h1:∀st e,ofD T=some st->e7_ (aC_ st) A F=e->e≠0->∀H',H<+:H'->Q (.tup [yB none 0,nN e]) H')
 (h2:∀st,ofD T=some st->e7_ (aC_ st) A F=0->∀H' x',H<+:H'->TrK H' x' 48 (eN_ (iO_ (eV_ st A F)))->Q (.tup [yB x' 48,nN 0]) H'):
 e9_ [yA x n,gS A,gS F] H Q:=by
 refine⟨2,?_⟩;rw[un_];have I:∀k:Nat,tN (k:Int)=k:=λ_=>rfl;refine iA_ hT (λe H' p hp=>?_) λst e B H' sp a1 n1 a2 n2 a3 n3 hB hR=>?_
 .simp only[aL_,aI_,bI_,gs_,am_,bf_];exact aa_ (λ_=>h0 e H' hp) (λe=>by cases e)
 ·simp only[aL_,aI_,bI_,gs_,am_,bf_];refine aa_ (λe=>by cases e) λ_=>?_;have K:=e6_ e;have hm:=K.many;unfold d8_ at hm;have⟨_,hd,hok⟩:=j6_ e;refine fw_ hR ⟨o_,o_,o_⟩ (qT_ hok) λG a pG ha=>?_;simp only[aO_,ah_];refine rz_ ha K.asc K.from_ K.size.1 K.size.2 Z Y λG1 b1 m1 pG1=>?_;simp only[aL_,aI_,bI_,ah_,ai_,bf_];have D:=hR.mono (pG.trans pG1);refine aa_ (λq=>?_) (λq=>?_)
  .exact h1 st _ e rfl (by simpa using q) G1 (hB.trans D.pre)
  have hw:e7_ (aC_ st) A F=0:=by simpa using q
  obtain⟨w1,w2,⟨i,hi,O⟩,hto⟩:=vU_ hw;have⟨him,J⟩:=dU_ hi;obtain⟨z,hz,ez,hfz⟩:=K.infos.get him;have hz1:z.1=A:=by rw[ez]at J;exact J
  have gd:=Bb_ K.good K.infos hw;refine gO_ D o_ (λk O ek hmin=>?_) λq=>?_
  ·simp only[aO_,ai_,ae_];obtain⟨W,g2,g3⟩:=D.rd;rw[ad_ W,ah_];have hl1:=D.l1;refine ab_ rfl (ab_ (by simp<;>omega) ?_);obtain⟨l,e1,r1,r2,r3,r4,r5⟩:=D.snapG k O;subst e1;simp only[ae_,I,kN];refine D.updS O o_ (x':=(F,st.snaps[k].2)) rfl λG2 hG2 V=>?_;obtain⟨W,g2,g3⟩:=V.rd;rw[kQ]at W;rw[ad_ W,ah_];refine ab_ rfl (ab_ (by simp<;>omega) ?_);simp only[ae_,I,kN];have U:k<(st.snaps.set k (F,st.snaps[k].2)).length:=by rw[length_set];exact O
   have hgk:=getElem_set_self U;refine V.updS (j:=2) U o_ (x':=(F,⟨st.snaps[k].2.id,2,st.snaps[k].2.parent,st.snaps[k].2.label⟩)) (by dsimp only;rw[hgk];rfl) λG3 hG3 hR3=>?_;have hst:(⟨(st.snaps.set k (F,st.snaps[k].2)).set k (F,⟨st.snaps[k].2.id,2,st.snaps[k].2.parent,st.snaps[k].2.label⟩),st.links,st.inos⟩)=eV_ st A F:=by
    unfold eV_;rw[map_set K.good.sto.nd.snaps O ek,set_set]
   have N:c7_ B G3 sp (some (l,0)) n1 a2 n2 a3 n3 (eV_ st A F):=by rw[<-hst];exact hR3
   refine i0_ N gd.sto ⟨?_,?_,?_⟩ (tA_ gd).2.2 λG4 x' pG4 hT'=>?_
   .unfold eV_;dsimp only;rw[k9];omega
   .unfold eV_;dsimp only;omega
   .unfold eV_;dsimp only;omega
   .simp only[eK_,bg_,ah_,bL_];exact h2 st e hw G4 x' (hB.trans pG4) hT'
  .obtain⟨j,hj,ej⟩:=kK hz;have:=q j hj;rw[ej]at this;exact absurd hz1 this
theorem G0_{id frm:Int}(e:l.1.1=frm)(r:look st.inos l.2.1=some y):h6_ id frm st l=⟨st.snaps,st.links++[((id,l.1.2),(l.2.1,false))],fz_ st.inos l.2.1 ⟨y.links+1,y.content⟩⟩:=by
 unfold h6_;grind
theorem G1_{id frm:Int}(e: ¬ l.1.1=frm):h6_ id frm st l=st:=by
 unfold h6_;grind
theorem qc_ {name parent:Y_} {kind:Int} (hT:Tr H x n cs T) (hs1:name.size<=140737488351232) (hs2:parent.size<=140737488351232)
 (h0:ofD T=none->∀H',H<+:H'->Q (.tup [yB none 0,nN 2000]) H')
 (h1:∀st e,ofD T=some st->hF_ (aC_ st) name parent kind=e->e≠0->∀H',H<+:H'->Q (.tup [yB none 0,nN e]) H')
 (h2:∀st,ofD T=some st->hF_ (aC_ st) name parent kind=0->∀H' x',H<+:H'->TrK H' x' 48 (eN_ (iO_ (d1_ st name parent kind)))->Q (.tup [yB x' 48,nN 0]) H'):
 a7_ [yA x n,gS name,gS parent,gI kind] H Q:=by
 refine⟨100,?_⟩;rw[sJ_];have etn:∀k:Nat,tN (k:Int)=k:=λ_=>rfl;refine iA_ hT (λe H' p hp=>?_) λst e B H' sp a1 n1 a2 n2 a3 n3 hB hR=>?_
 .simp only[aL_,aI_,bI_,gs_,am_,bf_];exact aa_ (λ_=>h0 e H' hp) (λe=>by cases e)
 ·simp only[aL_,aI_,bI_,gs_,am_,bf_];refine aa_ (λe=>by cases e) λ_=>?_;have K:=e6_ e;have hm:=K.many;have hm':=hm;unfold d8_ at hm;obtain⟨_,hd,hok⟩:=j6_ e;refine fw_ hR ⟨o_,o_,o_⟩ (qT_ hok) λG a pG ha=>?_;simp only[aO_,ah_];refine qm_ ha K.asc K.from_ K.size.1 K.size.2 hs1 hs2 λG1 b1 m1 pG1=>?_;simp only[aL_,aI_,bI_,ah_,ai_,bf_];have hR1:=hR.mono (pG.trans pG1);refine aa_ (λq=>?_) (λq=>?_)
  .exact h1 st _ e rfl (by simpa using q) G1 (hB.trans hR1.pre)
  have hw:hF_ (aC_ st) name parent kind=0:=by simpa using q
  obtain⟨w1,w2,w3,w4,w5,w6⟩:=Br_ hw;have P:=Ai_ K.good hm' K.infos hw;have gd:=P.good;obtain⟨⟨k1,k2⟩,k3,k4⟩:=sj_ (st:=st) o_;refine q2_ hR1 ⟨o_,o_⟩ ?_;simp only[aO_,ai_];obtain⟨frm0,ls0,KK,_⟩:=wt_ K.good.sto hm' parent;have hks:=KK.snaps;have hpd:d1_ st name parent kind=⟨(rP_ st parent).snaps++[(name,⟨ec_ st,kind,parent,mkS []⟩)],(rP_ st parent).links,(rP_ st parent).inos⟩:=rfl;have hkl:(rP_ st parent).links.length<=200/\(rP_ st parent).inos.length<=100:=by
   obtain⟨frm,ls,KK,hls⟩:=wt_ K.good.sto hm' parent;have h1:=KK.len;have h2:=KK.nos;have:ls.length<=60:=by
    rcases hls with q|⟨_,q,_⟩
    .rw[q];simp
    .rw[q];omega
   omega
  obtain⟨fid,hfid⟩:∃fid,ec_ st=fid:=⟨_,rfl⟩;rw[hfid]at k1 k2 k3 k4 hpd ⊢;generalize hkid:rP_ st parent=S at hpd hkl hks;have l18:∀(F:Nat)(G:Hp)(a2:Pl)(n2:Nat)(a3:Pl)(n3:Nat),c7_ B G sp a1 n1 a2 n2 a3 n3 S->a7_.l18 (F+1) name parent kind none 0 (some (sp,0)) fid G Q:=by
   intro F G a2 n2 a3 n3 hR;rw[a7_.l18_eq];obtain⟨g1,g2,g3⟩:=hR.rd;simp only[ae_];rw[ad_ g1,ah_];have hl1:=hR.l1;refine ab_ rfl ?_;refine hR.putS (name,⟨fid,kind,parent,mkS []⟩) (by rw[hl1,hks];omega) λa1' G2 hR2=>?_;have hR2':c7_ B G2 sp a1' (n1+1) a2 n2 a3 n3 (d1_ st name parent kind):=by rw[hpd];exact hR2
   refine i0_ hR2' gd.sto ⟨?_,?_,?_⟩ (tA_ gd).2.2 λG4 x' pG4 hT'=>?_
   .rw[P.snaps,kI];simp;omega
   .rw[hpd];dsimp only;omega
   .rw[hpd];dsimp only;omega
   .simp only[eK_,bg_,ah_,bL_];exact h2 st e hw G4 x' (hB.trans pG4) hT'
  refine aa_ (λe=>?_) λe=>?_
  ·have hne: ¬ parent=mkS []:=by simpa using e
   simp only[ae_];obtain⟨g1,g2,g3⟩:=hR1.rd;rw[ad_ g1,ah_];have hl1:=hR1.l1;have hl2:=hR1.l2;have hpar:∃y,look st.snaps parent=some y:=by
    unfold kM_ at w5;rw[lH hne,Bool.false_or]at w5;cases hf:ch_ (aC_ st) parent with
    |none=>rw[hf]at w5;cases w5
    |some i=>
     obtain⟨him,hin⟩:=dU_ hf;obtain⟨z,hz,ez,_⟩:=K.infos.get him;refine⟨z.2,?_⟩;have:=hi_ K.good.sto.nd.snaps hz;rw[show z.1=parent by rw[ez]at hin;exact hin]at this;exact this
   obtain⟨px,hpx⟩:=hpar;have hS:S=st.links.foldl (h6_ fid px.id) st:=by
    rw[<-hkid,<-hfid];unfold rP_;rw[lH hne];dsimp only;rw[hpx]
   refine gO_ hR1 o_ (λk hk ek hmin=>?_) λq=>?_
   ·simp only[aO_,ai_];rw[ad_ g1,ah_];refine⟨rfl,ab_ rfl (ab_ (by simp<;>omega) ?_)⟩;obtain⟨l,e1,r1,r2,_⟩:=hR1.snapG k hk;have hxk:=BF_ (st:=st) hk ek hmin hpx;rw[e1];simp only[ae_,etn,kN,kQ];rw[ad_ r2,ai_,hxk];have g2':gt G1 sp 1=some (.sl a2 n2 4):=by simpa using g2
    rw[ad_ g2',ah_];have l12:∀(f i F:Nat)(G:Hp)(a2:Pl)(n2':Nat)(a3:Pl)(n3':Nat),f=st.links.length-i->i<=st.links.length->f+2<=F->Kid st fid px.id (st.links.take i) ((st.links.take i).foldl (h6_ fid px.id) st)->st.links<+:((st.links.take i).foldl (h6_ fid px.id) st).links->c7_ B G sp a1 n1 a2 n2' a3 n3' ((st.links.take i).foldl (h6_ fid px.id) st)->
     a7_.l12 F name parent kind none 0 (some (sp,0)) fid px.id ((st.links.length:Nat):Int) ((i:Nat):Int) G Q:=by
     intro f;induction f with
     |zero=>
      intro i F G a2 n2' a3 n3' hf hi hF hK hpre hR;obtain⟨F,rfl⟩:∃G,F=G+1+1:=⟨F-2,o_⟩;rw[a7_.l12_eq];refine aa_ (λe=>by simp at e<;>omega) λ_=>?_;rw[k7 o_,<-hS]at hR;exact l18 F G a2 n2' a3 n3' hR
     | succ f ih=>
      intro i F G a2 n2' a3 n3' hf hi hF hK hpre hR;have hil:i<st.links.length:=by omega
      obtain⟨F,rfl⟩:∃G,F=G+1:=⟨F-1,o_⟩;have hfold:(st.links.take (i+1)).foldl (h6_ fid px.id) st=h6_ fid px.id ((st.links.take i).foldl (h6_ fid px.id) st) st.links[i]:=by
       rw[take_add_one,kG hil,Option.toList_some,foldl_append];rfl
      generalize hS1:(st.links.take i).foldl (h6_ fid px.id) st=S1 at hK hpre hR hfold;have hnd:∀m∈st.links.take i,m.1≠st.links[i].1:=λm hm q=>by
       obtain⟨j,hj,rfl⟩:=kK hm;rw[getElem_take]at q;have hj':j<i:=by rw[lC]at hj;omega
       have:=(getElem_inj (h₀:=by rw[k9];omega) (h₁:=by rw[k9];omega) K.good.sto.nd.links).1 (show (st.links.map (·.1))[j]'(by rw[k9];omega)=(st.links.map (·.1))[i]'(by rw[k9];omega) by rw[getElem_map,getElem_map];exact q);omega
      have hstep:=Bc_ K.good.sto k1 k2 k4 o_ (ls:=st.links.take i) (l:=st.links[i]) (kE hil) (λm hm=>mem_of_mem_take hm) hnd (by rw[lC];omega) hK;have htk:st.links.take i++[st.links[i]]=st.links.take (i+1):=by rw[take_add_one,kG hil];rfl
      rw[htk]at hstep;have hlen1:=hK.len;rw[lC]at hlen1;have hno1:=hK.nos;have hil1:i<S1.links.length:=by have:=hpre.length_le;omega
      have hli:S1.links[i]=st.links[i]:=by
       obtain⟨r,hr⟩:=hpre;have:S1.links[i]?=st.links[i]? :=by rw[<-hr,kM hil]
       rw[kG hil1,kG hil]at this;exact Option.some.inj this
      have hl2':=hR.l2;rw[a7_.l12_eq];refine aa_ (λ_=>?_) (λe=>by simp at e<;>omega);obtain⟨g1,g2,g3⟩:=hR.rd;simp only[ae_];rw[ad_ g2,ah_];refine ab_ rfl (ab_ (by simp<;>omega) ?_);obtain⟨lk,e2,q1,q2,q3,q4,_⟩:=hR.linkG i hil1;rw[hli]at q1 q2 q3 q4;rw[e2];simp only[ae_,etn,kN];rw[ad_ q1,ai_,ad_ q2,au_,ad_ q3,ai_,ad_ q4,am_];have w1:ac_ .i64 (((i:Nat):Int)+1)=((i+1:Nat):Int):=an_ o_;refine aa_ (λe=>?_) λe=>?_
      ·have e':st.links[i].1.1=px.id:=by simpa using e
       obtain⟨y0,_,hy0,_⟩:=K.good.sto.ino (kE hil);obtain⟨y,hym⟩:=(hK.text st.links[i].2.1).2 ⟨y0,hy0⟩;have hy:=(d4_ hK.sto.nd.inos).2 hym;have heq:=G0_ (id:=fid) (frm:=px.id) e' hy;rw[ad_ (show gt G sp 1=some (.sl a2 n2' 4) by simpa using g2),ah_];refine ab_ rfl ?_;refine hR.putL ((fid,st.links[i].1.2),(st.links[i].2.1,false)) o_ λa2' G2 hR2=>?_;obtain⟨g1',g2',g3'⟩:=hR2.rd;rw[ad_ (show gt G2 sp 2=some (.sl a3 n3' 3) by simpa using g3'),ah_];refine fA_ hR2 (by dsimp only;omega) ?_;simp only[aO_,ai_];obtain⟨mm,hmm,em,ey⟩:=s6_ hy;rw[em,ad_ (show gt G2 sp 2=some (.sl a3 n3' 3) by simpa using g3'),ah_];have hl3':=hR2.l3;dsimp only at hl3';refine⟨rfl,ab_ rfl (ab_ (by simp<;>omega) ?_)⟩;obtain⟨lr,e3,z1,z2,z3⟩:=hR2.inoG mm hmm;subst e3;simp only[ae_,etn,kN,kQ];rw[ad_ z2,ai_];refine ab_ rfl (ab_ (by simp<;>omega) ?_);have hcy:=(dQ_.1 hK.sto.lk).2 _ hym;dsimp only at hcy;have hcl:ft_ S1 st.links[i].2.1<=S1.links.length:=countP_le_length;rw[ey];dsimp only;rw[b5_ (n:=y.links+1) o_ o_];refine hR2.updI hmm _ λG3 hG3 hR3=>?_;rw[w1];have hfin:(⟨S1.snaps,S1.links++[((fid,st.links[i].1.2),(st.links[i].2.1,false))],S1.inos.set mm (S1.inos[mm].1,⟨y.links+1,S1.inos[mm].2.content⟩)⟩:StD)=h6_ fid px.id S1 st.links[i]:=by
        rw[heq,v4_ hK.sto.nd.inos hmm ey,ey]
       have hR3':c7_ B G3 sp a1 n1 a2' (n2'+1) (some (lr,0)) n3' (h6_ fid px.id S1 st.links[i]):=by rw[<-hfin];exact hR3
       refine ih (i+1) F G3 a2' _ _ n3' o_ hil o_ (by rw[hfold];exact hstep) ?_ (by rw[hfold];exact hR3');rw[hfold,heq];exact hpre.trans (prefix_append _ _)
      .have e': ¬ st.links[i].1.1=px.id:=by simpa using e
       have heq:=G1_ (id:=fid) (frm:=px.id) (st:=S1) e';rw[heq]at hfold hstep;rw[w1];exact ih (i+1) F G a2 n2' a3 n3' o_ hil o_ (by rw[hfold];exact hstep) (by rw[hfold];exact hpre) (by rw[hfold];exact hR)
    rw[hl2];refine l12 _ 0 99 G1 a2 n2 a3 n3 rfl (kP _) o_ ?_ (k8 _) hR1;exact⟨K.good.sto,rfl,t_,rfl,λl=>by simp,λk=>Iff.rfl,λk y y' g1 g2=>by
     have e1:=(d4_ K.good.sto.nd.inos).2 g1;have e2:=(d4_ K.good.sto.nd.inos).2 g2;rw[e1]at e2;rw[Option.some.inj e2]⟩
   .obtain⟨j,hj,ej⟩:=kK (cW_ hpx);have:=q j hj;rw[ej]at this;exact absurd rfl this
  .have hpe:parent=mkS []:=by simpa using e
   have hS:S=st:=by rw[<-hkid];unfold rP_;rw[lE hpe]
   rw[<-hS]at hR1;exact l18 98 G1 a2 n2 a3 n3 hR1
end
section
variable{H:Hp}{Q:Post}
end
section
variable{B H:Hp}{Q:Post}{sp n1 n2 n3:Nat}{a1 a2 a3:Pl}{st:StD}
end
section
variable{H:Hp}{Q:Post}{x:Pl}{n:Nat}{cs:List PC}{T:List Pg}
end
def yC_(kv:KV)(name parent:Y_)(kind:Int):Option KV:=match eo_ kv with
 |none=>none
 |some st=>match hF_ (aC_ st) name parent kind==0 with|true=>some (eN_ (iO_ (d1_ st name parent kind)))|false=>none
def tl_ (kv:KV) (name path content:Y_):Option KV:=match eo_ kv with
 |none=>none
 |some st=>match co_ (aC_ st) name path content==0 with
  |true=>(match look st.snaps name with|some y=>some (eN_ (iO_ (fL_ st y.id path content)))|none=>none)
  |false=>none
def u3_(kv:KV)(name to:Y_):Option KV:=match eo_ kv with
 |none=>none
 |some st=>match e7_ (aC_ st) name to==0 with|true=>some (eN_ (iO_ (eV_ st name to)))|false=>none
def sW:Y_:=mkS [119]
def sBase:Y_:=mkS [98,97,115,101]
def ga_:Y_:=mkS [119,111,114,107]
def Kv_:Option KV:=yC_ [] sW (mkS []) 0
def Kh_:Option KV:=Kv_.bind λk=>tl_ k sW (mkS [97]) (mkS [111,110,101])
def Kn_:Option KV:=Kh_.bind λk=>u3_ k sW sBase
def Kf_:Option KV:=Kn_.bind λk=>yC_ k ga_ sBase 0
def J8_:Option KV:=Kf_.bind λk=>tl_ k ga_ (mkS [98]) (mkS [116,119,111])
section
variable{H:Hp}{Q:Post}{x:Pl}{n:Nat}{kv kv':KV}
theorem yc_ (h:TrK H x n kv) (e:yC_ kv name parent kind=some kv') (r:name.size<=140737488351232) (D:parent.size<=140737488351232)
 (Y:∀H' x',H<+:H'->TrK H' x' 48 kv'->Q (.tup [yB x' 48,nN 0]) H'):a7_ [yA x n,gS name,gS parent,gI kind] H Q:=by
 have⟨W,T,G,N⟩:=z9_ h;unfold yC_ at e;cases F:eo_ kv with
 |none=>rw[F]at e;cases e
 | some st=>
  rw[F]at e N;dsimp at e;cases I:hF_ (aC_ st) name parent kind==0 with
  |false=>rw[I]at e;cases e
  |true=>
   refine qc_ G r D (λq=>?_) (λA U O J V=>?_) λA O J H' x' p t=>?_
   .grind
   .grind
   .grind
theorem vH_ (h:TrK H x n kv) (e:tl_ kv name path content=some kv') (r:name.size<=140737488351232) (D:path.size<=140737488351232)
 (Z:∀H' x',H<+:H'->TrK H' x' 48 kv'->Q (.tup [yB x' 48,nN 0]) H'):cw_ [yA x n,gS name,gS path,gS content] H Q:=by
 have⟨Y,T,J,U⟩:=z9_ h;unfold tl_ at e;cases G:eo_ kv with
 |none=>rw[G]at e;cases e
 | some st=>
  rw[G]at e U;dsimp at e;cases F:co_ (aC_ st) name path content==0 with
  |false=>rw[F]at e;cases e
  | true=>
   rw[F]at e;cases I:look st.snaps name with
   |none=>rw[I]at e;cases e
   |some y=>
    refine tv_ J r D (λq=>?_) (λA W V O N=>?_) λA y' V O N H' x' p t=>?_
    .grind
    .grind
    .grind
theorem AW_ (h:TrK H x n kv) (e:u3_ kv name to=some kv') (r:name.size<=140737488351232) (D:to.size<=140737488351232)
 (Y:∀H' x',H<+:H'->TrK H' x' 48 kv'->Q (.tup [yB x' 48,nN 0]) H'):e9_ [yA x n,gS name,gS to] H Q:=by
 have⟨W,T,G,N⟩:=z9_ h;unfold u3_ at e;cases F:eo_ kv with
 |none=>rw[F]at e;cases e
 | some st=>
  rw[F]at e N;dsimp at e;cases I:e7_ (aC_ st) name to==0 with
  |false=>rw[I]at e;cases e
  |true=>
   refine rm_ G r D (λq=>?_) (λA U O J V=>?_) λA O J H' x' p t=>?_
   .grind
   .grind
   .grind
theorem HA_(H:Hp):Tr H none 0 [] []:=⟨rfl,rfl,rfl,λi h=>by simp⟩
theorem GJ_:ofD []=none:=by
 have:decide (0<aK_ [])=false:=by decide+kernel
 unfold ofD;grind
end
end Go.Am
section
set_option maxRecDepth 100000
namespace Go.Am
open List
def iQ_ (is:List InfoR) (name path:Y_):Y_ × Int:=match aX_ name 4 with
 |false=>(mkS [],1901)
 | true=>match ch_ is name with
  |none=>(mkS [],1903)
  | some i=>match aX_ path 3 with
   |false=>(mkS [],1907)
   |true=>match i.files.find? λf=>decide (f.1=path) with
    |none=>(mkS [],1908)
    |some f=>(f.2.1,0)
theorem lW_(h:ofD T=some st):w2_ T s t=iQ_ (aC_ st) s t:=by unfold w2_;rw[h];rfl
theorem C4_(h:ofD T=none):w2_ T s t=(mkS [],2000):=by unfold w2_;rw[h]
def Kq_:FileR:=(mkS [97],mkS [111,110,101],true)
def I3_:FileR:=(mkS [97],mkS [111,110,101],false)
def fTwo:FileR:=(mkS [98],mkS [116,119,111],true)
def GY_:InfoR:=⟨sBase,2,mkS [],mkS [],[Kq_]⟩
def FL_:InfoR:=⟨ga_,0,sBase,mkS [],[I3_,fTwo]⟩
def is0:List InfoR:=[GY_,FL_]
def is1:List InfoR:=[GY_,⟨ga_,0,sBase,mkS [],[(mkS [97],mkS [115,105,120],true),fTwo]⟩]
def is2:List InfoR:=[GY_,⟨ga_,0,sBase,mkS [],[I3_]⟩]
def JT_:Bool:=match J8_ with
 |none=>false
 |some k5=>match eo_ k5 with
  |none=>false
  |some st=>decide (aC_ st=is0)
set_option maxRecDepth 1000000 in
theorem Gy_:JT_=true:=by decide+kernel
theorem J5_:∃J F N I D st,yC_ [] sW (mkS []) 0=some J/\tl_ J sW (mkS [97]) (mkS [111,110,101])=some F/\u3_ F sW sBase=some N/\yC_ N ga_ sBase 0=some I/\tl_ I ga_ (mkS [98]) (mkS [116,119,111])=some D/\eo_ D=some st/\aC_ st=is0:=by
 have h:=Gy_;unfold JT_ at h;cases U:J8_ with
 |none=>rw[U]at h;cases h
 |some D=>
  rw[U]at h;have r:=U;have⟨I,V,r⟩:=Option.bind_eq_some_iff.1 r;have⟨N,Z,V⟩:=Option.bind_eq_some_iff.1 V;have⟨F,O,Z⟩:=Option.bind_eq_some_iff.1 Z;have⟨J,W,O⟩:=Option.bind_eq_some_iff.1 O;dsimp at h;cases Y:eo_ D with
  |none=>rw[Y]at h;cases h
  |some st=>rw[Y]at h;exact⟨J,F,N,I,D,st,W,O,Z,V,r,Y,of_decide_eq_true h⟩
theorem Gn_:f4_ is0 ga_ (l2_ (mkS [97]) (mkS [115,105,120]))=is1/\f4_ is0 ga_ (za_ (mkS [98]))=is2/\co_ is0 ga_ (mkS [97]) (mkS [115,105,120])=0/\eU_ is0 ga_ (mkS [98])=0/\co_ is0 sBase (mkS [97]) (mkS [])=1905/\
 iQ_ is0 ga_ (mkS [97])=(mkS [111,110,101],0)/\iQ_ is0 sBase (mkS [122])=(mkS [],1908):=by decide+kernel
section
variable{H:Hp}{Q:Post}{x:Pl}{n:Nat}{cs:List PC}{T:List Pg}
theorem kt_(hQ:∀H' x' cs T st,H<+:H'->Tr H' x' 48 cs T->ofD T=some st->aC_ st=is0->Q (yA x' 48) H'):ev_ [] H Q:=by
 have⟨k1,k2,k3,k4,k5,st,O,J,U,A,V,e6,u1⟩:=J5_;have sz:∀l:List UInt8,l.length<=100->(mkS l).size<=140737488351232:=λl h=>by rw[iC_];omega
 refine⟨1,?_⟩;rw[uI_];refine kW_ λY p1 Z=>?_;simp[eK_];have D:TrK Y (some (H.length,0)) 48 []:=⟨s1_,mX_,Z.tr,by rw[Iz_];omega,D7_⟩;refine yc_ D O (sz _ t_) (sz _ t_) λH2 x2 p2 F=>?_;simp[aL_];refine vH_ F J (sz _ t_) (sz _ t_) λH3 x3 p3 t3=>?_;simp[aL_];refine AW_ t3 U (sz _ t_) (sz _ t_) λH4 x4 p4 N=>?_;simp[aL_];refine yc_ N A (sz _ t_) (sz _ t_) λH5 x5 p5 I=>?_;simp[aL_];refine vH_ I V (sz _ t_) (sz _ t_) λH6 x6 p6 W=>?_;simp[aL_];have⟨cs,T,hT,ho⟩:=z9_ W;grind
theorem tf_ {E:Nat->Sm} (hQ:∀H',H<+:H'->Q (gB true) H'):gt_ E [] H Q:=by
 obtain⟨v1,v2,v3,v4,v5,v6,v7⟩:=Gn_;refine⟨1,?_⟩;rw[vu_];have sz:∀l:List UInt8,l.length<=100->(mkS l).size<=140737488351232:=λl h=>by rw[iC_];omega
 refine kt_ λH1 x1 c1 T1 st p1 t1 o1 i1=>?_;simp only[eK_,bg_,ah_,bL_];refine f3_ t1 (sz _ d_) (sz _ d_) λH2 p2=>?_;rw[lW_ o1,i1,show iQ_ is0 (mkS [119,111,114,107]) (mkS [97])=(mkS [111,110,101],0) from v6];simp only[aL_,aI_,bI_,au_,ai_,bf_];refine mA_ (.of (t1.mono p2)) noP o1 (by rw[i1];exact v3) (sz _ d_) (sz _ d_) λH3 x3 c3 T3 st3 p3 t3 o3 i3=>?_;rw[i1,show f4_ is0 (mkS [119,111,114,107]) _=is1 from v1]at i3;simp only[aL_,aI_,eQ_,bg_,bI_,ah_,ai_,bL_,bf_];refine i7_ t3.tr o3 i3 λH4 b4 a4 p4 f4=>?_;simp only[aL_,aI_,eQ_,bg_,bI_,ah_,ai_,bL_,bf_];refine su_ (.of (t1.mono (p2.trans (p3.trans p4)))) noP o1 (by rw[i1];exact v4) (sz _ d_) (sz _ d_) λH5 x5 c5 T5 st5 p5 t5 o5 i5=>?_;rw[i1,show f4_ is0 (mkS [119,111,114,107]) _=is2 from v2]at i5;simp only[aL_,aI_,eQ_,bg_,bI_,ah_,ai_,bL_,bf_];refine i7_ t5.tr o5 i5 λH6 b6 a6 p6 f6=>?_;simp only[aL_,aI_,eQ_,bg_,bI_,ah_,ai_,bL_,bf_];have p16:=p2.trans (p3.trans (p4.trans (p5.trans p6)));refine pA_ (.of (t1.mono p16)) noP (sz _ d_) (sz _ d_) (λq=>by rw[o1]at q;cases q) (λst' q r H7 p7=>?_) λst' q r=>by
  rw[o1]at q;cases q;rw[i1,show co_ is0 (mkS [98,97,115,101]) _ _=1905 from v5]at r;cases r
 rw[o1]at q;cases q;rw[i1,show co_ is0 (mkS [98,97,115,101]) _ _=1905 from v5];simp only[aL_,aI_,eQ_,bg_,bI_,ah_,ai_,bL_,bf_];refine f3_ (t1.mono (p16.trans p7)) (sz _ d_) (sz _ d_) λH8 p8=>?_;rw[lW_ o1,i1,show iQ_ is0 (mkS [98,97,115,101]) _=(mkS [],1908) from v7];simp only[aL_,aI_,bI_,au_,ai_,bf_];refine f3_ (HA_ H8) (sz _ d_) (sz _ d_) λH9 p9=>?_;rw[C4_ GJ_];simp only[aL_,aI_,bI_,au_,ai_,bf_];have p49:=p5.trans (p6.trans (p7.trans (p8.trans p9)));have g4:=(f4.pre p49).rd;have g6:=(f6.pre (p7.trans (p8.trans p9))).rd;obtain⟨l0,o0,q0,e0,_,_,_,_,w0,g0⟩:=g4 0 d_;obtain⟨l1,o1',q1,e1,_,_,_,_,w1,g1⟩:=g4 1 d_;obtain⟨l2,o2,q2,e2,_,_,_,_,w2,_⟩:=g6 1 d_;obtain⟨l3,o3',e3,_,w3,_⟩:=g0 0 d_;obtain⟨l4,o4,e4,_,w4,_⟩:=g1 0 d_;cases e0.symm.trans e1;have tn:tN 0=0/\tN 1=1:=⟨rfl,rfl⟩;rw[aA_ d_,aA_ d_];refine ab_ rfl (ab_ d_ ?_);rw[e0];simp only[ae_,tn.1,tn.2];rw[ad_ w0,ah_,aA_ d_];refine ab_ rfl (ab_ d_ ?_);rw[ad_ w1,ah_,aA_ d_,az_ (by decide+kernel)];refine c6_ ?_;simp only[aO_,ai_];rw[az_ d_];refine ab_ rfl (ab_ d_ ?_);rw[ad_ w1,ah_];refine ab_ rfl (ab_ d_ ?_);rw[e4];simp only[ae_];rw[ad_ w4,au_,az_ (by decide+kernel)];refine ab_ rfl (ab_ d_ ?_);rw[ad_ w0,ah_];refine ab_ rfl (ab_ d_ ?_);rw[e3];simp only[ae_];rw[ad_ w3,au_,az_ (by decide+kernel)];refine c6_ ?_;simp only[aO_,ai_];rw[az_ d_];refine ab_ rfl (ab_ d_ ?_);rw[e2];simp only[ae_];rw[ad_ w2,ah_,az_ d_];refine c6_ ?_;simp only[aO_,ai_];rw[az_ d_];refine c6_ ?_;simp only[aO_,ai_];rw[az_ d_];refine c6_ ?_;simp only[aO_,ai_];rw[az_ d_];refine c6_ ?_;simp only[aO_,ai_];exact hQ H9 (p1.trans (p2.trans (p3.trans (p4.trans p49))))
end
end Go.Am
end
namespace Go.Am
open List
theorem yn_(is:List InfoR)(A s:Y_)(g:List FileR->List FileR):ch_ (f4_ is A g) s=(ch_ is s).map λi=>match decide (i.name=A) with|true=>⟨i.name,i.kind,i.parent,i.label,g i.files⟩|false=>i:=by
 unfold ch_ f4_;rw[find?_map];congr 2;grind
theorem kD_(h:ch_ is name=some i):ch_ (f4_ is name g) name=some ⟨i.name,i.kind,i.parent,i.label,g i.files⟩:=by
 rw[yn_,h,Option.map_some,lE (dU_ h).2]
theorem HC_ (h:FTo path nw G) (J:∀f∈nw,f.1=path) (A:gN_ fs) (N:q≠path):((G fs).find? λf=>decide (f.1=q))=fs.find? λf=>decide (f.1=q):=by
 have⟨I,F⟩:=h fs A;cases e:fs.find? λf=>decide (f.1=q) with
 |some f=>
  have D:f.1=q:=by grind
  exact sk_ I ((F f).2 (.inr ⟨mem_of_find?_eq_some e,g_⟩)) D
 |none=>
  grind
theorem lN_ (A:∀i∈is,gN_ i.files) (h:FTo path nw G) (D:∀f∈nw,f.1=path) (F:s≠name\/q≠path):iQ_ (f4_ is name G) s q=iQ_ is s q:=by
 unfold iQ_;rw[yn_];cases aX_ s 4 with
 |false=>rfl
 | true=>
  cases e:ch_ is s with
  |none=>rfl
  | some i=>
   have⟨m,I⟩:=dU_ e;simp;cases J:decide (i.name=name) with
   |false=>rfl
   |true=>
    rw[HC_ h D (A i m) (F.resolve_left g_)]
theorem FE_(D:∀i∈is,gN_ i.files)(I:co_ is name path content=0):iQ_ (f4_ is name (l2_ path content)) name path=(content,0):=by
 have⟨F,O,_,i,A,_⟩:=oI_ I;obtain⟨N,J⟩:=oB_ _ (D i (dU_ A).1);unfold iQ_;rw[F,kD_ A,O];dsimp;rw[sk_ N ((J _).2 (.inl (mem_singleton.2 rfl))) rfl]
theorem ve_.fas(k:ve_ T st):∀i∈aC_ st,gN_ i.files:=λi A=>(k.fr.f4 i A).2
section
variable{H:Hp}{Q:Post}{x:Pl}{n:Nat}{cs:List PC}{T:List Pg}{name path content s t:Y_}{z:Int}
end
theorem Fc_ (F:aX_ name 4=true) (D:aX_ path 3=true) (J:content.size<=6) (hi:ch_ is name=some i) (I:i.kind=0) (h:(i.files.any λf=>decide (f.1=path))=true\/i.files.length<4):co_ is name path content=0:=by
 have A:cY_ is name=0:=by
  unfold cY_;simp_all
 unfold co_;rw[F,A,D,show leI (sz content) 6=true by simp;omega,hi];dsimp only;cases e:i.files.any λf=>decide (f.1=path) with
 |true=>rfl
 |false=>
  rw[e]at h;rw[show leI 4 i.files.length=false by simp;have:=h.resolve_left t_;omega];rfl
theorem CF_ (I:aX_ name 4=true) (F:aX_ path 3=true) (hi:ch_ is name=some i) (D:i.kind=0) (h:(i.files.any λf=>decide (f.1=path))=true):eU_ is name path=0:=by
 have A:cY_ is name=0:=by
  unfold cY_;simp_all
 unfold eU_ hJ_;grind
section
variable{H:Hp}{Q:Post}{x:Pl}{n:Nat}{cs:List PC}{T:List Pg}{name path content s t:Y_}{z:Int}
end
def ltr(j:Nat):Y_:=mkS [bof (97+(j:Int))]
theorem D3_:∀i j:Fin 4,ltr i.1=ltr j.1->i=j:=by decide+kernel
theorem rR_:∀j:Fin 4,aX_ (ltr j.1) 3=true:=by decide+kernel
theorem Cp_{j:Nat}(h:j<4)(H:Hp)(K:Y_->Prop):(rdN (pu H (.row true 5 [(.int .u8 (ac_ .u8 (ac_ .i64 (97+(j:Int)))))])) (some ((ln H),0)) 1 λc=>txt c K)=K (ltr j):=by
 rw[b5_ o_ o_,jf_ o_ o_,ek_ (cs:=u8s [bof (97+(j:Int))]) (by simp[cells?,u8s])];exact hg_ _ _
theorem Gs_(D:aX_ name 4=true)(A:aX_ path 3=true)(hi:ch_ is name=some i):iQ_ (f4_ is name (za_ path)) name path=(mkS [],1908):=by
 unfold iQ_;rw[D,kD_ hi,A];dsimp;rw[z8_ (by unfold za_;simp)]
structure wH_(is:List InfoR)(c:List Y_)(t:List Bool):Prop where
 lc:c.length=4
 lt:t.length=4
 work:∃i,ch_ is ga_=some i/\i.kind=0/\∀f∈i.files,∃j,j<4/\f.1=ltr j
 base:iQ_ is sBase (mkS [97])=(mkS [111,110,101],0)
 each:∀j (h:j<4),iQ_ is ga_ (ltr j)=match t[j] with|true=>(c[j],0)|false=>(mkS [],1908)
theorem k3_:aX_ ga_ 4=true/\ga_≠sBase:=by decide+kernel
theorem Fi_:wH_ is0 [mkS [111,110,101],mkS [116,119,111],mkS [],mkS []] [true,true,false,false]:=by
 refine⟨rfl,rfl,⟨FL_,by decide+kernel,rfl,λf hf=>?_⟩,by decide+kernel,λj h=>?_⟩
 .have:f=I3_\/f=fTwo:=by simpa[FL_] using hf
  rcases this with rfl|rfl
  .exact⟨0,d_,by decide+kernel⟩
  .exact⟨1,d_,by decide+kernel⟩
 .rcases j with _|_|_|_|j
  .show _=(mkS [111,110,101],(0:Int));decide+kernel
  .show _=(mkS [116,119,111],(0:Int));decide+kernel
  .show _=(mkS [],(1908:Int));decide+kernel
  .show _=(mkS [],(1908:Int));decide+kernel
  .omega
theorem wH_.any (r:wH_ is c t) (hi:ch_ is ga_=some i) (h:j<4):(i.files.any λf=>decide (f.1=ltr j))=t[j]'(by rw[r.lt];exact h):=by
 have e:=r.each j h;unfold iQ_ at e;rw[k3_.1,hi,rR_ ⟨j,h⟩]at e;dsimp at e;cases q:i.files.any λf=>decide (f.1=ltr j) with
 |false=>
  rw[z8_ q]at e;cases z:t[j]'g_ with
  |false=>rfl
  |true=>rw[z]at e;exact absurd (congrArg Prod.snd e) t_
 | true=>
  have⟨f,D,A⟩:=any_eq_true.1 q;cases z:t[j]'g_ with
  |true=>rfl
  |false=>
   rw[z]at e;cases y:i.files.find? λf=>decide (f.1=ltr j) with
   |none=>exact absurd A (find?_eq_none.1 y f D)
   |some g=>rw[y]at e;exact absurd (congrArg Prod.snd e) t_
theorem wH_.write (r:wH_ is c t) (A:∀i∈is,gN_ i.files) (h:j<4) (U:s.size<=6):co_ is ga_ (ltr j) s=0/\wH_ (f4_ is ga_ (l2_ (ltr j) s)) (c.set j s) (t.set j true):=by
 have ⟨i,F,D,N⟩:=r.work;have I:=A i (dU_ F).1;have w:co_ is ga_ (ltr j) s=0:=by
  refine Fc_ k3_.1 (rR_ ⟨j,h⟩) U F D ?_;cases q:i.files.any λf=>decide (f.1=ltr j) with
  |true=>exact .inl rfl
  | false=>
   have nd:(i.files.map (·.1)).Nodup:=by
    unfold Nodup;rw[pairwise_map];exact I.imp λz e=>by rw[e,bO_]at z;cases z
   have:=(dG_ (((List.range 4).filter λk=> !decide (k=j)).map ltr) _ nd λk D=>by
    obtain⟨f,A,rfl⟩:=lA.1 D;have⟨m,J,e⟩:=N f A;refine lA.2 ⟨m,mem_filter.2 ⟨mem_range.2 J,?_⟩,e.symm⟩;have:=any_eq_false.1 q f A;rw[e]at this;cases y:decide (m=j) with
    |false=>rfl
    |true=>rw[of_decide_eq_true y]at this;simp at this).1
   have O:∀k:Fin 4,((List.range 4).filter λm=> !decide (m=k.1)).length=3:=by decide
   have:=O ⟨j,h⟩;grind
 have one:∀f∈[((ltr j,s,true):FileR)],f.1=ltr j:=λf A=>by grind
 refine⟨w,by simp[r.lc],by simp[r.lt],⟨_,kD_ F,D,λf A=>?_⟩,?_,λk D=>?_⟩;rcases (oB_ _ I).2 f |>.1 A with z|z;grind;grind;rw[lN_ A oB_ one (.inl λe=>k3_.2 e.symm)];exact r.base;by_cases e:j=k;subst e;rw[FE_ A w];simp;rw[lN_ A oB_ one (.inr λq=>e (congrArg Fin.val (D3_ ⟨j,h⟩ ⟨k,D⟩ q.symm))),r.each k D];grind
theorem wH_.cut(r:wH_ is c t)(D:∀i∈is,gN_ i.files)(h:j<4):(eU_ is ga_ (ltr j)=0↔t[j]'(by rw[r.lt];exact h)=true)/\wH_ (f4_ is ga_ (za_ (ltr j))) c (t.set j false):=by
 have⟨i,A,F,N⟩:=r.work;have I:=D i (dU_ A).1;have one:∀f∈([]:List FileR),f.1=ltr j:=λf D=>by grind
 have J:=r.any A h;refine⟨⟨λe=>by rw[<-J];exact (vi_ e).2 i A,λe=>CF_ k3_.1 (rR_ ⟨j,h⟩) A F g_⟩,r.lc,by simp[r.lt],⟨_,kD_ A,F,λf D=>?_⟩,?_,λk F=>?_⟩;rcases (u1_ _ I).2 f |>.1 D with z|z;cases z;grind;rw[lN_ D u1_ one (.inl λe=>k3_.2 e.symm)];exact r.base;by_cases e:j=k;subst e;rw[Gs_ k3_.1 (rR_ ⟨j,h⟩) A];simp;rw[lN_ D u1_ one (.inr λq=>e (congrArg Fin.val (D3_ ⟨j,h⟩ ⟨k,F⟩ q.symm))),r.each k F];grind
theorem Db_{α:Type}{f:α->GV}{xs:List α}(h:H[l]?=some (.row own t (xs.map f)))(A:j<xs.length):gt H l j=some (f xs[j]):=by
 rw[aY_ h,getElem?_map,kG A];rfl
theorem n7_{α:Type}{f:α->GV}{xs:List α}(h:H[l]?=some (.row true t (xs.map f)))(F:j<xs.length)(x:α)
 (D:∀H':Hp,H'.length=H.length->(∀i,i≠l->H'[i]?=H[i]?)->H'[l]?=some (.row true t ((xs.set j x).map f))->K H'):wr H l j (f x) K:=by
 refine b4_ h g_ (D _ t_ (λi A=>kF λe=>A e.symm) ?_);rw[kH (kC.1 h).1,List.map_set]
section
variable{H:Hp}{Q:Post}{a b:Pl}{n m:Nat}{xs:List Int}{ys:List Y_}
def law21_FilesRowN:Sm:=aH_ aw_
theorem qf_:ao_ Go.Proofs.Tryz.prog 8 law21_FilesRowN:=qX_ aw_ (Ci_ _)
theorem nC_ (hI:Is H a n xs) (hS:Ss H b m ys) (hQ:∀H',Q (gB true) H'):law21_FilesRowN [nL a n 1,nL b m 1] H Q:=by
 refine⟨100,?_⟩;rw[rU_];have sz:∀l:List UInt8,l.length<=100->(mkS l).size<=140737488351232:=λl h=>by rw[iC_];omega
 have etn:∀k:Nat,tN (k:Int)=k:=λ_=>rfl;refine tf_ λH1 p1=>?_;simp only[aO_,am_];rw[aA_ d_];refine kt_ λH2 x2 c2 T2 st p2 t2 o2 i2=>?_;simp only[eK_,bg_,ah_,bL_,e3_,dS_];have l33:∀(f j:Nat)(G:Hp)(p q:Nat) x cs T st (c:List Y_) (t:List Bool),4-j<f->j<=4->G[p]?=some (.row true 69 (c.map GV.str))->G[q]?=some (.row true 70 (t.map GV.bool))->Tr G x 48 cs T->ofD T=some st->wH_ (aC_ st) c t->aH_.l33 aw_ f x 48 p 0 q 0 (j:Int) G Q:=by
  intro f;induction f with
  |zero=>intro j G p q x cs T st c t h;omega
  | succ f ih=>
   intro j G p q x cs T st c t hf hj gp gq t' o r;rw[aH_.l33_eq];refine aa_ (λe=>?_) λe=>?_
   ·have hj:j<4:=by simp at e;omega
    rw[Cp_ hj];refine f3_ (t'.mono (bU_ G _)) (sz _ d_) (sz _ t_) λH3 p3=>?_;have p3:=(bU_ G _).trans p3;have r1:=cf_ p3 (Db_ gp (show j<c.length by rw[r.lc];exact hj));have r2:=cf_ p3 (Db_ gq (show j<t.length by rw[r.lt];exact hj));have ck:(leI 0 (j:Int)&&ltI (j:Int) (nI 4))=true:=by simp;omega
    have next:aH_.l33 aw_ f x 48 p 0 q 0 (ac_ .i64 ((j:Int)+1)) H3 Q:=by
     rw[an_ o_];exact ih (j+1) H3 p q x cs T st c t o_ hj (by rw[aS_ p3 (kC.1 gp).1];exact gp) (by rw[aS_ p3 (kC.1 gq).1];exact gq) (t'.mono p3) o r
    rw[lW_ o,show iQ_ (aC_ st) (mkS [119,111,114,107]) (ltr j)=_ from r.each j hj];simp only[aL_,aI_,bI_,au_,ai_,bf_,etn,kN,Nat.mul_one];refine ab_ ck ?_;rw[ad_ r2,am_];refine c6_ ?_;simp only[aO_,ai_];rw[ad_ r2,am_];refine⟨rfl,?_⟩;cases ht:t[j]'(by rw[r.lt];exact hj) with
    |false=>
     rw[ht]at r2;rw[aA_ t_];refine ab_ ck ?_;rw[ad_ r2,am_,aA_ rfl];exact next
    |true=>
     rw[ht]at r2;rw[aA_ t_];refine ab_ ck ?_;rw[ad_ r2,am_,az_ rfl];refine ab_ ck ?_;rw[ad_ r1,au_,aA_ t_];exact next
   .refine f3_ t' (sz _ d_) (sz _ d_) λH3 p3=>?_;rw[lW_ o,show iQ_ (aC_ st) (mkS [98,97,115,101]) (mkS [97])=_ from r.base];simp only[aL_,aI_,bI_,au_,ai_,bf_];refine i7_ (t'.mono p3) o rfl λH4 b4 a4 p4 f4=>?_;simp only[aL_,aI_,eQ_,bg_,bI_,ah_,ai_,bL_,bf_];rw[az_ (by decide+kernel)];refine c6_ ?_;simp only[aO_,ai_];rw[az_ d_];exact hQ _
 have l11:∀(d f i:Nat)(G:Hp)(p q:Nat) x cs T st (c:List Y_) (t:List Bool),d=25-i->i<=25->2*d+6<=f->H<+:G->H.length<=p->H.length<=q->p≠q->G[p]?=some (.row true 69 (c.map GV.str))->G[q]?=some (.row true 70 (t.map GV.bool))->TrP (λl=>l=p\/l=q) G x 48 cs T->ofD T=some st->wH_ (aC_ st) c t->
  aH_.l11 aw_ f a n b m x 48 p 0 q 0 (i:Int) G Q:=by
  intro d;induction d with
  |zero=>
   intro f i G p q x cs T st c t hd hi hf hG hp hq hpq gp gq t' o r;obtain⟨f,rfl⟩:∃k,f=k+1:=⟨f-1,o_⟩;have l:=l33 f 0 G p q x cs T st c t o_ o_ gp gq t'.tr o r;rw[aH_.l11_eq];exact aa_ (λ_=>aa_ (λe=>by simp at e;omega) λ_=>l) λ_=>l
  | succ d ih=>
   intro f i G p q x cs T st c t hd hi hf hG hp hq hpq gp gq t' o r;obtain⟨f,rfl⟩:∃k,f=k+1+1:=⟨f-2,o_⟩;have l:=l33 (f+1) 0 G p q x cs T st c t o_ o_ gp gq t'.tr o r;rw[aH_.l11_eq];refine aa_ (λe=>aa_ (λ_=>?_) λ_=>l) λ_=>l;have hin:i<xs.length:=by have:=hI.len;simp at e;omega
   rw[af_,(hI.mono hG).rd i rfl hin];obtain⟨j,hj3,ej⟩:=IN_ xs[i] (j:=3) (m:=3) o_ rfl;rw[ej];have hj:j<4:=by omega
   have ck:(leI 0 (j:Int)&&ltI (j:Int) (nI 4))=true:=by simp;omega
   rw[Cp_ hj,af_];obtain⟨G',hG'⟩:∃G',pu G (.row true 5 [(.int .u8 (ac_ .u8 (ac_ .i64 (97+(j:Int)))))])=G':=⟨_,rfl⟩;have pG:G<+:G':=by rw[<-hG'];exact bU_ G _
   rw[hG'];rw[(hI.mono (hG.trans pG)).rd i rfl hin];have lp:=(kC.1 gp).1;have lq:=(kC.1 gq).1;have hP:∀l,(l=p\/l=q)->l<G'.length:=λl h=>by have:=pG.length_le;rcases h with rfl|rfl<;>omega
   have fas:=(e6_ o).fas;have jc:j<c.length:=by rw[r.lc];exact hj
   have jt:j<t.length:=by rw[r.lt];exact hj
   have w26:∀s:Y_,s.size<=6->aH_.l26 aw_ (f+1) a n b m x 48 p 0 q 0 (i:Int) (j:Int) (ltr j) s G' Q:=λs hs=>by
    obtain⟨w,r'⟩:=r.write fas hj hs;rw[aH_.l26_eq];refine mA_ (t'.mono pG) hP o w (sz _ d_) (sz _ t_) λH3 x3 c3 T3 st3 p3 t3 o3 i3=>?_;have p3:=pG.trans p3;rw[show f4_ (aC_ st) (mkS [119,111,114,107]) _=f4_ (aC_ st) ga_ (l2_ (ltr j) s) from rfl]at i3;rw[<-i3]at r';simp only[aL_,aI_,eQ_,bg_,bI_,ah_,ai_,bL_,bf_,etn,kN,Nat.mul_one];refine c6_ ?_;simp only[aO_,ai_];rw[aA_ d_];refine ab_ ck (n7_ (f:=GV.str) (by rw[aS_ p3 lp];exact gp) jc s λH4 e4 k4 g4=>ab_ ck (n7_ (f:=GV.bool) (by rw[k4 q hpq.symm,aS_ p3 lq];exact gq) jt true λH5 e5 k5 g5=>?_));rw[an_ o_];have l3:=p3.length_le;exact ih f (i+1) H5 p q x3 c3 T3 st3 _ _ o_ o_ o_ (g1_ (by have:=hG.length_le;omega) λl hl=>by rw[k5 l o_,k4 l o_,aS_ (hG.trans p3) hl]) hp hq hpq (by rw[k5 p hpq];exact g4) g5 (t3.keep o_ λl hl hn=>by rw[k5 l λz=>hn (.inr z),k4 l λz=>hn (.inl z)]) o3 r'
   refine aa_ (λ_=>?_) λ_=>?_
   ·obtain⟨w,r'⟩:=r.cut fas hj;have r2:∀{H3:Hp},G<+:H3->gt H3 q j=some (.bool t[j]):=λp3=>cf_ p3 (Db_ gq jt);refine ov_ (t'.mono pG) hP (sz _ d_) (sz _ t_) (λz=>by rw[o]at z;cases z) (λst' z w' H3 p3=>?_) λst' z w' H3 x3 c3 T3 st3 p3 t3 o3 i3=>?_
    ·rw[o]at z;cases z;have p3:=pG.trans p3;have ht:t[j]=false:=by
      cases y:t[j] with
      |false=>rfl
      |true=>exact absurd (w.2 y) w'
     simp only[aL_,aI_,eQ_,bg_,bI_,ah_,ai_,bL_,bf_,etn,kN,Nat.mul_one];refine ab_ ck ?_;rw[ad_ (r2 p3),am_];refine c6_ ?_;simp only[aO_,ai_];rw[ad_ (r2 p3),am_];refine⟨rfl,?_⟩;rw[ht,aA_ (by simpa using w')];refine ab_ ck ?_;rw[ad_ (r2 p3),am_,ht,aA_ rfl];refine ab_ ck (n7_ (f:=GV.bool) (by rw[aS_ p3 lq];exact gq) jt false λH5 e5 k5 g5=>?_);rw[an_ o_];have l3:=p3.length_le;have et:t.set j false=t:=by rw[<-ht];exact set_getElem_self jt
     rw[et]at g5;exact ih (f+1) (i+1) H5 p q x cs T st _ _ o_ o_ o_ (g1_ (by have:=hG.length_le;omega) λl hl=>by rw[k5 l o_,aS_ (hG.trans p3) hl]) hp hq hpq (by rw[k5 p hpq,aS_ p3 lp];exact gp) g5 ((t'.mono p3).keep o_ λl hl hn=>by rw[k5 l λz=>hn (.inr z)]) o r
    .rw[o]at z;cases z;have p3:=pG.trans p3;have ht:t[j]=true:=w.1 w';rw[show f4_ (aC_ st) (mkS [119,111,114,107]) _=f4_ (aC_ st) ga_ (za_ (ltr j)) from rfl]at i3;rw[<-i3]at r';simp only[aL_,aI_,eQ_,bg_,bI_,ah_,ai_,bL_,bf_,etn,kN,Nat.mul_one];refine ab_ ck ?_;rw[ad_ (r2 p3),am_];refine c6_ ?_;simp only[aO_,ai_];rw[ad_ (r2 p3),am_];refine⟨rfl,?_⟩;rw[ht,aA_ d_];refine ab_ ck ?_;rw[ad_ (r2 p3),am_,ht,az_ rfl];refine ab_ ck (n7_ (f:=GV.bool) (by rw[aS_ p3 lq];exact gq) jt false λH5 e5 k5 g5=>?_);rw[an_ o_];have l3:=p3.length_le;exact ih (f+1) (i+1) H5 p q x3 c3 T3 st3 _ _ o_ o_ o_ (g1_ (by have:=hG.length_le;omega) λl hl=>by rw[k5 l o_,aS_ (hG.trans p3) hl]) hp hq hpq (by rw[k5 p hpq,aS_ p3 lp];exact gp) g5 (t3.keep o_ λl hl hn=>by rw[k5 l λz=>hn (.inr z)]) o3 r'
   ·refine aa_ (λe=>?_) λ_=>w26 _ d_;have hm:0<m:=by simpa using e
    have et:Int.tmod (i:Int) (nI m)=((i % m:Nat):Int):=rfl;have hmy:i % m<ys.length:=by have:=hS.len;have:=Nat.mod_lt i hm;omega
    refine ab_ s_ ?_;rw[af_,(hS.mono (hG.trans pG)).rd (i % m) et hmy];have hl:tN (mnI (Go.Am.sz ys[i % m]) 6)=min ys[i % m].size 6:=by
     unfold mnI Go.Am.sz tN;split<;>omega
    refine ab_ (by unfold mnI Go.Am.sz;split<;>simp<;>omega) (ab_ (by rw[hl];have:min ys[i % m].size 6<=ys[i % m].size:=Nat.min_le_left _ _;unfold leN szN;simp only[kP,decide_true,Bool.true_and,decide_eq_true_eq];exact this) (w26 _ ?_));rw[hl];unfold sub;rw[ByteArray.size_extract];omega
 have pp:H2<+:H2++[Obj.row true 69 [(.str (mkS [])),(.str (mkS [])),(.str (mkS [])),(.str (mkS []))]]++[.row true 70 [(.bool false),(.bool false),(.bool false),(.bool false)]]:=by simp[kV]
 obtain⟨q1,q2⟩:=IK_ H2 (.row true 69 [(.str (mkS [])),(.str (mkS [])),(.str (mkS [])),(.str (mkS []))]) (.row true 70 [(.bool false),(.bool false),(.bool false),(.bool false)]);have p12:=p1.trans p2;have lh:=p12.length_le;generalize H2++[Obj.row true 69 [(.str (mkS [])),(.str (mkS [])),(.str (mkS [])),(.str (mkS []))]]++[.row true 70 [(.bool false),(.bool false),(.bool false),(.bool false)]]=G0 at pp q1 q2 ⊢;have l0:=pp.length_le;simp only[kN,Nat.mul_one,kI,length_cons,length_nil,show tN 0=0 from rfl,show tN 1=1 from rfl];refine ab_ rfl (n7_ (f:=GV.str) (xs:=[mkS [],mkS [],mkS [],mkS []]) q1 d_ _ λG1 e1 k1 g1=>?_);refine ab_ rfl (n7_ (f:=GV.str) g1 d_ _ λG2 e2 k2 g2=>?_);refine ab_ rfl (n7_ (f:=GV.bool) (xs:=[false,false,false,false]) (by rw[k2 _ o_,k1 _ o_];exact q2) d_ _ λG3 e3 k3 g3=>?_);refine ab_ rfl (n7_ (f:=GV.bool) g3 d_ _ λG4 e4 k4 g4=>?_);have pG:H2<+:G4:=g1_ o_ λl hl=>by rw[k4 l o_,k3 l o_,k2 l o_,k1 l o_,aS_ pp hl]
 have g2:G4[H2.length]?=some (.row true 69 ([mkS [111,110,101],mkS [116,119,111],mkS [],mkS []].map GV.str)):=by rw[k4 _ o_,k3 _ o_];exact g2
 have g4:G4[H2.length+1]?=some (.row true 70 ([true,true,false,false].map GV.bool)):=g4;have go:=l11 25 99 0 G4 H2.length (H2.length+1) x2 c2 T2 st _ _ rfl o_ o_ (p12.trans pG) lh o_ o_ g2 g4 (λI k=>t2.mono (g1_ (by
  refine Nat.le_of_not_lt λz=>?_;have y:=k I.length o_ o_;rw[getElem?_eq_none (kO _),kG o_]at y;cases y) λl hl=>by rw[k l o_ o_,aS_ pG hl])) o2 (by rw[i2];exact Fi_)
 exact go
end
end Go.Am
