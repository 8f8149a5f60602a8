import Derived.Test.YtjbgjfikgpffmaaGreatM12
set_option linter.all false
set_option autoImplicit true
set_option relaxedAutoImplicit true
set_option maxRecDepth 100000
namespace Go.Am
open List
structure GT(B H:Hp)(tp:Nat)(ds:List PC)(T:List Pg)(X:Nat->Prop)(off:Nat->Prop):Prop where
 pre:B<+:H
 ot:OT H B.length tPg (some (tp,0)) 48 ds T
 wo:∀i (h:i<ds.length),WoP H B.length 1000 ds[i]
 base:∀i (h:i<ds.length) l,(ds[i]).on l->B.length<=l
 own:∀i (h:i<ds.length) (h':i<T.length),X i->(ds[i]).own H B.length T[i]
 ap:∀i j (hi:i<ds.length) (hj:j<ds.length),i≠j->∀l,(ds[i]).on l-> ¬ (ds[j]).on l
 off:∀l,off l->B.length<=l/\l≠tp/\∀i (h:i<ds.length),¬ (ds[i]).on l
section
variable{B H H':Hp}{tp:Nat}{ds:List PC}{T:List Pg}{X X' off off':Nat->Prop}{i:Nat}{c:PC}{p:Pg}
theorem GT.onlt(g:GT B H tp ds T X off)(i:Nat)(h:i<ds.length)(A:(ds[i]).on l):l<H.length:=g.ot.onlt (kE h) A
theorem GT.keep (g:GT B H tp ds T X off) (F:∀l,l<H.length-> ¬ off l->H'[l]?=H[l]?) (I:H.length<=H'.length):GT B H' tp ds T X off:=by
 have on:=λi h l A=>F l (g.onlt i h A) λq=>(g.off l q).2.2 i h A;have⟨Y,N⟩:=g.ot.at_row;have V:=F tp (kC.1 N).1 λq=>(g.off tp q).2.1 rfl;have D:B<+:H':=by
  rw[prefix_iff_eq_take];apply ext_getElem?;intro l;rw[getElem?_take];split;rename_i A;have:=g.pre.length_le;rw[F l o_ (λh=>by have:=(g.off l h).1;omega),a9_ g.pre A];grind
 refine⟨D,g.ot.keep (λl e=>g_) λc U l A=>?_,λi h=>(g.wo i h).keepOn (on i h),g.base,λi h O J=>(g.own i h O J).keep (on i h),g.ap,g.off⟩;obtain⟨i,W,rfl⟩:=kK U;grind
theorem GT.mono(g:GT B H tp ds T X off)(A:H<+:H'):GT B H' tp ds T X off:=g.keep (λl D _=>a9_ A D) A.length_le
def GT.reoff(g:GT B H tp ds T X off)(h:∀l,off' l->B.length<=l/\l≠tp/\∀i (h:i<ds.length),¬ (ds[i]).on l):GT B H tp ds T X off':=⟨g.pre,g.ot,g.wo,g.base,g.own,g.ap,h⟩
def GT.weak(g:GT B H tp ds T X off)(h:∀i,X' i->X i):GT B H tp ds T X' off:=⟨g.pre,g.ot,g.wo,g.base,λi D F A=>g.own i D F (h i A),g.ap,g.off⟩
def GT.turn (g:GT B H tp ds T X off) (hi:i<ds.length) (hlen:H.length<=H'.length) (F:∀l,l<H.length-> ¬ (ds[i]).on l->l≠tp-> ¬ off l->H'[l]?=H[l]?)
 (W:H'[tp]?=some (.row true tPg (a0_ (ds.set i c)))) (hc:c.at H' p) (hw:WoP H' B.length 1000 c)
 (N:∀l,c.on l->l≠tp/\ ¬ off l/\B.length<=l/\∀j (Y:j<ds.length),j≠i-> ¬ (ds[j]).on l) (hX:∀j,X' j->(j=i/\c.own H' B.length p)\/(j≠i/\X j)):
 GT B H' tp (ds.set i c) (T.set i p) X' off:=by
 have q1:=g.ot.len;have⟨hb,hr⟩:=g.ot.at_row;have htp:=(kC.1 hr).1;have D:=λj h O l A=>F l (g.onlt j h A) (g.ap j i h hi O l A) (λe=>g.ot.off _ (kE h) l A (by rw[e])) λq=>(g.off l q).2.2 j h A;have U:B<+:H':=by
  rw[prefix_iff_eq_take];apply ext_getElem?;intro l;rw[getElem?_take];split;rename_i A;rw[F l o_ (λh=>h_ (g.base i hi l h)) o_ (λh=>by have:=(g.off l h).1;omega),a9_ g.pre A];exact getElem?_eq_none o_
 refine⟨U,⟨.inr ⟨tp,rfl,hb,W,by rw[cz_];simp[q1]⟩,by simp[q1],by simp[g.ot.lenT],λj I J=>?_,λd hd l A e=>?_⟩,λj h=>?_,λj h l A=>?_,λj h h' hx=>?_,λj k Y Z O l I J=>?_,λl A=>?_⟩;rw[getElem_set,getElem_set];by_cases e:i=j;rw[if_pos e,if_pos e];exact hc;rw[if_neg e,if_neg e];simp at I J;exact (g.ot.all j I J).keep (D j I (Ne.symm e));cases e;rcases mem_or_eq_of_mem_set hd with q|q;exact g.ot.off d q tp A rfl;subst q;exact (N tp A).1 rfl;rw[getElem_set];by_cases e:i=j;rw[if_pos e];exact hw;rw[if_neg e];simp at h;exact (g.wo j h).keepOn (D j h (Ne.symm e));rw[getElem_set]at A;by_cases e:i=j;rw[if_pos e]at A;exact (N l A).2.2.1;rw[if_neg e]at A;simp at h;exact g.base j h l A;rw[getElem_set,getElem_set];rcases hX j hx with⟨e,ho⟩|⟨e,hx'⟩;rw[if_pos e.symm,if_pos e.symm];exact ho;rw[if_neg (Ne.symm e),if_neg (Ne.symm e)];simp at h h';exact (g.own j h h' hx').keep (D j h e);rw[getElem_set]at I J;simp at Y Z;by_cases e1:i=j;rw[if_pos e1]at I;by_cases V:i=k;omega;rw[if_neg V]at J;exact (N l I).2.2.2 k Z (Ne.symm V) J;rw[if_neg e1]at I;by_cases V:i=k;rw[if_pos V]at J;exact (N l J).2.2.2 j Y (Ne.symm e1) I;rw[if_neg V]at J;exact g.ap j k Y Z O l I J;have⟨o1,o2,o3⟩:=g.off l A;grind
theorem GT.gt(g:GT B H tp ds T X off)(hi:i<ds.length)(A:j<5):Am.gt H tp (i*5+j)=(ds[i]).cells[j]? :=by
 rw[aY_ g.ot.at_row.2];exact kx_ hi A
theorem GT.cells(g:GT B H tp ds T X off)(hi:i<ds.length):Am.gt H tp (0+i*5)=some (.bool ds[i].u)/\Am.gt H tp (0+i*5+1)=some (.bool ds[i].l)/\Am.gt H tp (0+i*5+2)=some (.sl ds[i].a1 ds[i].n1 1)/\Am.gt H tp (0+i*5+3)=some (.sl ds[i].a2 ds[i].n2 1)/\Am.gt H tp (0+i*5+4)=some (.sl ds[i].a3 ds[i].n3 1):=by
 rw[kN];exact⟨g.gt hi (j:=0) o_,g.gt hi o_,g.gt hi o_,g.gt hi o_,g.gt hi o_⟩
end
def yd_(le:Nat)(fa:Pl)(l:Nat):Prop:=l=le\/∃o,fa=some (l,o)
structure WM(B H:Hp)(le tp:Nat)(ds:List PC)(T:List Pg)(X:Nat->Prop)(fa:Pl)(ws:List Int):Prop where
 g:GT B H tp ds T X (yd_ le fa)
 fre:(fa=none/\ws=[]/\H[le]?=some (.row true iI_ [.sl (some (tp,0)) 48 5,.sl none 0 1]))\/∃lf rest,fa=some (lf,0)/\FR H le lf ws.length (.sl (some (tp,0)) 48 5) ws rest
section
variable{B H H':Hp}{le tp:Nat}{ds:List PC}{T:List Pg}{X X':Nat->Prop}{fa:Pl}{ws:List Int}{i:Nat}{c:PC}{p:Pg}{Q:Post}
theorem WM.gtE(m:WM B H le tp ds T X fa ws):Am.gt H le 0=some (.sl (some (tp,0)) 48 5):=by
 rcases m.fre with⟨_,_,h⟩|⟨D,A,_,h⟩;rw[aY_ h];rfl;rw[aY_ h.wr];rfl
def WM.le_lt(m:WM B H le tp ds T X fa ws):le<H.length:=by
 rcases m.fre with⟨_,_,h⟩|⟨D,A,_,h⟩;grind;exact (kC.1 h.wr).1
def WM.off_lt(m:WM B H le tp ds T X fa ws)(h:yd_ le fa l):l<H.length:=by
 rcases h with rfl|⟨o,e⟩;exact m.le_lt;rcases m.fre with⟨q,_,_⟩|⟨D,A,q,h⟩;grind;rw[q]at e;cases e;exact (kC.1 h.row).1
def C3_(m:WM B H le tp ds T X fa ws)(F:∀l,yd_ le fa l->H'[l]?=H[l]?):
 (fa=none/\ws=[]/\H'[le]?=some (.row true iI_ [.sl (some (tp,0)) 48 5,.sl none 0 1]))\/∃D A,fa=some (D,0)/\FR H' le D ws.length (.sl (some (tp,0)) 48 5) ws A:=by
 rcases m.fre with⟨e,I,h⟩|⟨D,A,e,h⟩;exact .inl ⟨e,I,by rw[F le (.inl rfl)];exact h⟩;exact .inr ⟨D,A,e,⟨by rw[F le (.inl rfl)];exact h.wr,by rw[F D (.inr ⟨0,e⟩)];exact h.row,h.len,h.lim⟩⟩
theorem WM.mono(m:WM B H le tp ds T X fa ws)(A:H<+:H'):WM B H' le tp ds T X fa ws:=⟨m.g.mono A,C3_ m λl D=>a9_ A (m.off_lt D)⟩
def WM.weak(m:WM B H le tp ds T X fa ws)(h:∀i,X' i->X i):WM B H le tp ds T X' fa ws:=⟨m.g.weak h,m.fre⟩
def WM.turn(m:WM B H le tp ds T X fa ws)(hi:i<ds.length)(F:H.length<=H'.length)(A:∀l,l<H.length-> ¬ (ds[i]).on l->l≠tp->H'[l]?=H[l]?)
 (D:H'[tp]?=some (.row true tPg (a0_ (ds.set i c)))) (W:c.at H' p) (V:WoP H' B.length 1000 c)
 (J:∀l,c.on l->l≠tp/\ ¬ yd_ le fa l/\B.length<=l/\∀j (Z:j<ds.length),j≠i-> ¬ (ds[j]).on l) (Y:∀j,X' j->(j=i/\c.own H' B.length p)\/(j≠i/\X j)):
 WM B H' le tp (ds.set i c) (T.set i p) X' fa ws:=
 ⟨m.g.turn hi F (λl N O U _=>A l N O U) D W V J Y,C3_ m λl I=>A l (m.off_lt I) ((m.g.off l I).2.2 i hi) (m.g.off l I).2.1⟩
def WM.lay(m:WM B H le tp ds T X fa ws)(hi:i<ds.length)(V:c.at H p)(O:WoP H B.length 1000 c)(A:∀l,c.on l->l≠tp/\ ¬ yd_ le fa l/\B.length<=l/\∀j (J:j<ds.length),j≠i-> ¬ (ds[j]).on l)
 (Y:∀H',WM B H' le tp (ds.set i c) (T.set i p) (λj=>j≠i/\X j) fa ws->H'.length=H.length->(∀l,l≠tp->H'[l]?=H[l]?)->K H'):
 wr H tp (0+i*5) (.bool c.u) λU=>wr U tp (0+i*5+1) (.bool c.l) λW=>wr W tp (0+i*5+1+1) (.sl c.a1 c.n1 1) λZ=>wr Z tp (0+i*5+1+1+1) (.sl c.a2 c.n2 1) λN=>wr N tp (0+i*5+1+1+1+1) (.sl c.a3 c.n3 1) K:=by
 have⟨hb,I⟩:=m.g.ot.at_row;rw[kN];have F:∀l,l≠tp->(H.set tp (.row true tPg (a0_ (ds.set i c))))[l]?=H[l]? :=λl D=>g_
 refine wr5 I hi (Y _ (m.turn hi t_ (λl _ _ D=>F l D) (kH ((kC.1 I).1)) (V.keep λl D=>F l (A l D).1) (O.keepOn λl D=>F l (A l D).1) A λj J=> .inr J) t_ F)
def WM.pop(m:WM B H le tp ds T X fa ws)(V:ws≠[])(W:∀x A H',(A++[x]).Perm ws->WM B H' le tp ds T X fa A->H'.length=H.length->(∀l,¬ yd_ le fa l->H'[l]?=H[l]?)->Q (.g (.iface 3 (.int .i64 x))) H'):
 jb_ [.g (.iface sS_ (.ptr (some (le,1))))] H Q:=by
 rcases m.fre with⟨_,e,_⟩|⟨O,F,e,h⟩;grind;refine yl_ h (length_pos_iff.2 V) λx A U H' J I N=>?_;refine W x A H' U ⟨m.g.keep (λl _ D=>N l (λq=>D (.inl q)) λq=>D (.inr ⟨0,g_⟩)) o_,.inr ⟨O,x::F,e,by rw[J.len];exact J⟩⟩ I λl D=>N l (λq=>D (.inl q)) λq=>D (.inr ⟨0,by rw[e,q]⟩)
def BU_(m:WM B H le tp ds T X fa ws)(U:ws≠[])(F:∀x∈ws,0<=x/\x<48)
 (V:∀(x:Int)(A:List Int) H',(A++[x]).Perm ws->WM B H' le tp ds T X fa A->H'.length=H.length->(∀l,¬ yd_ le fa l->H'[l]?=H[l]?)->Q (gI x) (H'.set tp (.row true tPg (a0_ (ds.set x.toNat c))))):
 ck_ [yQ le,.agg [.bool c.u,.bool c.l,.sl c.a1 c.n1 1,.sl c.a2 c.n2 1,.sl c.a3 c.n3 1]] H Q:=by
 have Y:=m.g.ot.len;refine⟨1,?_⟩;rw[m1_,ad_,kN];refine m.pop U λx A N J I D O=>?_;have⟨W,Z⟩:=F x (J.mem_iff.1 t_);refine⟨rfl,?_⟩;simp only[ai_];rw[ad_,kQ,ac_ I.gtE,ah_,af_];refine ab_ (a_) ?_;rw[ad_,kN];have ex:tN x=x.toNat:=rfl;exact wr5 I.g.ot.at_row.2 o_ (V x A N J I D O)
def FE_ (m:WM B H le tp ds T X fa ws) (hn:ws≠[]) (F:∀x∈ws,0<=x/\x<48) (hc:c.at H p) (hw:WoP H B.length 1000 c)
 (V:∀l,c.on l->l≠tp/\ ¬ yd_ le fa l/\B.length<=l/\∀j (W:j<ds.length),¬ (ds[j]).on l)
 (hQ:∀(x:Int)(A:List Int) H',(A++[x]).Perm ws->WM B H' le tp (ds.set x.toNat c) (T.set x.toNat p) (λj=>j≠x.toNat/\X j) fa A->H'.length=H.length->(∀l,¬ yd_ le fa l->l≠tp->H'[l]?=H[l]?)->Q (gI x) H'):
 ck_ [yQ le,.agg [.bool c.u,.bool c.l,.sl c.a1 c.n1 1,.sl c.a2 c.n2 1,.sl c.a3 c.n3 1]] H Q:=by
 have q1:=m.g.ot.len;refine BU_ m hn F λx A O hp m1 I Y=>?_;have⟨x1,x2⟩:=F x (hp.mem_iff.1 t_);have J:∀l,l≠tp->(O.set tp (.row true tPg (a0_ (ds.set x.toNat c))))[l]?=O[l]? :=λl D=>by rw[kF (Ne.symm D)]
 have Z:∀l,c.on l->(O.set tp (.row true tPg (a0_ (ds.set x.toNat c))))[l]?=H[l]? :=λl D=>by
  have⟨N,U,_,_⟩:=V l D;rw[J l N,Y l U]
 refine hQ x A _ hp (m1.turn o_ t_ (λl _ _ D=>J l D) (kH ((kC.1 m1.g.ot.at_row.2).1)) (hc.keep Z) (hw.keepOn Z) (λl D=>?_) λj W=> .inr W) (by simp[I]) λl N U=>by rw[J l U,Y l N]
 grind
end
section
variable{H:Hp}{Q:Post}{b n i:Nat}{a:Pl}
def Own.ge(h:Own H b t a n cs)(e:a=some (l,o)):b<=l:=by
 rcases h with⟨q,_⟩|⟨m,q,A,_⟩;grind;grind
def sH_{xs:List Y_}(h:Own H b tS a n (xs.map GV.str))(A:b<=H.length)(hi:i<=n)(F:n<=1000)
 (D:∀H',Jr_ H a H'->Own H' b tS (some (H.length+1,0)) (n+1) ((xs.take i++s::xs.drop i).map GV.str)->Q (nL (some (H.length+1,0)) (n+1) 1) H'):
 slices_Insert__string_string [nL a n 1,gI (i:Int),nL (some (ln H,0)) 1 1] (pu H (.row false mV_ [.str s])) Q:=by
 refine vA_ (by rwa [Nat.mul_one]) (kO _) rfl A hi (by unfold Lim;omega) λH' q o=>D H' q ?_;simp_all
def Fq_{xs:List Int}(h:Own H b tI a n (xs.map (GV.int .i64)))(A:b<=H.length)(hi:i<=n)(F:n<=1000)
 (D:∀H',Jr_ H a H'->Own H' b tI (some (H.length+1,0)) (n+1) ((xs.take i++s::xs.drop i).map (GV.int .i64))->Q (nL (some (H.length+1,0)) (n+1) 1) H'):
 slices_Insert__int_int [nL a n 1,gI (i:Int),nL (some (ln H,0)) 1 1] (pu H (.row false mV_ [.int .i64 s])) Q:=by
 refine vA_ (by rwa [Nat.mul_one]) (kO _) rfl A hi (by unfold Lim;omega) λH' q o=>D H' q ?_;simp_all
end
section
variable{H:Hp}{Q:Post}{u l:Bool}{a1:Pl}{n1:Nat}{a2:Pl}{n2:Nat}{a3:Pl}{n3:Nat}{p:Pg}
def Dn_(D:i8_ p)(h:p.keys.length<=5):small p:=by
 refine⟨λs F=>by have:=(D.keys s F).2;omega,λs F=>?_,o_,?_,?_⟩;cases A:p.leaf with
 |true=>have:=(D.leaf A).2.2 s F;omega
 |false=>rw[(D.inner A).2.1]at F;cases F
 cases A:p.leaf with
 |true=>have:=(D.leaf A).1;omega
 |false=>rw[(D.inner A).2.1];simp
 cases A:p.leaf with
 |true=>rw[(D.leaf A).2.1];simp
 |false=>have:=(D.inner A).2.2.1;omega
def vr_ (h:jy_ H u l a1 n1 a2 n2 a3 n3 p) (F:i8_ p)
 (hQ1:p.keys.length≠5->Q (.tup [.a [.bool false,.bool false,.sl none 0 1,.sl none 0 1,.sl none 0 1],.s (.str (mkS [])),.a [.bool false,.bool false,.sl none 0 1,.sl none 0 1,.sl none 0 1],nN 900]) H)
 (J:p.keys.length=5->∀(I:b9_ p<p.keys.length)(c d:PC) H',H<+:H'->c.at H' (e9_ p (b9_ p))->d.at H' (eP_ p (b9_ p))->WoP H' H.length 1000 c->WoP H' H.length 1000 d->(∀m,c.on m->H.length<=m/\ ¬ d.on m)->(∀m,d.on m->H.length<=m)->
  Q (.tup [.a [.bool c.u,.bool c.l,.sl c.a1 c.n1 1,.sl c.a2 c.n2 1,.sl c.a3 c.n3 1],.s (.str p.keys[b9_ p]),.a [.bool d.u,.bool d.l,.sl d.a1 d.n1 1,.sl d.a2 d.n2 1,.sl d.a3 d.n3 1],nN 0]) H'):
 dn_ [.agg [.bool u,.bool l,.sl a1 n1 1,.sl a2 n2 1,.sl a3 n3 1]] H Q:=by
 have e1:=h.keys.len;have O:=h.leaf;refine⟨2,?_⟩;rw[yn_];by_cases Y:p.keys.length=5
 rotate_left
 rw[ay_ s_];grind;rw[aB_ s_];refine oo_ h λbb Z N hb=>?_;simp[aJ_];rw[hb.2 F,aB_ t_];have I:b9_ p<p.keys.length:=by unfold b9_;cases p.leaf<;>simp<;>omega
 have key:dn_.l6 1 u l a1 n1 a2 n2 a3 n3 false false none 0 none 0 none 0 false false none 0 none 0 none 0 (b9_ p) Z Q:=by
  rw[dn_.l6_eq];refine ue_ (h.mono N) (Dn_ F o_) I (λe=>(F.leaf e).1) (λe=>(F.inner e).2.2.1) λc d H2 p2 hc hd wc W U V=>?_;simp[aH_];have A:=N.length_le;exact J Y I c d H2 (N.trans p2) hc hd (wc.base A) (W.base A) (λm D=>⟨Nat.le_trans A (U m D).1,(U m D).2⟩) λm D=>Nat.le_trans A (V m D)
 cases e:l with
 |true=>
  subst e;rw[ay_ rfl];have:(b9_ p:Int)=3:=by unfold b9_;rw[O];rfl
  grind
 |false=>
  subst e;rw[aB_ rfl];have:(b9_ p:Int)=2:=by unfold b9_;rw[O];rfl
  grind
end
section
variable{B H:Hp}{le tp:Nat}{ds:List PC}{T:List Pg}{X:Nat->Prop}{fa:Pl}{ws:List Int}{i:Nat}{p:Pg}{Q:Post}{key v:Y_}
def Bd_ (m:WM B H le tp ds T X fa ws) (hp:T[i]?=some p) (hf:i8_ p) (hws:∀x∈ws,1<=x/\x<48) (hx:∀x∈ws,x.toNat≠i) (hne:p.keys.length=5->ws≠[])
 (hQ1:p.keys.length≠5->Q (gP none) H)
 (hQ2:p.keys.length=5->∀(hk:b9_ p<p.keys.length)(x:Int)(init:List Int) H' ds' lq,(init++[x]).Perm ws->WM B H' le tp ds' ((T.set i (e9_ p (b9_ p))).set x.toNat (eP_ p (b9_ p))) (λj=>j≠x.toNat/\j≠i/\X j) fa init->
  H'[lq]?=some (.row true w6_ [.str p.keys[b9_ p],.int .i64 x])->H.length<=lq->Q (yQ lq) H'):
 bX_ [yQ le,gI (i:Int)] H Q:=by
 have q1:=m.g.ot.len;have q2:=m.g.ot.lenT;have hiT:=(kC.1 hp).1;have eT:T[i]'hiT=p:=(kC.1 hp).2;have hi:i<ds.length:=o_
 obtain⟨a0,a1,a2,a3,a4⟩:=m.g.cells hi;have hat:=m.g.ot.all i hi hiT;rw[eT]at hat;have ei:tN (i:Int)=i:=rfl;refine⟨1,?_⟩;rw[ln_,ad_,kQ,ac_ m.gtE,ah_,af_];refine ab_ s_ ?_;rw[ad_,ei,cx_ a0 a1 a2 a3 a4];refine vr_ hat hf (λh5=>?_) λh5 hk c d H1 p1 hc hd wc wd oc od=>?_
 .simp only[aH_,aD_,eN_,bc_,ak_,ah_,bI_,bD_,aq_,ai_,a8_];rw[ay_ d_];exact hQ1 h5
 ·simp only[aH_,aD_,eN_,bc_,ak_,ah_,bI_,bD_,aq_,ai_,a8_];rw[aB_ d_];have m1:=m.mono p1;have hBH:=m.g.pre.length_le;have l1:=p1.length_le;have htp:=(kC.1 m.g.ot.at_row.2).1;rw[ad_,kQ,ac_ m1.gtE,ah_,af_];refine ab_ s_ ?_;rw[ad_];refine m1.lay (i:=i) (c:=c) (p:=e9_ p (b9_ p)) hi hc (wc.base hBH) (λl hl=>?_) λH2 m2 l2 k2=>?_
  .have:=(oc l hl).1;exact⟨o_,λq=>h_ (m.off_lt q),o_,λj hj _ hl'=>h_ (m.g.onlt j hj hl')⟩
  have kd:∀l,d.on l->H2[l]?=H1[l]? :=λl hl=>k2 l (h_ (od l hl));refine FE_ m2 (hne h5) (λx hx=>⟨by have:=(hws x hx).1;omega,(hws x hx).2⟩) (c:=d) (p:=eP_ p (b9_ p)) (hd.keep kd) ((wd.base hBH).keepOn kd) (λl hl=>?_) λx init H3 hperm m3 l3 k3=>?_
  .have hl':=od l hl;refine⟨o_,λq=>h_ (m.off_lt q),o_,λj hj hon=>?_⟩;rw[getElem_set]at hon;by_cases e:i=j
   .rw[if_pos e]at hon;exact (oc l hon).2 hl
   .rw[if_neg e]at hon;have:=m.g.onlt j (u_ hj) hon;omega
  simp only[aJ_,ai_];have hxi:x.toNat≠i:=hx x (hperm.mem_iff.1 t_);have pr:=b4_ H3 (.row true w6_ [.str p.keys[b9_ p],.int .i64 x]);refine hQ2 h5 hk x init _ _ H3.length hperm ((m3.mono pr).weak λj hj=>hj) ?_ o_;simp[pu]
def WM.insLeaf (m:WM B H le tp ds T X fa ws) (hp:T[i]?=some p) (hX:X i) {s:Nat} (hs:s<=p.keys.length) (hv:p.vals.length=p.keys.length) (hsm:small p) (h4:p.keys.length<=900) (hk:key.size<=1000) (hvs:v.size<=1000) {K:Hp->Prop}
 (hK:∀H' ds',WM B H' le tp ds' (T.set i (Bz_ p s key v)) X fa ws->K H'):
 rd H tp (0+i*5+2) λv27=>dL 1 v27 λx28 n29=>rd H tp (0+i*5+3) λv30=>dL 1 v30 λx31 n32=>
 cl slices_Insert__string_string [(nL x28 n29 1),(gI (s:Int)),(nL (some ((ln H),0)) 1 1)] (pu H (.row false 1000003 [(.str key)])) λr33 H34=>
 rG r33 λv35=>dL 1 v35 λx36 n37=>rd H34 tp (0+i*5+3) λv38=>dL 1 v38 λx39 n40=>
 eqv (nL x31 n32 1) (nL x39 n40 1) (cl slices_Insert__string_string [(nL x31 n32 1),(gI (s:Int)),(nL (some ((ln H34),0)) 1 1)] (pu H34 (.row false 1000003 [(.str v)])) λr41 H42=>
 rG r41 λv43=>dL 1 v43 λx44 n45=>wr H42 tp (0+i*5+2) (.sl x36 n37 1) λH46=>wr H46 tp (0+i*5+3) (.sl x44 n45 1) K):=by
 have q1:=m.g.ot.len;have q2:=m.g.ot.lenT;have hiT:=(kC.1 hp).1;have eT:T[i]'hiT=p:=(kC.1 hp).2;have hi:i<ds.length:=o_
 obtain⟨a0,a1,a2,a3,a4⟩:=m.g.cells hi;have hat:=m.g.ot.all i hi hiT;have ho:=m.g.own i hi hiT hX;rw[eT]at hat ho;have e1:=hat.keys.len;have e2:=hat.vals.len;have hBH:=m.g.pre.length_le;obtain⟨hb,hr⟩:=m.g.ot.at_row;have htp:=(kC.1 hr).1;have off:=m.g.ot.off _ (kE hi);rw[ac_ a2,ah_,ac_ a3,ah_];refine sH_ ho.keys hBH o_ o_ λH1 w1 o1=>?_;simp only[aJ_,ah_];have r1:H1[tp]?=H[tp]? :=w1.row tp htp λe=>off tp ⟨0,.inl e⟩ rfl;have g3:gt H1 tp (0+i*5+3)=some (.sl ds[i].a2 ds[i].n2 1):=by rw[<-a3];unfold gt;rw[r1]
 rw[ac_ g3,ah_];refine⟨rfl,?_⟩;have ov:Own H1 B.length tS ds[i].a2 ds[i].n2 (p.vals.map GV.str):=ho.vals.keep λl e=>w1.row l (ho.vals.lt' e) λq=>ho.d12 l 0 0 q e;have ok:Own H1 B.length tI ds[i].a3 ds[i].n3 (p.kids.map (GV.int .i64)):=ho.kids.keep λl e=>w1.row l (ho.kids.lt' e) λq=>ho.d13 l 0 0 q e;refine sH_ ov (h_ w1.len) o_ o_ λH2 w2 o2=>?_;simp only[aJ_,ah_];have hl1:=w1.len;have hl2:=w2.len;have r2:H2[tp]?=H[tp]? :=by rw[w2.row tp o_ λe=>off tp ⟨0,.inr (.inl e)⟩ rfl,r1]
 have hr2:H2[tp]?=some (.row true tPg (a0_ ds)):=by rw[r2];exact hr
 have htp2:=(kC.1 hr2).1;refine Jn_ hr2 hi ?_;have kp:∀l,l≠tp->(H2.set tp (.row true tPg (a0_ (ds.set i ⟨ds[i].u,ds[i].l,some (H.length+1,0),ds[i].n1+1,some (H1.length+1,0),ds[i].n2+1,ds[i].a3,ds[i].n3⟩))))[l]?=H2[l]? :=λl hl=>by rw[kF (Ne.symm hl)]
 have ow:(⟨ds[i].u,ds[i].l,some (H.length+1,0),ds[i].n1+1,some (H1.length+1,0),ds[i].n2+1,ds[i].a3,ds[i].n3⟩:PC).own (H2.set tp (.row true tPg (a0_ (ds.set i ⟨ds[i].u,ds[i].l,some (H.length+1,0),ds[i].n1+1,some (H1.length+1,0),ds[i].n2+1,ds[i].a3,ds[i].n3⟩)))) B.length (Bz_ p s key v):=by
  refine⟨ho.used,ho.leaf,o1.keep λl e=>?_,o2.keep λl e=>?_,ok.keep λl e=>?_,λl o o' q1 q2=>?_,λl o o' q1 q2=>?_,λl o o' q1 q2=>?_⟩
  .have:l=H.length+1:=by cases e;rfl
   rw[kp l o_,w2.row l o_ λq=>h_ (ho.vals.lt' q)]
  .have:l=H1.length+1:=by cases e;rfl
   rw[kp l o_]
  .have hlt:=ho.kids.lt' e;rw[kp l λq=>off l ⟨0,.inr (.inr e)⟩ (by rw[q]),w2.row l o_ λq=>ho.d23 l 0 0 q e]
  .simp at q1 q2;omega
  ·simp at q1;have:=ho.kids.lt' (show ds[i].a3=some (l,0) by
    rcases ho.kids with⟨e,_,_⟩|⟨l',e,_⟩
    .have q2':ds[i].a3=some (l,o'):=q2;rw[e]at q2';cases q2'
    .have q2':ds[i].a3=some (l,o'):=q2;rw[e]at q2';cases q2';exact e)
   omega
  ·simp at q1;have:=ho.kids.lt' (show ds[i].a3=some (l,0) by
    rcases ho.kids with⟨e,_,_⟩|⟨l',e,_⟩
    .have q2':ds[i].a3=some (l,o'):=q2;rw[e]at q2';cases q2'
    .have q2':ds[i].a3=some (l,o'):=q2;rw[e]at q2';cases q2';exact e)
   omega
 have at':(⟨ds[i].u,ds[i].l,some (H.length+1,0),ds[i].n1+1,some (H1.length+1,0),ds[i].n2+1,ds[i].a3,ds[i].n3⟩:PC).at (H2.set tp (.row true tPg (a0_ (ds.set i ⟨ds[i].u,ds[i].l,some (H.length+1,0),ds[i].n1+1,some (H1.length+1,0),ds[i].n2+1,ds[i].a3,ds[i].n3⟩)))) (Bz_ p s key v):=by
  refine⟨hat.used,hat.leaf,⟨ow.keys.cells,?_,?_⟩,⟨ow.vals.cells,?_,?_⟩,⟨ow.kids.cells,hat.kids.len,hat.kids.lim⟩⟩
  .show ds[i].n1+1=(p.keys.take s++key::p.keys.drop s).length;simp;omega
  .show (ds[i].n1+1)*16<=_;omega
  .show ds[i].n2+1=(p.vals.take s++v::p.vals.drop s).length;simp;omega
  .show (ds[i].n2+1)*16<=_;omega
 obtain⟨s1,s2,s3,s4,s5⟩:=hsm;have sm:small (Bz_ p s key v):=by
  refine⟨λk hk'=>?_,λk hk'=>?_,?_,?_,s5⟩
  .rcases mo_ hk' with z|z
   .rw[z];omega
   .exact s1 k z
  .rcases mo_ hk' with z|z
   .rw[z];omega
   .exact s2 k z
  .show (p.keys.take s++key::p.keys.drop s).length<=1000;simp;omega
  .show (p.vals.take s++v::p.vals.drop s).length<=1000;simp;omega
 refine hK _ _ (m.turn (c:=⟨ds[i].u,ds[i].l,some (H.length+1,0),ds[i].n1+1,some (H1.length+1,0),ds[i].n2+1,ds[i].a3,ds[i].n3⟩) hi s_ (λl h1 h2 h3=>?_) (kH htp2) at' (ow.wo at' sm) (λl hl=>?_) λj hj=>?_)
 .rw[kp l h3,w2.row l o_ λq=>h2 ⟨0,.inr (.inl q)⟩,w1.row l h1 λq=>h2 ⟨0,.inl q⟩]
 ·obtain⟨o,e|e|e⟩:=hl
  .have:l=H.length+1:=by cases e;rfl
   exact⟨o_,λq=>h_ (m.off_lt q),o_,λj hj _ hl'=>h_ (m.g.onlt j hj hl')⟩
  .have:l=H1.length+1:=by cases e;rfl
   exact⟨o_,λq=>h_ (m.off_lt q),o_,λj hj _ hl'=>h_ (m.g.onlt j hj hl')⟩
  .have hon:(ds[i]).on l:=⟨o,.inr (.inr e)⟩;exact⟨λq=>off l hon (by rw[q]),λq=>(m.g.off l q).2.2 i hi hon,m.g.base i hi l hon,λj hj hne=>m.g.ap i j hi hj (Ne.symm hne) l hon⟩
 .by_cases e:j=i
  .exact .inl ⟨e,ow⟩
  .exact .inr ⟨e,hj⟩
end
section
variable{B H:Hp}{le tp:Nat}{ds:List PC}{T:List Pg}{X:Nat->Prop}{fa:Pl}{ws:List Int}{i:Nat}{p:Pg}{Q:Post}{key v:Y_}
def Ai_{A l:Nat}(F:H[A]?=some (.row true w6_ cs))(I:H[l]?=some (.row true t cs'))(D:w6_≠t):A≠l:=λe=>by
 grind
def WM.insInner (m:WM B H le tp ds T X fa ws) (hp:T[i]?=some p) (hX:X i) {s:Nat} (hs:s<=p.keys.length) (hv:p.kids.length=p.keys.length+1) (hsm:small p) (h4:p.keys.length<=900) {lq:Nat} {x:Int} (hq:H[lq]?=some (.row true w6_ [.str key,.int .i64 x])) (hk:key.size<=1000) {K:Hp->Prop}
 (hK:∀H' ds',WM B H' le tp ds' (T.set i (yE_ p s key x)) X fa ws->K H'):
 rd H tp (0+i*5+2) λv28=>dL 1 v28 λx29 n30=>pS (some (lq,0)) λn31 n32=>rd H n31 (n32+0) λv33=>dS v33 λs34=>
 rd H tp (0+i*5+4) λv35=>dL 1 v35 λx36 n37=>pS (some (lq,0)) λn38 n39=>rd H n38 (n39+1) λv40=>dI .i64 v40 λi41=>
 cl slices_Insert__string_string [(nL x29 n30 1),(gI (s:Int)),(nL (some ((ln H),0)) 1 1)] (pu H (.row false 1000003 [(.str s34)])) λr42 H43=>
 rG r42 λv44=>dL 1 v44 λx45 n46=>rd H43 n38 (n39+1) λv47=>dI .i64 v47 λi48=>eqv (gI i41) (gI i48) (rd H43 tp (0+i*5+4) λv49=>dL 1 v49 λx50 n51=>
 eqv (nL x36 n37 1) (nL x50 n51 1) (cl slices_Insert__int_int [(nL x36 n37 1),(gI (ae_ .i64 ((s:Int)+1))),(nL (some ((ln H43),0)) 1 1)] (pu H43 (.row false 1000003 [(.int .i64 i41)])) λr52 H53=>
 rG r52 λv54=>dL 1 v54 λx55 n56=>wr H53 tp (0+i*5+2) (.sl x45 n46 1) λH57=>wr H57 tp (0+i*5+4) (.sl x55 n56 1) K)):=by
 have q1:=m.g.ot.len;have q2:=m.g.ot.lenT;have hiT:=(kC.1 hp).1;have eT:T[i]'hiT=p:=(kC.1 hp).2;have hi:i<ds.length:=o_
 obtain⟨a0,a1,a2,a3,a4⟩:=m.g.cells hi;have hat:=m.g.ot.all i hi hiT;have ho:=m.g.own i hi hiT hX;rw[eT]at hat ho;have e1:=hat.keys.len;have e3:=hat.kids.len;have hBH:=m.g.pre.length_le;obtain⟨hb,hr⟩:=m.g.ot.at_row;have htp:=(kC.1 hr).1;have off:=m.g.ot.off _ (kE hi);have gq0:gt H lq (0+0)=some (.str key):=by rw[aY_ hq];rfl
 have gq1:gt H lq (0+1)=some (.int .i64 x):=by rw[aY_ hq];rfl
 have hlq:=(kC.1 hq).1;rw[ac_ a2,ah_,ad_,ac_ gq0,aq_,ac_ a4,ah_,ad_,ac_ gq1,ai_];refine sH_ ho.keys hBH o_ o_ λH1 w1 o1=>?_;simp only[aJ_,ah_];have r1:H1[tp]?=H[tp]? :=w1.row tp htp λe=>off tp ⟨0,.inl e⟩ rfl;have rq:H1[lq]?=H[lq]? :=w1.row lq hlq λe=>by
  rcases ho.keys with⟨q,_,_⟩|⟨l,q,_,hl,_⟩
  .rw[q]at e;cases e
  .rw[q]at e;cases e;exact Ai_ hq hl d_ rfl
 have gq1':gt H1 lq (0+1)=some (.int .i64 x):=by rw[<-gq1];unfold gt;rw[rq]
 rw[ac_ gq1',ai_];refine⟨rfl,?_⟩;have g4:gt H1 tp (0+i*5+4)=some (.sl ds[i].a3 ds[i].n3 1):=by rw[<-a4];unfold gt;rw[r1]
 rw[ac_ g4,ah_];refine⟨rfl,?_⟩;have ov:Own H1 B.length tS ds[i].a2 ds[i].n2 (p.vals.map GV.str):=ho.vals.keep λl e=>w1.row l (ho.vals.lt' e) λq=>ho.d12 l 0 0 q e;have ok:Own H1 B.length tI ds[i].a3 ds[i].n3 (p.kids.map (GV.int .i64)):=ho.kids.keep λl e=>w1.row l (ho.kids.lt' e) λq=>ho.d13 l 0 0 q e;rw[ao_ o_];refine Fq_ ok (h_ w1.len) o_ o_ λH2 w2 o2=>?_;simp only[aJ_,ah_];have hl1:=w1.len;have hl2:=w2.len;have r2:H2[tp]?=H[tp]? :=by rw[w2.row tp o_ λe=>off tp ⟨0,.inr (.inr e)⟩ rfl,r1]
 have hr2:H2[tp]?=some (.row true tPg (a0_ ds)):=by rw[r2];exact hr
 have htp2:=(kC.1 hr2).1;refine Jj_ hr2 hi ?_;have kp:∀l,l≠tp->(H2.set tp (.row true tPg (a0_ (ds.set i ⟨ds[i].u,ds[i].l,some (H.length+1,0),ds[i].n1+1,ds[i].a2,ds[i].n2,some (H1.length+1,0),ds[i].n3+1⟩))))[l]?=H2[l]? :=λl hl=>by rw[kF (Ne.symm hl)]
 have a2at:∀{l o},ds[i].a2=some (l,o)->ds[i].a2=some (l,0):=λ{l o} q2=>by
  rcases ho.vals with⟨e,_,_⟩|⟨l',e,_⟩
  .rw[e]at q2;cases q2
  .rw[e]at q2;cases q2;exact e
 have ow:(⟨ds[i].u,ds[i].l,some (H.length+1,0),ds[i].n1+1,ds[i].a2,ds[i].n2,some (H1.length+1,0),ds[i].n3+1⟩:PC).own (H2.set tp (.row true tPg (a0_ (ds.set i ⟨ds[i].u,ds[i].l,some (H.length+1,0),ds[i].n1+1,ds[i].a2,ds[i].n2,some (H1.length+1,0),ds[i].n3+1⟩)))) B.length (yE_ p s key x):=by
  refine⟨ho.used,ho.leaf,o1.keep λl e=>?_,ov.keep λl e=>?_,o2.keep λl e=>?_,λl o o' q1 q2=>?_,λl o o' q1 q2=>?_,λl o o' q1 q2=>?_⟩
  .have:l=H.length+1:=by cases e;rfl
   rw[kp l o_,w2.row l o_ λq=>h_ (ho.kids.lt' q)]
  .have hlt:=ho.vals.lt' e;rw[kp l λq=>off l ⟨0,.inr (.inl e)⟩ (by rw[q]),w2.row l o_ λq=>ho.d23 l 0 0 e q]
  .have:l=H1.length+1:=by cases e;rfl
   rw[kp l o_]
  .have hlt:=ho.vals.lt' (a2at q2);simp at q1;omega
  .simp at q1 q2;omega
  .have hlt:=ho.vals.lt' (a2at q1);simp at q2;omega
 have at':(⟨ds[i].u,ds[i].l,some (H.length+1,0),ds[i].n1+1,ds[i].a2,ds[i].n2,some (H1.length+1,0),ds[i].n3+1⟩:PC).at (H2.set tp (.row true tPg (a0_ (ds.set i ⟨ds[i].u,ds[i].l,some (H.length+1,0),ds[i].n1+1,ds[i].a2,ds[i].n2,some (H1.length+1,0),ds[i].n3+1⟩)))) (yE_ p s key x):=by
  refine⟨hat.used,hat.leaf,⟨ow.keys.cells,?_,?_⟩,⟨ow.vals.cells,hat.vals.len,hat.vals.lim⟩,⟨ow.kids.cells,?_,?_⟩⟩
  .show ds[i].n1+1=(p.keys.take s++key::p.keys.drop s).length;simp;omega
  .show (ds[i].n1+1)*16<=_;omega
  .show ds[i].n3+1=(p.kids.take (s+1)++x::p.kids.drop (s+1)).length;simp;omega
  .show (ds[i].n3+1)*8<=_;omega
 obtain⟨s1,s2,s3,s4,s5⟩:=hsm;have sm:small (yE_ p s key x):=by
  refine⟨λk hk'=>?_,s2,?_,s4,?_⟩
  .rcases mo_ hk' with z|z
   .rw[z];omega
   .exact s1 k z
  .show (p.keys.take s++key::p.keys.drop s).length<=1000;simp;omega
  .show (p.kids.take (s+1)++x::p.kids.drop (s+1)).length<=1000;simp;omega
 refine hK _ _ (m.turn (c:=⟨ds[i].u,ds[i].l,some (H.length+1,0),ds[i].n1+1,ds[i].a2,ds[i].n2,some (H1.length+1,0),ds[i].n3+1⟩) hi s_ (λl h1 h2 h3=>?_) (kH htp2) at' (ow.wo at' sm) (λl hl=>?_) λj hj=>?_)
 .rw[kp l h3,w2.row l o_ λq=>h2 ⟨0,.inr (.inr q)⟩,w1.row l h1 λq=>h2 ⟨0,.inl q⟩]
 ·obtain⟨o,e|e|e⟩:=hl
  .have:l=H.length+1:=by cases e;rfl
   exact⟨o_,λq=>h_ (m.off_lt q),o_,λj hj _ hl'=>h_ (m.g.onlt j hj hl')⟩
  .have hon:(ds[i]).on l:=⟨o,.inr (.inl e)⟩;exact⟨λq=>off l hon (by rw[q]),λq=>(m.g.off l q).2.2 i hi hon,m.g.base i hi l hon,λj hj hne=>m.g.ap i j hi hj (Ne.symm hne) l hon⟩
  .have:l=H1.length+1:=by cases e;rfl
   exact⟨o_,λq=>h_ (m.off_lt q),o_,λj hj _ hl'=>h_ (m.g.onlt j hj hl')⟩
 .by_cases e:j=i
  .exact .inl ⟨e,ow⟩
  .exact .inr ⟨e,hj⟩
def WM.setVal (m:WM B H le tp ds T X fa ws) (hp:T[i]?=some p) (hX:X i) {s:Nat} (hs:s<p.vals.length) (hsm:small p) (hvs:v.size<=1000) {K:Hp->Prop}
 (hK:∀H' ds',WM B H' le tp ds' (T.set i ⟨p.used,p.leaf,p.keys,p.vals.set s v,p.kids⟩) X fa ws->K H'):
 rd H tp (0+i*5+3) λv21=>dL 1 v21 λx22 n23=>chk true (chk ((leI 0 (s:Int))&&(ltI (s:Int) (nI n23))) (pS x22 λn24 n25=>wr H n24 (n25+((tN (s:Int))*1)) (.str v) K)):=by
 have q1:=m.g.ot.len;have q2:=m.g.ot.lenT;have hiT:=(kC.1 hp).1;have eT:T[i]'hiT=p:=(kC.1 hp).2;have hi:i<ds.length:=o_
 obtain⟨a0,a1,a2,a3,a4⟩:=m.g.cells hi;have hat:=m.g.ot.all i hi hiT;have ho:=m.g.own i hi hiT hX;rw[eT]at hat ho;have e2:=hat.vals.len;obtain⟨lv,v1,v2,v3,v4⟩:=kX_ ho.vals o_;have onv:(ds[i]).on lv:=⟨0,.inr (.inl v1)⟩;obtain⟨hb,hr⟩:=m.g.ot.at_row;have htp:=(kC.1 hr).1;have nvt:lv≠tp:=λe=>by subst e;exact m.g.ot.off _ (kE hi) _ onv rfl
 have es:tN (s:Int)=s:=rfl;rw[ac_ a3,ah_,af_];refine ab_ s_ ?_;rw[v1,ad_,es,kN,Nat.mul_one];refine ce_ v3 s_ ?_;have em:(p.vals.map GV.str).set s (.str v)=(p.vals.set s v).map GV.str:=by rw[<-List.map_set]
 rw[em];have hlv:=(kC.1 v3).1;have kp:∀l,l≠lv->(H.set lv (.row true tS ((p.vals.set s v).map GV.str)))[l]?=H[l]? :=λl hl=>by rw[kF (Ne.symm hl)]
 have ow:(ds[i]).own (H.set lv (.row true tS ((p.vals.set s v).map GV.str))) B.length ⟨p.used,p.leaf,p.keys,p.vals.set s v,p.kids⟩:=by
  refine⟨ho.used,ho.leaf,ho.keys.keep λl e=>kp l λq=>ho.d12 l 0 0 e (by rw[v1,q]),.inr ⟨lv,v1,v2,kH hlv,s_⟩,ho.kids.keep λl e=>kp l λq=>ho.d23 lv 0 0 v1 (by rw[e,q]),ho.d12,ho.d13,ho.d23⟩
 have at':(ds[i]).at (H.set lv (.row true tS ((p.vals.set s v).map GV.str))) ⟨p.used,p.leaf,p.keys,p.vals.set s v,p.kids⟩:=⟨hat.used,hat.leaf,⟨ow.keys.cells,hat.keys.len,hat.keys.lim⟩,⟨ow.vals.cells,s_,hat.vals.lim⟩,⟨ow.kids.cells,hat.kids.len,hat.kids.lim⟩⟩;obtain⟨s1,s2,s3,s4,s5⟩:=hsm;have sm:small ⟨p.used,p.leaf,p.keys,p.vals.set s v,p.kids⟩:=by
  refine⟨s1,λk hk'=>?_,s3,u_ s4,s5⟩;rcases mem_or_eq_of_mem_set hk' with z|z
  .exact s2 k z
  .rw[z];omega
 refine hK _ _ (m.turn (c:=ds[i]) hi t_ (λl h1 h2 h3=>kp l λq=>h2 (by rw[q];exact onv)) (by rw[kp tp (Ne.symm nvt),set_getElem_self];exact hr) at' (ow.wo at' sm) (λl hon=>?_) λj hj=>?_)
 .exact⟨λq=>m.g.ot.off _ (kE hi) l hon (by rw[q]),λq=>(m.g.off l q).2.2 i hi hon,m.g.base i hi l hon,λj hj hne=>m.g.ap i j hi hj (Ne.symm hne) l hon⟩
 .by_cases e:j=i
  .exact .inl ⟨e,ow⟩
  .exact .inr ⟨e,hj⟩
end
structure rw_(P:List Nat)(ws:List Int):Prop where
 rng:∀x∈ws,1<=x/\x<48
 nd:ws.Nodup
 out:∀x∈ws,x.toNat∉P
def rw_.pop(h:rw_ P ws)(F:(init++[x]).Perm ws):rw_ P init/\(1<=x/\x<48)/\x.toNat∉P/\(∀y∈init,y.toNat≠x.toNat)/\x∈ws/\(∀y∈init,y∈ws)/\init.length+1=ws.length:=by
 have I:x∈ws:=F.mem_iff.1 t_;have D:∀y∈init,y∈ws:=λy A=>F.mem_iff.1 g_;have⟨J,O,N⟩:=kT.1 (F.nodup_iff.2 h.nd);refine⟨⟨λy A=>h.rng y (D y A),J,λy A=>h.out y (D y A)⟩,h.rng x I,h.out x I,λy A e=>?_,I,D,by rw[<-F.length_eq];simp⟩;have a:=h.rng y (D y A);grind
def Rp(H:Hp)(r:Option (Y_ × Int))(rp:Pl):Prop:=match r with
 |none=>rp=none
 |some (s,x)=>∃lq,rp=some (lq,0)/\H[lq]?=some (.row true w6_ [.str s,.int .i64 x])
def KW_(T':List Pg)(d a:Nat)(P':List Nat)(qs:KV)(r:Option (Y_ × Int)):Prop:=match r with
 |none=>Sub T' d a P' qs
 |some (s,x)=>∃PX psX PY psY,cJ_ T' d a PX psX/\cJ_ T' d x.toNat PY psY/\P'=PX++PY/\psX++psY=qs/\(∀e∈psX,blt e.1 s=true)/\(∀e∈psY,blt e.1 s=false)/\(1<=s.size/\s.size<=6)/\1<=x/\x<48/\x.toNat∉PX
structure Kw_(T T':List Pg)(d a:Nat)(P P':List Nat)(ws ws':List Int)(qs:KV)(r:Option (Y_ × Int)):Prop where
 len:T'.length=T.length
 nd:P'.Nodup
 sub:∀j∈P,j∈P'
 new:∀j∈P',j∈P\/∃x∈ws,x.toNat=j
 out:∀j,j∉P'->T'[j]?=T[j]?
 wsub:∀x∈ws',x∈ws
 fr:rw_ P' ws'
 count:ws'.length+P'.length=ws.length+P.length
 res:KW_ T' d a P' qs r
 half:∀s x,r=some (s,x)->x∈ws
section
variable{B H:Hp}{le tp d a:Nat}{ds:List PC}{T T' T1:List Pg}{X:Nat->Prop}{fa:Pl}{ws:List Int}{p p1:Pg}{P P1:List Nat}{ps qs:KV}{Q:Post}{key v:Y_}
def Ca_(m:WM B H le tp ds T X fa ws)(hS:By_ T d a P qs)(Z:T[a]?=some p)(h5:p.keys.length<=5)(U:P.Nodup)(D:rw_ P ws)(O:p.keys.length=5->ws≠[])
 (hQ:∀H' J T' P' Y X' r rp,WM B H' le tp J T' X' fa Y->Kw_ T T' d a P P' ws Y qs r->(r=none->T'=T)->(∀j,j∉P'->X j->X' j)->Rp H' r rp->Q (gP rp) H'):
 bX_ [yQ le,gI (a:Int)] H Q:=by
 have V:=hS;have⟨p',W,hf,hc⟩:=hS;rw[Z]at W;obtain rfl:=Option.some.inj W;have F:a∈P:=by rcases hc with⟨_,_,e,_⟩|⟨_,_,_,_,e,_⟩<;>simp[e]
 have q2:=m.g.ot.lenT;refine Bd_ m Z hf D.rng (λx hx e=>D.out x hx (by rw[e];exact F)) O (λh=>?_) λh hk x N H' J lq I m' hq _=>?_;exact hQ H ds T P ws X none none m ⟨rfl,U,λj h=>h,λj h=> .inl h,λj _=>rfl,λx h=>h,D,rfl,V.sub Z o_,λs x e=>k_ e⟩ (λ_=>rfl) (λj _ h=>h) rfl;have⟨f1,f2,f3,f4,f5,f6,f7⟩:=D.pop I;have hxa:x.toNat≠a:=λe=>f3 (by rw[e];exact F);have hxl:x.toNat<T.length:=o_
 have ta:((T.set a (e9_ p (b9_ p))).set x.toNat (eP_ p (b9_ p)))[a]?=some (e9_ p (b9_ p)):=by rw[kF hxa,kH ((kC.1 Z).1)]
 have tx:((T.set a (e9_ p (b9_ p))).set x.toNat (eP_ p (b9_ p)))[x.toNat]?=some (eP_ p (b9_ p)):=by rw[kH (by simpa)]
 have to:∀j,j≠a->j≠x.toNat->((T.set a (e9_ p (b9_ p))).set x.toNat (eP_ p (b9_ p)))[j]?=T[j]? :=λj h1 h2=>by rw[kF (Ne.symm h2),kF (Ne.symm h1)]
 obtain⟨PX,psX,PY,psY,s1,s2,s3,s4,s5,s6,s7,s8⟩:=FD_ V Z h U f3 (λj A hja=>to j hja λe=>f3 (by rw[<-e];exact A)) ta tx hk;refine hQ H' J _ (PX++PY) N _ (some (p.keys[b9_ p],x)) (some (lq,0)) m' ⟨t_,s4,λj A=>(s5 j).2 (.inl A),λj A=>?_,λj A=>?_,f6,⟨f1.rng,f1.nd,λy hy hy'=>?_⟩,o_,?_,λs x' e=>by cases e;exact f5⟩ (c_) (λj A hx=>⟨λe=>A ((s5 j).2 (.inr e)),λe=>A ((s5 j).2 (.inl (by rw[e];exact F))),hx⟩) ⟨lq,rfl,hq⟩;rcases (s5 j).1 A with q|q;exact .inl q;exact .inr ⟨x,f5,q.symm⟩;grind;rcases (s5 _).1 hy' with q|q;exact f1.out y hy q;exact f4 y hy q;exact⟨PX,psX,PY,psY,s1,s2,rfl,s3,s7,s8,hf.keys _ (kE hk),f2.1,f2.2,λq=>(kT.1 s4).2.2 _ q _ s2.1.head rfl
⟩
structure Ke_(T T':List Pg)(d a:Nat)(key v:Y_)(P P':List Nat)(ws ws':List Int)(ps:KV)(r:Option (Y_ × Int)):Prop where
 fin:Kw_ T T' d a P P' ws ws' (insK ps key v) r
 keys:r=none->∃p q,T[a]?=some p/\T'[a]?=some q/\p.keys.length<=q.keys.length
def Gl_ (m:WM B H le tp ds T X fa ws) (hS:Sub T d a P ps) (hp:T[a]?=some p) (hl:p.leaf=true) (hX:X a) (hfr:rw_ P ws) (hcnt:3*ps.length+3<=4*(ws.length+P.length)) (h1:1<=key.size) (h2:key.size<=6) (h3:v.size<=10)
 (hQ:∀H' ds' T' P' ws' X' r rp,WM B H' le tp ds' T' X' fa ws'->Ke_ T T' d a key v P P' ws ws' ps r->(∀j,j∉P'->X j->X' j)->Rp H' r rp->Q (gP rp) H'):
 do_ [yQ le,gI (a:Int),gS key,gS v] H Q:=by
 have q1:=m.g.ot.len;have q2:=m.g.ot.lenT;have hlt:=(kC.1 hp).1;have eT:T[a]'hlt=p:=(kC.1 hp).2;have hm:=hS.may hp;have h4:=hm.1;obtain⟨e1,e2,e3⟩:=hS.leafD hp hl;obtain⟨f1,f2,f3⟩:=hm.2.leaf hl;have hat:=m.g.ot.all a o_ hlt;rw[eT]at hat;obtain⟨a0,a1,a2,a3,a4⟩:=m.g.cells (i:=a) o_;have ei:tN (a:Int)=a:=rfl;have hsl:b2_ p.keys key<=p.keys.length:=qW_;refine⟨1,?_⟩;rw[m5_,ad_,kQ,ac_ m.gtE,ah_,af_];refine ab_ s_ ?_;rw[ad_,ei,ac_ a2,ah_];refine hR_ hat.keys ?_;simp only[aH_,aD_,bD_,ai_,ak_,a8_];cases hb:dR_ p.keys key with
 | true=>
  rw[ay_ rfl];obtain⟨hs,hk⟩:=ri_ hb;have hasc:=hS.asc.1;obtain⟨L,v0,R,es,hS2⟩:=Sub.setVal (v:=v) hp hl hb h3 hS (by rw[e2];simp) (by rw[e2];simp);have hL:∀x∈L,blt x.1 key=true:=λx hx=>by
   rw[es]at hasc;exact (kZ.1 hasc).2.2 x hx _ mem_cons_self
  have eins:insK ps key v=L++(key,v)::R:=by rw[es];exact CN_ hL
  refine m.setVal hp hX (s:=b2_ p.keys key) (v:=v) o_ (hH_ hm) o_ λH' ds' m'=>?_;refine hQ H' ds' _ P ws X none none m' ⟨⟨t_,by rw[e2];simp,λj h=>h,λj h=> .inl h,λj hj=>?_,λx h=>h,hfr,rfl,by rw[eins];exact hS2,λs x e=>k_ e⟩,λ_=>⟨p,_,hp,kH hlt,kO _⟩⟩ (λj _ h=>h) rfl;rw[kF];intro e;subst e;exact hj (by rw[e2];simp)
 | false=>
  rw[aB_ rfl];obtain⟨g1,g2,hF⟩:=Gt_ (v:=v) hS hp hl hb h1 h2 h3;refine m.insLeaf hp hX hsl f1 (hH_ hm) o_ o_ o_ λH1 ds1 m1=>?_;have hp1:(T.set a (Bz_ p (b2_ p.keys key) key v))[a]?=some (Bz_ p (b2_ p.keys key) key v):=kH hlt;have hk1:(Bz_ p (b2_ p.keys key) key v).keys.length=p.keys.length+1:=by
   show (p.keys.take _++key::p.keys.drop _).length=_;simp;omega
  have hps:ps.length=p.keys.length:=by rw[e3,length_zip];omega
  refine Ca_ m1 hF hp1 o_ (by rw[e2];simp) hfr (λh=>?_) λH' ds' T' P' ws' X' r rp m' fin hnone hX' hrp=>?_
  .rw[e2]at hcnt;intro e;rw[e]at hcnt;simp at hcnt;omega
  simp only[aJ_,gc_];refine hQ H' ds' T' P' ws' X' r rp m' ⟨⟨by rw[fin.len];simp,fin.nd,fin.sub,fin.new,λj hj=>?_,fin.wsub,fin.fr,fin.count,fin.res,fin.half⟩,λhr=>⟨p,_,hp,by rw[hnone hr];exact hp1,o_⟩⟩ hX' hrp;rw[fin.out j hj,kF];intro e;subst e;exact hj (fin.sub _ (by rw[e2];simp))
end
section
variable{T:List Pg}{d a:Nat}{p:Pg}{P:List Nat}{ps:KV}{key:Y_}
def mW_.pages (I:∀k P ps,R k P ps->4*P.length+2<=3*ps.length):∀{ks:List Int}{ss:List Y_}{P:List Nat}{ps:KV},mW_ R ks ss P ps->4*P.length+2*ks.length<=3*ps.length
 |[],[],P,ps,h=>by rw[h.1];simp
 |k::ks,s::ss,P,ps,⟨U,A,O,D,V,F,J,N,_,_⟩=>by
  have y:=mW_.pages I F;grind
def l8_.pages(D:∀k P ps,R k P ps->4*P.length+2<=3*ps.length)(h:l8_ R kc A P ps):4*P.length+2*kc.length<=3*ps.length:=by
 cases A with
 |nil=>rw[h.1,h.2.1];simp
 |cons s A=>exact bn_.pages D h.1
def By_.pages(h:By_ T d a P ps)(U:T[a]?=some p)(W:p.keys.length=5):4*P.length+8<=3*ps.length:=by
 have⟨q,V,D,J⟩:=h;rcases J with⟨e,A,I,F⟩|⟨A,O,N,e,I,F⟩;have:=(D.leaf A).1;grind;have x:=bn_.pages (λ_ _ _ h=>cJ_.pages h) F;have y:=(D.inner A).2.2.1;grind
end
section
variable{B:Hp}{le tp:Nat}{fa:Pl}{key v:Y_}
def Bp_ (h1:1<=key.size) (h2:key.size<=6) (h3:v.size<=10):∀(d:Nat){H:Hp}{ds:List PC}{T:List Pg}{X:Nat->Prop}{ws:List Int}{a:Nat}{P:List Nat}{ps:KV}{p:Pg}{Q:Post},WM B H le tp ds T X fa ws->Sub T d a P ps->P.Nodup->(∀i∈P,X i)->rw_ P ws->T[a]?=some p->
 (3*ps.length+5<=4*(ws.length+P.length)\/(2<=p.keys.length/\3*ps.length+3<=4*(ws.length+P.length)))->
 (hQ:∀H' ds' T' P' ws' X' r rp,WM B H' le tp ds' T' X' fa ws'->Ke_ T T' d a key v P P' ws ws' ps r->(∀j,j∉P'->X j->X' j)->Rp H' r rp->Q (gP rp) H')->
 a3_.at d [yQ le,gI (a:Int),gS key,gS v] H Q
 |0,H,ds,T,X,ws,a,P,ps,p,Q,m,hS,_,_,_,_,_,_=>hS.elim
 | n+1,H,ds,T,X,ws,a,P,ps,p,Q,m,hS,hnd,hX,hfr,hp,hcnt,hQ=>by
  have q1:=m.g.ot.len;have q2:=m.g.ot.lenT;have hm:=hS.may hp;have hlt:=(kC.1 hp).1;have eTa:T[a]'hlt=p:=(kC.1 hp).2;have at_a:=m.g.ot.all a o_ hlt;rw[eTa]at at_a;obtain⟨a0,a1,a2,a3,a4⟩:=m.g.cells (i:=a) o_;have ea:tN (a:Int)=a:=rfl;have hsm:=hH_ hm;have hlf:=at_a.leaf;refine⟨1,?_⟩;rw[od_,ad_,kQ,ac_ m.gtE,ah_,af_];refine ab_ s_ ?_;rw[ad_,ea,ac_ a1,ak_];cases hl:p.leaf with
  |true=>
   rw[ay_ (by rw[<-hlf,hl])];refine Gl_ m hS hp hl (hX a hS.head) hfr o_ h1 h2 h3 λH' ds' T' P' ws' X' r rp m' pr hx hr=>?_;simp only[aJ_,gc_];exact hQ H' ds' T' P' ws' X' r rp m' pr hx hr
  | false=>
   rw[aB_ (by rw[<-hlf,hl])];obtain⟨d,PA,psA,Pi,psi,PC,psC,ed,kd⟩:=y9_ (key:=key) hS hp hl;obtain rfl:n=d+1:=o_
   obtain⟨f1,f2,f3,f4,f5⟩:=hm.2.inner hl;have hnd':=hnd;rw[kd.eP]at hnd';have n0:=nodup_cons.1 hnd';have n1:=kT.1 n0.2;have n2:=kT.1 n1.2.1;have hi:=kd.hi;have hm4:=hm.1;have kr:=f4 _ (kE hi);have ek:p.kids[cp_ p.keys key]=(((p.kids[cp_ p.keys key]).toNat:Nat):Int):=o_
   have inP:∀i∈Pi,i∈P:=λi h=>by rw[kd.eP];simp[h]
   have aPi:a∉Pi:=λh=>n0.1 (by simp[h]);have kle:=(gE_ (key:=key) (b8_ hm.2.rising)).2.2;have c1:=mW_.pages (λ_ _ _ h=>cJ_.pages h) kd.pre;have c2:=l8_.pages (λ_ _ _ h=>cJ_.pages h) kd.suf;have c3:P.length=1+(PA.length+(Pi.length+PC.length)):=by rw[kd.eP];simp;omega
   have c4:ps.length=psA.length+(psi.length+psC.length):=by rw[kd.eps];simp
   have c5:(p.kids.take (cp_ p.keys key)).length=cp_ p.keys key:=s_
   have c6:(p.kids.drop (cp_ p.keys key+1)).length=p.kids.length-(cp_ p.keys key+1):=t_
   rw[c5]at c1;rw[c6]at c2;obtain⟨kq,hkq,hkq2⟩:=kd.kid.2;refine k1_ (o:=0+a*5) a2 at_a.keys ?_;simp only[aJ_,ai_];rw[ac_ a4,ah_,af_,at_a.kids.rd _ rfl hi,ek];refine Bp_ h1 h2 h3 (d+1) m kd.kid.1 n2.1 (λi h=>hX i (inP i h)) ⟨hfr.rng,hfr.nd,λx hx hxi=>hfr.out x hx (inP _ hxi)⟩ hkq (.inr ⟨hkq2,o_⟩) ?_;intro H1 ds1 T1 Pi' ws1 X1 r rp m1 pr hX1 hrp;have r1:=m1.g.ot.len;have r2:=m1.g.ot.lenT;have fi:=pr.fin;have frOut:∀x∈ws,x.toNat∉P:=hfr.out;have memPi:∀j∈Pi',j∈P->j∈Pi:=λj hj hjP=>by
    rcases fi.new j hj with q|⟨x,hx,e⟩
    .exact q
    .exact (frOut x hx (by rw[e];exact hjP)).elim
   have aPi':a∉Pi':=λh=>aPi (memPi a h hS.head);have hp1:T1[a]?=some p:=by rw[fi.out a aPi'];exact hp
   have eTa1:T1[a]'o_=p:=(kC.1 hp1).2;have disjA:∀j∈PA++PC,j∉Pi':=λj hj h=>by
    have hjP:j∈P:=by rw[kd.eP];simp only[kD]at hj;rcases hj with z|z<;>simp[z]
    have:=memPi j h hjP;rcases kD.1 hj with z|z
    .exact n1.2.2 j z j (by simp[this]) rfl
    .exact n2.2.2 j this j z rfl
   have hA:∀j∈PA++PC,T1[j]?=T[j]? :=λj hj=>fi.out j (disjA j hj);have hx1a:X1 a:=hX1 a aPi' (hX a hS.head);simp only[aJ_,gc_];have key1:∀{P1:List Nat},(∀j,j∈P1↔j∈Pi')->(a::(PA++(P1++PC))).length=1+(PA.length+(Pi'.length+PC.length))->P1.Nodup->
    (a::(PA++(P1++PC))).Nodup/\(∀j∈P,j∈a::(PA++(P1++PC)))/\(∀j∈a::(PA++(P1++PC)),j∈P\/∃x∈ws,x.toNat=j)/\(∀x∈ws1,x.toNat∉a::(PA++(P1++PC))):=λ{P1} hm1 hl1 hn1=>by
    refine⟨nodup_cons.2 ⟨λh=>?_,kT.2 ⟨n1.1,kT.2 ⟨hn1,n2.2.1,λu hu w hw e=>?_⟩,λu hu w hw e=>?_⟩⟩,λj hj=>?_,λj hj=>?_,λx hx h=>?_⟩
    .simp only[kD]at h;rcases h with z|z|z
     .exact n0.1 (by simp[z])
     .exact aPi' ((hm1 a).1 z)
     .exact n0.1 (by simp[z])
    .subst e;exact disjA u (by simp[hw]) ((hm1 u).1 hu)
    .subst e;rcases kD.1 hw with z|z
     .exact disjA u (by simp[hu]) ((hm1 u).1 z)
     .exact n1.2.2 u hu u (by simp[z]) rfl
    .rw[kd.eP]at hj;simp only[kU,kD]at hj ⊢;rcases hj with z|z|z|z
     .exact .inl z
     .exact .inr (.inl z)
     .exact .inr (.inr (.inl ((hm1 j).2 (fi.sub j z))))
     .exact .inr (.inr (.inr z))
    ·simp only[kU,kD]at hj;rw[kd.eP];rcases hj with z|z|z|z
     .exact .inl (by simp[z])
     .exact .inl (by simp[z])
     .rcases fi.new j ((hm1 j).1 z) with q|q
      .exact .inl (by simp[q])
      .exact .inr q
     .exact .inl (by simp[z])
    .have hxw:=fi.wsub x hx;have nP:=frOut x hxw;rw[kd.eP]at nP;simp only[kU,kD]at h nP;rcases h with z|z|z|z
     .exact nP (.inl z)
     .exact nP (.inr (.inl z))
     .exact fi.fr.out x hx ((hm1 _).1 z)
     .exact nP (.inr (.inr (.inr z)))
   have cnt1:=fi.count;cases r with
   |none=>
    have hrp':rp=none:=hrp;subst hrp';rw[HT_,ay_ rfl];obtain⟨p0,p1',hp0,hp1',hkk⟩:=pr.keys rfl;rw[hkq]at hp0;obtain rfl:=Option.some.inj hp0;have hsub:cJ_ T1 (d+1) (p.kids[cp_ p.keys key]).toNat Pi' (insK psi key v):=⟨fi.res,p1',hp1',o_⟩;have hfin:=kd.put1 hp hm hl rfl hA hp1 hsub;obtain⟨k1,k2,k3,k4⟩:=key1 (P1:=Pi') (λj=>Iff.rfl) s_ fi.nd;refine hQ H1 ds1 T1 _ ws1 X1 none none m1 ⟨⟨fi.len,k1,k2,k3,λj hj=>fi.out j λh=>hj (by simp[h]),fi.wsub,⟨fi.fr.rng,fi.fr.nd,k4⟩,by simp only[length_cons,kI];omega,hfin,λs x e=>k_ e⟩,λ_=>⟨p,p,hp,hp1,kO _⟩⟩ (λj hj hx=>hX1 j (λh=>hj (by simp[h])) hx) rfl
   | some sx=>
    obtain⟨s,x⟩:=sx;obtain⟨lq,e,hq⟩:=hrp;subst e;rw[H8_,aB_ rfl];obtain⟨PX,psX,PY,psY,s1,s2,s3,s4,s5,s6,s7,s8,s9,s10⟩:=fi.res;have ex:(x.toNat:Int)=x:=o_
    have hxw:=fi.half s x rfl;have hxP:x.toNat∉P:=frOut x hxw;have hmm:∀j,j∈PX++PY↔j∈Pi':=λj=>by rw[s3]
    refine m1.insInner hp1 hx1a kle f3 hsm o_ hq o_ λH2 ds2 m2=>?_;have hlt1:=(kC.1 hp1).1;have hp2:(T1.set a (yE_ p (cp_ p.keys key) s x))[a]?=some (yE_ p (cp_ p.keys key) s x):=kH hlt1;have out2:∀j,j≠a->(T1.set a (yE_ p (cp_ p.keys key) s x))[j]?=T1[j]? :=λj hj=>kF (Ne.symm hj);have nX:∀j∈PX++PY,j≠a:=λj hj e=>aPi' ((hmm a).1 (by rw[<-e];exact hj));have nA:∀j∈PA++PC,j≠a:=λj hj e=>by
     subst e;rcases kD.1 hj with z|z
     .exact n0.1 (by simp[z])
     .exact n0.1 (by simp[z])
    have hSF:=kd.put2 (T1:=T1.set a (yE_ p (cp_ p.keys key) s x)) (f:=x.toNat) (v:=v) hp hm hl rfl hxP o_ o_ s7 (λj hj=>by rw[out2 j (nA j hj)];exact hA j hj)
     (s1.keep λj hj=>out2 j (nX j (by simp[hj]))) (s2.keep λj hj=>out2 j (nX j (by simp[hj]))) s4 s5 s6 (by rw[ex];exact hp2)
    have hk5:(yE_ p (cp_ p.keys key) s x).keys.length=p.keys.length+1:=by
     show (p.keys.take _++s::p.keys.drop _).length=_;simp;omega
    have eas:PX++(PY++PC)=(PX++PY)++PC:=t_
    rw[eas]at hSF;have hl3:(PX++PY).length=Pi'.length:=by rw[s3]
    obtain⟨k1,k2,k3,k4⟩:=key1 (P1:=PX++PY) hmm (by simp only[length_cons,kI]at hl3 ⊢;omega) (by rw[<-s3];exact fi.nd);have hfr1:rw_ (a::(PA++((PX++PY)++PC))) ws1:=⟨fi.fr.rng,fi.fr.nd,k4⟩;have hlen1:(a::(PA++((PX++PY)++PC))).length=1+(PA.length+(Pi'.length+PC.length)):=by simp only[length_cons,kI]at hl3 ⊢;omega
    have hins:=Io_ (k:=key) (v:=v) hS.asc.1;refine Ca_ m2 hSF hp2 o_ k1 hfr1 (λh5 e=>?_) λH3 ds3 T3 P3 ws3 X3 r3 rp3 m3 fin3 hn3 hX3 hrp3=>?_
    .have:=hSF.pages hp2 h5;rw[hlen1]at this;rw[e]at cnt1;simp only[length_nil]at cnt1;omega
    simp only[aJ_,gc_];have cnt3:=fin3.count;rw[hlen1]at cnt3;have inP3:∀j∈a::(PA++((PX++PY)++PC)),j∈P3:=fin3.sub;have inP4:∀j∈Pi',j∈P3:=λj h=>inP3 j (mem_cons_of_mem _ (kD.2 (.inr (kD.2 (.inl ((hmm j).2 h))))));refine hQ H3 ds3 T3 P3 ws3 X3 r3 rp3 m3 ⟨⟨by rw[fin3.len];simp[fi.len],fin3.nd,λj hj=>inP3 j (k2 j hj),λj hj=>?_,λj hj=>?_,λy hy=>fi.wsub y (fin3.wsub y hy),fin3.fr,o_,fin3.res,λs' x' e=>fi.wsub x' (fin3.half s' x' e)⟩,λhr=>⟨p,_,hp,by rw[hn3 hr];exact hp2,o_⟩⟩ (λj hj hx=>hX3 j hj (hX1 j (λh=>hj (inP4 j h)) hx)) hrp3
    .rcases fin3.new j hj with q|⟨y,hy,e⟩
     .exact k3 j q
     .exact .inr ⟨y,fi.wsub y hy,e⟩
    .rw[fin3.out j hj,out2 j λe=>hj (inP3 j (by simp[e]))];exact fi.out j λh=>hj (inP4 j h)
end
def bn_.pagesMay {G:Nat->Prop} (D:∀k P ps,R k P ps->∀i∈P,G i):∀{ks:List Int}{ss:List Y_}{P:List Nat}{ps:KV},bn_ R ks ss P ps->∀i∈P,G i
 |[],_,_,_,h,_,_=>h.elim
 |k::ks,[],P,ps,h,i,A=>D _ _ _ h.2 i A
 |k::ks,s::ss,P,ps,⟨W,F,O,J,U,N,I,V,_,_⟩,i,A=>by
  subst I;rcases kD.1 A with q|q;grind;exact bn_.pagesMay D N i q
def Sub.pagesMay:∀{d a:Nat}{P:List Nat}{ps:KV},Sub T d a P ps->∀i∈P,∃p,T[i]?=some p/\fm_ p
 |0,_,_,_,h,_,_=>h.elim
 |d+1,a,P,ps,h,i,A=>by
  obtain⟨p,hp,hm,⟨_,_,e,_⟩|⟨_,F,e,D⟩⟩:=h;grind;subst e;rcases kU.1 A with q|q;grind;exact bn_.pagesMay (λk P ps h i A=>Sub.pagesMay h.1 i A) D i q
def ir_(T:List Pg)(i:Nat):Bool:=match T[i]? with|some p=>p.used|none=>false
section
variable{T T':List Pg}{d:Nat}{P:List Nat}{ps:KV}
theorem fT_.used(w:fT_ T d P ps)(hi:i<48):i∈P↔ir_ T i=true:=by
 have F:=w.len;constructor;intro h;have⟨p,A,D⟩:=w.sub.pagesMay i h;unfold ir_;rw[A];exact D.2.used;refine λh=>Decidable.byContradiction λq=>?_;have:=w.rest i _ (kG o_) q;unfold ir_ at h;unfold cS_ at this;grind
def lK_(T:List Pg)(k:Nat):List Int:=List.map (λi:Nat=>(i:Int)) ((List.range k).filter λi=> !ir_ T i)
theorem wj_(T:List Pg)(k:Nat):lK_ T (k+1)=lK_ T k++(match ir_ T k with|true=>[]|false=>[(k:Int)]):=by
 unfold lK_;rw[range_succ,filter_append,kL];grind
def yX_:x∈lK_ T k↔∃i:Nat,x=i/\i<k/\ir_ T i=false:=by
 unfold lK_;grind
def Cz_(T:List Pg)(k:Nat):(lK_ T k).Nodup:=by
 unfold lK_;rw[Nodup,pairwise_map];exact ((nodup_range).sublist filter_sublist).imp λh e=>h o_
def x4_ (q:Nat->Bool):∀l:List Nat,(l.filter q).length+(l.filter λi=> !q i).length=l.length
 |[]=>rfl
 |x::l=>by
  have:=x4_ q l;grind
def fT_.frees (w:fT_ T d P ps) (F:ws.Perm (lK_ T 48)):rw_ P ws/\ws.length+P.length=48:=by
 refine⟨⟨λx I=>?_,F.nodup_iff.2 (Cz_ T 48),λx I J=>?_⟩,?_⟩;have⟨i,e,N,D⟩:=yX_.1 (F.mem_iff.1 I);have:i≠0:=λq=>by
  subst q;rw[(w.used o_).1 w.sub.head]at D;cases D
 omega;have⟨i,e,N,D⟩:=yX_.1 (F.mem_iff.1 I);subst e;have:(i:Int).toNat=i:=rfl;rw[this,w.used N,D]at J;grind;have A:P.Perm ((List.range 48).filter λi=>ir_ T i):=by
  refine (perm_ext_iff_of_nodup w.nodup ((nodup_range).sublist filter_sublist)).2 λi=>?_;rw[mem_filter,mem_range];constructor;intro h;have:=w.sub.inT i h;rw[w.len]at this;exact⟨this,(w.used this).1 h⟩;rintro⟨U,O⟩;exact (w.used U).2 O
 rw[A.length_eq,F.length_eq];unfold lK_;have:=x4_ (λi=>ir_ T i) (List.range 48);grind
def E6_(T:List Pg):Nat:=(T.map gK).sum
theorem Ax_ (h:0<aL_ T):E6_ T=(cL_ T).length:=by
 have ⟨st,s⟩:=SF.of h;rw[<-s.sums.1];have A:=ua_ h;have:∀l:List Pg,(∀p∈l,p∈T)->(l.map gK).sum=oO_ gK l:=by
  intro l;induction l with
  |nil=>intro _;rfl
  |cons p l I=>
   intro F;have D:=I λq J=>F q (mem_cons_of_mem _ J);unfold oO_ at D ⊢;rw[map_cons,sum_cons,map_cons,sum_cons,D];rcases A p (F p t_) with q|q;rw[((ef_ p).1 q).2.used];rw[q];rfl
 exact this T λp A=>A
def Ft_ (h:Sub T d k P ps) (F:T[k]?=some p) (J:T'[t]?=some p) (U:P.Nodup) (Z:∀i∈P,i≠k->T'[i]?=T[i]?):Sub T' d t (t::P.tail) ps:=by
 have I:=h.may F;cases A:p.leaf with
 |true=>
  have⟨e,D,O⟩:=h.leafD F A;subst e;subst D;exact⟨p,J,I,.inl ⟨rfl,A,rfl,O⟩⟩
 |false=>
  have⟨d',W,e,D,N⟩:=h.innD F A;subst e;subst D;exact⟨p,J,I,.inr ⟨A,W,rfl,N.imp λj Q qs Y V=>Y.keep λi hi=>Z i g_ λe=>(nodup_cons.1 U).1 g_⟩⟩
def Sub.eHead(h:Sub T d a P ps):P=a::P.tail:=by
 cases d with
 |zero=>exact h.elim
 |succ d=>obtain⟨p,_,_,⟨_,_,e,_⟩|⟨_,A,e,_⟩⟩:=h<;>simp[e]
def Im_(O:cJ_ T d 0 PX psX)(hY:cJ_ T d x.toNat PY psY)(hq:psX++psY=qs)(lt:∀e∈psX,blt e.1 s=true)(ge:∀e∈psY,blt e.1 s=false)(hs:1<=s.size/\s.size<=6)
 (hx:1<=x/\x<48) (hy:1<=y/\y<48) (Z:(PX++PY).Nodup) (N:y.toNat∉PX++PY) (hr:T[0]?=some r) (F:T.length=48) (D:∀i p,T[i]?=some p->i∉PX++PY->cS_ p=true) (hc:qs.length<=60):
 ∃P,fT_ ((T.set 0 ⟨true,false,[s],[],[y,x]⟩).set y.toNat r) (d+1) P qs:=by
 have eX:=O.1.eHead;have n1:=kT.1 Z;have h0X:=O.1.head;have xY:=hY.1.head;have y0:y.toNat≠0:=o_
 have xy:y.toNat≠x.toNat:=λe=>N (by rw[e];simp[xY]);have t0:((T.set 0 (⟨true,false,[s],[],[y,x]⟩)).set y.toNat r)[0]?=some ⟨true,false,[s],[],[y,x]⟩:=by rw[kF y0,kH o_]
 have ty:((T.set 0 (⟨true,false,[s],[],[y,x]⟩)).set y.toNat r)[y.toNat]?=some r:=by rw[kH s_]
 have Y:∀i,i≠0->i≠y.toNat->((T.set 0 (⟨true,false,[s],[],[y,x]⟩:Pg)).set y.toNat r)[i]?=T[i]? :=λi h1 h2=>by rw[kF (Ne.symm h2),kF (Ne.symm h1)]
 have I:∀i∈PX++PY,i≠y.toNat:=λi A e=>N (by rw[<-e];exact A);have⟨q,J,W⟩:=O.2;rw[hr]at J;obtain rfl:=Option.some.inj J;refine⟨0::((y.toNat::PX.tail)++PY),by simp[F],⟨_,t0,⟨t_,⟨rfl,eq_ t_,λk U=>?_,λe=>(k_ e),λ_=>⟨t_,rfl,rfl,λk U=>?_,?_⟩⟩⟩,.inr ⟨rfl,_,rfl,?_⟩⟩,g_,λi p hp A=>?_,hc⟩;rw[mem_singleton.1 U];exact hs;simp[kU]at U;rcases U with e|e;rw[e];exact hy;rw[e];exact hx;have:y≠x:=λe=>xy (by rw[e]);simp[this];refine⟨y.toNat::PX.tail,psX,PY,psY,⟨Ft_ (T':=(T.set 0 (⟨true,false,[s],[],[y,x]⟩)).set y.toNat r) O.1 hr ty n1.1 λi A V=>Y i V (I i (by simp[A])),_,ty,W⟩,⟨rfl,hY.keep (T':=(T.set 0 (⟨true,false,[s],[],[y,x]⟩)).set y.toNat r) λi A=>Y i ((λi A e=>n1.2.2 0 h0X i A e.symm:∀i∈PY,i≠0) i A) (I i (by simp[A]))⟩,rfl,hq.symm,lt,ge⟩;simp only[kU,kD,not_or]at A;rw[Y i A.1 A.2.1.1]at hp;refine D i p hp λh=>?_;rcases kD.1 h with z|z;rw[eX]at z;rcases kU.1 z with z|z;exact A.1 z;exact A.2.1.2 z;exact A.2.2 z
end
section
variable{H:Hp}{Q:Post}{x:Pl}{n:Nat}{T:List Pg}{cs:List Am.PC}
def Jd_(h:p.keys.length<=1000):gK p<=1000:=by unfold gK;cases p.leaf<;>simp<;>omega
def Ap_ {l0:Nat} (hT:Tr H x n cs T) (hg:gt H l0 0=some (.sl x n 5)) (hn:n<=48) (hs:∀p∈T,small p) (hQ:Q (gI (E6_ T:Int)) H):bP_ [yQ l0] H Q:=by
 have hlT:=hT.lenT;have sumle:∀k,k<=n->((T.take k).map gK).sum<=1000*k:=by
  intro k;induction k with
  |zero=>intro _;simp
  |succ k ih=>
   intro hk;have hk':k<T.length:=o_
   rw[take_succ_eq_append_getElem hk',kL,sum_append];have:=Jd_ (hs _ (kE hk')).2.2.1;simp only[map_cons,map_nil,sum_cons,sum_nil];have:=ih o_;omega
 have loop:∀(f k:Nat),n-k<f->k<=n->bP_.l3 f ((((T.take k).map gK).sum:Nat):Int) x n (nI n) (k:Int) H Q:=by
  intro f;induction f with
  |zero=>intro k h;omega
  | succ f ih=>
   intro k hf hk;rw[bP_.l3_eq];by_cases hkn:k<n
   ·obtain⟨l,o,c,p,rfl,hc,hpp,hpc,g0,g1,g2,g3,g4⟩:=hT.get hkn;have etN:tN (k:Int)=k:=rfl;rw[ay_ s_,af_];refine ab_ s_ ?_;rw[ad_,etN,cx_ g0 g1 g2 g3 g4,ao_ o_];have e1:=hpc.keys.len;have hk':k<T.length:=by omega
    have eT:T[k]=p:=(kC.1 hpp).2;have es:((T.take (k+1)).map gK).sum=((T.take k).map gK).sum+gK p:=by
     rw[take_succ_eq_append_getElem hk',eT];simp
    have b1:=sumle k o_;have b2:=Jd_ (hs p (by rw[<-eT];exact kE hk')).2.2.1;have b3:=(hs p (by rw[<-eT];exact kE hk')).2.2.1;have next:=ih (k+1) o_ o_;rw[es]at next;have hl:=hpc.leaf;unfold gK at next b2;cases hpl:p.leaf with
    |true=>
     rw[hpl]at next;rw[ay_ (by rw[<-hl,hpl]),jj_,e1,cf_ o_ o_];have e2:(((T.take k).map gK).sum:Int)+(p.keys.length:Int)=((((T.take k).map gK).sum+p.keys.length:Nat):Int):=o_
     rw[e2];exact next
    |false=>
     rw[hpl]at next;rw[aB_ (by rw[<-hl,hpl])];exact next
   .obtain rfl:k=n:=by omega
    rw[aB_ t_,k7 o_];exact hQ
 refine⟨n+2,?_⟩;rw[qZ_,ad_,kQ,ac_ hg,ah_];exact loop (n+1) 0 o_ (kP _)
end
section
variable{B H:Hp}{le tp:Nat}{ds:List Am.PC}{T:List Pg}{X off:Nat->Prop}{fa:Pl}{ws:List Int}{Q:Post}
theorem CT.gt(g:CT B H tPg (some (tp,0)) 48 ds T)(D:∀p∈T,small p):GT B H tp ds T (λ_=>True) (λ_=>False):=by
 have J:=g.ot.len;have N:=g.ot.lenT;refine⟨g.pre,g.ot,λi h=>(g.own i h o_).wo (g.ot.all i h o_) (D _ (kE _)),λi h l F=>?_,λi h I _=>g.own i h I,g.ap,λl h=>h.elim⟩;have A:=g.own i h o_;obtain⟨o,e|e|e⟩:=F;exact A.keys.ge e;exact A.vals.ge e;exact A.kids.ge e
structure KI_(T A:List Pg)(key v:Y_):Prop where
 pos:0<aL_ A
 ent:cL_ A=insK (cL_ T) key v
def Ed_ {key v:Y_} {P:List Nat} {d:Nat} (f:Nat) (m:WM B H le tp ds T (λ_=>True) fa ws) (w:fT_ T d P (cL_ T)) (hp:ws.Perm (lK_ T 48)) (hc:(insK (cL_ T) key v).length<=60) (h1:1<=key.size) (h2:key.size<=6) (h3:v.size<=10) {x8:Pl} {n9:Nat} {a2:Pl} {n3:Nat}
 (hQ:∀H' ds' T' X' off',GT B H' tp ds' T' X' off'->KI_ T T' key v->Q (.tup [yB (some (tp,0)) 48,nN 0]) H'):
 br_.l8 (f+1) key v a2 n3 le 0 le 0 x8 n9 48 48 H Q:=by
 obtain⟨fr,cnt⟩:=w.frees hp;have q1:=m.g.ot.len;have q2:=m.g.ot.lenT;obtain⟨p0,hp0⟩:=w.sub.get;rw[br_.l8_eq,aB_ d_];refine⟨d,Bp_ h1 h2 h3 d (a:=0) m w.sub w.nodup (λ_ _=>trivial) fr hp0 (.inl (h_ w.count)) λH1 ds1 T1 P1 ws1 X1 r rp m1 pr hX1 hrp=>?_⟩;have fi:=pr.fin;have q3:=m1.g.ot.len;have q4:=m1.g.ot.lenT;have rest1:∀(i:Nat) p,T1[i]?=some p->i∉P1->cS_ p=true:=λi p hp hi=>by
  rw[fi.out i hi]at hp;exact w.rest i p hp λh=>hi (fi.sub i h)
 have cnt1:=fi.count;simp only[aJ_,gc_];cases r with
 |none=>
  have hrp':rp=none:=hrp;subst hrp';rw[HT_,aB_ d_,kQ,ac_ m1.gtE,ah_];have w1:fT_ T1 d P1 (insK (cL_ T) key v):=⟨o_,fi.res,fi.nd,rest1,hc⟩;refine hQ H1 ds1 T1 X1 _ m1.g ⟨w1.pos',w1.sound.2⟩
 | some sx=>
  obtain⟨s,x⟩:=sx;obtain⟨lq,e,hq⟩:=hrp;subst e;obtain⟨PX,psX,PY,psY,s1,s2,s3,s4,s5,s6,s7,s8,s9,s10⟩:=fi.res;rw[H8_,ay_ d_,kQ,ac_ m1.gtE,ah_,af_];refine ab_ d_ ?_;obtain⟨b0,b1,b2,b3,b4⟩:=m1.g.cells (i:=0) o_;have et0:tN 0=0:=rfl;rw[ad_,et0,cx_ b0 b1 b2 b3 b4];have hpg:=cJ_.pages s1;have hpg2:=cJ_.pages s2;have hPl:P1.length=PX.length+PY.length:=by rw[s3];simp
  have hql:psX.length+psY.length<=60:=by rw[<-s4]at hc;simpa using hc
  have hne:ws1≠[]:=λe=>by rw[e]at cnt1;simp at cnt1;omega
  refine BU_ m1 hne (λy hy=>⟨by have:=(fi.fr.rng y hy).1;omega,(fi.fr.rng y hy).2⟩) (c:=ds1[0]'o_) λy init H2 hperm m2 l2 k2=>?_;obtain⟨f1,f2,f3,f4,f5,f6,f7⟩:=fi.fr.pop hperm;simp only[aJ_,ai_];have hr2:=m2.g.ot.at_row.2;have htp:=(kC.1 hr2).1;have hyl:y.toNat<ds1.length:=o_
  have y0:y.toNat≠0:=o_
  have hle:=m2.le_lt;have hlet:le≠tp:=(m2.g.off le (.inl rfl)).2.1;have hlq2:H2[lq]?=H1[lq]? :=k2 lq λh=>by
   rcases h with rfl|⟨o,e⟩
   .rcases m1.fre with⟨_,e,_⟩|⟨lf,rest,e,hf⟩
    .exact hne e
    .exact Ai_ hq hf.wr d_ rfl
   .rcases m1.fre with⟨e',_,_⟩|⟨lf,rest,e',hf⟩
    .rw[e']at e;cases e
    .rw[e']at e;cases e;exact Ai_ hq hf.row d_ rfl
  have hq2:H2[lq]?=some (.row true w6_ [.str s,.int .i64 x]):=by rw[hlq2];exact hq
  have hlqt:lq≠tp:=λe=>by rw[e,hr2]at hq2;simp at hq2;exact absurd hq2.1 d_
  have hlq:=(kC.1 hq2).1;have g0:∀Z:List Obj,gt (H2.set tp (.row true tPg (a0_ (ds1.set y.toNat (ds1[0]'o_))))++Z) le 0=some (.sl (some (tp,0)) 48 5):=λZ=>by
   rw[<-m2.gtE];unfold gt;rw[kM (u_ hle),kF (Ne.symm hlet)]
  have gq0:∀Z:List Obj,gt (H2.set tp (.row true tPg (a0_ (ds1.set y.toNat (ds1[0]'o_))))++Z) lq 0=some (.str s):=λZ=>by
   have:gt H2 lq 0=some (.str s):=by rw[aY_ hq2];rfl
   rw[<-this];unfold gt;rw[kM (u_ hlq),kF (Ne.symm hlqt)]
  have gq1:∀Z:List Obj,gt (H2.set tp (.row true tPg (a0_ (ds1.set y.toNat (ds1[0]'o_))))++Z) lq 1=some (.int .i64 x):=λZ=>by
   have:gt H2 lq 1=some (.int .i64 x):=by rw[aY_ hq2];rfl
   rw[<-this];unfold gt;rw[kM (u_ hlq),kF (Ne.symm hlqt)]
  have z0:=g0 [];have zq0:=gq0 [];have zq1:=gq1 [];rw[append_nil]at z0 zq0 zq1;rw[ac_ z0,ah_,ad_,kQ,ac_ zq0,aq_,ad_,kN,ac_ zq1,ai_];have fin:∀(Z:List Obj)(lk ln':Nat),Z.length=2->(H2++Z)[lk]?=some (.row true tS [.str s])->(H2++Z)[ln']?=some (.row true tI [.int .i64 y,.int .i64 x])->H2.length<=lk->H2.length<=ln'->lk≠ln'->
   wr (H2.set tp (.row true tPg (a0_ (ds1.set y.toNat (ds1[0]'o_))))++Z) tp (0*5) (.bool true) λH66=>wr H66 tp (0*5+1) (.bool false) λH67=>wr H67 tp (0*5+1+1) (.sl (some (lk,0)) 1 1) λH68=>wr H68 tp (0*5+1+1+1) (.sl none 0 1) λH69=>wr H69 tp (0*5+1+1+1+1) (.sl (some (ln',0)) 2 1) λH70=>
    rd H70 le 0 λv71=>dL 5 v71 λx72 n73=>Q (.tup [(.a [(.sl x72 n73 5)]),(nN 0)]) H70:=λZ lk ln' hZ hk hn hlk hln hne'=>by
   have ra:(H2.set tp (.row true tPg (a0_ (ds1.set y.toNat (ds1[0]'o_))))++Z)[tp]?=some (.row true tPg (a0_ (ds1.set y.toNat (ds1[0]'o_)))):=by
    rw[kM (u_ htp)];exact kH htp
   refine wr5 (i:=0) (c:=⟨true,false,some (lk,0),1,none,0,some (ln',0),2⟩) ra s_ ?_;have eset:(H2.set tp (.row true tPg (a0_ (ds1.set y.toNat (ds1[0]'o_))))++Z)=(H2++Z).set tp (.row true tPg (a0_ (ds1.set y.toNat (ds1[0]'o_)))):=(set_append_left _ _ htp).symm;rw[eset,set_set];have mZ:=m2.mono (prefix_append H2 Z);have hBl:=m2.g.pre.length_le;have htpZ:tp<(H2++Z).length:=by rw[kI];omega
   have kp:∀(cs:List GV) l,l≠tp->((H2++Z).set tp (.row true tPg cs))[l]?=(H2++Z)[l]? :=λcs l hl=>by rw[kF (Ne.symm hl)]
   have g1:gt ((H2++Z).set tp (.row true tPg (a0_ ((ds1.set y.toNat (ds1[0]'o_)).set 0 ⟨true,false,some (lk,0),1,none,0,some (ln',0),2⟩)))) le 0=some (.sl (some (tp,0)) 48 5):=by
    rw[<-mZ.gtE];unfold gt;rw[kp _ le hlet]
   rw[ac_ g1,ah_];have onr:∀l,(⟨true,false,some (lk,0),1,none,0,some (ln',0),2⟩:Am.PC).on l->l=lk\/l=ln':=λl hl=>by
    obtain⟨o,e|e|e⟩:=hl
    .cases e;exact .inl rfl
    .cases e
    .cases e;exact .inr rfl
   have at0:∀cs,(⟨true,false,some (lk,0),1,none,0,some (ln',0),2⟩:Am.PC).at ((H2++Z).set tp (.row true tPg cs)) ⟨true,false,[s],[],[y,x]⟩:=λcs=>by
    have k1:((H2++Z).set tp (.row true tPg cs))[lk]?=some (.row true tS [.str s]):=by rw[kp _ lk o_];exact hk
    have k2:((H2++Z).set tp (.row true tPg cs))[ln']?=some (.row true tI [.int .i64 y,.int .i64 x]):=by rw[kp _ ln' o_];exact hn
    exact⟨rfl,rfl,⟨by simp[cells?,k1],rfl,by show 1*16<=_;omega⟩,⟨rfl,rfl,by show 0*16<=_;omega⟩,⟨by simp[cells?,k2],rfl,by show 2*8<=_;omega⟩⟩
   have wo0:∀cs,WoP ((H2++Z).set tp (.row true tPg cs)) B.length 1000 ⟨true,false,some (lk,0),1,none,0,some (ln',0),2⟩:=λcs=>by
    have k1:((H2++Z).set tp (.row true tPg cs))[lk]?=some (.row true tS [.str s]):=by rw[kp _ lk o_];exact hk
    have k2:((H2++Z).set tp (.row true tPg cs))[ln']?=some (.row true tI [.int .i64 y,.int .i64 x]):=by rw[kp _ ln' o_];exact hn
    refine⟨.inr ⟨lk,0,[s],rfl,o_,k1,t_,λz hz=>?_⟩,.inl rfl,.inr ⟨ln',0,[y,x],rfl,o_,k2,t_⟩,by show 1<=1000;omega,by show 0<=1000;omega,by show 2<=1000;omega⟩;rw[mem_singleton.1 hz];omega
   have t1:=mZ.g.turn (i:=0) (H':=(H2++Z).set tp (.row true tPg (a0_ (ds1.set 0 ⟨true,false,some (lk,0),1,none,0,some (ln',0),2⟩)))) (c:=⟨true,false,some (lk,0),1,none,0,some (ln',0),2⟩) (p:=⟨true,false,[s],[],[y,x]⟩) (X':=λ_=>False) o_ t_ (λl _ _ hl _=>kp _ l hl) (kH htpZ) (at0 _) (wo0 _)
    (λl hl=>by
     have hl':H2.length<=l:=by rcases onr l hl with e|e<;>omega
     exact⟨o_,λq=>h_ (m2.off_lt q),o_,λj hj _ hon=>h_ (m2.g.onlt j hj hon)⟩) λj hj=>hj.elim
   have t2:=t1.turn (i:=y.toNat) (H':=(H2++Z).set tp (.row true tPg (a0_ ((ds1.set 0 ⟨true,false,some (lk,0),1,none,0,some (ln',0),2⟩).set y.toNat (ds1[0]'o_))))) (c:=ds1[0]'o_) (p:=T1[0]'o_) (X':=λ_=>False) s_ t_ (λl _ _ hl _=>by rw[kp _ l hl,kp _ l hl]) (kH htpZ)
    ((mZ.g.ot.all 0 o_ o_).keep λl hl=>kp _ l λe=>mZ.g.ot.off _ (kE o_) l hl (by rw[e])) ((mZ.g.wo 0 o_).keepOn λl hl=>kp _ l λe=>mZ.g.ot.off _ (kE o_) l hl (by rw[e]))
    (λl hl=>by
     refine⟨λe=>mZ.g.ot.off _ (kE o_) l hl (by rw[e]),λq=>(mZ.g.off l q).2.2 0 o_ hl,mZ.g.base 0 o_ l hl,λj hj hne2 hon=>?_⟩;rw[getElem_set]at hon;by_cases e:0=j
     .rw[if_pos e]at hon;have:=m2.g.onlt 0 o_ hl;rcases onr l hon with z|z<;>omega
     .rw[if_neg e]at hon;exact mZ.g.ap 0 j o_ (u_ hj) e l hl hon) λj hj=>hj.elim
   rw[set_comm _ _ (Ne.symm y0)]at t2;have e0:T1[0]?=some (T1[0]'o_):=kG o_;obtain⟨P2,w2⟩:=Im_ (y:=y) s1 s2 s4 s5 s6 s7 ⟨s8,s9⟩ f2 (by rw[<-s3];exact fi.nd) (by rw[<-s3];exact f3) e0 o_ (λi p hp hi=>rest1 i p hp (by rw[s3];exact hi)) hc;exact hQ _ _ _ _ _ t2 ⟨w2.pos',w2.sound.2⟩
  have eln:ln (H2.set tp (.row true tPg (a0_ (ds1.set y.toNat (ds1[0]'o_)))))=H2.length:=by simp[ln]
  have elp:∀o,ln (pu (H2.set tp (.row true tPg (a0_ (ds1.set y.toNat (ds1[0]'o_))))) o)=H2.length+1:=λo=>by simp[ln,pu]
  refine⟨?_,?_⟩
  .simp only[fv_];have A:=gq1 [.row true 9 [.str s]];have A0:=g0 [.row true 9 [.str s]];rw[ac_ A,ai_];refine⟨rfl,?_⟩;rw[ac_ A0,ah_];refine⟨rfl,?_⟩;rw[kV];have B0:=gq0 ([Obj.row true 9 [.str s]]++[.row true 3 [.int .i64 y,.int .i64 x]]);have B1:=g0 ([Obj.row true 9 [.str s]]++[.row true 3 [.int .i64 y,.int .i64 x]]);rw[ac_ B0,aq_];refine⟨rfl,?_⟩;rw[ac_ B1,ah_];refine⟨rfl,?_⟩;rw[af_];refine ab_ d_ ?_;rw[ad_];have F:=fin ([Obj.row true 9 [.str s]]++[.row true 3 [.int .i64 y,.int .i64 x]]) H2.length (H2.length+1) rfl t_ (by rw[<-kV,getElem?_append_right t_];simp) (kO _) o_ o_;simp only[ed_,kI,length_set,length_cons,length_nil,kN,kQ]at F ⊢;exact F
  .simp only[fv_];have A:=gq0 [.row true 3 [.int .i64 y,.int .i64 x]];have A0:=g0 [.row true 3 [.int .i64 y,.int .i64 x]];rw[ac_ A,aq_];refine⟨rfl,?_⟩;rw[ac_ A0,ah_];refine⟨rfl,?_⟩;rw[kV];have B0:=gq1 ([Obj.row true 3 [.int .i64 y,.int .i64 x]]++[.row true 9 [.str s]]);have B1:=g0 ([Obj.row true 3 [.int .i64 y,.int .i64 x]]++[.row true 9 [.str s]]);rw[ac_ B0,ai_];refine⟨rfl,?_⟩;rw[ac_ B1,ah_];refine⟨rfl,?_⟩;rw[af_];refine ab_ d_ ?_;rw[ad_];have F:=fin ([Obj.row true 3 [.int .i64 y,.int .i64 x]]++[.row true 9 [.str s]]) (H2.length+1) H2.length rfl (by rw[<-kV,getElem?_append_right t_];simp) t_ o_ (kO _) o_;simp only[ed_,kI,length_set,length_cons,length_nil,kN,kQ]at F ⊢;exact F
end
section
variable{B H:Hp}{le tp:Nat}{ds:List Am.PC}{T:List Pg}{Q:Post}{key v:Y_}{P:List Nat}{d:Nat}
def GT.all{X A:Nat->Prop}(g:GT B H tp ds T X A)(I:Hp)(h:∀l,B.length<=l->l<H.length->I[l]?=H[l]?):Tr I (some (tp,0)) 48 ds T:=by
 have⟨O,N⟩:=g.ot.at_row;refine (g.ot.keep (λl e=>g_) λc J l F=>?_).tr;obtain⟨i,D,rfl⟩:=kK J;exact h l (g.base i D l F) (g.onlt i D F)
def CB_ (w:fT_ T d P (cL_ T)) (hc:(insK (cL_ T) key v).length<=60) (h1:1<=key.size) (h2:key.size<=6) (h3:v.size<=10) {a2:Pl} {n3:Nat}
 (hQ:∀H' ds' T' X' off',GT B H' tp ds' T' X' off'->KI_ T T' key v->Q (.tup [yB (some (tp,0)) 48,nN 0]) H'):
 ∀(f k:Nat)(fa:Pl)(ws:List Int)(H:Hp),48-k<f->k<=48->GT B H tp ds T (λ_=>True) (yd_ le fa)->FA H B.length le (.sl (some (tp,0)) 48 5) fa ws->ws.Perm (lK_ T k)->br_.l8 f key v a2 n3 le 0 le 0 (some (tp,0)) 48 48 (k:Int) H Q:=by
 intro f;induction f with
 |zero=>intro k _ _ _ h;omega
 | succ f ih=>
  intro k fa ws H hf hk g hfa hp;have q1:=g.ot.len;have q2:=g.ot.lenT;by_cases hk48:k=48
  .subst hk48;refine Ed_ f ⟨g,?_⟩ w hp hc h1 h2 h3 hQ;rcases hfa with h|⟨lf,e,hb,h⟩
   .exact .inl h
   .exact .inr ⟨lf,[],e,h⟩
  ·obtain⟨c0,c1,c2,c3,c4⟩:=g.cells (i:=k) o_;have etN:tN (k:Int)=k:=rfl;rw[br_.l8_eq,ay_ s_,af_];refine ab_ s_ ?_;rw[ad_,etN,cx_ c0 c1 c2 c3 c4,ao_ o_];have hat:=g.ot.all k o_ o_;have hu:ir_ T k=ds[k].u:=by
    unfold ir_;rw[kG o_];exact hat.used
   refine aa_ (λe=>?_) λe=>?_
   ·have e:ir_ T k=false:=by rw[hu];cases h:ds[k].u<;>simp_all
    have hlw:ws.length<1000:=by
     have:=hp.length_eq;have h2:(lK_ T k).length<=k:=by
      unfold lK_;rw[k9];have:=length_filter_le (λi=> !ir_ T i) (List.range k);rwa [length_range]at this
     omega
    rw[kN];refine xc_ hfa g.pre.length_le hlw λlf ws' H' hperm hfa' hlf hlf' hkeep=>?_;have htp:=(kC.1 g.ot.at_row.2).1;refine ih (k+1) (some (lf,0)) ws' H' o_ o_ ((g.keep (λl hl hno=>hkeep l hl (λq=>hno (.inl q)) λo q=>hno (.inr ⟨o,q⟩)) o_).reoff λl hl=>?_) hfa' ?_
    ·rcases hl with rfl|⟨o,e⟩
     .exact g.off _ (.inl rfl)
     .have e:lf=l:=by cases e;rfl
      subst e;exact⟨h_ g.pre.length_le,o_,λi hi hon=>h_ (g.onlt i hi hon)⟩
    .rw[wj_,e];exact hperm.trans (hp.append_right _)
   .have e:ir_ T k=true:=by rw[hu];cases h:ds[k].u<;>simp_all
    exact ih (k+1) fa ws H o_ o_ g hfa (by rw[wj_,e,append_nil];exact hp)
variable{x:Pl}{n:Nat}{cs:List Am.PC}
def qC_ (hT:Tr H x n cs T) (e0:0<aL_ T) (k1:1<=key.size) (k2:key.size<=6) (k3:v.size<=10) (hc:(insK (cL_ T) key v).length<=60)
 (hQ:∀a ds A H',H<+:H'->(∀I:Hp,(∀l,H.length<=l->l<H'.length->I[l]?=H'[l]?)->Tr I a 48 ds A)->0<aL_ A->cL_ A=insK (cL_ T) key v->Q (.tup [yB a 48,nN 0]) H'):
 br_ [yA x n,gS key,gS v] H Q:=by
 have pA:=b4_ H (.row true tTr [(.sl x n 5)]);have g0:gt (pu H (.row true tTr [(.sl x n 5)])) (ln H) 0=some (.sl x n 5):=by simp[gt,pu,ln]
 refine⟨60,?_⟩;rw[tv_,ac_ g0,ah_];have hTA:=hT.mono pA;refine iu_ hTA λH1 p1=>?_;simp only[aJ_,ak_];rw[lE e0,aB_ d_];refine pT_ ?_;simp only[aJ_,ak_];rw[lE k1,lE k2,aB_ d_];refine mG_ ?_;simp only[aJ_,ak_];rw[lE k3,aB_ d_];obtain⟨P,w⟩:=ob_ e0;have hn48:n=48:=by have:=hT.lenT;have:=w.len;omega
 subst hn48;have hs:=uE_ e0;have g1:gt H1 (ln H) 0=some (.sl x 48 5):=cd_ p1 g0;rw[ac_ g1,ah_];refine nD_ (hTA.mono p1) λH2 p2=>?_;simp only[aH_,aD_,bD_,aq_,ak_,ai_,a8_];have g2:gt H2 (ln H) 0=some (.sl x 48 5):=cd_ p2 g1;rw[BD_ e0];have work:∀H3:Hp,H2<+:H3->(rd H3 (ln H) 0 λv37=>dL 5 v37 λx38 n39=>cl cH_ [(.agg [(.sl x38 n39 5)])] H3 λr40 H41=>rA r40 λc42=>uC c42 λv43 c44=>dL 5 v43 λx45 n46=>uN c44 (rd (pu H41 (.row true iI_ [(.sl x45 n46 5),(.sl none 0 1)])) (ln H41) 0 λv47=>dL 5 v47 λx48 n49=>
  br_.l8 59 key v none 0 (ln H41) 0 (ln H41) 0 x48 n49 (nI n49) 0 (pu H41 (.row true iI_ [(.sl x45 n46 5),(.sl none 0 1)])) Q)):=λH3 p3=>by
  have p:=p1.trans (p2.trans p3);rw[ac_ (cd_ p3 g2),ah_];refine mL_ (hTA.mono p) o_ hs λa' ds H4 g=>?_;simp only[ez_,bc_,ah_,bI_];obtain⟨tp,ea,hb,hr,_⟩:=kX_ g.ot.own (h_ g.ot.len);subst ea;have g4:gt (pu H4 (.row true iI_ [(.sl (some (tp,0)) 48 5),(.sl none 0 1)])) (ln H4) 0=some (.sl (some (tp,0)) 48 5):=by simp[gt,pu,ln]
  rw[ac_ g4,ah_];have htp:=(kC.1 hr).1;refine CB_ w hc k1 k2 k3 (λH' ds' T' X' off' gt' q=>hQ _ _ _ _ (((pA.trans p).trans gt'.pre)) (λI hI=>gt'.all I λl a b=>hI l (Nat.le_trans (pA.trans p).length_le a) b) q.pos q.ent) 59 0 none [] _ o_ o_ (((g.gt hs).mono (b4_ H4 _)).reoff λl hl=>?_) (.inl ⟨rfl,rfl,by simp[pu,ln]⟩) (Perm.refl _);rcases hl with rfl|⟨o,e⟩
  .refine⟨g.pre.length_le,by unfold ln;omega,λi hi hon=>?_⟩;have:=(g.gt hs).onlt i hi hon;unfold ln at this;omega
  .cases e
 cases hf:(cc_ (cL_ T) key).isSome with
 | false=>
  rw[ay_ d_];refine Ap_ (hTA.mono (p1.trans p2)) g2 o_ hs ?_;simp only[aJ_,ai_];have hl:(insK (cL_ T) key v).length=(cL_ T).length+1:=by
   rw[v3_ w.sub.asc.1];cases h:cc_ (cL_ T) key with
   |none=>rfl
   |some _=>rw[h]at hf;cases hf
  rw[Ax_ e0,aB_ s_];exact work H2 (k8 _)
 |true=>
  rw[aB_ d_];exact work H2 (k8 _)
end
section
variable{H:Hp}{Q:Post}{x:Pl}{n:Nat}{T:List Pg}{cs:List Am.PC}{key:Y_}
def BK_(N:Tr H x n cs T)(hn:n*80<=140737488351232)(F:0<aL_ T)(V:(cc_ (cL_ T) key).isSome=true)
 (hQ:∀a Y T' H',H<+:H'->(∀I:Hp,(∀l,H.length<=l->l<H'.length->I[l]?=H'[l]?)->Tr I a 48 Y T')->0<aL_ T'->cL_ T'=iY_ (cL_ T) key->Q (.tup [yB a 48,.s (.bool true),nN 0]) H'):
 c2_ [yA x n,gS key] H Q:=by
 refine⟨2,?_⟩;rw[we_];refine nD_ N λH1 G=>?_;simp[aH_];have e1:ky_ 1100 T=0:=by unfold ky_;rw[lE F]
 rw[e1,aB_ t_,BD_ F];have⟨P,w⟩:=ob_ F;have D:n=48:=by have:=N.lenT;have:=w.len;omega
 subst D;have Z:=uE_ F;refine mL_ (N.mono G) o_ Z λa' Y I g=>?_;simp[ez_];have⟨tp,ea,gm⟩:=g.cm Z;rw[V,ay_ rfl];have⟨v,hv⟩:=Option.isSome_iff_exists.1 V;have A:=xR_ hv;refine⟨aL_ T,zc_ (aL_ T) (a:=0) gm w.sub w.nodup (λ_ _=>trivial) ⟨_,A,rfl⟩ o_ λH3 ds3 T3 X3 P3 g3 dr _=>?_⟩;refine F1_ g3 w dr (by have:=IH_ (ps:=cL_ T) (k:=key);have:=w.count;omega) λH4 J T4 X4 r hw=>?_;have⟨d4,P4,U⟩:=hw;rw[c2_.l8_eq,kQ,ac_ r.gtE,ah_];have hb:=G.length_le;refine hQ _ J T4 _ (G.trans r.pre) (λH5 k=>(r.ot.keep (λl e=>?_) λc W l O=>?_).tr) U.pos' U.sound.2
 .exact k l (h_ (r.ot.own.above e)) (r.ot.own.lt' e)
 .obtain⟨i,hi,rfl⟩:=kK W;exact k l (h_ (r.base i hi l O)) (r.ot.onlt W O)
end
def TrP(P:Nat->Prop)(H:Hp)(x:Pl)(n:Nat)(cs:List PC)(A:List Pg):Prop:=∀H':Hp,(∀l,l<H.length-> ¬ P l->H'[l]?=H[l]?)->Tr H' x n cs A
structure TrX(H:Hp)(x:Pl)(n:Nat)(ps:KV)(P:Nat->Prop):Prop where
 ex:∃cs A,0<aL_ A/\cL_ A=ps/\TrP P H x n cs A
theorem z5_(h:0<aL_ T):el_ T=cL_ T:=by unfold el_;rw[lE h]
def It_{H G:Hp}(h:∀l,l<H.length->G[l]?=H[l]?):H<+:G:=j2_ (Nat.le_of_not_lt λq=>by
 have:=h _ q;rw[getElem?_eq_none (kO _),kG q]at this;cases this) h
section
variable{H:Hp}{Q:Post}{x:Pl}{n:Nat}{ps:KV}{k v:Y_}{P:Nat->Prop}
theorem TrP.keep(h:TrP P H x n cs A)(J:H.length<=H'.length)(e:∀l,l<H.length-> ¬ P l->H'[l]?=H[l]?):TrP P H' x n cs A:=λI k=>h I λl a b=>g_
theorem TrP.mono(h:TrP P H x n cs A)(p:H<+:H'):TrP P H' x n cs A:=h.keep p.length_le λl a _=>a9_ p a
def TrP.tr(h:TrP P H x n cs A):Tr H x n cs A:=h H λ_ _ _=>rfl
def TrP.of(h:Tr H x n cs A):TrP (λ_=>False) H x n cs A:=λI k=>h.mono (It_ λl a=>k l a id)
theorem TrX.keep(h:TrX H x n ps P)(J:H.length<=H'.length)(e:∀l,l<H.length-> ¬ P l->H'[l]?=H[l]?):TrX H' x n ps P:=by
 have⟨F,A,r,D,G⟩:=h.ex;exact⟨F,A,r,D,G.keep J e⟩
theorem TrX.mono(h:TrX H x n ps P)(p:H<+:H'):TrX H' x n ps P:=h.keep p.length_le λl a _=>a9_ p a
def TrX.tr(h:TrX H x n ps P):TrK H x n ps:=by
 have⟨F,A,r,D,G⟩:=h.ex;exact⟨F,A,G.tr,r,by rw[z5_ r];exact D⟩
theorem DM_(r:Tr H x n cs A)(h:0<aL_ A):n=48:=by
 have⟨P,w⟩:=ob_ h;have:=r.lenT;have:=w.len;omega
def JB_(h:TrX H x n ps P)(Y:∀l,P l->l<H.length)(I:(cc_ ps k).isSome=true)
 (O:∀a H',H<+:H'->TrX H' a 48 (iY_ ps k) P->Q (.tup [yB a 48,.s (.bool true),nN 0]) H'):c2_ [yA x n,gS k] H Q:=by
 have⟨Z,A,r,F,V⟩:=h.ex;have D:=V.tr;subst F;refine BK_ D (by rw[DM_ D r];omega) r I λa U N H' p t J G=>O a H' p ⟨U,N,J,G,λW q=>t W λl a b=>q l b λz=>g_⟩
def Iq_(h:TrX H x n ps P)(Y:∀l,P l->l<H.length)(O:1<=k.size)(U:k.size<=6)(I:v.size<=10)(J:(insK ps k v).length<=60)
 (V:∀a H',H<+:H'->TrX H' a 48 (insK ps k v) P->Q (.tup [yB a 48,nN 0]) H'):br_ [yA x n,gS k,gS v] H Q:=by
 have⟨Z,A,r,F,D⟩:=h.ex;subst F;refine qC_ D.tr r O U I J λa W N H' p t F G=>V a H' p ⟨W,N,F,G,λM q=>t M λl a b=>q l b λz=>g_⟩
end
def Gx_{ps A:KV}(F:Asc ps)(D:(A.map (·.1)).Nodup)(h:∀k,cc_ ps k=look A k):ps.Perm A:=by
 refine (perm_ext_iff_of_nodup (hh_ (tJ_ F)) (hh_ D)).2 λp=>⟨λr=>?_,λr=>?_⟩;exact cU_ (by rw[<-h];exact lj_ F r);exact xR_ (by rw[h];exact g3_ D r)
theorem zf_{α:Type}{l:List α}(hi:i<l.length)(k:α):k∈l.take (i+1)↔k∈l.take i\/k=l[i]:=by
 rw[take_add_one,kG hi,kD];simp
theorem s6_{kv:KV}(hi:i<kv.length)(k:Y_):k∈(kv.take (i+1)).map (·.1)↔k∈(kv.take i).map (·.1)\/k=kv[i].1:=by
 rw[take_add_one,kG hi,kL,kD];simp
theorem zI_(A:Asc kv)(hi:i<kv.length):kv[i].1∉(kv.take i).map (·.1):=λq=>by
 have⟨p,D,e⟩:=lA.1 q;obtain⟨j,r,rfl⟩:=kK D;rw[lC]at r;rw[getElem_take]at e;have:=kS.1 A j i o_ hi o_;rw[e,b0_]at this;cases this
section
variable{H:Hp}{Q:Post}{sp ms ml mi:Nat}{c4:GV}{st:StD}{x:Pl}{n:Nat}{kv:KV}{E:Nat->Sm}{P:Nat->Prop}
open Classical in
def uO_ (h:fb_ H sp (.sl x n 5) ms ml mi c4 st) (ok:Aj_ st) (hn:ec_ st<=60) (hX:TrX H x n kv P) (hP:∀l,P l->l<H.length)
 (hQ:∀H' x' kv',H<+:H'->TrX H' x' 48 kv' P->kv'.Perm (sR_ st)->Q (yA x' 48) H'):
 aN_ E [yQ sp] H Q:=by
 have hT:=hX.tr;obtain⟨cs0,A0,hT0,h0,e0⟩:=hT.ex;have hkv:nd_ kv:=by rw[<-e0];exact z8_ A0
 have hka:Asc kv:=hT.asc;have hkl:kv.length<=60:=by rw[<-e0];exact oG_ A0
 have hn48:=DM_ hT0 h0;refine⟨kv.length+1601,?_⟩;rw[pf_];obtain⟨g0,_⟩:=h.rd;simp only[ad_,kN,kQ];rw[ac_ g0,ah_];have hn3:st.snaps.length<=60/\st.links.length<=60/\st.inos.length<=60:=by unfold ec_ at hn;omega
 refine qp_ h ok o_ λH1 mw ps p1 M1 hmw hp=>?_;simp only[aJ_,c6_];rw[ac_ (cn_ p1 g0),ah_];refine⟨rfl,?_⟩;refine pO_ (hT0.mono p1) λa m H2 p2 o2 l2=>?_;simp only[aH_,aD_,bD_,ah_,ai_,a8_,fv_,ed_];rw[e0]at o2 l2;subst l2;have hps:ps.length<=60:=by rw[hp.length_eq];unfold sR_;unfold ec_ at hn;simp;omega
 have M2:=M1.keep (a9_ p2 M1.lt);have nd:=M1.nodup;have p12:H<+:H2:=p1.trans p2;have hmw2:=M2.lt;have sz_ps:∀p∈ps,(1<=p.1.size/\p.1.size<=6)/\p.2.size<=10:=λp hp'=>by
  have hq:=hp.mem_iff.1 hp';unfold sR_ at hq;simp only[kD,lA]at hq;rcases hq with⟨z,hz,rfl⟩|⟨z,hz,rfl⟩|⟨z,hz,rfl⟩
  .exact⟨Ek_ (ok.snaps z hz).1,EA_ (ok.snaps z hz).2⟩
  .exact⟨Ff_ (ok.links z hz).2.1,by show (uV_ z.2).size<=10;unfold uV_;rw[kv_];simp⟩
  .exact⟨by show 1<=(nT_ z.1).size/\(nT_ z.1).size<=6;unfold nT_;rw[kv_];simp,ES_ (ok.inos z hz).2⟩
 have loop13:∀(zs:List Y_)(az:Pl),zs.Perm (ps.map (·.1))->∀(f i:Nat)(G:Hp)(x':Pl)(kv':KV),zs.length-i<f->i<=zs.length->H<+:G->(∀j (hj:j<zs.length),∃l,az=some (l,0)/\gt G l j=some (.str zs[j]))->dS_ ekS evX G mw ps->dS_ ekS evX G H2.length kv->
  TrX G x' 48 kv' P->(∀k,cc_ kv' k=if k∈zs.take i then look ps k else if (look ps k).isSome=true then cc_ kv k else none)->
  aN_.l13 E f none 0 x' 48 (some mw) (some H2.length) az zs.length (nI zs.length) (i:Int) G Q:=by
  intro zs az hz f;induction f with
  |zero=>intro i G x' kv' h;omega
  | succ f ih=>
   intro i G x' kv' hf hi hG hr M D t hfk;have hzl:zs.length<=900:=by rw[hz.length_eq,k9];omega
   rw[aN_.l13_eq];refine aa_ (λe=>?_) λe=>?_
   ·have hi':i<zs.length:=by simpa using e
    obtain⟨l,rfl,hc⟩:=hr i hi';refine ab_ rfl (ab_ s_ ?_);have etn:∀k:Nat,tN (k:Int)=k:=λ_=>rfl;simp only[ad_,kN,etn,Nat.mul_one];rw[ac_ hc,aq_];have hin:=hz.mem_iff.1 (kE hi');obtain⟨w,hw⟩:=(kc_ (ps:=ps) _).1 hin;have hnt:zs[i]∉zs.take i:=λq=>by
     obtain⟨j,hj,e⟩:=kK q;rw[lC]at hj;rw[getElem_take]at e;exact kS.1 (hz.nodup_iff.2 nd) j i o_ hi' o_ e
    have hcur:cc_ kv' zs[i]=cc_ kv zs[i]:=by rw[hfk,if_neg hnt,hw,if_pos (show (some w).isSome=true from rfl)]
    have e2:ae_ .i64 ((i:Int)+1)=((i+1:Nat):Int):=ao_ o_;have step:∀(kv2:KV),(∀k,cc_ kv2 k=if zs[i]=k then some w else cc_ kv' k)->∀k,cc_ kv2 k=if k∈zs.take (i+1) then look ps k else if (look ps k).isSome=true then cc_ kv k else none:=λkv2 h2 k=>by
     rw[h2];by_cases q:zs[i]=k
     .subst q;rw[if_pos rfl,if_pos ((zf_ hi' _).2 (.inr rfl)),hw]
     .rw[if_neg q,hfk];have:k∈zs.take (i+1)↔k∈zs.take i:=by rw[zf_ hi'];exact⟨λz=>z.resolve_right λw=>q w.symm,.inl⟩
      simp only[this]
    have hc2:(insK kv' zs[i] w).length<=60:=by
     have:=(d8_ (ps.map (·.1)) ((insK kv' zs[i] w).map (·.1)) (tJ_ (rF_ t.tr.asc _ _)) λk hk=>?_).1
     .rw[k9,k9]at this;omega
     ·obtain⟨p,hp,rfl⟩:=lA.1 hk;have hp:=lj_ (rF_ t.tr.asc _ _) hp;rw[zd_ t.tr.asc]at hp;by_cases q:zs[i]=p.1
      .rw[<-q];exact hin
      ·rw[lH q]at hp;simp only at hp;rw[hfk]at hp;split at hp
       .exact (kc_ _).2 ⟨_,hp⟩
       .split at hp
        .rename_i z;exact (kc_ _).2 (Option.isSome_iff_exists.1 z)
        .cases hp
    refine fH_ (ev:=evX) okS D zs[i] (λv0 hv0=>?_) λhv0=>?_;simp only[evX,bD_,aq_];rw[aB_ (show (!true)=false from rfl)];refine fH_ (ev:=evX) okS M zs[i] (λv hv=>?_) λhv=>by rw[hw]at hv;cases hv
    rw[hw]at hv;cases hv;simp only[evX,bD_,aq_];refine aa_ (λe=>?_) λe=>?_
    rotate_left
    .have e:v0=w:=by simpa using e
     rw[e2];refine ih (i+1) G x' kv' o_ o_ hG hr M D t (step _ λk=>?_);by_cases q:zs[i]=k
     .subst q;rw[if_pos rfl,hcur,lj_ hka (cU_ hv0),e]
     .rw[if_neg q]
    simp only[bD_,aq_];rw[ay_ (show (!false)=true from rfl)]
    all_goals
     refine fH_ (ev:=evX) okS M zs[i] (λv hv=>?_) λhv=>by rw[hw]at hv;cases hv
     rw[hw]at hv;cases hv
     simp only[evX,bD_,aq_]
     obtain⟨⟨z1,z2⟩,z3⟩:=sz_ps _ (cU_ hw)
     refine Iq_ t (λl hl=>by have:=hP l hl;have:=hG.length_le;omega) z1 z2 z3 hc2 λa' G2 q2 t2=>?_
     simp only[aH_,aD_,eN_,bc_,ah_,bI_,bD_,ai_,a8_]
     rw[e2]
     refine ih (i+1) G2 a' _ o_ o_ (hG.trans q2) (λj hj=>?_) (M.keep (a9_ q2 M.lt)) (D.keep (a9_ q2 D.lt)) t2 (step _ λk=>?_)
     .obtain⟨l',e',c'⟩:=hr j hj;exact⟨l',e',cn_ q2 c'⟩
     .rw[zd_ t.tr.asc];by_cases q:zs[i]=k
      .rw[lE q,if_pos q]
      .rw[lH q,if_neg q]
   ·have hi':i=zs.length:=by simp at e;omega
    refine hQ G x' kv' hG t ((Gx_ t.tr.asc nd λk=>?_).trans hp);rw[hfk,hi',take_length];by_cases q:k∈zs
    .rw[if_pos q]
    ·have:look ps k=none:=by
      cases z:look ps k with
      |none=>rfl
      |some v=>exact absurd (hz.mem_iff.2 ((kc_ k).2 ⟨v,z⟩)) q
     rw[if_neg q,this];rfl
 have loop5:∀(f i:Nat)(G:Hp)(x':Pl)(n':Nat)(kv':KV),1500+(kv.length-i)<f->i<=kv.length->(∀l,l<H2.length->G[l]?=H2[l]?)->H2.length<G.length->dS_ ekS evX G H2.length (kv.take i)->
  TrX G x' n' kv' (λl=>P l\/l=H2.length)->(∀k,cc_ kv' k=if k∈(kv.take i).map (·.1)/\look ps k=none then none else cc_ kv k)->
  aN_.l5 E f none 0 x' n' (some mw) (some H2.length) a kv.length (nI kv.length) (i:Int) G Q:=by
  intro f;induction f with
  |zero=>intro i G x' n' kv' h;omega
  | succ f ih=>
   intro i G x' n' kv' hf hi hk hl D t hfk;have M:=M2.keep (hk _ hmw2);rw[aN_.l5_eq];refine aa_ (λe=>?_) λe=>?_
   ·have hi':i<kv.length:=by simpa using e
    obtain⟨l,o,rfl,q1,q2⟩:=Kv.get (H:=H2) ⟨o2.cells,rfl⟩ hi';have hlo:=o2.ltAny rfl;refine ab_ rfl (ab_ s_ ?_);have etn:∀k:Nat,tN (k:Int)=k:=λ_=>rfl;simp only[ad_,etn];have r1:gt G l (o+i*2)=some (.str kv[i].1):=by unfold gt at q1 ⊢;rw[hk l hlo];exact q1
    have r2:gt G l (o+i*2+1)=some (.str kv[i].2):=by unfold gt at q2 ⊢;rw[hk l hlo];exact q2
    rw[ac_ r1,aq_,ac_ r2,aq_];refine vF_ D (λq hq e=>zI_ hka hi' (lA.2 ⟨q,hq,e⟩)) λG1 l1 k1 D1=>?_;have e1:kv.take i++[(kv[i].1,kv[i].2)]=kv.take (i+1):=by rw[take_add_one,kG hi'];rfl
    rw[e1]at D1;have e2:ae_ .i64 ((i:Int)+1)=((i+1:Nat):Int):=ao_ o_;rw[e2];have t1:=t.keep (H':=G1) o_ λl _ hne=>k1 l λz=>hne (.inr z);have M':=M.keep (k1 mw o_);have hfi:cc_ kv kv[i].1=some kv[i].2:=lj_ hka (kE hi');have hcur:cc_ kv' kv[i].1=some kv[i].2:=by rw[hfk,if_neg λz=>zI_ hka hi' z.1,hfi]
    refine fH_ (ev:=evX) okS M' kv[i].1 (λw hw=>?_) λhw=>?_
    ·simp only[evX,bD_,aq_];rw[aB_ (show (!true)=false from rfl)];refine ih (i+1) G1 x' n' kv' o_ o_ (λl hl'=>by rw[k1 l o_,hk l hl']) o_ D1 t1 λk=>?_;rw[hfk];by_cases q:k=kv[i].1
     .subst q;rw[if_neg (λz=>by rw[hw]at z;cases z.2),if_neg λz=>by rw[hw]at z;cases z.2]
     .have:k∈(kv.take (i+1)).map (·.1)↔k∈(kv.take i).map (·.1):=by rw[s6_ hi'];exact⟨λz=>z.resolve_right q,.inl⟩
      simp only[this]
    ·simp only[bD_,aq_];rw[ay_ (show (!false)=true from rfl)];refine JB_ t1 (λl hl=>by have:=p12.length_le;rcases hl with hl|rfl;have:=hP l hl;omega;omega) (by rw[hcur];rfl) λa' G2 p' t2=>?_;simp only[aH_,aD_,eN_,bc_,ah_,bI_,bD_,ak_,ai_,a8_];have:=p'.length_le;refine ih (i+1) G2 a' 48 _ o_ o_ (λl hl'=>by rw[a9_ p' o_,k1 l o_,hk l hl']) o_ (D1.keep (a9_ p' D1.lt)) t2 λk=>?_;rw[F5_ t1.tr.asc,hfk];by_cases q:kv[i].1=k
     .subst q;rw[lE rfl];show none=_;rw[if_pos ⟨(s6_ hi' _).2 (.inr rfl),hw⟩]
     .rw[lH q];have:k∈(kv.take (i+1)).map (·.1)↔k∈(kv.take i).map (·.1):=by rw[s6_ hi'];exact⟨λz=>z.resolve_right λw=>q w.symm,.inl⟩
      simp only[this]
   ·have hi':i=kv.length:=by simp at e;omega
    subst hi';rw[take_length]at D hfk;refine⟨1,?_⟩;rw[fU_];simp only[aJ_,ed_,fv_];refine y3_ M (λp hp'=>by have:=(sz_ps p hp').1;omega) o_ (.inr rfl) λzs hz hasc G2 az q2 hr=>?_;simp only[aJ_,ah_];have t':TrX G x' n' kv' P:=by
     obtain⟨F,A,r,D,K⟩:=t.ex;exact⟨F,A,r,D,λI k=>K I λl a b=>k l a λz=>b (.inl z)⟩
    replace t':=t'.mono q2;obtain⟨cs',A',hT',h',_⟩:=t.tr.ex;have:=DM_ hT' h';subst this;have hzl:zs.length<=900:=by rw[hz.length_eq,k9];omega
    refine loop13 zs az hz f 0 G2 x' kv' o_ o_ ((p12.trans (j2_ o_ hk)).trans q2) hr (M.keep (a9_ q2 M.lt)) (D.keep (a9_ q2 D.lt)) t' λk=>?_;rw[hfk];simp only[take_zero,not_mem_nil,if_false];cases z:look ps k with
    |some v=>simp
    |none=>
     by_cases q:k∈kv.map (·.1)
     .simp[q]
     .have:cc_ kv k=none:=hx_ λy hy e=>q (lA.2 ⟨y,hy,e⟩);simp[q,this]
 have tX:TrX (H2++[Obj.map [] 0]) x n kv (λl=>P l\/l=H2.length):=by
  obtain⟨F,A,r,D,K⟩:=hX.ex;have:=p12.length_le;exact⟨F,A,r,D,λI k=>K I λl a b=>by rw[k l s_ λz=>z.elim b o_,kM o_,a9_ p12 a]⟩
 exact loop5 _ 0 _ x n kv o_ o_ (λl hl=>by rw[kM hl]) t_ (ll_ H2) tX λk=>t_
end
def ig_ (id frm:Int) (st:StD) (l:LKey × LVal):StD:=match decide (l.1.1=frm) with
 |false=>st
 |true=>match look st.inos l.2.1 with
  |none=>st
  |some y=>⟨st.snaps,st.links++[((id,l.1.2),(l.2.1,false))],fP_ st.inos l.2.1 ⟨y.links+1,y.content⟩⟩
def q3_ (st:StD) (parent:Y_):StD:=match decide (parent=mkS []) with
 |true=>st
 |false=>match look st.snaps parent with
  |none=>st
  |some x=>st.links.foldl (ig_ (ep_ st) x.id) st
def ej_(st:StD)(name parent:Y_)(kind:Int):StD:=let s:=q3_ st parent;⟨s.snaps++[(name,⟨ep_ st,kind,parent,mkS []⟩)],s.links,s.inos⟩
def Jg_(st:StD)(l:LKey × LVal):FileR:=(l.1.2,(bs_ st l).2.1,false)
structure Kid(st:StD)(id frm:Int)(ls:List (LKey × LVal))(st':StD):Prop where
 sto:Sto st'
 snaps:st'.snaps=st.snaps
 len:st'.links.length<=st.links.length+ls.length
 nos:st'.inos.length=st.inos.length
 sub:∀l,l∈st'.links↔l∈st.links\/∃m∈ls,m.1.1=frm/\l=((id,m.1.2),(m.2.1,false))
 text:∀k,(∃y',(k,y')∈st'.inos)↔∃y,(k,y)∈st.inos
 same:∀k y' y,(k,y')∈st'.inos->(k,y)∈st.inos->y'.content=y.content
def CG_ {st:StD} (h:Sto st) {id frm:Int} (h1:1<=id) (h2:id<=255) (hu:∀l∈st.links,l.1.1≠id) (hl:st.links.length<=60) {ls:List (LKey × LVal)} {l:LKey × LVal} (hin:l∈st.links) (hsub:∀m∈ls,m∈st.links) (hnew:∀m∈ls,m.1≠l.1) (hls:ls.length<=60) {st':StD} (k:Kid st id frm ls st'):Kid st id frm (ls++[l]) (ig_ id frm st' l):=by
 unfold ig_;cases e:decide (l.1.1=frm) with
 | false=>
  dsimp only;have e': ¬ l.1.1=frm:=u_ e
  refine⟨k.sto,k.snaps,by rw[kI];have:=k.len;omega,k.nos,λm=>?_,k.text,k.same⟩;rw[k.sub];constructor
  .rintro (q|⟨x,hx,q⟩)
   .exact .inl q
   .exact .inr ⟨x,by simp[hx],q⟩
  ·rintro (q|⟨x,hx,q1,q2⟩)
   .exact .inl q
   ·rcases kD.1 hx with z|z
    .exact .inr ⟨x,z,q1,q2⟩
    .have:x=l:=by simpa using z
     subst this;exact absurd q1 e'
 | true=>
  dsimp only;have e':l.1.1=frm:=u_ e
  obtain⟨y0,_,hy0,_⟩:=h.ino hin;obtain⟨y,hy⟩:=(k.text l.2.1).2 ⟨y0,hy0⟩;have hlk:=(ei_ k.sto.nd.inos).2 hy;rw[hlk];dsimp only;obtain⟨e1,e2⟩:=dX_.1 k.sto.lk;have hcy:=e2 _ hy;dsimp only at hcy;have hmay:=(k.sto.ok.inos _ hy).2;have hcl:fF_ st' l.2.1<=st'.links.length:=countP_le_length;have hyb:y.links<=120:=h_ k.len
  have hpm:=rB_ k.sto.nd.inos (v:=(⟨y.links+1,y.content⟩:InoR)) hlk;have hkey:∀m∈st'.links,m.1≠(id,l.1.2):=λm hm q=>by
   rcases (k.sub m).1 hm with z|⟨x,hx,z1,z2⟩
   .exact hu m z (by rw[q])
   .rw[z2]at q;have q2':=congrArg (λz:LKey=>z.2) q;have q2:x.1.2=l.1.2:=q2';exact hnew x hx (Prod.ext (by rw[z1,e']) q2)
  have hc:∀n,fF_ ⟨st'.snaps,st'.links++[((id,l.1.2),(l.2.1,false))],fP_ st'.inos l.2.1 ⟨y.links+1,y.content⟩⟩ n=fF_ st' n+(if l.2.1=n then 1 else 0):=λn=>by
   unfold fF_;dsimp only;rw[countP_append];by_cases z:l.2.1=n<;>simp[z]
  refine⟨⟨⟨k.sto.ok.snaps,λm hm=>?_,λx hx=>?_⟩,⟨k.sto.nd.snaps,?_,wb_ k.sto.nd.inos hlk⟩,dX_.2 ⟨λm hm=>?_,λx hx=>?_⟩⟩,k.snaps,?_,?_,λm=>?_,λn=>?_,λn y' y'' g1 g2=>?_⟩
  ·rcases kD.1 hm with q|q
   .exact k.sto.ok.links m q
   .have:m=((id,l.1.2),(l.2.1,false)):=by simpa using q
    subst this;obtain⟨_,c2,c3,c4⟩:=h.ok.links l hin;exact⟨⟨h1,h2⟩,c2,c3,c4⟩
  ·rcases (hpm x).1 hx with q|q
   .subst q;obtain⟨c1,c2⟩:=k.sto.ok.inos _ hy;refine⟨c1,?_⟩;unfold ev_ at c2 ⊢;simp only[kR]at c2 ⊢;have c21:1<=y.links:=by simpa using c2.1.1
    exact⟨⟨s_,s_⟩,c2.2⟩
   .exact k.sto.ok.inos x q.1
  .dsimp only;rw[kL,kT];refine⟨k.sto.nd.links,t_,λa ha b hb q=>?_⟩;obtain⟨m,hm,rfl⟩:=lA.1 ha;have:b=(id,l.1.2):=by simpa using hb
   exact hkey m hm (by rw[q,this])
  ·dsimp only;have tomem:∀n z,(n,z)∈st'.inos->∃z',(n,z')∈fP_ st'.inos l.2.1 ⟨y.links+1,y.content⟩:=λn z hz=>by
    by_cases q:n=l.2.1
    .exact⟨_,(hpm _).2 (.inl (by rw[q]))⟩
    .exact⟨z,(hpm _).2 (.inr ⟨hz,q⟩)⟩
   rcases kD.1 hm with q|q
   .obtain⟨z,hz⟩:=e1 m q;exact tomem _ z hz
   .have:m=((id,l.1.2),(l.2.1,false)):=by simpa using q
    subst this;exact tomem _ y hy
  .rw[hc];rcases (hpm x).1 hx with q|q
   .subst q;grind
   .rw[if_neg (Ne.symm q.2)];exact e2 x q.1
  .dsimp only;rw[kI,kI];have:=k.len;simp;omega
  .dsimp only;rw[<-k.nos];unfold fP_;rw[hlk,k9]
  ·dsimp only;rw[kD,k.sub];constructor
   .rintro ((q|⟨x,hx,q⟩)|q)
    .exact .inl q
    .exact .inr ⟨x,by simp[hx],q⟩
    .exact .inr ⟨l,t_,e',u_ q⟩
   ·rintro (q|⟨x,hx,q1,q2⟩)
    .exact .inl (.inl q)
    ·rcases kD.1 hx with z|z
     .exact .inl (.inr ⟨x,z,q1,q2⟩)
     .have:x=l:=by simpa using z
      subst this;exact .inr (by simp[q2])
  ·dsimp only;rw[<-k.text];constructor
   .rintro⟨y',q⟩;rcases (hpm _).1 q with z|z
    .have:=congrArg Prod.fst z;dsimp only at this;exact⟨y,by rw[this];exact hy⟩
    .exact⟨y',z.1⟩
   .rintro⟨y',q⟩;by_cases z:n=l.2.1
    .exact⟨_,(hpm _).2 (.inl (by rw[z]))⟩
    .exact⟨y',(hpm _).2 (.inr ⟨q,z⟩)⟩
  .dsimp only at g1;rcases (hpm _).1 g1 with z|z
   .have z1:=congrArg Prod.fst z;have z2:=congrArg Prod.snd z;dsimp only at z1 z2;rw[z2];rw[z1]at g2;exact k.same l.2.1 y y'' hy g2
   .exact k.same n y' y'' z.1 g2
def BY_ (h:Sto st) {id frm:Int} (N:1<=id) (G:id<=255) (I:∀l∈st.links,l.1.1≠id) (J:st.links.length<=60):∀(D ls:List (LKey × LVal)) (r:StD),st.links=ls++D->Kid st id frm ls r->Kid st id frm st.links (D.foldl (ig_ id frm) r)
 |[],ls,r,e,k=>by
  grind
 |m::D,ls,r,e,k=>by
  have O:m∈st.links:=g_
  have A:=h.nd.links;rw[e,kL,kT]at A;refine BY_ h N G I J D (ls++[m]) _ g_ (CG_ h N G I J O (λx F=>g_) (λx F q=>?_) ?_ k)
  .exact A.2.2 x.1 (lA.2 ⟨x,F,rfl⟩) m.1 t_ q
  .grind
theorem Kid.file(h:Sto st){id frm:Int}(k:Kid st id frm ls st')(I:l∈st.links)(G:l'.2.1=l.2.1):(bs_ st' l').2.1=(bs_ st l).2.1:=by
 have⟨y,F,D,_⟩:=h.ino I;have⟨J,r⟩:=(k.text l.2.1).2 ⟨y,D⟩;have A:=(ei_ k.sto.nd.inos).2 r;unfold bs_;rw[G,F,A];exact k.same _ _ _ r D
def C1_ (h:ic_ is name parent kind=0):aZ_ name 4=true/\(parent=mkS []\/aZ_ parent 4=true)/\(kind=0\/kind=1)/\cK_ is name=none/\lg_ is parent=true/\is.length<6:=by
 unfold ic_ at h;cases F:aZ_ name 4 with
 |false=>rw[F]at h;cases h
 | true=>
  rw[F]at h;cases I:decide (parent=mkS [])||aZ_ parent 4 with
  |false=>rw[I]at h;cases h
  | true=>
   rw[I]at h;cases A:eqI kind 0||eqI kind 1 with
   |false=>rw[A]at h;cases h
   | true=>
    rw[A]at h;cases D:cK_ is name with
    |some i=>rw[D]at h;cases h
    | none=>
     rw[D]at h;cases G:lg_ is parent with
     |false=>rw[G]at h;cases h
     | true=>
      rw[G]at h;cases r:leI 6 is.length with
      |true=>rw[r]at h;cases h
      |false=>
       refine⟨rfl,?_,?_,rfl,rfl,i_ r⟩
       .grind
       .simp_all
structure Ks_(st st':StD)(name:Y_)(id:Int)(kind:Int)(parent:Y_):Prop where
 good:ee_ st'
 snaps:st'.snaps=st.snaps++[(name,⟨id,kind,parent,mkS []⟩)]
 bare:∀fs,cl_ st' id fs->∀f∈fs,f.2.2=false
def xN_ (h:Sto st) (N:ec_ st<=60) (r:Y_):∃frm ls,Kid st (ep_ st) frm ls (q3_ st r)/\(ls=[]\/(r≠mkS []/\ls=st.links/\∃x,look st.snaps r=some x/\frm=x.id)):=by
 unfold ec_ at N;have⟨⟨I,F⟩,_,k4⟩:=sQ_ (st:=st) o_;have base:∀frm,Kid st (ep_ st) frm [] st:=λfrm=>⟨h,rfl,t_,rfl,λl=>t_,λk=>Iff.rfl,λk y U G J=>by
  have D:=(ei_ h.nd.inos).2 G;have A:=(ei_ h.nd.inos).2 J;rw[D]at A;rw[Option.some.inj A]⟩
 unfold q3_;cases e:decide (r=mkS []) with
 |true=>exact⟨0,[],base 0,.inl rfl⟩
 | false=>
  cases O:look st.snaps r with
  |none=>exact⟨0,[],base 0,.inl rfl⟩
  |some x=>
   exact⟨x.id,st.links,BY_ h I F k4 o_ st.links [] st rfl (base x.id),.inr ⟨u_ e,rfl,x,rfl,rfl⟩⟩
def Au_ {st:StD} (g:ee_ st) (hm:ec_ st<=60) {is:List InfoR} (his:cI_ st is) {name parent:Y_} {kind:Int} (hp:ic_ is name parent kind=0):Ks_ st (ej_ st name parent kind) name (ep_ st) kind parent:=by
 obtain⟨w1,w2,w3,w4,w5,w6⟩:=C1_ hp;have hm':=hm;unfold ec_ at hm';obtain⟨⟨k1,k2⟩,k3,k4⟩:=sQ_ (st:=st) o_;obtain⟨frm,ls,K,hls⟩:=xN_ g.sto hm parent;have hsn:(ej_ st name parent kind).snaps=st.snaps++[(name,⟨ep_ st,kind,parent,mkS []⟩)]:=by
  unfold ej_;dsimp only;rw[K.snaps]
 have hlk:(ej_ st name parent kind).links=(q3_ st parent).links:=rfl;have hin:(ej_ st name parent kind).inos=(q3_ st parent).inos:=rfl;have hfile:∀l,bs_ (ej_ st name parent kind) l=bs_ (q3_ st parent) l:=λl=>by unfold bs_;rw[hin]
 have hslen:is.length=st.snaps.length:=by have:=his.perm.length_eq;simpa using this
 have hnew:∀x∈st.snaps,x.1≠name:=λx hx e=>by
  obtain⟨i,hi,ei,_⟩:=his.put g.sto.nd.snaps hx;unfold cK_ at w4;rw[find?_eq_none]at w4;exact w4 i hi (by rw[ei];simpa using e)
 have hlsub:∀m∈ls,m∈st.links:=λm h=>by
  rcases hls with q|⟨_,q,_⟩
  .rw[q]at h;cases h
  .rw[q]at h;exact h
 have other:∀j,j≠ep_ st->∀fs,cl_ (ej_ st name parent kind) j fs↔cl_ st j fs:=λj hj fs=>by
  have key:∀f,(∃l∈(ej_ st name parent kind).links,l.1.1=j/\f=bs_ (ej_ st name parent kind) l)↔∃l∈st.links,l.1.1=j/\f=bs_ st l:=λf=>by
   have same:∀l∈st.links,bs_ (ej_ st name parent kind) l=bs_ st l:=λl hl=>by
    rw[hfile];exact Prod.ext rfl (Prod.ext (K.file g.sto hl rfl) rfl)
   constructor
   .rintro⟨l,q1,q2,q3⟩;rw[hlk]at q1;rcases (K.sub l).1 q1 with z|⟨m,hm,z1,z2⟩
    .exact⟨l,z,q2,by rw[q3,same l z]⟩
    .rw[z2]at q2;exact absurd q2.symm hj
   .rintro⟨l,q1,q2,q3⟩;exact⟨l,(K.sub l).2 (.inl q1),q2,by rw[q3,same l q1]⟩
  exact⟨λg=>⟨g.asc,λf=>(g.mem f).trans (key f)⟩,λg=>⟨g.asc,λf=>(g.mem f).trans (key f).symm⟩⟩
 have own:∀fs,cl_ (ej_ st name parent kind) (ep_ st) fs->∀f∈fs,∃m∈ls,m.1.1=frm/\f=Jg_ st m:=λfs hf f hff=>by
  obtain⟨l,q1,q2,q3⟩:=(hf.mem f).1 hff;rcases (K.sub l).1 q1 with z|⟨m,hm,z1,z2⟩
  .exact absurd q2 (k4 l z)
  .refine⟨m,hm,z1,?_⟩;rw[q3,hfile];unfold Jg_;refine Prod.ext (by rw[z2];rfl) (Prod.ext (K.file g.sto (hlsub m hm) (by rw[z2])) (by rw[z2];rfl))
 have sto:Sto (ej_ st name parent kind):=by
  refine⟨⟨λx hx=>?_,K.sto.ok.links,K.sto.ok.inos⟩,⟨?_,K.sto.nd.links,K.sto.nd.inos⟩,?_⟩
  ·rw[hsn]at hx;rcases kD.1 hx with q|q
   .exact g.sto.ok.snaps x q
   ·have:x=(name,⟨ep_ st,kind,parent,mkS []⟩):=by simpa using q
    subst this;refine⟨w1,?_⟩;unfold fG_;simp only[kR,Bool.or_eq_true];refine⟨⟨u_ k1,u_ k2⟩,⟨?_,?_⟩,?_,rfl⟩
    .rcases w3 with q|q<;>rw[q]<;>rfl
    .rcases w3 with q|q<;>rw[q]<;>rfl
    .rcases w2 with q|q
     .exact .inl (u_ q)
     .exact .inr q
  .rw[hsn,kL,kT];refine⟨g.sto.nd.snaps,t_,λa ha b hb e=>?_⟩;obtain⟨x,hx,rfl⟩:=lA.1 ha;have:b=name:=by simpa using hb
   exact hnew x hx (by rw[e,this])
  .exact K.sto.lk
 have par:parent=mkS []\/∃y,look st.snaps parent=some y/\y.kind=2:=by
  unfold lg_ at w5;rw[Bool.or_eq_true,decide_eq_true_eq]at w5;rcases w5 with q|q
  .exact .inl q
  ·right;cases hf:cK_ is parent with
   |none=>rw[hf]at q;cases q
   |some i=>
    rw[hf]at q;obtain⟨him,hin⟩:=gj_ hf;obtain⟨z,hz,ez,_⟩:=his.get him;refine⟨z.2,?_,?_⟩
    .have:=g3_ g.sto.nd.snaps hz;rw[show z.1=parent by rw[ez]at hin;exact hin]at this;exact this
    .rw[ez]at q;simpa using q
 refine⟨vC_ sto ?_ ?_ (λy hy fs hf=>?_) λy hy=>?_,hsn,λfs hf f hff=>?_⟩
 .rw[hsn,kL,kT];refine⟨g.ids,t_,λa ha b hb e=>?_⟩;obtain⟨x,hx,rfl⟩:=lA.1 ha;have:b=ep_ st:=by simpa using hb
  exact k3 x hx (by rw[e,this])
 .rw[hsn,kI];simp;omega
 ·rw[hsn]at hy;rcases kD.1 hy with q|q
  .exact g.info y q fs ((other _ (k3 y q) fs).1 hf)
  ·have:y=(name,⟨ep_ st,kind,parent,mkS []⟩):=by simpa using q
   subst this;dsimp only at hf ⊢;have hown:=own fs hf;rcases hls with q|⟨hne,q,x,hx,hfrm⟩
   ·have:fs=[]:=by
     cases fs with
     |nil=>rfl
     |cons f fs=>obtain⟨m,hm,_⟩:=hown f t_;rw[q]at hm;cases hm
    subst this;refine (eU_ (i:=⟨name,kind,parent,mkS [],[]⟩) Pairwise.nil).2 ⟨w1,?_,kP _,(λf hf=>absurd hf not_mem_nil),kP _⟩;dsimp only;omega
   ·obtain⟨fs0,hf0⟩:=rS_ g.sto frm;have hold:=g.info _ (cU_ hx) fs0 (by dsimp only;rw[<-hfrm];exact hf0);obtain⟨o1,o2,o3,o4,o5⟩:=(eU_ (i:=⟨parent,x.kind,x.parent,x.label,fs0⟩) hf0.asc).1 hold;dsimp only at o1 o2 o3 o4 o5;have hmem:∀f∈fs,∃f0∈fs0,f=(f0.1,f0.2.1,false):=λf hff=>by
     obtain⟨m,hm,z1,z2⟩:=hown f hff;exact⟨bs_ st m,(hf0.mem _).2 ⟨m,hlsub m hm,z1,rfl⟩,by rw[z2];rfl⟩
    refine (eU_ (i:=⟨name,kind,parent,mkS [],fs⟩) hf.asc).2 ⟨w1,?_,kP _,λf hff=>?_,?_⟩
    .dsimp only;rcases w3 with z|z<;>rw[z]<;>decide
    .obtain⟨f0,h0,e0⟩:=hmem f hff;have:=o4 f0 h0;unfold eI_ at this ⊢;simp only[kR]at this ⊢;rw[e0];exact⟨this.1,this.2.1,t_⟩
    ·dsimp only;have hsub:=(d8_ (fs0.map λf=>f.1) (fs.map λf=>f.1) (by
      unfold Nodup;rw[pairwise_map];exact hf.asc.imp λr q=>by rw[q,b0_]at r;cases r) λs hs=>by
      obtain⟨f,hff,rfl⟩:=lA.1 hs;obtain⟨f0,h0,e0⟩:=hmem f hff;exact lA.2 ⟨f0,h0,by rw[e0]⟩).1
     rw[k9,k9]at hsub;omega
 ·have mono:∀p,gA_ (ym_ st.snaps) p->gA_ (ym_ (ej_ st name parent kind).snaps) p:=λp=>gA_.mono λz hz hk=>by
   obtain⟨x,hx,e⟩:=me_.1 hz;exact⟨z,me_.2 ⟨x,by rw[hsn];simp[hx],e⟩,rfl,hk,rfl⟩
  rw[hsn]at hy;rcases kD.1 hy with q|q
  .exact mono _ (g.hdr his y q)
  .have:y=(name,⟨ep_ st,kind,parent,mkS []⟩):=by simpa using q
   subst this;dsimp only;refine mono _ ?_;rcases par with z|⟨p,hp1,hp2⟩
   .rw[z];exact .nil
   .have hpm:=cU_ hp1;have:=gA_.step (is:=ym_ st.snaps) (y:=⟨parent,p.kind,p.parent,p.label,[]⟩) (me_.2 ⟨_,hpm,rfl⟩) hp2 (g.hdr his _ hpm);exact this
 .obtain⟨m,_,_,e⟩:=own fs hf f hff;rw[e];rfl
def e8_(st:StD)(name to:Y_):StD:=⟨st.snaps.map λx=>if x.1=name then (to,⟨x.2.id,2,x.2.parent,x.2.label⟩) else x,st.links,st.inos⟩
def xq_ (h:fo_ is name to=0):aZ_ name 4=true/\aZ_ to 4=true/\(∃i,cK_ is name=some i/\i.kind=0)/\cK_ is to=none:=by
 unfold fo_ at h;cases A:aZ_ name 4&&aZ_ to 4 with
 |false=>rw[A]at h;cases h
 | true=>
  rw[A]at h;rw[kR]at A;cases G:c9_ is name==0 with
  |false=>
   grind
  | true=>
   rw[G]at h;have r:c9_ is name=0:=g_
   refine⟨A.1,A.2,?_,?_⟩
   ·unfold c9_ at r;cases D:cK_ is name with
    |none=>rw[D]at r;cases r
    |some i=>
     rw[D]at r;dsimp at r;cases F:eqI i.kind 0 with
     |true=>simpa using F
     |false=>rw[F]at r;cases r
   .cases D:cK_ is to with
    |none=>rfl
    |some i=>rw[D]at h;cases h
def Ba_ {st:StD} (g:ee_ st) {is:List InfoR} (his:cI_ st is) {name to:Y_} (hc:fo_ is name to=0):ee_ (e8_ st name to):=by
 obtain⟨w1,w2,⟨i,hi,hk⟩,hto⟩:=xq_ hc;have hnew:∀x∈st.snaps,x.1≠to:=λx hx e=>by
  obtain⟨i,hi,ei,_⟩:=his.put g.sto.nd.snaps hx;unfold cK_ at hto;grind
 have hkind:∀x∈st.snaps,x.1=name->x.2.kind=0:=λx hx e=>by
  obtain⟨him,hin⟩:=gj_ hi;obtain⟨z,hz,ez,_⟩:=his.get him;have h1:=g3_ g.sto.nd.snaps hz;have h2:=g3_ g.sto.nd.snaps hx;grind
 have hmem:∀y,y∈(e8_ st name to).snaps↔∃x∈st.snaps,(x.1≠name/\y=x)\/(x.1=name/\y=(to,⟨x.2.id,2,x.2.parent,x.2.label⟩)):=λy=>by
  unfold e8_;grind
 have hids:(e8_ st name to).snaps.map (λx=>x.2.id)=st.snaps.map λx=>x.2.id:=by
  unfold e8_;rw[map_map];apply map_congr_left;grind
 have hfiles:∀j fs,cl_ (e8_ st name to) j fs↔cl_ st j fs:=λj fs=>⟨λh=>⟨h.asc,h.mem⟩,λh=>⟨h.asc,h.mem⟩⟩;have sto:Sto (e8_ st name to):=by
  refine⟨⟨λy hy=>?_,g.sto.ok.links,g.sto.ok.inos⟩,⟨?_,g.sto.nd.links,g.sto.nd.inos⟩,g.sto.lk⟩
  .obtain⟨x,hx,⟨q,e⟩|⟨q,e⟩⟩:=(hmem y).1 hy
   .rw[e];exact g.sto.ok.snaps x hx
   .rw[e];refine⟨w2,?_⟩;have:=(g.sto.ok.snaps x hx).2;unfold fG_ at this ⊢;simp only[kR]at this ⊢;exact⟨this.1,⟨rfl,rfl⟩,this.2.2⟩
  .have hn:=g.sto.nd.snaps;unfold e8_;rw[map_map];unfold Nodup at hn ⊢;rw[pairwise_map]at hn ⊢;refine hn.imp_of_mem λ{a b} ha hb hab=>?_;grind
 refine vC_ sto (by rw[hids];exact g.ids) (by unfold e8_;dsimp only;rw[k9];exact g.few) (λy hy fs hf=>?_) λy hy=>?_
 .obtain⟨x,hx,⟨q,e⟩|⟨q,e⟩⟩:=(hmem y).1 hy
  .rw[e]at hf ⊢;exact g.info x hx fs ((hfiles _ fs).1 hf)
  .rw[e]at hf ⊢;have hf':=(hfiles _ fs).1 hf;have:=g.info x hx fs hf';obtain⟨o1,o2,o3,o4,o5⟩:=(eU_ (i:=⟨x.1,x.2.kind,x.2.parent,x.2.label,fs⟩) hf'.asc).1 this;refine (eU_ (i:=⟨to,2,x.2.parent,x.2.label,fs⟩) hf'.asc).2 ⟨w2,⟨t_,t_⟩,o3,λf hff=>?_,o5⟩;have:=o4 f hff;rw[hkind x hx q]at this;exact this
 ·have mono:∀p,gA_ (ym_ st.snaps) p->gA_ (ym_ (e8_ st name to).snaps) p:=λp=>gA_.mono λz hz hk=>by
   obtain⟨x,hx,e⟩:=me_.1 hz;have hne:x.1≠name:=λq=>by
    have:=hkind x hx q;rw[e]at hk;dsimp only at hk;omega
   exact⟨z,me_.2 ⟨x,(hmem x).2 ⟨x,hx,.inl ⟨hne,rfl⟩⟩,e⟩,rfl,hk,rfl⟩
  obtain⟨x,hx,⟨q,e⟩|⟨q,e⟩⟩:=(hmem y).1 hy
  .rw[e];exact mono _ (g.hdr his x hx)
  .rw[e];exact mono _ (g.hdr his x hx)
section
variable{H:Hp}{Q:Post}{x:Pl}{n:Nat}{cs:List PC}{T:List Pg}
structure w7_(T:List Pg)(st:StD):Prop where
 of:ofD T=some st
 good:ee_ st
 infos:cI_ st (aA_ st)
 asc:hM_ (aA_ st)
 from_:bu_ (aA_ st) (aA_ st).length 0=true
 many:ec_ st<=60
 size:(aA_ st).length<=900/\∀x∈aA_ st,x.name.size<=140737488351232/\x.files.length<=100000/\∀f∈x.files,f.1.size<=140737488351232
def ey_(h:ofD T=some st):w7_ T st:=by
 have⟨I,A,D⟩:=jZ_ h;have G:=kG_.2 ⟨A,D⟩;have g:=ee_.of (lM_ T) G;have r:=il_ (iv_ (lM_ T) A);have J:=A5_ A;have F:=oG_ T;have sz:=r.sizes (oM_ A) o_;exact⟨h,g,r,r.asc',g.forest r,by unfold ec_;omega,o_,sz.2⟩
def Av_(h:TrK H x n ps):∃cs T,Tr H x n cs T/\ofD T=eH_ ps:=by
 have⟨cs,T,r,D,A⟩:=h.ex;unfold ofD;grind
def BT_ {st:StD} {x:SnapR} (G:k<st.snaps.length) (e:st.snaps[k].1=s) (r:∀j (D:j<st.snaps.length),j<k->st.snaps[j].1≠s) (A:look st.snaps s=some x):st.snaps[k].2=x:=by
 unfold look at A;have F:st.snaps.find? (λp=>decide (p.1=s))=some st.snaps[k]:=by
  rw[find?_eq_some_iff_getElem];grind
 grind
def tY_ {name path content:Y_} (hT:Tr H x n cs T) (hs1:name.size<=140737488351232) (hs2:path.size<=140737488351232)
 (h0:ofD T=none->∀H',H<+:H'->Q (.tup [yB none 0,nN 2000]) H')
 (h1:∀st e,ofD T=some st->cG_ (aA_ st) name path content=e->e≠0->∀H',H<+:H'->Q (.tup [yB none 0,nN e]) H')
 (h2:∀st y,ofD T=some st->cG_ (aA_ st) name path content=0->look st.snaps name=some y->∀H' x',H<+:H'->TrK H' x' 48 (eZ_ (iT_ (f8_ st y.id path content)))->Q (.tup [yB x' 48,nN 0]) H'):
 cC_ [yA x n,gS name,gS path,gS content] H Q:=by
 refine⟨3,?_⟩;rw[wV_];have etn:∀k:Nat,tN (k:Int)=k:=λ_=>rfl;refine hi_ hT (λe H' p hp=>?_) λst e B H' sp a1 n1 a2 n2 a3 n3 hB hR=>?_
 .simp only[aH_,aD_,bD_,gc_,ak_,a8_];exact aa_ (λ_=>h0 e H' hp) (c_)
 ·simp only[aH_,aD_,bD_,gc_,ak_,a8_];refine aa_ (c_) λ_=>?_;have K:=ey_ e;have hm:=K.many;unfold ec_ at hm;obtain⟨_,hd,hok⟩:=jZ_ e;refine fK_ hR ⟨o_,o_,o_⟩ (rY_ hok) λG a pG ha=>?_;simp only[aJ_,ah_];refine lr_ ha K.asc K.from_ K.size.1 K.size.2 (λx hx=>by obtain⟨_,_,_,hf⟩:=K.infos.get hx;exact hf.asc) hs1 hs2 (λq=>?_) (λhw G1 b1 pG1 _=>?_)
  .simp only[aH_,aD_,bD_,ah_,ai_,a8_];rw[ay_ (u_ q)];exact h1 st _ e rfl q G (hB.trans (hR.mono pG).pre)
  simp only[aH_,aD_,bD_,ah_,ai_,a8_];rw[aB_ d_];have hR1:=hR.mono (pG.trans pG1);obtain⟨w1,w2,w3,i,hi,hk,hfew⟩:=tr_ hw;obtain⟨him,hin⟩:=gj_ hi;obtain⟨z,hz,ez,hfz⟩:=K.infos.get him;have hy:look st.snaps name=some z.2:=by
   have:=g3_ K.good.sto.nd.snaps hz;rw[show z.1=name by rw[ez]at hin;exact hin]at this;exact this
  obtain⟨gd,W⟩:=pX_ K.good K.infos o_ hw hy;have back:∀(st1:StD)(G:Hp)(a2:Pl)(n2:Nat)(a3:Pl)(n3:Nat),st1.snaps=st.snaps->st1.links.length<=100->st1.inos.length<=100->f8_ st z.2.id path content=jE_ st1 z.2.id path content->dd_ B G sp a1 n1 a2 n2 a3 n3 st1->cC_.l10 2 name path content none 0 (some (sp,0)) G Q:=by
   intro st1 G a2 n2 a3 n3 hs1 hl1 hi1 hwd hR;rw[cC_.l10_eq];refine nM_ hR o_ ?_;obtain⟨fr,hfr⟩:∃fr,ex_ st1=fr:=⟨_,rfl⟩;rw[hfr];have hst:(⟨st1.snaps,st1.links++[((z.2.id,path),(fr,true))],st1.inos++[(fr,⟨1,content⟩)]⟩:StD)=f8_ st z.2.id path content:=by rw[hwd];unfold jE_;rw[hfr]
   clear hwd;simp only[aJ_,ai_,ad_];obtain⟨g1,g2,g3⟩:=hR.rd;rw[ac_ g3,ah_];have hl3:=hR.l3;refine ab_ rfl ?_;refine hR.putI (fr,⟨1,content⟩) o_ λa3' G2 hR2=>?_;obtain⟨g1,g2,g3⟩:=hR2.rd;rw[ac_ g2,ah_,ac_ g1,ah_];have hsn:st1.snaps.length<=60:=by rw[hs1];omega
   refine fS_ hR2 (by dsimp only;omega) (λk hk ek hmin=>?_) λq=>?_
   .simp only[aJ_,ai_];rw[ac_ g1,ah_];refine⟨rfl,?_⟩;rw[ac_ g2,ah_];refine⟨rfl,?_⟩;have hl1':=hR2.l1;have hl2':=hR2.l2;dsimp only at hl1' hl2' hk ek hmin;refine ab_ rfl (ab_ (by simp<;>omega) ?_);obtain⟨l,e1,r1,r2,_⟩:=hR2.snapG k hk;have hxk:=BT_ (st:=st1) hk ek hmin (by rw[hs1];exact hy);rw[e1];simp only[ad_,etn,kN,kQ];rw[ac_ r2,ai_];dsimp only;rw[hxk];refine ab_ rfl ?_;refine hR2.putL ((z.2.id,path),(fr,true)) o_ λa2' G3 hR3=>?_;have hR3':dd_ B G3 sp a1 n1 a2' (n2+1) a3' (n3+1) (f8_ st z.2.id path content):=by rw[<-hst];exact hR3
    have hdl:=congrArg (λs:StD=>s.links.length) hst;have hdi:=congrArg (λs:StD=>s.inos.length) hst;dsimp only at hdl hdi;rw[kI]at hdl hdi;refine jo_ hR3' gd.sto ⟨?_,?_,?_⟩ (s3_ gd).2.2 λG4 x' pG4 hT'=>?_
    .rw[W.snaps];omega
    .rw[<-hdl];simp;omega
    .rw[<-hdi];simp;omega
    .simp only[ez_,bc_,ah_,bI_];exact h2 st z.2 e hw hy G4 x' (hB.trans pG4) hT'
   ·obtain⟨j,hj,ej⟩:=kK hz;have:(z.1)≠name:=by
     have:=q j (by dsimp only;rw[hs1];exact hj);dsimp only at this;simp only[hs1,ej]at this;exact this
    exact absurd (by rw[ez]at hin;exact hin) this
  refine ib_ hR1 ⟨o_,o_⟩ hy ?_;simp only[aJ_,ai_];cases hfn:hn_ st z.2.id path with
  |none=>
   have hfo:kS_ st z.2.id path= -1:=by unfold kS_;unfold hn_ at hfn;rw[hfn]
   rw[hfo];refine aa_ (n_) λ_=>?_;exact back st G1 a2 n2 a3 n3 rfl o_ o_ (by unfold f8_;rw[hfn]) hR1
  |some j=>
   have hfo:kS_ st z.2.id path=((j:Nat):Int):=by unfold kS_;unfold hn_ at hfn;rw[hfn]
   rw[hfo];obtain⟨hj,ej⟩:=ft_ hfn;refine aa_ (λ_=>?_) (w_);refine mI_ hR1 K.good.sto ⟨o_,o_⟩ hj λG2 a2' n2' a3' n3' hR2=>?_;obtain⟨yy,hyy,eqd⟩:=eS_ K.good.sto hj;refine back (gq_ st j) G2 a2' n2' a3' n3' (by rw[eqd]) ?_ ?_ (by unfold f8_;rw[hfn]) hR2
   .rw[eqd];dsimp only;have:=length_eraseIdx_le st.links j;omega
   .rw[eqd];dsimp only;unfold lw_;refine Nat.le_trans (length_filter_le _ _) ?_;unfold fP_;rw[hyy,k9];omega
end
def G9_(h:Sto a)(A:x∈a.inos):∃l∈a.links,l.2.1=x.1:=by
 have F:=(dX_.1 h.lk).2 x A;have r:=(h.ok.inos x A).2;unfold ev_ at r;simp at r;have:0<fF_ a x.1:=o_
 have⟨l,D,e⟩:=countP_pos_iff.1 this;grind
theorem IG_(F:Asc ps)(A:Asc qs)(h:ps.Perm qs):ps=qs:=
 vz_ (λa e=>by rw[b0_]at e;cases e) (λa b D r=>by have:=dw_ D r;rw[b0_]at this;cases this) F A λx=>h.mem_iff
def FJ_(h:Sto a):(eZ_ a).Perm (sR_ a)/\Asc (eZ_ a):=by
 have:=on_ Pairwise.nil (by simpa using zp_ h.ok h.nd);exact⟨by simpa[eZ_] using this.1,this.2⟩
theorem w7_.fr(k:w7_ T st):FrK (aA_ st):=⟨k.asc,k.from_,k.size.1,k.size.2,λx A=>by
 have⟨s,_,e,D⟩:=k.infos.get A;exact⟨((eU_ D.asc).1 (xZ_ k.from_ x A)).2.2.2.2,D.asc⟩⟩
section
variable{H:Hp}{Q:Post}{sp ms ml mi:Nat}{c0 c4:GV}{st:StD}{x:Pl}{n:Nat}{cs:List PC}{T:List Pg}
def vy_(h:fb_ H sp c0 ms ml mi c4 st)(I:ec_ st<=1000)(J:Q (gI (ec_ st:Nat)) H):d2_ [yQ sp] H Q:=by
 refine⟨1,?_⟩;rw[pz_];have⟨_,D,A,F,_⟩:=h.rd;unfold ec_ at I J;simp only[ad_];rw[ac_ D,c6_];refine l1_ h.snaps ?_;rw[ac_ A,c6_];refine l1_ h.links ?_;rw[ac_ F,c6_];refine l1_ h.inos ?_;unfold nI;rw[cf_ (n:=((st.snaps.length:Nat):Int)+(st.links.length:Nat)) o_ o_,cf_ o_ o_];grind
def NoT(Q:Post)(H:Hp)(e:Int):Prop:=∀H',H<+:H'->Q (.tup [yB none 0,nN e]) H'
def OkX(Q:Post)(P:Nat->Prop)(H:Hp)(kv:KV):Prop:=∀H' x',H<+:H'->TrX H' x' 48 kv P->Q (.tup [yB x' 48,nN 0]) H'
def OkT(Q:Post)(P:Nat->Prop)(H:Hp)(is:List InfoR):Prop:=∀H' x' cs T st,H<+:H'->TrP P H' x' 48 cs T->ofD T=some st->aA_ st=is->Q (.tup [yB x' 48,nN 0]) H'
structure Ko_ (E:Nat->Sm) (H:Hp) (T:List Pg) (f1:Nat) (c1:List (Nat × Nat)) (f2:Nat) (c2:List (Nat × Nat)) (err:StD->Int) (R:StD->StD->Prop):Prop where
 says:∀st,ofD T=some st->∀(H':Hp) b a (K:Post),H<+:H'->bT_ H' b a (aA_ st)->(∀H'':Hp,H'<+:H''->K (gI (err st)) H'')->E f1 (cpl [nL a (aA_ st).length 5] c1) H' K
 turn:∀st st1,ofD T=some st->err st=0->hp_ st st1->∀(H':Hp) sp ms ml mi c0 c4 (K:Post),H<+:H'->(H.length<=ms/\H.length<=ml/\H.length<=mi)->fb_ H' sp c0 ms ml mi c4 st1->
  (∀(H'':Hp) st2,H<+:H''->fb_ H'' sp c0 ms ml mi c4 st2->R st1 st2->K (.tup []) H'')->E f2 (cpl [yQ sp] c2) H' K
 ok:∀st st1 st2,ofD T=some st->err st=0->hp_ st st1->R st1 st2->Sto st2/\ec_ st2<=1000/\(eo_ st1=none->ec_ st2<=60)
def mQ_ {f1 f2:Nat} {R:StD->StD->Prop} (hX:TrP P H x n cs T) (hP:∀l,P l->l<H.length) (t:Ko_ E H T f1 c1 f2 c2 err R)
 (h0:ofD T=none->NoT Q H 2000)
 (h1:∀st,ofD T=some st->err st≠0->NoT Q H (err st))
 (h2:∀st D A,ofD T=some st->err st=0->hp_ st D->R D A->OkX Q P H (eZ_ A)):
 gb_ E [yA x n,.g (.fn f1 c1),.g (.fn f2 c2)] H Q:=by
 refine⟨1,?_⟩;rw[yi_];have hT:=hX.tr;refine k8_ hT (λe H' p q=>?_) λst e H1 O Z W Y b a o=>?_;exact h0 e H' q;have K:=ey_ e;simp[aH_];have⟨_,_,_,_,g4⟩:=o.at_.rd;rw[ac_ g4,ah_];refine t.says st e H1 b a _ o.pre o.infos λH2 p2=>?_;simp[aJ_];refine aa_ (λz=>h1 st e (u_ z) _ (o.pre.trans p2)) λz=>?_;have z:err st=0:=u_ z
 have low:=o.low;have J:∀(G:Hp) O Z W Y c4 D A,H<+:G->fb_ G O (.sl x n 5) Z W Y c4 A->hp_ st D->R D A->ec_ A<=60->
  cl (aN_ E) [(yQ O)] G λr48 H49=>rA r48 λc50=>uC c50 λv51 c52=>dL 5 v51 λx53 n54=>uN c52 (Q (.tup [(.a [(.sl x53 n54 5)]),(nN 0)]) H49):=λG O Z W Y c4 D A hG h2' F hR hm=>by
  refine uO_ h2' (t.ok st D A e z F hR).1.ok hm ((⟨_,_,(jZ_ e).1,(z5_ (jZ_ e).1).symm,hX⟩:TrX H x n (el_ T) P).mono hG) (λl N=>Nat.lt_of_lt_of_le (hP l N) hG.length_le) λH' x' kv p t' hp=>?_;simp[ez_];have⟨z1,z2⟩:=FJ_ (t.ok st D A e z F hR).1;rw[IG_ t'.tr.asc z2 (hp.trans z1.symm)]at t';exact h2 st D A e z F hR H' x' (hG.trans p) t'
 refine t.turn st st e z (hp_.refl K.good.sto) H2 O Z W Y _ _ _ (o.pre.trans p2) ⟨low.1,low.2.1,low.2.2.1⟩ (o.at_.keep λl N=>a9_ p2 N) λH3 A I s3 r3=>?_;have⟨_,hm,_⟩:=t.ok st st A e z (hp_.refl K.good.sto) r3;refine vy_ s3 hm ?_;simp[aJ_];refine aa_ (λz6=>?_) λz6=>?_;refine k8_ (hT.mono I) (λU=>by rw[e]at U;cases U) λst' U H4 sp' ms' ml' mi' b' a' V=>?_;rw[e]at U;cases U;have hmm:=K.many;unfold ec_ at hmm;have low':=V.low;have l3:=I.length_le;refine sD_ V.at_ K.good.sto o_ λH5 D k5 l5 s5 F ho=>?_;have p5:H<+:H5:=j2_ (by have:=(I.trans V.pre).length_le;omega) λl N=>by
  rw[k5 l (by have:=(I.trans V.pre).length_le;omega) o_ o_,a9_ (I.trans V.pre) N]
 exact t.turn st D e z F H5 sp' ms' ml' mi' _ _ _ p5 o_ s5 λH6 A p6 s6 r6=>J H6 _ _ _ _ _ _ _ p6 s6 F r6 ((t.ok st D A e z F r6).2.2 ho);exact J H3 _ _ _ _ _ _ _ I s3 (hp_.refl K.good.sto) r3 (i_ z6)
end
def ze_(h:∀l∈st.links,∃x∈st.snaps,x.2.id=l.1.1):eo_ st=none:=by
 unfold eo_;grind
def BC_ (h:Sto a):a.inos.length<=a.links.length:=by
 have:=(d8_ (a.links.map (·.2.1)) (a.inos.map (·.1)) h.nd.inos λk A=>by
  obtain⟨x,F,rfl⟩:=lA.1 A;have⟨l,D,e⟩:=G9_ h F;exact lA.2 ⟨l,D,e⟩).1
 grind
def HG_(g:hp_ st a):a.snaps.length=st.snaps.length/\a.links.length<=st.links.length/\a.inos.length<=a.links.length:=
 ⟨by rw[g.snaps],(d8_ st.links a.links (hh_ g.sto.nd.links) g.sub).1,BC_ g.sto⟩
structure sb_(st st':StD)(d:Int)(path:Y_)(nw:List FileR):Prop where
 sto:Sto st'
 snaps:st'.snaps=st.snaps
 other:∀j,j≠d->∀fs,cl_ st' j fs↔cl_ st j fs
 own:∀fs fs',cl_ st d fs->cl_ st' d fs'->∀f,f∈fs'↔f∈nw\/(f∈fs/\f.1≠path)
def Bk_.ft(w:Bk_ st st' d path content):sb_ st st' d path [(path,content,true)]:=
 ⟨w.sto,w.snaps,w.other,λF A h D f=>by rw[w.own F A h D,mem_singleton]⟩
def EV_ (h:Sto st) (hf:hn_ st d path=some i):sb_ st (gq_ st i) d path []:=by
 have⟨A,V⟩:=ft_ hf;have Y:(gq_ st i).snaps=st.snaps:=by have⟨y,_,e⟩:=eS_ h A;rw[e]
 have key:∀l∈st.links,l.1=(d,path)->l=st.links[i]:=λl hl q=>by
  obtain⟨j,N,rfl⟩:=kK hl;have nd:=h.nd.links;have:=Nat.le_antisymm (Nat.le_of_not_lt λc=>absurd (kS.1 nd i j g_ g_ c) g_) (Nat.le_of_not_lt λc=>absurd (kS.1 nd j i g_ g_ c) g_);grind
 refine⟨lL_ h A,Y,λj N Z=>?_,λZ U I W f=>?_⟩;have m:∀f,(∃l∈(gq_ st i).links,l.1.1=j/\f=bs_ (gq_ st i) l)↔∃l∈st.links,l.1.1=j/\f=bs_ st l:=λf=>
  ⟨fun⟨l,a,b,c⟩=>⟨l,((gJ_ h A l).1 a).1,b,by rw[c,it_ h A a]⟩,fun⟨l,a,b,c⟩=>by
   have z:=(gJ_ h A l).2 ⟨a,λe=>N g_⟩;exact⟨l,z,b,by rw[c,it_ h A z]⟩⟩
 exact⟨λg=>⟨g.asc,λf=>(g.mem f).trans (m f)⟩,λg=>⟨g.asc,λf=>(g.mem f).trans (m f).symm⟩⟩;rw[W.mem];constructor;rintro⟨l,a,b,c⟩;have⟨D,F⟩:=(gJ_ h A l).1 a;exact .inr ⟨(I.mem f).2 ⟨l,D,b,by rw[c,it_ h A a]⟩,λe=>F (key l D (Prod.ext b (by rw[<-e,c];rfl)))⟩;rintro (q|⟨a,b⟩);cases q;have⟨l,D,F,J⟩:=(I.mem f).1 a;have z:=(gJ_ h A l).2 ⟨D,λe=>b (by rw[J,e];show st.links[i].1.2=path;rw[V])⟩;exact⟨l,z,F,by rw[J,it_ h A z]⟩
def sb_.good_less(w:sb_ st st' d path [])(g:ee_ st)(J:cI_ st is):ee_ st':=by
 refine vC_ w.sto (by rw[w.snaps];exact g.ids) (by rw[w.snaps];exact g.few) (λy I F D=>?_) (by rw[w.snaps];exact g.hdr J);rw[w.snaps]at I;by_cases e:y.2.id=d;have⟨O,N⟩:=rS_ g.sto y.2.id;have o:=(eU_ N.asc).1 (g.info y I O N);subst e;have m:=w.own O F N D;exact (eU_ D.asc).2 ⟨o.1,o.2.1,o.2.2.1,λf A=>o.2.2.2.1 f (((m f).1 A).resolve_left t_).1,Nat.le_trans (d8_ O F D.nodup λf A=>(((m f).1 A).resolve_left t_).1).1 o.2.2.2.2⟩;exact g.info y I F ((w.other _ e F).1 D)
theorem sb_.infos (w:sb_ st st' y.id path nw) (g:ee_ st) (h:cI_ st is) (Z:look st.snaps name=some y) (hK:K<is.length) (W:is[K].name=name) (fa:hO_ A) (fm:∀f,f∈A↔f∈nw\/(f∈is[K].files/\f.1≠path)):
 cI_ st' (is.set K ⟨is[K].name,is[K].kind,is[K].parent,is[K].label,A⟩):=by
 have U:(is.set K ⟨is[K].name,is[K].kind,is[K].parent,is[K].label,A⟩).map (·.name)=is.map (·.name):=by
  rw[List.map_set];exact lO_ g_
 refine⟨by rw[U,w.snaps];exact h.perm,by rw[U];exact h.asc,λi Y=>?_⟩;obtain⟨j,V,rfl⟩:=kK Y;rw[length_set]at V;rw[getElem_set];by_cases e:K=j;subst e;rw[if_pos rfl];have⟨x,D,F,I,N,J⟩:=(h.info _ (kE hK)).mem;have:x=y:=g_
 subst this;have⟨gs,O⟩:=rS_ w.sto x.id;refine⟨x,by rw[w.snaps];exact D,F,I,N,fa,λf=>?_⟩;rw[fm,<-w.own _ gs J O,O.mem];rw[if_neg e];have⟨x,D,F,I,N,J⟩:=(h.info _ (kE V)).mem;refine⟨x,by rw[w.snaps];exact D,F,I,N,(w.other x.id (λq=>?_) _).2 J⟩;have z:=GB_ g.ids (cU_ D) (cU_ Z) q;have z:is[j].name=name:=congrArg Prod.fst z;have asc:=kS.1 h.asc;rcases Nat.lt_or_gt_of_ne e with c|c;have:=asc K j g_ g_ c;simp at this;rw[W,z,b0_]at this;cases this;have:=asc j K g_ g_ c;simp at this;rw[W,z,b0_]at this;cases this
def o5_(h:cI_ st is)(D:cK_ is s=some i):∃y,look st.snaps s=some y/\i.kind=y.kind/\i.parent=y.parent/\i.label=y.label/\cl_ st y.id i.files:=by
 have⟨A,F⟩:=gj_ D;have⟨y,I⟩:=(h.info i A).mem;grind
def Km_(H:Hp)(a b c:Obj):(H++[a]++[b]++[c])[H.length]?=some a/\(H++[a]++[b]++[c])[H.length+1]?=some b/\(H++[a]++[b]++[c])[H.length+1+1]?=some c:=⟨t_,t_,by rw[getElem?_append_right t_];simp⟩
def Kl_(H:Hp)(a b:Obj):(H++[a]++[b])[H.length]?=some a/\(H++[a]++[b])[H.length+1]?=some b:=t_
def DH_(h:db_ is s path=0):h4_ is s path=0/\∀i,cK_ is s=some i->(i.files.any λf=>decide (f.1=path))=true:=by
 unfold db_ at h;grind
def xM_(h:ee_ st)(I:cl_ st d fs)(J:(fs.any λf=>decide (f.1=path))=true):∃i,hn_ st d path=some i:=by
 have⟨f,D,A⟩:=any_eq_true.1 J;have⟨l,F,N,O⟩:=(I.mem f).1 D;cases h:hn_ st d path with
 |some i=>exact⟨i,rfl⟩
 |none=>exact absurd (Prod.ext N (by rw[O]at A;exact of_decide_eq_true A)) (p3_ h l F)
def vD_(K:w7_ T st)(g:hp_ st a):a.snaps.length<=60/\a.links.length<=60/\a.inos.length<=60:=by
 have:=K.many;unfold ec_ at this;have:=HG_ g;omega
def sb_.many(w:sb_ st st' d path nw)(A:st'.links.length<=st.links.length+1):ec_ st'<=st.snaps.length+2*(st.links.length+1):=by
 have:=BC_ w.sto;unfold ec_;rw[w.snaps];omega
def AS_(h:Sto st):(f8_ st d path content).links.length<=st.links.length+1:=by
 unfold f8_;split;rename_i i A;have⟨y,_,e⟩:=eS_ h (ft_ A).1;simp[jE_];grind;simp[jE_]
def yN_(h:Sto st)(N:eo_ st=none)(J:(∃s,(s,y)∈st.snaps)):eo_ (f8_ st y.id path content)=none:=by
 have own:=lY_ N;have⟨s,F⟩:=J;refine ze_ λl A=>?_;unfold f8_ at A ⊢;split at A;rename_i i I;have⟨D,_⟩:=ft_ I;have e:(gq_ st i).snaps=st.snaps:=by have⟨y,_,e⟩:=eS_ h D;rw[e]
 rcases kD.1 A with q|q;simp only[jE_,e];exact own l ((gJ_ h D l).1 q).1;rw[mem_singleton.1 q];simp only[jE_,e];exact⟨_,F,rfl⟩;rcases kD.1 A with q|q;exact own l q;rw[mem_singleton.1 q];exact⟨_,F,rfl⟩
section
variable{H:Hp}{Q:Post}{x:Pl}{n:Nat}{cs:List PC}{T:List Pg}{name path content:Y_}{P:Nat->Prop}
def sy_(hT:TrP P H x n cs T)(hP:∀l,P l->l<H.length)(N:name.size<=140737488351232)(W:path.size<=140737488351232)
 (h0:ofD T=none->NoT Q H 2000)
 (h1:∀st,ofD T=some st->cG_ (aA_ st) name path content≠0->NoT Q H (cG_ (aA_ st) name path content))
 (h2:∀st A y,ofD T=some st->cG_ (aA_ st) name path content=0->hp_ st A->look st.snaps name=some y->OkX Q P H (eZ_ (f8_ A y.id path content))):
 ds_ [yA x n,gS name,gS path,gS content] H Q:=by
 refine⟨1,?_⟩;rw[xx_];simp only[fv_,ed_,kI];have p:H<+:H++[Obj.row true 9 [.str name]]++[.row true 9 [.str path]]++[.row true 9 [.str content]]:=t_
 obtain⟨q1,q2,q3⟩:=Km_ H (.row true 9 [.str name]) (.row true 9 [.str path]) (.row true 9 [.str content]);refine mQ_ (err:=λst=>cG_ (aA_ st) name path content) (R:=λA I=>∃y,look A.snaps name=some y/\I=f8_ A y.id path content) (hT.mono p) (λl O=>Nat.lt_of_lt_of_le (hP l O) p.length_le) ⟨λst e H' b a K D V Y=>?_,λst A e J g H' sp ms ml mi c0 c4 K D low s Y=>?_,λst A I e J g Z=>?_⟩ (λe H' D=>?_) (λst e J H' D=>?_) λst A I e J g Z H' x' D t=>?_
 .refine⟨1,?_⟩;show ar_ _ _ _ [nL a (aA_ st).length 5,yQ H.length,gP (some (H.length+1,0)),gP (some (H.length+1+1,0))] _ _;rw[tb_,ac_ (cn_ D (by rw[aY_ q1];rfl)),aq_,ac_ (cn_ D (by rw[aY_ q2];rfl)),aq_,ac_ (cn_ D (by rw[aY_ q3];rfl)),aq_];refine r0_ V (ey_ e).fr N W λU a' n' p2=>?_;simp[aH_,aD_,bD_,ah_,ai_];exact Y U p2
 .refine⟨1,?_⟩;show ar_ _ _ _ [yQ sp,yQ H.length,gP (some (H.length+1,0)),gP (some (H.length+1+1,0))] _ _;rw[sY_,ac_ (cn_ D (by rw[aY_ q1];rfl)),aq_,ac_ (cn_ D (by rw[aY_ q2];rfl)),aq_,ac_ (cn_ D (by rw[aY_ q3];rfl)),aq_];have k:=ey_ e;obtain⟨_,_,_,i,V,_⟩:=tr_ J;obtain⟨y,F,_⟩:=o5_ (g.infos.2 k.infos) V;have:=vD_ k g;have lp:=D.length_le;refine sE_ s g.sto o_ F λU k2 l2 s2=>Y U _ (j2_ o_ λl O=>?_) s2 ⟨y,F,rfl⟩;rw[k2 l o_ o_ o_,a9_ D O]
 .obtain⟨y,F,rfl⟩:=Z;have k:=ey_ e;have b:=vD_ k g;have w:=(pX_ (g.good k.good) (g.infos.2 k.infos) o_ J F);have m:=w.2.ft.many (AS_ g.sto);refine⟨w.2.sto,o_,λho=>?_⟩;have:=tm_ w.1 (yN_ g.sto ho ⟨_,cU_ F⟩);omega
 .simp[aH_,aD_,eN_,bc_,bD_,ah_,ai_];exact h0 e H' (p.trans D)
 .simp[aH_,aD_,eN_,bc_,bD_,ah_,ai_,bI_,a8_];exact h1 st e J H' (p.trans D)
 .simp[aH_,aD_,eN_,bc_,bD_,ah_,ai_];obtain⟨y,F,rfl⟩:=Z;exact h2 st A y e J g (by rw[<-g.snaps];exact F) H' x' (p.trans D) t
def r9_ (hT:TrP P H x n cs T) (hP:∀l,P l->l<H.length) (Y:name.size<=140737488351232) (W:path.size<=140737488351232)
 (h0:ofD T=none->NoT Q H 2000)
 (h1:∀st,ofD T=some st->db_ (aA_ st) name path≠0->NoT Q H (db_ (aA_ st) name path))
 (h2:∀st A y i,ofD T=some st->db_ (aA_ st) name path=0->hp_ st A->look st.snaps name=some y->hn_ A y.id path=some i->OkX Q P H (eZ_ (gq_ A i))):
 dh_ [yA x n,gS name,gS path] H Q:=by
 refine⟨1,?_⟩;rw[vw_];simp only[fv_,ed_,kI];have p:H<+:H++[Obj.row true 9 [.str name]]++[.row true 9 [.str path]]:=t_
 have⟨q1,q2⟩:=Kl_ H (.row true 9 [.str name]) (.row true 9 [.str path]);refine mQ_ (err:=λst=>db_ (aA_ st) name path) (R:=λA I=>∃y i,look A.snaps name=some y/\hn_ A y.id path=some i/\I=gq_ A i) (hT.mono p) (λl J=>Nat.lt_of_lt_of_le (hP l J) p.length_le) ⟨λst e H' b a K D F U=>?_,λst A e N g H' sp ms ml mi c0 c4 K D low s U=>?_,λst A I e N g V=>?_⟩ (λe H' D=>?_) (λst e N H' D=>?_) λst A I e N g V H' x' D t=>?_;refine⟨1,?_⟩;show ar_ _ _ _ [nL a (aA_ st).length 5,yQ H.length,gP (some (H.length+1,0))] _ _;rw[rd_,ac_ (cn_ D (by rw[aY_ q1];rfl)),aq_,ac_ (cn_ D (by rw[aY_ q2];rfl)),aq_];refine qQ_ F (ey_ e).fr Y W λZ a' n' p2=>?_;simp[aH_];exact U Z p2;refine⟨1,?_⟩;show ar_ _ _ _ [yQ sp,yQ H.length,gP (some (H.length+1,0))] _ _;rw[rk_,ac_ (cn_ D (by rw[aY_ q1];rfl)),aq_,ac_ (cn_ D (by rw[aY_ q2];rfl)),aq_];have k:=ey_ e;have⟨f0,hfa⟩:=DH_ N;have⟨i,F⟩:∃i,cK_ (aA_ st) name=some i:=by
  have:=(Be_ f0).2.1;unfold c9_ at this;cases h:cK_ (aA_ st) name with
  |some i=>exact⟨i,rfl⟩
  |none=>rw[h]at this;cases this
 have⟨y,O,_,_,_,hfo⟩:=o5_ (g.infos.2 k.infos) F;have⟨j,hj⟩:=xM_ (g.good k.good) hfo (hfa i F);have lp:=D.length_le;refine q5_ s g.sto O hj λZ k2 l2 s2=>U Z _ (j2_ o_ λl J=>?_) s2 ⟨y,j,O,hj,rfl⟩;rw[k2 l o_ o_ o_,a9_ D J];obtain⟨y,i,O,F,rfl⟩:=V;have k:=ey_ e;have b:=vD_ k g;have w:=EV_ g.sto F;have⟨z,_,ed⟩:=eS_ g.sto (ft_ F).1;have J:(gq_ A i).links.length<=A.links.length:=by
  rw[ed];simp[length_eraseIdx];split<;>omega
 have m:=w.many o_;refine⟨w.sto,o_,λho=>?_⟩;have:=tm_ (w.good_less (g.good k.good) (g.infos.2 k.infos)) (ze_ λl J=>by
  rw[w.snaps];exact lY_ ho l ((gJ_ g.sto (ft_ F).1 l).1 J).1)
 omega;simp[aH_];exact h0 e H' (p.trans D);simp[aH_];exact h1 st e N H' (p.trans D);simp[aH_];obtain⟨y,i,O,F,rfl⟩:=V;exact h2 st A y i e N g (by rw[<-g.snaps];exact O) F H' x' (p.trans D) t
end
def pK_ (T:List Pg) (name path:Y_):Y_ × Int:=match ofD T with
 |none=>(mkS [],2000)
 | some st=>match aZ_ name 4 with
  |false=>(mkS [],1901)
  | true=>match cK_ (aA_ st) name with
   |none=>(mkS [],1903)
   | some i=>match aZ_ path 3 with
    |false=>(mkS [],1907)
    |true=>match i.files.find? λf=>decide (f.1=path) with
     |none=>(mkS [],1908)
     |some f=>(f.2.1,0)
theorem yZ_ (h:hO_ fs) (I:f∈fs) (e:f.1=path):(fs.find? λf=>decide (f.1=path))=some f:=by
 cases q:fs.find? λf=>decide (f.1=path) with
 |none=>exact absurd (lE e) g_
 |some g=>
  have A:g.1=path:=g_
  obtain⟨i,D,rfl⟩:=kK I;obtain⟨j,F,rfl⟩:=kK (mem_of_find?_eq_some q);have asc:=kS.1 h;have:=Nat.le_antisymm (Nat.le_of_not_lt λc=>by have:=asc i j D F c;rw[e,A,b0_]at this;cases this) (Nat.le_of_not_lt λc=>by have:=asc j i F D c;rw[e,A,b0_]at this;cases this);grind
theorem EX_{fs:List FileR}(h:(fs.any λf:FileR=>decide (f.1=path))=false):(fs.find? λf=>decide (f.1=path))=none:=
 find?_eq_none.2 λf A=>g_
theorem zb_ (h:cI_ st is) (A:cK_ is s=none):look st.snaps s=none:=by
 cases q:look st.snaps s with
 |none=>rfl
 |some x=>
  have⟨i,D,e⟩:=lA.1 (h.perm.mem_iff.2 (lA.2 ⟨_,cU_ q,rfl⟩));exact absurd (lE e) (find?_eq_none.1 A i D)
section
variable{H:Hp}{Q:Post}{x:Pl}{n:Nat}{cs:List PC}{T:List Pg}{E:Nat->Sm}{name path:Y_}
def tw_(D:Tr H x n cs T)
 (J:ofD T=none->∀H',H<+:H'->Q (.tup [yR none 0 5,nN 2000]) H')
 (A:∀st,ofD T=some st->∀H' b a,H<+:H'->H.length<=b->bT_ H' b a (aA_ st)->Q (.tup [yR a (aA_ st).length 5,nN 0]) H'):
 gx_ E [yA x n] H Q:=by
 refine⟨1,?_⟩;rw[wz_];refine k8_ D (λe H' p I=>a_) λst e H' O V U N b a o=>?_;simp only[aH_,aD_,bD_,gc_,ak_];have⟨_,_,_,_,F⟩:=o.at_.rd;rw[bN1,ad_,kN,ac_ F,ah_];exact A st e H' b a o.pre o.low.2.2.2.2 o.infos
def hq_ (hT:Tr H x n cs T) (hs1:name.size<=140737488351232) (hs2:path.size<=140737488351232) (hQ:∀H',H<+:H'->Q (.tup [.s (.str (pK_ T name path).1),nN (pK_ T name path).2]) H'):
 e4_ E [yA x n,gS name,gS path] H Q:=by
 refine⟨1,?_⟩;rw[yU_];refine⟨1,?_⟩;rw[yk_];unfold pK_ at hQ;refine tw_ hT (λe H' p=>?_) λst e H1 b a p1 _ i1=>?_
 .simp only[aH_,aD_,eN_,bc_,bD_,aq_,ah_,ai_,bI_,a8_];rw[ay_ d_,ay_ d_];simp only[e]at hQ;exact hQ H' p
 simp only[aH_,aD_,eN_,bc_,bD_,aq_,ah_,ai_,bI_,a8_];simp only[e]at hQ;have k:=(ey_ e).fr;rw[aB_ d_];refine fe_ hs1 ?_;simp only[aJ_,ak_];cases hw:aZ_ name 4 with
 |false=>
  rw[bN0,ay_ d_];simp only[hw]at hQ;exact hQ H1 p1
 | true=>
  simp only[hw]at hQ;rw[bN1];refine j6_ i1.rd k.asc (h_ k.few) ?_;simp only[aH_,aD_,bD_,ak_,ai_,a8_];cases q:(aA_ st).any λy=>decide (y.name=name) with
  |false=>
   rw[bN0,ay_ d_];simp only[jQ_ k.asc q]at hQ;exact hQ H1 p1
  | true=>
   obtain⟨hp,hfi⟩:=no_ k.asc q;generalize dP_ (aA_ st) name=K at hp hfi ⊢;simp only[hfi]at hQ;obtain⟨la,pf,e1,hb,r1,r2,r3,r4,r5,r6,_⟩:=i1.src _ hp;subst e1;obtain⟨h4,hfa⟩:=k.f4 _ (kE hp);rw[bN1,af_];refine ab_ s_ ?_;rw[ad_,show tN (K:Int)=K from rfl,kN,ac_ r1,aq_,ac_ r2,ai_,ac_ r3,aq_,ac_ r4,aq_,ac_ r5,ah_,aB_ d_];refine gg_ hs2 ?_;simp only[aJ_,ak_];cases hw2:aZ_ path 3 with
   |false=>
    rw[bN0];simp only[hw2]at hQ;exact hQ H1 p1
   | true=>
    simp only[hw2]at hQ;rw[bN1];refine gd_ r6 hfa o_ ?_;simp only[aH_,aD_,bD_,ak_,ai_,a8_];cases q2:(aA_ st)[K].files.any λf=>decide (f.1=path) with
    |false=>
     rw[bN0];simp only[EX_ q2]at hQ;exact hQ H1 p1
    |true=>
     obtain⟨hpf,ef⟩:=Ak_ hfa q2;simp only[yZ_ hfa (kE hpf) ef]at hQ;obtain⟨l,o,e1,_,g2,_⟩:=r6.rd _ hpf;subst e1;rw[bN1,af_];refine ab_ s_ ?_;rw[ad_,show tN (gk_ (aA_ st)[K].files path:Int)=gk_ (aA_ st)[K].files path from rfl,ac_ g2,aq_];exact hQ H1 p1
theorem vV_(st:StD)(id:Int)(path:Y_):kS_ st id path=match hn_ st id path with|some i=>(i:Int)|none=> -1:=rfl
def vc_ (hT:Tr H x n cs T) (hs1:name.size<=140737488351232) (hs2:path.size<=140737488351232) (hQ:∀H',H<+:H'->Q (.tup [.s (.str (pK_ T name path).1),nN (pK_ T name path).2]) H'):
 hz_ [yA x n,gS name,gS path] H Q:=by
 refine⟨1,?_⟩;rw[yH_];unfold pK_ at hQ;refine hi_ hT (λe H' p hp=>?_) λst e B H1 sp a1 n1 a2 n2 a3 n3 pB r=>?_
 .simp only[aH_,aD_,bD_,gc_,ak_,a8_];simp only[e]at hQ;rw[bN0];exact hQ H' hp
 simp only[aH_,aD_,bD_,gc_,ak_,a8_];simp only[e]at hQ;have k:=ey_ e;have mm:=k.many;unfold ec_ at mm;have p1:=pB.trans r.pre;rw[bN1];refine b5_ hs1 ?_;simp only[aJ_,ak_];cases hw:aZ_ name 4 with
 |false=>
  simp only[hw]at hQ;rw[bN0];exact hQ H1 p1
 | true=>
  simp only[hw]at hQ;rw[bN1];refine fS_ r o_ (λm hm em hmin=>?_) λhno=>?_
  ·simp only[aJ_,ai_];rw[aB_ t_];have hlk:look st.snaps name=some st.snaps[m].2:=by rw[<-em];exact g3_ k.good.sto.nd.snaps (kE hm)
   obtain⟨i,hi⟩:∃i,cK_ (aA_ st) name=some i:=by
    cases q:cK_ (aA_ st) name with
    |some i=>exact⟨i,rfl⟩
    |none=>rw[zb_ k.infos q]at hlk;cases hlk
   obtain⟨y,hy,_,_,_,hfo⟩:=o5_ k.infos hi;rw[hlk]at hy;cases hy;simp only[hi]at hQ;refine d1_ hs2 ?_;simp only[aJ_,ak_];cases hw2:aZ_ path 3 with
   |false=>
    simp only[hw2]at hQ;rw[bN0];exact hQ H1 p1
   | true=>
    simp only[hw2]at hQ;rw[bN1];refine ib_ r o_ hlk ?_;simp only[aJ_,ai_];rw[vV_];cases hf:hn_ st st.snaps[m].2.id path with
    | none=>
     rw[ay_ d_];have:(i.files.any λf=>decide (f.1=path))=false:=by
      cases q:i.files.any λf=>decide (f.1=path) with
      |false=>rfl
      |true=>obtain⟨j,hj⟩:=xM_ k.good hfo q;rw[hf]at hj;cases hj
     simp only[EX_ this]at hQ;exact hQ H1 p1
    |some j=>
     rw[aB_ t_];obtain⟨hj,ek⟩:=ft_ hf;obtain⟨g1,g2,g3⟩:=r.rd;have l2:=r.l2;have l3:=r.l3;obtain⟨y,hy,hm2,_⟩:=k.good.sto.ino (kE hj);obtain⟨c,hc,ec,exy⟩:=oV_ hy;simp only[ad_];rw[ac_ g3,ah_,ac_ g2,ah_];refine ib_ r o_ hlk ?_;simp only[aJ_,ai_];rw[vV_,hf];simp only;rw[ac_ g2,ah_];refine⟨rfl,?_⟩;rw[ac_ g3,ah_];refine⟨rfl,?_⟩;rw[af_];refine ab_ s_ ?_;obtain⟨lr,e1,_,_,_,_,g5⟩:=r.linkG j hj;subst e1;rw[ad_,show tN (j:Int)=j from rfl,kN,ac_ g5,ai_];refine eO_ r o_ ?_;simp only[aJ_,ai_];rw[ec,ac_ g3,ah_];refine⟨rfl,?_⟩;rw[af_];refine ab_ s_ ?_;obtain⟨lr,e1,_,_,g6⟩:=r.inoG c hc;subst e1;rw[ad_,show tN (c:Int)=c from rfl,kN,ac_ g6,aq_];have ef:bs_ st st.links[j]=(path,y.content,st.links[j].2.2):=by unfold bs_;rw[hy,ek]
     have hmf:bs_ st st.links[j]∈i.files:=(hfo.mem _).2 ⟨_,kE hj,by rw[ek],rfl⟩;rw[yZ_ hfo.asc hmf (by rw[ef]),ef]at hQ;rw[exy];exact hQ H1 p1
  ·simp only[aJ_,ai_];rw[ay_ d_];have:cK_ (aA_ st) name=none:=by
    cases q:cK_ (aA_ st) name with
    |none=>rfl
    |some i=>
     obtain⟨y,hy,_⟩:=o5_ k.infos q;obtain⟨m,hm,e⟩:=kK (cU_ hy);exact absurd (congrArg Prod.fst e) (hno m hm)
   simp only[this]at hQ;exact hQ H1 p1
end
section
variable{H:Hp}{Q:Post}{x:Pl}{n:Nat}{cs:List PC}{T:List Pg}{name path content:Y_}{P:Nat->Prop}
def zj_ (k:w7_ T st) (g:hp_ st st1) (w:sb_ st1 st2 y.id path nw) (W:ee_ st2) (D:look st.snaps name=some y) (U:FTo path nw G) (t:TrX H x n (eZ_ st2) P):
 ∃cs T' A,TrP P H x n cs T'/\ofD T'=some A/\aA_ A=g9_ (aA_ st) name G:=by
 have⟨cs,T',J,e3,ht⟩:=t.ex;have e:ofD T'=eH_ (eZ_ st2):=by unfold ofD;rw[lE J,z5_ J,e3]
 have⟨r,hr,sm,Z,_⟩:=FV_ W;have⟨i,N⟩:∃i,cK_ (aA_ st) name=some i:=by
  cases q:cK_ (aA_ st) name with
  |some i=>exact⟨i,rfl⟩
  |none=>rw[zb_ k.infos q]at D;cases D
 obtain⟨F,Y⟩:=no_ k.asc (any_eq_true.2 ⟨i,(gj_ N).1,by simpa using (gj_ N).2⟩);have I:=(gj_ Y).2;have⟨z,_,_,_,_,hf⟩:=(k.infos.info _ (kE F)).mem;have⟨O,V⟩:=U _ hf.asc;exact⟨cs,T',r,ht,e.trans hr,by rw[wD_ k.asc F I];exact Z.unique (w.infos (g.good k.good) (g.infos.2 k.infos) (by rw[g.snaps];exact D) F I O V)⟩
def la_(V:TrP P H x n cs T)(N:∀l,P l->l<H.length)(D:name.size<=140737488351232)(F:path.size<=140737488351232)
 (J:ofD T=none->NoT Q H 2000)
 (W:∀st,ofD T=some st->cG_ (aA_ st) name path content≠0->NoT Q H (cG_ (aA_ st) name path content))
 (Z:∀st,ofD T=some st->cG_ (aA_ st) name path content=0->OkT Q P H (g9_ (aA_ st) name (mr_ path content))):
 ds_ [yA x n,gS name,gS path,gS content] H Q:=by
 refine sy_ V N D F J W λst O y e U g I H' x' p t=>?_;have k:=ey_ e;have b:=vD_ k g;have w:=pX_ (g.good k.good) (g.infos.2 k.infos) o_ U (by rw[g.snaps];exact I);have⟨cs',T',A,q1,Y,q3⟩:=zj_ k g w.2.ft w.1 I ED_ t;exact Z st e U H' x' cs' T' A p q1 Y q3
def nY_(U:TrP P H x n cs T)(N:∀l,P l->l<H.length)(D:name.size<=140737488351232)(F:path.size<=140737488351232)
 (I:ofD T=none->NoT Q H 2000)
 (W:∀st,ofD T=some st->db_ (aA_ st) name path≠0->NoT Q H (db_ (aA_ st) name path))
 (Z:∀st,ofD T=some st->db_ (aA_ st) name path=0->OkT Q P H (g9_ (aA_ st) name (sG_ path))):
 dh_ [yA x n,gS name,gS path] H Q:=by
 refine r9_ U N D F I W λst O y i e e0 g J V H' x' p t=>?_;have k:=ey_ e;have w:=EV_ g.sto V;have⟨cs',T',A,q1,Y,q3⟩:=zj_ k g w (w.good_less (g.good k.good) (g.infos.2 k.infos)) J HV_ t;exact Z st e e0 H' x' cs' T' A p q1 Y q3
def uX_(I:TrP P H x n cs T)(N:∀l,P l->l<H.length)(o:ofD T=some st)(e:cG_ (aA_ st) name path content=0)(F:name.size<=140737488351232)(D:path.size<=140737488351232)
 (J:OkT Q P H (g9_ (aA_ st) name (mr_ path content))):
 ds_ [yA x n,gS name,gS path,gS content] H Q:=
 la_ I N F D (λq=>g_) (λA q r=>by rw[o]at q;cases q;exact absurd e r) λA q _=>by rw[o]at q;cases q;exact J
def tS_(I:TrP P H x n cs T)(N:∀l,P l->l<H.length)(o:ofD T=some st)(e:db_ (aA_ st) name path=0)(F:name.size<=140737488351232)(D:path.size<=140737488351232)
 (J:OkT Q P H (g9_ (aA_ st) name (sG_ path))):
 dh_ [yA x n,gS name,gS path] H Q:=
 nY_ I N F D (λq=>g_) (λA q r=>by rw[o]at q;cases q;exact absurd e r) λA q _=>by rw[o]at q;cases q;exact J
def noP:∀l:Nat,False->l<n:=λ_=>False.elim
def jg_(A:Tr H x n cs T)(o:ofD T=some st)(e:aA_ st=is)(D:∀H' b a,H<+:H'->bT_ H' b a is->Q (.tup [yR a is.length 5,nN 0]) H'):dz_ [yA x n] H Q:=
 lJ_ A (λq=>g_) λF q=>by rw[o]at q;cases q;rw[e];exact λH' b a p _=>D H' b a p
end
section
variable{H:Hp}{Q:Post}{x:Pl}{n:Nat}{cs:List PC}{T:List Pg}{E:Nat->Sm}
end
theorem map_set{α β:Type}[DecidableEq α]{ps:List (α × β)}(r:(ps.map (·.1)).Nodup){k:α}{g:α × β->α × β}(D:m<ps.length)(h:ps[m].1=k):(ps.map λx=>if x.1=k then g x else x)=ps.set m (g ps[m]):=by
 apply ext_getElem t_;intro j A I;rw[getElem_map,getElem_set];have G:j<ps.length:=g_
 by_cases e:m=j
 .grind
 .rw[if_neg e,if_neg];intro q;apply e;exact (getElem_inj (h₀:=g_) (h₁:=by simpa) r).1 g_
section
variable{B H:Hp}{Q:Post}{sp n1 n2 n3:Nat}{a1 a2 a3:Pl}{st:StD}
def dd_.updS(h:dd_ B H sp (some (A,0)) n1 a2 n2 a3 n3 st)(V:m<st.snaps.length)(Y:j<5)(N:(Bb_ st.snaps[m]).set j v=Bb_ x')
 (W:∀D,D.length=H.length->dd_ B D sp (some (A,0)) n1 a2 n2 a3 n3 { st with snaps:=st.snaps.set m x' }->K D):wr H A (m*5+j) v K:=by
 have⟨t,Z⟩:=h.row;have O:=h.l1;rcases h.snaps with⟨q,_⟩|⟨l,e,J,r,U⟩
 .cases q
 .cases e;refine ce_ r o_ ?_;have I:=ja_ (m:=5) (λ_=>rfl) Y st.snaps m V N;have F:=(kC.1 r).1;rw[I];refine W _ t_ ⟨⟨t,g_⟩,dI_ h.pre J _,h.base,.inr ⟨A,rfl,J,by rw[kH F],by rw[<-I];simp[U]⟩,h.links.set (λe=>h.d12 A rfl e) _,h.inos.set (λe=>h.d13 A rfl e) _,u_ h.l1,h.l2,h.l3,h.d12,h.d13,h.d23,h.s1,h.s2,h.s3⟩
end
section
variable{H:Hp}{Q:Post}{x:Pl}{n:Nat}{cs:List PC}{T:List Pg}
def sn_ {A F:Y_} (hT:Tr H x n cs T) (Z:A.size<=140737488351232) (Y:F.size<=140737488351232)
 (h0:ofD T=none->∀H',H<+:H'->Q (.tup [yB none 0,nN 2000]) H')
 (h1:∀st e,ofD T=some st->fo_ (aA_ st) A F=e->e≠0->∀H',H<+:H'->Q (.tup [yB none 0,nN e]) H')
 (h2:∀st,ofD T=some st->fo_ (aA_ st) A F=0->∀H' x',H<+:H'->TrK H' x' 48 (eZ_ (iT_ (e8_ st A F)))->Q (.tup [yB x' 48,nN 0]) H'):
 fl_ [yA x n,gS A,gS F] H Q:=by
 refine⟨2,?_⟩;rw[uJ_];have I:∀k:Nat,tN (k:Int)=k:=λ_=>rfl;refine hi_ hT (λe H' p hp=>?_) λst e B H' sp a1 n1 a2 n2 a3 n3 hB hR=>?_
 .simp only[aH_,aD_,bD_,gc_,ak_,a8_];exact aa_ (λ_=>h0 e H' hp) (c_)
 ·simp only[aH_,aD_,bD_,gc_,ak_,a8_];refine aa_ (c_) λ_=>?_;have K:=ey_ e;have hm:=K.many;unfold ec_ at hm;have⟨_,hd,hok⟩:=jZ_ e;refine fK_ hR ⟨o_,o_,o_⟩ (rY_ hok) λG a pG ha=>?_;simp only[aJ_,ah_];refine rR_ ha K.asc K.from_ K.size.1 K.size.2 Z Y λG1 b1 m1 pG1=>?_;simp only[aH_,aD_,bD_,ah_,ai_,a8_];have D:=hR.mono (pG.trans pG1);refine aa_ (λq=>?_) (λq=>?_)
  .exact h1 st _ e rfl (u_ q) G1 (hB.trans D.pre)
  have hw:fo_ (aA_ st) A F=0:=u_ q
  obtain⟨w1,w2,⟨i,hi,O⟩,hto⟩:=xq_ hw;have⟨him,J⟩:=gj_ hi;obtain⟨z,hz,ez,hfz⟩:=K.infos.get him;have hz1:z.1=A:=by rw[ez]at J;exact J
  have gd:=Ba_ K.good K.infos hw;refine fS_ D o_ (λk O ek hmin=>?_) λq=>?_
  ·simp only[aJ_,ai_,ad_];obtain⟨W,g2,g3⟩:=D.rd;rw[ac_ W,ah_];have hl1:=D.l1;refine ab_ rfl (ab_ (by simp<;>omega) ?_);obtain⟨l,e1,r1,r2,r3,r4,r5⟩:=D.snapG k O;subst e1;simp only[ad_,I,kN];refine D.updS O o_ (x':=(F,st.snaps[k].2)) rfl λG2 hG2 V=>?_;obtain⟨W,g2,g3⟩:=V.rd;rw[kQ]at W;rw[ac_ W,ah_];refine ab_ rfl (ab_ (by simp<;>omega) ?_);simp only[ad_,I,kN];have U:k<(st.snaps.set k (F,st.snaps[k].2)).length:=by rw[length_set];exact O
   have hgk:=getElem_set_self U;refine V.updS (j:=2) U o_ (x':=(F,⟨st.snaps[k].2.id,2,st.snaps[k].2.parent,st.snaps[k].2.label⟩)) (by dsimp only;rw[hgk];rfl) λG3 hG3 hR3=>?_;have hst:(⟨(st.snaps.set k (F,st.snaps[k].2)).set k (F,⟨st.snaps[k].2.id,2,st.snaps[k].2.parent,st.snaps[k].2.label⟩),st.links,st.inos⟩)=e8_ st A F:=by
    unfold e8_;rw[map_set K.good.sto.nd.snaps O ek,set_set]
   have N:dd_ B G3 sp (some (l,0)) n1 a2 n2 a3 n3 (e8_ st A F):=by rw[<-hst];exact hR3
   refine jo_ N gd.sto ⟨?_,?_,?_⟩ (s3_ gd).2.2 λG4 x' pG4 hT'=>?_
   .unfold e8_;dsimp only;rw[k9];omega
   .unfold e8_;dsimp only;omega
   .unfold e8_;dsimp only;omega
   .simp only[ez_,bc_,ah_,bI_];exact h2 st e hw G4 x' (hB.trans pG4) hT'
  .obtain⟨j,hj,ej⟩:=kK hz;have:=q j hj;rw[ej]at this;exact absurd hz1 this
def GX_{id frm:Int}(e:l.1.1=frm)(r:look st.inos l.2.1=some y):ig_ id frm st l=⟨st.snaps,st.links++[((id,l.1.2),(l.2.1,false))],fP_ st.inos l.2.1 ⟨y.links+1,y.content⟩⟩:=by
 unfold ig_;grind
def GN_{id frm:Int}(e: ¬ l.1.1=frm):ig_ id frm st l=st:=by
 unfold ig_;grind
def pZ_ {name parent:Y_} {kind:Int} (hT:Tr H x n cs T) (hs1:name.size<=140737488351232) (hs2:parent.size<=140737488351232)
 (h0:ofD T=none->∀H',H<+:H'->Q (.tup [yB none 0,nN 2000]) H')
 (h1:∀st e,ofD T=some st->ic_ (aA_ st) name parent kind=e->e≠0->∀H',H<+:H'->Q (.tup [yB none 0,nN e]) H')
 (h2:∀st,ofD T=some st->ic_ (aA_ st) name parent kind=0->∀H' x',H<+:H'->TrK H' x' 48 (eZ_ (iT_ (ej_ st name parent kind)))->Q (.tup [yB x' 48,nN 0]) H'):
 a6_ [yA x n,gS name,gS parent,gI kind] H Q:=by
 refine⟨100,?_⟩;rw[tU_];have etn:∀k:Nat,tN (k:Int)=k:=λ_=>rfl;refine hi_ hT (λe H' p hp=>?_) λst e B H' sp a1 n1 a2 n2 a3 n3 hB hR=>?_
 .simp only[aH_,aD_,bD_,gc_,ak_,a8_];exact aa_ (λ_=>h0 e H' hp) (c_)
 ·simp only[aH_,aD_,bD_,gc_,ak_,a8_];refine aa_ (c_) λ_=>?_;have K:=ey_ e;have hm:=K.many;have hm':=hm;unfold ec_ at hm;obtain⟨_,hd,hok⟩:=jZ_ e;refine fK_ hR ⟨o_,o_,o_⟩ (rY_ hok) λG a pG ha=>?_;simp only[aJ_,ah_];refine qF_ ha K.asc K.from_ K.size.1 K.size.2 hs1 hs2 λG1 b1 m1 pG1=>?_;simp only[aH_,aD_,bD_,ah_,ai_,a8_];have hR1:=hR.mono (pG.trans pG1);refine aa_ (λq=>?_) (λq=>?_)
  .exact h1 st _ e rfl (u_ q) G1 (hB.trans hR1.pre)
  have hw:ic_ (aA_ st) name parent kind=0:=u_ q
  obtain⟨w1,w2,w3,w4,w5,w6⟩:=C1_ hw;have P:=Au_ K.good hm' K.infos hw;have gd:=P.good;obtain⟨⟨k1,k2⟩,k3,k4⟩:=sQ_ (st:=st) o_;refine sk_ hR1 ⟨o_,o_⟩ ?_;simp only[aJ_,ai_];obtain⟨frm0,ls0,KK,_⟩:=xN_ K.good.sto hm' parent;have hks:=KK.snaps;have hpd:ej_ st name parent kind=⟨(q3_ st parent).snaps++[(name,⟨ep_ st,kind,parent,mkS []⟩)],(q3_ st parent).links,(q3_ st parent).inos⟩:=rfl;have hkl:(q3_ st parent).links.length<=200/\(q3_ st parent).inos.length<=100:=by
   obtain⟨frm,ls,KK,hls⟩:=xN_ K.good.sto hm' parent;have h1:=KK.len;have h2:=KK.nos;have:ls.length<=60:=by
    rcases hls with q|⟨_,q,_⟩
    .rw[q];simp
    .rw[q];omega
   omega
  obtain⟨fid,hfid⟩:∃fid,ep_ st=fid:=⟨_,rfl⟩;rw[hfid]at k1 k2 k3 k4 hpd ⊢;generalize hkid:q3_ st parent=S at hpd hkl hks;have l18:∀(F:Nat)(G:Hp)(a2:Pl)(n2:Nat)(a3:Pl)(n3:Nat),dd_ B G sp a1 n1 a2 n2 a3 n3 S->a6_.l18 (F+1) name parent kind none 0 (some (sp,0)) fid G Q:=by
   intro F G a2 n2 a3 n3 hR;rw[a6_.l18_eq];obtain⟨g1,g2,g3⟩:=hR.rd;simp only[ad_];rw[ac_ g1,ah_];have hl1:=hR.l1;refine ab_ rfl ?_;refine hR.putS (name,⟨fid,kind,parent,mkS []⟩) (by rw[hl1,hks];omega) λa1' G2 hR2=>?_;have hR2':dd_ B G2 sp a1' (n1+1) a2 n2 a3 n3 (ej_ st name parent kind):=by rw[hpd];exact hR2
   refine jo_ hR2' gd.sto ⟨?_,?_,?_⟩ (s3_ gd).2.2 λG4 x' pG4 hT'=>?_
   .rw[P.snaps,kI];simp;omega
   .rw[hpd];dsimp only;omega
   .rw[hpd];dsimp only;omega
   .simp only[ez_,bc_,ah_,bI_];exact h2 st e hw G4 x' (hB.trans pG4) hT'
  refine aa_ (λe=>?_) λe=>?_
  ·have hne: ¬ parent=mkS []:=by simpa using e
   simp only[ad_];obtain⟨g1,g2,g3⟩:=hR1.rd;rw[ac_ g1,ah_];have hl1:=hR1.l1;have hl2:=hR1.l2;have hpar:∃y,look st.snaps parent=some y:=by
    unfold lg_ at w5;rw[lH hne,Bool.false_or]at w5;cases hf:cK_ (aA_ st) parent with
    |none=>rw[hf]at w5;cases w5
    |some i=>
     obtain⟨him,hin⟩:=gj_ hf;obtain⟨z,hz,ez,_⟩:=K.infos.get him;refine⟨z.2,?_⟩;have:=g3_ K.good.sto.nd.snaps hz;rw[show z.1=parent by rw[ez]at hin;exact hin]at this;exact this
   obtain⟨px,hpx⟩:=hpar;have hS:S=st.links.foldl (ig_ fid px.id) st:=by
    rw[<-hkid,<-hfid];unfold q3_;rw[lH hne];dsimp only;rw[hpx]
   refine fS_ hR1 o_ (λk hk ek hmin=>?_) λq=>?_
   ·simp only[aJ_,ai_];rw[ac_ g1,ah_];refine⟨rfl,ab_ rfl (ab_ (by simp<;>omega) ?_)⟩;obtain⟨l,e1,r1,r2,_⟩:=hR1.snapG k hk;have hxk:=BT_ (st:=st) hk ek hmin hpx;rw[e1];simp only[ad_,etn,kN,kQ];rw[ac_ r2,ai_,hxk];have g2':gt G1 sp 1=some (.sl a2 n2 4):=by simpa using g2
    rw[ac_ g2',ah_];have l12:∀(f i F:Nat)(G:Hp)(a2:Pl)(n2':Nat)(a3:Pl)(n3':Nat),f=st.links.length-i->i<=st.links.length->f+2<=F->Kid st fid px.id (st.links.take i) ((st.links.take i).foldl (ig_ fid px.id) st)->st.links<+:((st.links.take i).foldl (ig_ fid px.id) st).links->dd_ B G sp a1 n1 a2 n2' a3 n3' ((st.links.take i).foldl (ig_ fid px.id) st)->
     a6_.l12 F name parent kind none 0 (some (sp,0)) fid px.id ((st.links.length:Nat):Int) ((i:Nat):Int) G Q:=by
     intro f;induction f with
     |zero=>
      intro i F G a2 n2' a3 n3' hf hi hF hK hpre hR;obtain⟨F,rfl⟩:∃G,F=G+1+1:=⟨F-2,o_⟩;rw[a6_.l12_eq];refine aa_ (w_) λ_=>?_;rw[k7 o_,<-hS]at hR;exact l18 F G a2 n2' a3 n3' hR
     | succ f ih=>
      intro i F G a2 n2' a3 n3' hf hi hF hK hpre hR;have hil:i<st.links.length:=o_
      obtain⟨F,rfl⟩:∃G,F=G+1:=⟨F-1,o_⟩;have hfold:(st.links.take (i+1)).foldl (ig_ fid px.id) st=ig_ fid px.id ((st.links.take i).foldl (ig_ fid px.id) st) st.links[i]:=by
       rw[take_add_one,kG hil,Option.toList_some,foldl_append];rfl
      generalize hS1:(st.links.take i).foldl (ig_ fid px.id) st=S1 at hK hpre hR hfold;have hnd:∀m∈st.links.take i,m.1≠st.links[i].1:=λm hm q=>by
       obtain⟨j,hj,rfl⟩:=kK hm;rw[getElem_take]at q;have hj':j<i:=by rw[lC]at hj;omega
       have:=(getElem_inj (h₀:=by rw[k9];omega) (h₁:=by rw[k9];omega) K.good.sto.nd.links).1 (show (st.links.map (·.1))[j]'(by rw[k9];omega)=(st.links.map (·.1))[i]'(by rw[k9];omega) by rw[getElem_map,getElem_map];exact q);omega
      have hstep:=CG_ K.good.sto k1 k2 k4 o_ (ls:=st.links.take i) (l:=st.links[i]) (kE hil) (λm hm=>mem_of_mem_take hm) hnd (by rw[lC];omega) hK;have htk:st.links.take i++[st.links[i]]=st.links.take (i+1):=by rw[take_add_one,kG hil];rfl
      rw[htk]at hstep;have hlen1:=hK.len;rw[lC]at hlen1;have hno1:=hK.nos;have hil1:i<S1.links.length:=h_ hpre.length_le
      have hli:S1.links[i]=st.links[i]:=by
       obtain⟨r,hr⟩:=hpre;have:S1.links[i]?=st.links[i]? :=by rw[<-hr,kM hil]
       rw[kG hil1,kG hil]at this;exact Option.some.inj this
      have hl2':=hR.l2;rw[a6_.l12_eq];refine aa_ (λ_=>?_) (w_);obtain⟨g1,g2,g3⟩:=hR.rd;simp only[ad_];rw[ac_ g2,ah_];refine ab_ rfl (ab_ (by simp<;>omega) ?_);obtain⟨lk,e2,q1,q2,q3,q4,_⟩:=hR.linkG i hil1;rw[hli]at q1 q2 q3 q4;rw[e2];simp only[ad_,etn,kN];rw[ac_ q1,ai_,ac_ q2,aq_,ac_ q3,ai_,ac_ q4,ak_];have w1:ae_ .i64 (((i:Nat):Int)+1)=((i+1:Nat):Int):=ao_ o_;refine aa_ (λe=>?_) λe=>?_
      ·have e':st.links[i].1.1=px.id:=by simpa using e
       obtain⟨y0,_,hy0,_⟩:=K.good.sto.ino (kE hil);obtain⟨y,hym⟩:=(hK.text st.links[i].2.1).2 ⟨y0,hy0⟩;have hy:=(ei_ hK.sto.nd.inos).2 hym;have heq:=GX_ (id:=fid) (frm:=px.id) e' hy;rw[ac_ (show gt G sp 1=some (.sl a2 n2' 4) by simpa using g2),ah_];refine ab_ rfl ?_;refine hR.putL ((fid,st.links[i].1.2),(st.links[i].2.1,false)) o_ λa2' G2 hR2=>?_;obtain⟨g1',g2',g3'⟩:=hR2.rd;rw[ac_ (show gt G2 sp 2=some (.sl a3 n3' 3) by simpa using g3'),ah_];refine eO_ hR2 (by dsimp only;omega) ?_;simp only[aJ_,ai_];obtain⟨mm,hmm,em,ey⟩:=oV_ hy;rw[em,ac_ (show gt G2 sp 2=some (.sl a3 n3' 3) by simpa using g3'),ah_];have hl3':=hR2.l3;dsimp only at hl3';refine⟨rfl,ab_ rfl (ab_ (by simp<;>omega) ?_)⟩;obtain⟨lr,e3,z1,z2,z3⟩:=hR2.inoG mm hmm;subst e3;simp only[ad_,etn,kN,kQ];rw[ac_ z2,ai_];refine ab_ rfl (ab_ (by simp<;>omega) ?_);have hcy:=(dX_.1 hK.sto.lk).2 _ hym;dsimp only at hcy;have hcl:fF_ S1 st.links[i].2.1<=S1.links.length:=countP_le_length;rw[ey];dsimp only;rw[cf_ (n:=y.links+1) o_ o_];refine hR2.updI hmm _ λG3 hG3 hR3=>?_;rw[w1];have hfin:(⟨S1.snaps,S1.links++[((fid,st.links[i].1.2),(st.links[i].2.1,false))],S1.inos.set mm (S1.inos[mm].1,⟨y.links+1,S1.inos[mm].2.content⟩)⟩:StD)=ig_ fid px.id S1 st.links[i]:=by
        rw[heq,xy_ hK.sto.nd.inos hmm ey,ey]
       have hR3':dd_ B G3 sp a1 n1 a2' (n2'+1) (some (lr,0)) n3' (ig_ fid px.id S1 st.links[i]):=by rw[<-hfin];exact hR3
       refine ih (i+1) F G3 a2' _ _ n3' o_ hil o_ (by rw[hfold];exact hstep) ?_ (by rw[hfold];exact hR3');rw[hfold,heq];exact hpre.trans (prefix_append _ _)
      .have e': ¬ st.links[i].1.1=px.id:=by simpa using e
       have heq:=GN_ (id:=fid) (frm:=px.id) (st:=S1) e';rw[heq]at hfold hstep;rw[w1];exact ih (i+1) F G a2 n2' a3 n3' o_ hil o_ (by rw[hfold];exact hstep) (by rw[hfold];exact hpre) (by rw[hfold];exact hR)
    rw[hl2];refine l12 _ 0 99 G1 a2 n2 a3 n3 rfl (kP _) o_ ?_ (k8 _) hR1;exact⟨K.good.sto,rfl,t_,rfl,λl=>t_,λk=>Iff.rfl,λk y y' g1 g2=>by
     have e1:=(ei_ K.good.sto.nd.inos).2 g1;have e2:=(ei_ K.good.sto.nd.inos).2 g2;rw[e1]at e2;rw[Option.some.inj e2]⟩
   .obtain⟨j,hj,ej⟩:=kK (cU_ hpx);have:=q j hj;rw[ej]at this;exact absurd rfl this
  .have hpe:parent=mkS []:=by simpa using e
   have hS:S=st:=by rw[<-hkid];unfold q3_;rw[lE hpe]
   rw[<-hS]at hR1;exact l18 98 G1 a2 n2 a3 n3 hR1
end
section
variable{H:Hp}{Q:Post}
end
section
variable{B H:Hp}{Q:Post}{sp n1 n2 n3:Nat}{a1 a2 a3:Pl}{st:StD}
end
section
variable{H:Hp}{Q:Post}{x:Pl}{n:Nat}{cs:List PC}{T:List Pg}
end
def y8_(kv:KV)(name parent:Y_)(kind:Int):Option KV:=match eH_ kv with
 |none=>none
 |some st=>match ic_ (aA_ st) name parent kind==0 with|true=>some (eZ_ (iT_ (ej_ st name parent kind)))|false=>none
def tu_ (kv:KV) (name path content:Y_):Option KV:=match eH_ kv with
 |none=>none
 |some st=>match cG_ (aA_ st) name path content==0 with
  |true=>(match look st.snaps name with|some y=>some (eZ_ (iT_ (f8_ st y.id path content)))|none=>none)
  |false=>none
def vJ_(kv:KV)(name to:Y_):Option KV:=match eH_ kv with
 |none=>none
 |some st=>match fo_ (aA_ st) name to==0 with|true=>some (eZ_ (iT_ (e8_ st name to)))|false=>none
def sW:Y_:=mkS [119]
def pR_:Y_:=mkS [98,97,115,101]
def mA_:Y_:=mkS [119,111,114,107]
def Lg_:Option KV:=y8_ [] sW (mkS []) 0
def K2_:Option KV:=Lg_.bind λk=>tu_ k sW (mkS [97]) (mkS [111,110,101])
def K3_:Option KV:=K2_.bind λk=>vJ_ k sW pR_
def K6_:Option KV:=K3_.bind λk=>y8_ k mA_ pR_ 0
def Kb_:Option KV:=K6_.bind λk=>tu_ k mA_ (mkS [98]) (mkS [116,119,111])
section
variable{H:Hp}{Q:Post}{x:Pl}{n:Nat}{kv kv':KV}
def y1_ (h:TrK H x n kv) (e:y8_ kv name parent kind=some kv') (r:name.size<=140737488351232) (D:parent.size<=140737488351232)
 (Y:∀H' x',H<+:H'->TrK H' x' 48 kv'->Q (.tup [yB x' 48,nN 0]) H'):a6_ [yA x n,gS name,gS parent,gI kind] H Q:=by
 have⟨W,T,G,N⟩:=Av_ h;unfold y8_ at e;cases F:eH_ kv with
 |none=>rw[F]at e;cases e
 | some st=>
  rw[F]at e N;dsimp at e;cases I:ic_ (aA_ st) name parent kind==0 with
  |false=>rw[I]at e;cases e
  |true=>
   refine pZ_ G r D (λq=>?_) (λA U O J V=>?_) λA O J H' x' p t=>?_
   .grind
   .grind
   .grind
def xJ_ (h:TrK H x n kv) (e:tu_ kv name path content=some kv') (r:name.size<=140737488351232) (D:path.size<=140737488351232)
 (Z:∀H' x',H<+:H'->TrK H' x' 48 kv'->Q (.tup [yB x' 48,nN 0]) H'):cC_ [yA x n,gS name,gS path,gS content] H Q:=by
 have⟨Y,T,J,U⟩:=Av_ h;unfold tu_ at e;cases G:eH_ kv with
 |none=>rw[G]at e;cases e
 | some st=>
  rw[G]at e U;dsimp at e;cases F:cG_ (aA_ st) name path content==0 with
  |false=>rw[F]at e;cases e
  | true=>
   rw[F]at e;cases I:look st.snaps name with
   |none=>rw[I]at e;cases e
   |some y=>
    refine tY_ J r D (λq=>?_) (λA W V O N=>?_) λA y' V O N H' x' p t=>?_
    .grind
    .grind
    .grind
def Da_ (h:TrK H x n kv) (e:vJ_ kv name to=some kv') (r:name.size<=140737488351232) (D:to.size<=140737488351232)
 (Y:∀H' x',H<+:H'->TrK H' x' 48 kv'->Q (.tup [yB x' 48,nN 0]) H'):fl_ [yA x n,gS name,gS to] H Q:=by
 have⟨W,T,G,N⟩:=Av_ h;unfold vJ_ at e;cases F:eH_ kv with
 |none=>rw[F]at e;cases e
 | some st=>
  rw[F]at e N;dsimp at e;cases I:fo_ (aA_ st) name to==0 with
  |false=>rw[I]at e;cases e
  |true=>
   refine sn_ G r D (λq=>?_) (λA U O J V=>?_) λA O J H' x' p t=>?_
   .grind
   .grind
   .grind
def zR_(H:Hp):Tr H none 0 [] []:=⟨rfl,rfl,rfl,λi h=>t_⟩
theorem GR_:ofD []=none:=by
 have:decide (0<aL_ [])=false:=by decide+kernel
 unfold ofD;grind
end
end Go.Am
section
set_option maxRecDepth 100000
namespace Go.Am
open List
def CZ_ (is:List InfoR) (name path:Y_):Y_ × Int:=match aZ_ name 4 with
 |false=>(mkS [],1901)
 | true=>match cK_ is name with
  |none=>(mkS [],1903)
  | some i=>match aZ_ path 3 with
   |false=>(mkS [],1907)
   |true=>match i.files.find? λf=>decide (f.1=path) with
    |none=>(mkS [],1908)
    |some f=>(f.2.1,0)
theorem xu_(h:ofD T=some st):pK_ T s t=CZ_ (aA_ st) s t:=by unfold pK_;rw[h];rfl
theorem DF_(h:ofD T=none):pK_ T s t=(mkS [],2000):=by unfold pK_;rw[h]
def Lh_:FileR:=(mkS [97],mkS [111,110,101],true)
def Ki_:FileR:=(mkS [97],mkS [111,110,101],false)
def Kx_:FileR:=(mkS [98],mkS [116,119,111],true)
def GU_:InfoR:=⟨pR_,2,mkS [],mkS [],[Lh_]⟩
def Kn_:InfoR:=⟨mA_,0,pR_,mkS [],[Ki_,Kx_]⟩
def is0:List InfoR:=[GU_,Kn_]
def is1:List InfoR:=[GU_,⟨mA_,0,pR_,mkS [],[(mkS [97],mkS [115,105,120],true),Kx_]⟩]
def is2:List InfoR:=[GU_,⟨mA_,0,pR_,mkS [],[Ki_]⟩]
def Kp_:Bool:=match Kb_ with
 |none=>false
 |some k5=>match eH_ k5 with
  |none=>false
  |some st=>decide (aA_ st=is0)
set_option maxRecDepth 1000000 in
def Hk_:Kp_=true:=by decide+kernel
def Kd_:∃J F N I D st,y8_ [] sW (mkS []) 0=some J/\tu_ J sW (mkS [97]) (mkS [111,110,101])=some F/\vJ_ F sW pR_=some N/\y8_ N mA_ pR_ 0=some I/\tu_ I mA_ (mkS [98]) (mkS [116,119,111])=some D/\eH_ D=some st/\aA_ st=is0:=by
 have h:=Hk_;unfold Kp_ at h;cases U:Kb_ with
 |none=>rw[U]at h;cases h
 |some D=>
  rw[U]at h;have r:=U;have⟨I,V,r⟩:=Option.bind_eq_some_iff.1 r;have⟨N,Z,V⟩:=Option.bind_eq_some_iff.1 V;have⟨F,O,Z⟩:=Option.bind_eq_some_iff.1 Z;have⟨J,W,O⟩:=Option.bind_eq_some_iff.1 O;dsimp at h;cases Y:eH_ D with
  |none=>rw[Y]at h;cases h
  |some st=>rw[Y]at h;exact⟨J,F,N,I,D,st,W,O,Z,V,r,Y,of_decide_eq_true h⟩
def HP_:g9_ is0 mA_ (mr_ (mkS [97]) (mkS [115,105,120]))=is1/\g9_ is0 mA_ (sG_ (mkS [98]))=is2/\cG_ is0 mA_ (mkS [97]) (mkS [115,105,120])=0/\db_ is0 mA_ (mkS [98])=0/\cG_ is0 pR_ (mkS [97]) (mkS [])=1905/\
 CZ_ is0 mA_ (mkS [97])=(mkS [111,110,101],0)/\CZ_ is0 pR_ (mkS [122])=(mkS [],1908):=by decide+kernel
section
variable{H:Hp}{Q:Post}{x:Pl}{n:Nat}{cs:List PC}{T:List Pg}
def rM_(hQ:∀H' x' cs T st,H<+:H'->Tr H' x' 48 cs T->ofD T=some st->aA_ st=is0->Q (yA x' 48) H'):f3_ [] H Q:=by
 have⟨k1,k2,k3,k4,k5,st,O,J,U,A,V,e6,u1⟩:=Kd_;have sz:∀l:List UInt8,l.length<=100->(mkS l).size<=140737488351232:=λl h=>by rw[kv_];omega
 refine⟨1,?_⟩;rw[vj_];refine k7_ λY p1 Z=>?_;simp[ez_];have D:TrK Y (some (H.length,0)) 48 []:=⟨t6_,ng_,Z.tr,by rw[Jq_];omega,ER_⟩;refine y1_ D O (sz _ t_) (sz _ t_) λH2 x2 p2 F=>?_;simp[aH_];refine xJ_ F J (sz _ t_) (sz _ t_) λH3 x3 p3 t3=>?_;simp[aH_];refine Da_ t3 U (sz _ t_) (sz _ t_) λH4 x4 p4 N=>?_;simp[aH_];refine y1_ N A (sz _ t_) (sz _ t_) λH5 x5 p5 I=>?_;simp[aH_];refine xJ_ I V (sz _ t_) (sz _ t_) λH6 x6 p6 W=>?_;simp[aH_];have⟨cs,T,hT,ho⟩:=Av_ W;grind
def lv_ {E:Nat->Sm} (hQ:∀H',H<+:H'->Q (gB true) H'):fW_ E [] H Q:=by
 obtain⟨v1,v2,v3,v4,v5,v6,v7⟩:=HP_;refine⟨1,?_⟩;rw[w3_];have sz:∀l:List UInt8,l.length<=100->(mkS l).size<=140737488351232:=λl h=>by rw[kv_];omega
 refine rM_ λH1 x1 c1 T1 st p1 t1 o1 i1=>?_;simp only[ez_,bc_,ah_,bI_];refine hq_ t1 (sz _ d_) (sz _ d_) λH2 p2=>?_;rw[xu_ o1,i1,show CZ_ is0 (mkS [119,111,114,107]) (mkS [97])=(mkS [111,110,101],0) from v6];simp only[aH_,aD_,bD_,aq_,ai_,a8_];refine uX_ (.of (t1.mono p2)) noP o1 (by rw[i1];exact v3) (sz _ d_) (sz _ d_) λH3 x3 c3 T3 st3 p3 t3 o3 i3=>?_;rw[i1,show g9_ is0 (mkS [119,111,114,107]) _=is1 from v1]at i3;simp only[aH_,aD_,eN_,bc_,bD_,ah_,ai_,bI_,a8_];refine jg_ t3.tr o3 i3 λH4 b4 a4 p4 f4=>?_;simp only[aH_,aD_,eN_,bc_,bD_,ah_,ai_,bI_,a8_];refine tS_ (.of (t1.mono (p2.trans (p3.trans p4)))) noP o1 (by rw[i1];exact v4) (sz _ d_) (sz _ d_) λH5 x5 c5 T5 st5 p5 t5 o5 i5=>?_;rw[i1,show g9_ is0 (mkS [119,111,114,107]) _=is2 from v2]at i5;simp only[aH_,aD_,eN_,bc_,bD_,ah_,ai_,bI_,a8_];refine jg_ t5.tr o5 i5 λH6 b6 a6 p6 f6=>?_;simp only[aH_,aD_,eN_,bc_,bD_,ah_,ai_,bI_,a8_];have p16:=p2.trans (p3.trans (p4.trans (p5.trans p6)));refine la_ (.of (t1.mono p16)) noP (sz _ d_) (sz _ d_) (λq=>by rw[o1]at q;cases q) (λst' q r H7 p7=>?_) λst' q r=>by
  rw[o1]at q;cases q;rw[i1,show cG_ is0 (mkS [98,97,115,101]) _ _=1905 from v5]at r;cases r
 rw[o1]at q;cases q;rw[i1,show cG_ is0 (mkS [98,97,115,101]) _ _=1905 from v5];simp only[aH_,aD_,eN_,bc_,bD_,ah_,ai_,bI_,a8_];refine hq_ (t1.mono (p16.trans p7)) (sz _ d_) (sz _ d_) λH8 p8=>?_;rw[xu_ o1,i1,show CZ_ is0 (mkS [98,97,115,101]) _=(mkS [],1908) from v7];simp only[aH_,aD_,bD_,aq_,ai_,a8_];refine hq_ (zR_ H8) (sz _ d_) (sz _ d_) λH9 p9=>?_;rw[DF_ GR_];simp only[aH_,aD_,bD_,aq_,ai_,a8_];have p49:=p5.trans (p6.trans (p7.trans (p8.trans p9)));have g4:=(f4.pre p49).rd;have g6:=(f6.pre (p7.trans (p8.trans p9))).rd;obtain⟨l0,o0,q0,e0,_,_,_,_,w0,g0⟩:=g4 0 d_;obtain⟨l1,o1',q1,e1,_,_,_,_,w1,g1⟩:=g4 1 d_;obtain⟨l2,o2,q2,e2,_,_,_,_,w2,_⟩:=g6 1 d_;obtain⟨l3,o3',e3,_,w3,_⟩:=g0 0 d_;obtain⟨l4,o4,e4,_,w4,_⟩:=g1 0 d_;cases e0.symm.trans e1;have tn:tN 0=0/\tN 1=1:=⟨rfl,rfl⟩;rw[aB_ d_,aB_ d_];refine ab_ rfl (ab_ d_ ?_);rw[e0];simp only[ad_,tn.1,tn.2];rw[ac_ w0,ah_,aB_ d_];refine ab_ rfl (ab_ d_ ?_);rw[ac_ w1,ah_,aB_ d_,ay_ (by decide+kernel)];refine df_ ?_;simp only[aJ_,ai_];rw[ay_ d_];refine ab_ rfl (ab_ d_ ?_);rw[ac_ w1,ah_];refine ab_ rfl (ab_ d_ ?_);rw[e4];simp only[ad_];rw[ac_ w4,aq_,ay_ (by decide+kernel)];refine ab_ rfl (ab_ d_ ?_);rw[ac_ w0,ah_];refine ab_ rfl (ab_ d_ ?_);rw[e3];simp only[ad_];rw[ac_ w3,aq_,ay_ (by decide+kernel)];refine df_ ?_;simp only[aJ_,ai_];rw[ay_ d_];refine ab_ rfl (ab_ d_ ?_);rw[e2];simp only[ad_];rw[ac_ w2,ah_,ay_ d_];refine df_ ?_;simp only[aJ_,ai_];rw[ay_ d_];refine df_ ?_;simp only[aJ_,ai_];rw[ay_ d_];refine df_ ?_;simp only[aJ_,ai_];rw[ay_ d_];refine df_ ?_;simp only[aJ_,ai_];exact hQ H9 (p1.trans (p2.trans (p3.trans (p4.trans p49))))
end
end Go.Am
end
namespace Go.Am
open List
def w7_.fas(k:w7_ T st):∀i∈aA_ st,hO_ i.files:=λi A=>(k.fr.f4 i A).2
section
variable{H:Hp}{Q:Post}{x:Pl}{n:Nat}{cs:List PC}{T:List Pg}{name path content s t:Y_}{z:Int}
end
section
variable{H:Hp}{Q:Post}{x:Pl}{n:Nat}{cs:List PC}{T:List Pg}{name path content s t:Y_}{z:Int}
end
section
variable{H:Hp}{Q:Post}
def q8_ {b:Nat} {a:Pl} {is:List InfoR} {name path:Y_} (h:bT_ H b a is) (ha:hM_ is) (hf:bu_ is is.length 0=true) (hn:is.length<=900)
 (hsz:∀x∈is,x.name.size<=140737488351232/\x.files.length<=100000/\∀f∈x.files,f.1.size<=140737488351232) (hfa:∀x∈is,hO_ x.files) (hs1:name.size<=140737488351232) (hs2:path.size<=140737488351232)
 (hE:db_ is name path≠0->Q (.tup [yR none 0 5,nN (db_ is name path)]) H)
 (hQ:db_ is name path=0->∀H' a',H<+:H'->cY_ H' a' (g9_ is name (sG_ path))->Q (.tup [yR a' is.length 5,nN 0]) H'):
 b6_ [nL a is.length 5,gS name,gS path] H Q:=by
 refine⟨200010,?_⟩;rw[uY_];have etn:∀k:Nat,tN (k:Int)=k:=λ_=>rfl;have hrd:=h.rd;have hfl:∀i∈is,i.files.length<=100000:=λi hi=>(hsz i hi).2.1;have eD:db_ is name path=match aZ_ name 4 with
  |false=>1901
  | true=>match c9_ is name==0 with
   |false=>c9_ is name
   | true=>match aZ_ path 3 with
    |false=>1907
    | true=>match cK_ is name with
     |none=>0
     |some i=>match i.files.any λf=>decide (f.1=path) with
      |true=>0
      |false=>1908:=by
  unfold db_ h4_;cases aZ_ name 4 with
  |false=>rfl
  |true=>
   dsimp only;cases q:c9_ is name==0 with
   |false=>dsimp only;rw[q]
   |true=>cases aZ_ path 3<;>rfl
 refine d9_ hrd ha o_ hsz ?_;simp only[aJ_,ak_];rw[hf];refine aa_ (c_) λ_=>?_;refine b5_ hs1 ?_;simp only[aJ_,ak_];refine aa_ (λe=>by rw[eD,dZ_ e]at hE;exact hE (d_:(1901:Int)≠0)) λe=>?_;rw[eB_ e]at eD;refine hZ_ hrd ha o_ (λe he hA=>?_) λhA hp hfi=>?_
 .simp only[aH_,aD_,bD_,ai_,a8_];refine aa_ (λ_=>?_) (λq=>by exact absurd (u_ q) he);rw[show db_ is name path=e by rw[eD,hA,show (e==0)=false by simpa using he]]at hE;exact hE he
 simp only[aH_,aD_,bD_,ai_,a8_];refine aa_ (c_) λ_=>?_;rw[hA,hfi]at eD;have hname:=(vS_ hfi).2;generalize hK:dP_ is name=K at hp hfi hname eD;have eD:db_ is name path=match aZ_ path 3 with
  |false=>1907
  |true=>match is[K].files.any λf=>decide (f.1=path) with
   |true=>0
   |false=>1908:=eD
 have fa:=hfa _ (kE hp);rw[wD_ ha hp hname]at hQ;refine ab_ rfl (ab_ (by simp<;>omega) ?_);obtain⟨l,o,p,e1,r1,r2,r3,r4,r5,r6⟩:=hrd _ hp;have hfk:=hfl _ (kE hp);rw[e1];simp only[ad_,etn];rw[ac_ (show gt H l (o+K*5+4)=some (.sl p is[K].files.length 3) from r5),ah_];refine kM_ r6 hfk (λk hk hkp=>?_) λhno=>?_
 all_goals
  simp only[aJ_,ai_]
  refine d1_ hs2 ?_
  simp only[aJ_,ak_]
  refine aa_ (λe=>by rw[eD,dZ_ e]at hE;exact hE (d_:(1907:Int)≠0)) λe=>?_
  rw[eB_ e]at eD
  dsimp only at eD
 rotate_left
 .rw[ay_ d_];rw[eD,show (is[K].files.any λf=>decide (f.1=path))=false by rw[any_eq_false];intro f hf;simpa using hno f hf]at hE;exact hE (d_:(1908:Int)≠0)
 rw[aB_ t_];have e0:db_ is name path=0:=by
  rw[eD,show (is[K].files.any λf=>decide (f.1=path))=true from any_eq_true.2 ⟨_,kE hk,u_ hkp⟩]
 rw[←e1];refine gf_ h hn hfl λG0 a0 p0 hi0=>?_;simp only[aJ_,ah_];have loop:∀(f j F:Nat)(G:Hp)(a':Pl)(n':Nat)(xs:List FileR),f=is[K].files.length-j->j<=is[K].files.length->f<F->G0<+:G->Own G G0.length gl_ a' (n'*3) (bJ_ xs)->n'=xs.length->xs=sG_ path (is[K].files.take j)->n'<=j->
  b6_.l16 F ((K:Nat):Int) ((k:Nat):Int) a0 is.length a' n' ((j:Nat):Int) G Q:=by
  intro f;obtain⟨l,p,e1,hbl,r1,r2,r3,r4,r5,r6,r7,cs0,hr0,hc0⟩:=hi0.at.src K hp;induction f with
  |zero=>
   intro j F G a' n' xs hf' hj hF hG ho hn' inv hle;obtain⟨F,rfl⟩:∃G,F=G+1:=⟨F-1,o_⟩;have hjl:j=is[K].files.length:=o_
   rw[b6_.l16_eq];refine ab_ rfl (ab_ (by simp<;>omega) ?_);rw[e1];simp only[ad_,etn,kN];rw[ac_ (cn_ hG r5),ah_];refine aa_ (w_) λ_=>?_;refine ab_ rfl (ab_ (by simp<;>omega) ?_);rw[hjl,take_length]at inv;subst inv hn';obtain⟨C1,C2⟩:=sT_ ho;obtain⟨l',cs,e,hb,hlg,hr,hc,rd⟩:=hi0.put hp hG C1 C2;cases e1.symm.trans e;rw[pM_ hr o_];rw[e]at rd;exact hQ e0 _ _ (dI_ (p0.trans hG) hb _) rd
  | succ f ih=>
   intro j F G a' n' xs hf' hj hF hG ho hn' inv hle;obtain⟨F,rfl⟩:∃G,F=G+1:=⟨F-1,o_⟩;have hjl:j<is[K].files.length:=o_
   have tk:is[K].files.take (j+1)=is[K].files.take j++[is[K].files[j]]:=by rw[take_add_one,kG hjl];rfl
   rw[b6_.l16_eq];refine ab_ rfl (ab_ (by simp<;>omega) ?_);rw[e1];simp only[ad_,etn,kN];rw[ac_ (cn_ hG r5),ah_];refine aa_ (λ_=>?_) (w_);refine aa_ (λq=>?_) λq=>?_
   ·have ne:is[K].files[j].1≠path:=λz=>by
     have:=Kh_ fa hjl hk (z.trans hkp.symm);subst this;simp at q
    refine ab_ rfl (ab_ (by simp<;>omega) ?_);rw[ac_ (cn_ hG r5),ah_];refine ab_ rfl (ab_ (by simp<;>omega) ?_);obtain⟨l2,o2,e2,q1,q2,q3⟩:=(r6.rd.pre hG) _ hjl;rw[e2];simp only[ad_,etn];rw[ac_ q1,aq_,ac_ q2,aq_,ac_ q3,ak_];refine ab_ rfl ?_;refine j9_ (H0:=G0) o_ hG ho (m:=1) rfl (by unfold Lim;omega) λx' G' o' ex fr=>?_;rw[ao_ o_,<-e1];refine ih (j+1) F G' x' _ (xs++[is[K].files[j]]) o_ hjl o_ ex.pre (by rw[gS_];exact o') s_ ?_ o_;rw[tk,Bs_,lH ne,inv]
   .have ej:j=k:=by simp at q;omega
    rw[ao_ o_,<-e1];refine ih (j+1) F G a' n' xs o_ hjl o_ hG ho hn' ?_ o_;subst ej;rw[tk,Bs_,lE hkp,inv];simp
 exact loop _ 0 200009 G0 none 0 [] rfl (kP _) o_ (k8 _) (.inl ⟨rfl,rfl,rfl⟩) rfl rfl (kO _)
end
section
variable{H:Hp}{Q:Post}{x y:Pl}{n m:Nat}{cs ds:List PC}{T S:List Pg}{name path content:Y_}{e:Int}
inductive xY_(H:Hp)(x:Pl)(n:Nat)(e:Int)(a:Pl)(m:Nat):Prop
 |bad:e≠0->x=none->n=0->xY_ H x n e a m
 |good {cs:List PC} {T:List Pg} {st:StD} {is:List InfoR}:e=0->Tr H x n cs T->ofD T=some st->aA_ st=is->cY_ H a is->m=is.length->xY_ H x n e a m
theorem xY_.mono(h:xY_ H x n e a m)(p:H<+:H'):xY_ H' x n e a m:=by
 cases h with
 |bad F A D=>exact .bad F A D
 |good F A D J N I=>exact .good F (A.mono p) D J (N.pre p) I
def mK_ (h:xY_ H x n e a m) (hQ:∀H',H<+:H'->Q (gB true) H'):gF_ [yA x n,gI e,nL a m 5,gI e] H Q:=by
 refine⟨1,?_⟩;rw[yD_,aB_ t_];cases h with
 |bad I D A=>
  subst D A;rw[ay_ (a_)];refine kt_ (zR_ H) (zR_ H) t_ λb hb=>?_;simp_all
 |good I D A F U N=>
  subst I N;refine jg_ D A F λW Z Y J O=>?_;simp[aH_];have k:=(ey_ A).size;rw[F]at k;refine o9_ (U.pre J) O.rd o_ (λi V=>(k.2 i V).2.1) ?_;simp_all
inductive AM_(T:List Pg)(err:List InfoR->Int)(F:List InfoR->List InfoR)(H:Hp):Pl->Nat->Int->Prop
 |none:ofD T=none->AM_ T err F H none 0 2000
 |bad {st:StD}:ofD T=some st->err (aA_ st)≠0->AM_ T err F H none 0 (err (aA_ st))
 |ok {st st':StD} {x:Pl} {n:Nat} {cs:List PC} {S:List Pg}:ofD T=some st->err (aA_ st)=0->Tr H x n cs S->ofD S=some st'->aA_ st'=F (aA_ st)->AM_ T err F H x n 0
theorem AM_.err{E:List InfoR->Int}{F:List InfoR->List InfoR}(o:AM_ T E F H x n e)(h:ofD T=Option.none):e=2000:=by
 cases o with
 |none _=>rfl
 |bad q _=>rw[h]at q;cases q
 |ok q=>rw[h]at q;cases q
theorem AM_.same {E:List InfoR->Int} {F:List InfoR->List InfoR} {a:Pl} {H':Hp} (o:AM_ T E F H x n e) (p:H<+:H') (h:ofD T=some st) (r:E (aA_ st)=0->cY_ H' a (F (aA_ st))/\m=(F (aA_ st)).length):e=E (aA_ st)/\xY_ H' x n e a m:=by
 cases o with
 |none q=>rw[h]at q;cases q
 |bad q z=>rw[h]at q;cases q;exact⟨rfl,.bad z rfl rfl⟩
 |ok q z t o i=>
  rw[h]at q;cases q;exact⟨z.symm,.good rfl (t.mono p) o i (r z).1 (r z).2⟩
def yO_(hT:Tr H x n cs T)(hs1:name.size<=140737488351232)(hs2:path.size<=140737488351232)(hQ:∀H' x' n' e,H<+:H'->AM_ T (λis=>cG_ is name path content) (λis=>g9_ is name (mr_ path content)) H' x' n' e->Q (.tup [yB x' n',nN e]) H'):
 ds_ [yA x n,gS name,gS path,gS content] H Q:=
 la_ (.of hT) noP hs1 hs2 (λe H' p=>hQ H' _ _ _ p (.none e)) (λst e z H' p=>hQ H' _ _ _ p (.bad e z)) λst e z H' x' cs' T' st' p t o i=>hQ H' _ _ _ p (.ok e z t.tr o i)
def xf_(hT:Tr H x n cs T)(hs1:name.size<=140737488351232)(hs2:path.size<=140737488351232)(hQ:∀H' x' n' e,H<+:H'->AM_ T (λis=>db_ is name path) (λis=>g9_ is name (sG_ path)) H' x' n' e->Q (.tup [yB x' n',nN e]) H'):
 dh_ [yA x n,gS name,gS path] H Q:=
 nY_ (.of hT) noP hs1 hs2 (λe H' p=>hQ H' _ _ _ p (.none e)) (λst e z H' p=>hQ H' _ _ _ p (.bad e z)) λst e z H' x' cs' T' st' p t o i=>hQ H' _ _ _ p (.ok e z t.tr o i)
def BP_(is:List InfoR):(g9_ is name g).length=is.length:=by unfold g9_;simp
def law21_FilesN:Sm:=iV_ av_
def vv_:an_ Go.Proofs.Tryz.prog 3 law21_FilesN:=vY_ av_ (A4_ _)
def rq_ (hT:Tr H x n cs T) (hn:n*80<=140737488351232) (hs1:name.size<=140737488351232) (hs2:path.size<=140737488351232) (hQ:∀H',Q (gB true) H'):law21_FilesN [yA x n,gS name,gS path,gS content] H Q:=by
 refine⟨1,?_⟩;rw[xA_];refine s5_ hT hn λa' ds H1 C=>?_;simp only[ez_,bc_,ah_,bI_];have hC:=C.ot.tr;have p1:=C.pre;have dT:=hT.lenT;refine hq_ hC hs1 hs2 λH2 p2=>?_;simp only[aH_,aD_,bD_,aq_,ai_,a8_];refine vc_ (hT.mono (p1.trans p2)) hs1 hs2 λH3 p3=>?_;simp only[aH_,aD_,bD_,aq_,ai_,a8_];refine yO_ (hC.mono (p2.trans p3)) hs1 hs2 λH4 x4 n4 e4 p4 o4=>?_;simp only[aH_,aD_,eN_,bc_,bD_,ah_,ai_,bI_,a8_];refine xf_ (hC.mono (p2.trans (p3.trans p4))) hs1 hs2 λH5 x5 n5 e5 p5 o5=>?_;simp only[aH_,aD_,eN_,bc_,bD_,ah_,ai_,bI_,a8_];have p25:=p2.trans (p3.trans (p4.trans p5));rw[aB_ t_];refine df_ ?_;simp only[aJ_,ai_];rw[aB_ t_];refine kt_ (hC.mono p25) (hT.mono (p1.trans p25)) o_ λb hb=>?_;rw[hb.2 rfl];simp only[aJ_,ak_];rw[aB_ d_];refine lJ_ (hT.mono (p1.trans p25)) (λq H6 p6=>?_) λst o H6 b6 a6 p6 _ f6=>?_
 all_goals simp only[aH_,aD_,eN_,bc_,bD_,ah_,ai_,bI_,a8_]
 .rw[o4.err q,o5.err q,ay_ d_];refine df_ ?_;simp only[aJ_,ai_];rw[ay_ d_];refine df_ ?_;simp only[aJ_,ai_];rw[ay_ d_];refine lv_ λH' _=>?_;simp only[aJ_,ak_];exact hQ H'
 have K:=ey_ o;rw[aB_ d_];have wr:∀(K2:Post),(∀H' a' m,H6<+:H'->(cG_ (aA_ st) name path content=0->cY_ H' a' (g9_ (aA_ st) name (mr_ path content))/\m=(g9_ (aA_ st) name (mr_ path content)).length)->K2 (.tup [yR a' m 5,nN (cG_ (aA_ st) name path content)]) H')->aU_ [nL a6 (aA_ st).length 5,gS name,gS path,gS content] H6 K2:=λK2 h=>
  lr_ f6 K.asc K.from_ K.size.1 K.size.2 K.fas hs1 hs2 (λq=>h H6 none 0 (k8 _) λz=>absurd z q) λq H' a' p r=>by
   have:=h H' a' _ p λ_=>⟨r,(BP_ _).symm⟩;rwa [q]at this
 refine wr _ λH7 a7 m7 p7 r7=>?_;simp only[aH_,aD_,eN_,bc_,bD_,ah_,ai_,bI_,a8_];have de:∀(K2:Post),(∀H' a' m,H7<+:H'->(db_ (aA_ st) name path=0->cY_ H' a' (g9_ (aA_ st) name (sG_ path))/\m=(g9_ (aA_ st) name (sG_ path)).length)->K2 (.tup [yR a' m 5,nN (db_ (aA_ st) name path)]) H')->b6_ [nL a6 (aA_ st).length 5,gS name,gS path] H7 K2:=λK2 h=>
  q8_ (f6.pre p7) K.asc K.from_ K.size.1 K.size.2 K.fas hs1 hs2 (λq=>h H7 none 0 (k8 _) λz=>absurd z q) λq H' a' p r=>by
   have:=h H' a' _ p λ_=>⟨r,(BP_ _).symm⟩;rwa [q]at this
 refine de _ λH8 a8 m8 p8 r8=>?_;simp only[aH_,aD_,eN_,bc_,bD_,ah_,ai_,bI_,a8_];obtain⟨q4,s4⟩:=o4.same (p5.trans (p6.trans (p7.trans p8))) o λz=>⟨(r7 z).1.pre p8,(r7 z).2⟩;obtain⟨q5,s5⟩:=o5.same (p6.trans (p7.trans p8)) o r8;rw[<-q4,<-q5];refine df_ ?_;simp only[aJ_,ai_];refine mK_ s4 λH9 p9=>?_;simp only[aJ_,ak_];rw[ay_ rfl];refine df_ ?_;simp only[aJ_,ai_];refine mK_ (s5.mono p9) λHA pA=>?_;simp only[aJ_,ak_];rw[ay_ rfl];refine lv_ λH' _=>?_;simp only[aJ_,ak_];exact hQ H'
end
end Go.Am
