import Derived.Test.YtjbgjfikgpffmaaGreatM12
set_option linter.all false
set_option autoImplicit true
set_option relaxedAutoImplicit true
set_option maxRecDepth 100000
namespace Go.Am
open List
structure FR(H:Hp)(le lf n:Nat)(c0:GV)(ws rest:List Int):Prop where
 wr:H[le]?=some (.row true iA_ [c0,.sl (some (lf,0)) n 1])
 row:H[lf]?=some (.row true tI ((ws++rest).map (GV.int .i64)))
 len:ws.length=n
 lim:n<=1000
section
variable{H:Hp}{le lf n:Nat}{c0:GV}{ws rest:List Int}{Q:Post}
theorem FR.ne(h:FR H le lf n c0 ws rest):le≠lf:=λe=>by
 have D:=h.wr;have A:=h.row;grind
theorem FR.gt(h:FR H le lf n c0 ws rest):Am.gt H le 1=some (.sl (some (lf,0)) n 1):=by rw[aX_ h.wr];rfl
theorem FR.is(h:FR H le lf n c0 ws rest):Is H (some (lf,0)) n ws:=by
 have e:=h.len;have l:=h.lim;refine⟨?_,e.symm,o_⟩;simp[cells?,h.row];grind
theorem FR.set(h:FR H le lf n c0 ws rest)(D:ws'.length=ws.length):FR (H.set lf (.row true tI ((ws'++rest).map (GV.int .i64)))) le lf n c0 ws' rest:=
 ⟨by rw[kF (Ne.symm h.ne)];exact h.wr,kH (kC.1 h.row).1,by rw[D];exact h.len,h.lim⟩
theorem sQ_(h:FR H le lf n c0 ws rest)(hi:i<n)(A:j<n)(D:∀b,Q (gB b) H):cI_ [nL (some (lf,0)) n 1,gI (i:Int),gI (j:Int)] H Q:=by
 have e:=h.len;refine⟨1,?_⟩;rw[o5_,af_,h.is.rd i rfl o_,af_,h.is.rd j rfl o_];grind
theorem Ej_(hi:i<ws.length):((ws++rest).map (GV.int .i64)).set i (.int .i64 x)=((ws.set i x)++rest).map (GV.int .i64):=by
 simp_all
theorem sr_(h:FR H le lf n c0 ws rest)(hi:i<n)(J:j<n)(N:∀A,A.Perm ws->Q (.tup []) (H.set lf (.row true tI ((A++rest).map (GV.int .i64))))):
 cq_ [nL (some (lf,0)) n 1,gI (i:Int),gI (j:Int)] H Q:=by
 have e:=h.len;have ei:tN (i:Int)=i:=rfl;have I:tN (j:Int)=j:=rfl;refine⟨1,?_⟩;rw[o4_,af_,h.is.rd j rfl o_,af_,h.is.rd i rfl o_,af_];refine ab_ (by simp_all) ?_;refine ca_ h.row s_ ?_;rw[Ej_ o_,af_];refine ab_ s_ ?_;refine ca_ (kH ((kC.1 h.row).1)) s_ ?_;rw[set_set,Ej_ s_];grind
theorem JF_ {j:Nat} (h:j<=1000):ad_ .i64 (Int.tdiv (ad_ .i64 ((j:Int)-1)) 2)=(((j-1) / 2:Nat):Int):=by
 cases j with
 |zero=>decide
 |succ j=>
  have e:((j+1:Nat))-1=(j:Int):=by omega
  rw[e,b7_ (n:=(j:Int)) o_ o_];have A:Int.tdiv (j:Int) 2=((j / 2:Nat):Int):=rfl;rw[A,b7_ o_ o_];rfl
theorem qA_:∀(f j:Nat){H:Hp}{D:List Int},j<f->FR H le lf n c0 D rest->j<n->(∀A,A.Perm D->Q (.tup []) (H.set lf (.row true tI ((A++rest).map (GV.int .i64)))))->gh_.l0 f (some (le,1)) (j:Int) H Q
 |0,j,_,_,h,_,_,_=>by omega
 | f+1,j,H,D,Y,h,F,V=>by
  have l:=h.lim;have stay:Q (.tup []) H:=by
   have:=V D (Perm.refl _);rwa [lp_ h.row]at this
  rw[gh_.l0_eq,JF_ o_];refine aa_ (λ_=>stay) λe=>?_;have J:(j-1) / 2<j:=by
   have W:((j-1) / 2)≠j:=by
    intro q;rw[iB_,q]at e;simp at e
   omega
  rw[ae_,ac_ h.gt,ah_];refine sQ_ h F o_ λb=>aa_ (λ_=>stay) λ_=>?_;rw[ae_,ac_ h.gt,ah_];refine sr_ h o_ F λA N=>qA_ f _ o_ (h.set N.length_eq) o_ λO U=>?_;rw[set_set];grind
theorem H5_(h:FR H le lf n c0 ws rest)(F:j<n)(I:∀A,A.Perm ws->Q (.tup []) (H.set lf (.row true tI ((A++rest).map (GV.int .i64))))):gh_ [.g (.iface sT_ (.ptr (some (le,1)))),gI (j:Int)] H Q:=⟨j+2,qA_ (j+1) j o_ h F I⟩
theorem nh_ {m:Nat}:∀(f i:Nat){H:Hp}{ws:List Int},2*(m-i)+1<=f->FR H le lf n c0 ws rest->i<=n->m<=n->(∀b ws',ws'.Perm ws->Q (gB b) (H.set lf (.row true tI ((ws'++rest).map (GV.int .i64)))))->∀i0,ch_.l2 f (some (le,1)) i0 (m:Int) (i:Int) H Q
 |0,i,_,_,h,_,_,_,_=>by omega
 | f+1,i,H,ws,hf,h,hi,hm,hQ=>λi0=>by
  have l:=h.lim;have stay:∀b,Q (gB b) H:=λb=>by
   have:=hQ b ws (Perm.refl _);rwa [lp_ h.row]at this
  have e1:ad_ .i64 (ad_ .i64 (2*(i:Int))+1)=((2*i+1:Nat):Int):=by
   rw[b7_ (n:=2*(i:Int)) o_ o_,b7_ o_ o_];omega
  have e2:ad_ .i64 (((2*i+1:Nat):Int)+1)=((2*i+2:Nat):Int):=by rw[b7_ o_ o_];omega
  have j8:∀(j:Nat),i<j->j<m->ch_.l8 f (some (le,1)) i0 (m:Int) (i:Int) (j:Int) H Q:=λj hij hjm=>by
   cases f with
   |zero=>omega
   |succ f=>
    rw[ch_.l8_eq,ae_,ac_ h.gt,ah_];refine sQ_ h o_ o_ λb=>?_;simp only[aO_,ao_];refine aa_ (λ_=>stay _) λ_=>?_;rw[ae_,ac_ h.gt,ah_];refine sr_ h o_ o_ λws' hp=>?_;refine nh_ f j o_ (h.set hp.length_eq) o_ hm (λb ws2 hp2=>?_) _;rw[set_set];exact hQ b ws2 (hp2.trans hp)
  rw[ch_.l2_eq,e1,e2];refine aa_ (λ_=>stay _) λc1=>aa_ (λ_=>stay _) λc2=>aa_ (λc3=>?_) λc3=>?_
  .have c3:2*i+2<m:=by simp at c3;omega
   rw[ae_,ac_ h.gt,ah_];refine sQ_ h o_ o_ λb=>?_;simp only[aO_,ao_];refine aa_ (λ_=>j8 _ o_ o_) λ_=>j8 _ o_ o_
  .exact j8 _ o_ (by simp at c1;omega)
theorem Fg_(h:FR H le lf n c0 ws rest)(F:m<=n)(I:∀b A,A.Perm ws->Q (gB b) (H.set lf (.row true tI ((A++rest).map (GV.int .i64))))):ch_ [.g (.iface sT_ (.ptr (some (le,1)))),gI 0,gI (m:Int)] H Q:=by
 refine⟨2*m+2,?_⟩;rw[z6_];exact nh_ (2*m+1) 0 o_ h o_ F I 0
theorem Cm_(A:Q (gI (n:Int)) H):de_ [nL a n 1] H Q:=⟨1,A⟩
theorem GL_ (h:FR H le lf n c0 ws rest) (J:1<=n) (D:∀x A,ws=A++[x]->Q (.g (.iface 3 (.int .i64 x))) (H.set le (.row true iA_ [c0,.sl (some (lf,0)) (n-1) 1]))):ek_ [gP (some (le,1))] H Q:=by
 have e:=h.len;have l:=h.lim;have I:ad_ .i64 (nI n-1)=((n-1:Nat)):=by
  have:nI n-1=((n-1:Nat)):=by rw[i9_];omega
  rw[this];exact b7_ o_ o_
 refine⟨1,?_⟩;rw[pU_,ae_,ac_ h.gt,ah_,ae_,ac_ h.gt,ah_,I,af_,h.is.rd (n-1) rfl o_,ae_,ac_ h.gt,ah_,af_,(rfl:tN ((n-1:Nat):Int)=n-1)];refine ab_ t_ (ab_ t_ (ca_ h.wr t_ ?_));have F:ws=ws.take (n-1)++[ws[n-1]'o_]:=by
  rw[<-take_succ_eq_append_getElem o_,k7 o_]
 exact D _ _ F
theorem xH_ (h:FR H le lf n c0 ws rest) (N:1<=n) (W:∀x A,(A++[x]).Perm ws->∀H',FR H' le lf (n-1) c0 A (x::rest)->H'.length=H.length->(∀l,l≠le->l≠lf->H'[l]?=H[l]?)->Q (.g (.iface 3 (.int .i64 x))) H'):iK_ [.g (.iface sT_ (.ptr (some (le,1))))] H Q:=by
 have l:=h.lim;have U:ad_ .i64 (n-1)=((n-1:Nat)):=by
  have:n-1=((n-1:Nat):Int):=by omega
  rw[this];exact b7_ o_ o_
 refine⟨1,?_⟩;rw[BY_,ae_,ac_ h.gt,ah_];refine Cm_ ?_;simp only[aO_,aj_];rw[ae_,ac_ h.gt,ah_,U];refine sr_ (i:=0) h o_ o_ λO I=>?_;have J:=h.set I.length_eq;refine Fg_ J o_ λb V F=>?_;have D:=J.set F.length_eq;refine GL_ D N λx A e=>?_;refine W x A (by rw[<-e];exact F.trans I) _ ⟨kH ((kC.1 D.wr).1),?_,?_,o_⟩ t_ λl Y Z=>?_;rw[kF h.ne,D.row,e];simp;have:=D.len;grind;grind
end
def FA(H:Hp)(b le:Nat)(c0:GV)(fa:Pl)(ws:List Int):Prop:=
 (fa=none/\ws=[]/\H[le]?=some (.row true iA_ [c0,.sl none 0 1]))\/∃lf,fa=some (lf,0)/\b<=lf/\FR H le lf ws.length c0 ws []
section
variable{H:Hp}{b le:Nat}{c0:GV}{fa:Pl}{ws:List Int}{Q:Post}
theorem vF_ {x:Int} (h:FA H b le c0 fa ws) (hb:b<=H.length) (hl:ws.length<1000) (hQ:∀D A H',A.Perm (ws++[x])->FA H' b le c0 (some (D,0)) A->H.length<=D->D<H'.length->(∀l,l<H.length->l≠le->(∀o,fa≠some (l,o))->H'[l]?=H[l]?)->Q (.tup []) H'):
 iq_ [.g (.iface sT_ (.ptr (some (le,1)))),.g (.iface 3 (.int .i64 x))] H Q:=by
 have key:∀(J:Hp),J.length=H.length+1->(∀l,l<H.length->l≠le->(∀o,fa≠some (l,o))->J[l]?=H[l]?)->FR J le H.length (ws.length+1) c0 (ws++[x]) []->
  (pS (some (le,1)) λn2 n3=>rd J n2 n3 λv4=>dL 1 v4 λx5 n6=>cl de_ [(nL x5 n6 1)] J λr7 H8=>rG r7 λv9=>dI .i64 v9 λi10=>cl gh_ [(.g (.iface sT_ (.ptr (some (le,1))))),(gI (ad_ .i64 (i10-1)))] H8 λr11 H12=>Q (.tup []) H12):=λJ hlen hk h1=>by
  rw[ae_,ac_ h1.gt,ah_];refine Cm_ ?_;simp only[aO_,aj_];have e0:ad_ .i64 (((ws.length+1:Nat):Int)-1)=(ws.length:Int):=by
   have:((ws.length+1:Nat):Int)-1=(ws.length:Int):=by omega
   rw[this];exact b7_ o_ o_
  rw[e0];refine H5_ h1 o_ λA Z=>?_;have h2:=h1.set Z.length_eq;have el:A.length=ws.length+1:=by rw[Z.length_eq];simp
  refine hQ H.length A _ Z (.inr ⟨_,rfl,hb,by rw[el];exact h2⟩) (kO _) s_ λl N O V=>?_;rw[kF o_];exact hk l N O V
 refine⟨1,?_⟩;rw[zA_];rcases h with⟨rfl,rfl,Y⟩|⟨D,rfl,hbl,U⟩
 .have I:=(kC.1 Y).1;have g1:gt H le 1=some (.sl none 0 1):=by rw[aX_ Y];rfl
  refine⟨1,?_⟩;rw[jl_,ae_,ac_ g1,ah_];refine⟨rfl,?_⟩;simp only[aj_];have F:(H++[Obj.row true 3 [.int .i64 x]])[le]?=some (.row true iA_ [c0,.sl none 0 1]):=by rw[kM I];exact Y
  refine ca_ F t_ ?_;refine key _ t_ (λl N O V=>by rw[kF (Ne.symm O),kM N]) ⟨kH s_,?_,t_,t_⟩;rw[kF o_];simp
 ·have I:=(kC.1 U.wr).1;have g1:=U.gt;have hne:=U.ne;refine⟨1,?_⟩;rw[jl_,ae_,ac_ g1,ah_];refine⟨rfl,?_⟩;simp only[aj_];have hr:=U.row;rw[append_nil]at hr;have W:app? H 3 1 8 (some (D,0)) ws.length [.int .i64 x] 1=some (some (H.length,0),ws.length+1,(H.set D .dead)++[.row true 3 (ws.map (GV.int .i64)++[.int .i64 x])]):=by
   unfold app?;rw[if_pos ⟨by unfold Lim;omega,rfl⟩];simp only[hr];rw[if_pos ⟨trivial,trivial,t_⟩]
  unfold ap;rw[W];have F:((H.set D .dead)++[Obj.row true 3 (ws.map (GV.int .i64)++[.int .i64 x])])[le]?=some (.row true iA_ [c0,.sl (some (D,0)) ws.length 1]):=by
   rw[kM (by simpa using I),kF (Ne.symm hne)];exact U.wr
  refine ca_ F t_ ?_;refine key _ t_ (λl N O V=>?_) ⟨kH s_,?_,t_,o_⟩
  .rw[kF (Ne.symm O),kM (by simpa using N),kF λe=>V 0 (by rw[e])]
  .rw[kF o_];simp
end
structure GT(B H:Hp)(tp:Nat)(ds:List PC)(T:List Pg)(X:Nat->Prop)(off:Nat->Prop):Prop where
 pre:B<+:H
 ot:OT H B.length tPg (some (tp,0)) 48 ds T
 wo:∀i (h:i<ds.length),WoP H B.length 1000 ds[i]
 base:∀i (h:i<ds.length) l,(ds[i]).on l->B.length<=l
 own:∀i (h:i<ds.length) (h':i<T.length),X i->(ds[i]).own H B.length T[i]
 ap:∀i j (hi:i<ds.length) (hj:j<ds.length),i≠j->∀l,(ds[i]).on l-> ¬ (ds[j]).on l
 off:∀l,off l->B.length<=l/\l≠tp/\∀i (h:i<ds.length),¬ (ds[i]).on l
section
variable{B H H':Hp}{tp:Nat}{ds:List PC}{T:List Pg}{X X' off off':Nat->Prop}{i:Nat}{c:PC}{p:Pg}
theorem GT.onlt(g:GT B H tp ds T X off)(i:Nat)(h:i<ds.length)(A:(ds[i]).on l):l<H.length:=g.ot.onlt (kE h) A
theorem GT.keep (g:GT B H tp ds T X off) (F:∀l,l<H.length-> ¬ off l->H'[l]?=H[l]?) (I:H.length<=H'.length):GT B H' tp ds T X off:=by
 have on:=λi h l A=>F l (g.onlt i h A) λq=>(g.off l q).2.2 i h A;have⟨Y,N⟩:=g.ot.at_row;have V:=F tp (kC.1 N).1 λq=>(g.off tp q).2.1 rfl;have D:B<+:H':=by
  rw[prefix_iff_eq_take];apply ext_getElem?;intro l;rw[getElem?_take];split;rename_i A;have:=g.pre.length_le;rw[F l o_ (λh=>by have:=(g.off l h).1;omega),a9_ g.pre A];grind
 refine⟨D,g.ot.keep (λl e=>by grind) λc U l A=>?_,λi h=>(g.wo i h).keepOn (on i h),g.base,λi h O J=>(g.own i h O J).keep (on i h),g.ap,g.off⟩;obtain⟨i,W,rfl⟩:=kK U;grind
theorem GT.mono(g:GT B H tp ds T X off)(A:H<+:H'):GT B H' tp ds T X off:=g.keep (λl D _=>a9_ A D) A.length_le
theorem GT.reoff(g:GT B H tp ds T X off)(h:∀l,off' l->B.length<=l/\l≠tp/\∀i (h:i<ds.length),¬ (ds[i]).on l):GT B H tp ds T X off':=⟨g.pre,g.ot,g.wo,g.base,g.own,g.ap,h⟩
theorem GT.weak(g:GT B H tp ds T X off)(h:∀i,X' i->X i):GT B H tp ds T X' off:=⟨g.pre,g.ot,g.wo,g.base,λi D F A=>g.own i D F (h i A),g.ap,g.off⟩
theorem GT.turn (g:GT B H tp ds T X off) (hi:i<ds.length) (hlen:H.length<=H'.length) (F:∀l,l<H.length-> ¬ (ds[i]).on l->l≠tp-> ¬ off l->H'[l]?=H[l]?)
 (W:H'[tp]?=some (.row true tPg (aY_ (ds.set i c)))) (hc:c.at H' p) (hw:WoP H' B.length 1000 c)
 (N:∀l,c.on l->l≠tp/\ ¬ off l/\B.length<=l/\∀j (Y:j<ds.length),j≠i-> ¬ (ds[j]).on l) (hX:∀j,X' j->(j=i/\c.own H' B.length p)\/(j≠i/\X j)):
 GT B H' tp (ds.set i c) (T.set i p) X' off:=by
 have q1:=g.ot.len;have⟨hb,hr⟩:=g.ot.at_row;have htp:=(kC.1 hr).1;have D:=λj h O l A=>F l (g.onlt j h A) (g.ap j i h hi O l A) (λe=>g.ot.off _ (kE h) l A (by rw[e])) λq=>(g.off l q).2.2 j h A;have U:B<+:H':=by
  rw[prefix_iff_eq_take];apply ext_getElem?;intro l;rw[getElem?_take];split;rename_i A;rw[F l o_ (λh=>by have:=g.base i hi l h;omega) o_ (λh=>by have:=(g.off l h).1;omega),a9_ g.pre A];exact getElem?_eq_none o_
 refine⟨U,⟨.inr ⟨tp,rfl,hb,W,by rw[ct_];simp[q1]⟩,by simp[q1],by simp[g.ot.lenT],λj I J=>?_,λd hd l A e=>?_⟩,λj h=>?_,λj h l A=>?_,λj h h' hx=>?_,λj k Y Z O l I J=>?_,λl A=>?_⟩;rw[getElem_set,getElem_set];by_cases e:i=j;rw[if_pos e,if_pos e];exact hc;rw[if_neg e,if_neg e];simp at I J;exact (g.ot.all j I J).keep (D j I (Ne.symm e));cases e;rcases mem_or_eq_of_mem_set hd with q|q;exact g.ot.off d q tp A rfl;subst q;exact (N tp A).1 rfl;rw[getElem_set];by_cases e:i=j;rw[if_pos e];exact hw;rw[if_neg e];simp at h;exact (g.wo j h).keepOn (D j h (Ne.symm e));rw[getElem_set]at A;by_cases e:i=j;rw[if_pos e]at A;exact (N l A).2.2.1;rw[if_neg e]at A;simp at h;exact g.base j h l A;rw[getElem_set,getElem_set];rcases hX j hx with⟨e,ho⟩|⟨e,hx'⟩;rw[if_pos e.symm,if_pos e.symm];exact ho;rw[if_neg (Ne.symm e),if_neg (Ne.symm e)];simp at h h';exact (g.own j h h' hx').keep (D j h e);rw[getElem_set]at I J;simp at Y Z;by_cases e1:i=j;rw[if_pos e1]at I;by_cases V:i=k;omega;rw[if_neg V]at J;exact (N l I).2.2.2 k Z (Ne.symm V) J;rw[if_neg e1]at I;by_cases V:i=k;rw[if_pos V]at J;exact (N l J).2.2.2 j Y (Ne.symm e1) I;rw[if_neg V]at J;exact g.ap j k Y Z O l I J;have⟨o1,o2,o3⟩:=g.off l A;grind
theorem GT.gt(g:GT B H tp ds T X off)(hi:i<ds.length)(A:j<5):Am.gt H tp (i*5+j)=(ds[i]).cells[j]? :=by
 rw[aX_ g.ot.at_row.2];exact jX_ hi A
theorem GT.cells(g:GT B H tp ds T X off)(hi:i<ds.length):Am.gt H tp (0+i*5)=some (.bool ds[i].u)/\Am.gt H tp (0+i*5+1)=some (.bool ds[i].l)/\Am.gt H tp (0+i*5+2)=some (.sl ds[i].a1 ds[i].n1 1)/\Am.gt H tp (0+i*5+3)=some (.sl ds[i].a2 ds[i].n2 1)/\Am.gt H tp (0+i*5+4)=some (.sl ds[i].a3 ds[i].n3 1):=by
 rw[kN];exact⟨g.gt hi (j:=0) o_,g.gt hi o_,g.gt hi o_,g.gt hi o_,g.gt hi o_⟩
end
def yd_(le:Nat)(fa:Pl)(l:Nat):Prop:=l=le\/∃o,fa=some (l,o)
structure WM(B H:Hp)(le tp:Nat)(ds:List PC)(T:List Pg)(X:Nat->Prop)(fa:Pl)(ws:List Int):Prop where
 g:GT B H tp ds T X (yd_ le fa)
 fre:(fa=none/\ws=[]/\H[le]?=some (.row true iA_ [.sl (some (tp,0)) 48 5,.sl none 0 1]))\/∃lf rest,fa=some (lf,0)/\FR H le lf ws.length (.sl (some (tp,0)) 48 5) ws rest
section
variable{B H H':Hp}{le tp:Nat}{ds:List PC}{T:List Pg}{X X':Nat->Prop}{fa:Pl}{ws:List Int}{i:Nat}{c:PC}{p:Pg}{Q:Post}
theorem WM.gtE(m:WM B H le tp ds T X fa ws):Am.gt H le 0=some (.sl (some (tp,0)) 48 5):=by
 rcases m.fre with⟨_,_,h⟩|⟨D,A,_,h⟩;rw[aX_ h];rfl;rw[aX_ h.wr];rfl
theorem WM.le_lt(m:WM B H le tp ds T X fa ws):le<H.length:=by
 rcases m.fre with⟨_,_,h⟩|⟨D,A,_,h⟩;grind;exact (kC.1 h.wr).1
theorem WM.off_lt(m:WM B H le tp ds T X fa ws)(h:yd_ le fa l):l<H.length:=by
 rcases h with rfl|⟨o,e⟩;exact m.le_lt;rcases m.fre with⟨q,_,_⟩|⟨D,A,q,h⟩;grind;rw[q]at e;cases e;exact (kC.1 h.row).1
theorem Cc_(m:WM B H le tp ds T X fa ws)(F:∀l,yd_ le fa l->H'[l]?=H[l]?):
 (fa=none/\ws=[]/\H'[le]?=some (.row true iA_ [.sl (some (tp,0)) 48 5,.sl none 0 1]))\/∃D A,fa=some (D,0)/\FR H' le D ws.length (.sl (some (tp,0)) 48 5) ws A:=by
 rcases m.fre with⟨e,I,h⟩|⟨D,A,e,h⟩;exact .inl ⟨e,I,by rw[F le (.inl rfl)];exact h⟩;exact .inr ⟨D,A,e,⟨by rw[F le (.inl rfl)];exact h.wr,by rw[F D (.inr ⟨0,e⟩)];exact h.row,h.len,h.lim⟩⟩
theorem WM.mono(m:WM B H le tp ds T X fa ws)(A:H<+:H'):WM B H' le tp ds T X fa ws:=⟨m.g.mono A,Cc_ m λl D=>a9_ A (m.off_lt D)⟩
theorem WM.weak(m:WM B H le tp ds T X fa ws)(h:∀i,X' i->X i):WM B H le tp ds T X' fa ws:=⟨m.g.weak h,m.fre⟩
theorem WM.turn(m:WM B H le tp ds T X fa ws)(hi:i<ds.length)(F:H.length<=H'.length)(A:∀l,l<H.length-> ¬ (ds[i]).on l->l≠tp->H'[l]?=H[l]?)
 (D:H'[tp]?=some (.row true tPg (aY_ (ds.set i c)))) (W:c.at H' p) (V:WoP H' B.length 1000 c)
 (J:∀l,c.on l->l≠tp/\ ¬ yd_ le fa l/\B.length<=l/\∀j (Z:j<ds.length),j≠i-> ¬ (ds[j]).on l) (Y:∀j,X' j->(j=i/\c.own H' B.length p)\/(j≠i/\X j)):
 WM B H' le tp (ds.set i c) (T.set i p) X' fa ws:=
 ⟨m.g.turn hi F (λl N O U _=>A l N O U) D W V J Y,Cc_ m λl I=>A l (m.off_lt I) ((m.g.off l I).2.2 i hi) (m.g.off l I).2.1⟩
theorem WM.lay(m:WM B H le tp ds T X fa ws)(hi:i<ds.length)(V:c.at H p)(O:WoP H B.length 1000 c)(A:∀l,c.on l->l≠tp/\ ¬ yd_ le fa l/\B.length<=l/\∀j (J:j<ds.length),j≠i-> ¬ (ds[j]).on l)
 (Y:∀H',WM B H' le tp (ds.set i c) (T.set i p) (λj=>j≠i/\X j) fa ws->H'.length=H.length->(∀l,l≠tp->H'[l]?=H[l]?)->K H'):
 wr H tp (0+i*5) (.bool c.u) λU=>wr U tp (0+i*5+1) (.bool c.l) λW=>wr W tp (0+i*5+1+1) (.sl c.a1 c.n1 1) λZ=>wr Z tp (0+i*5+1+1+1) (.sl c.a2 c.n2 1) λN=>wr N tp (0+i*5+1+1+1+1) (.sl c.a3 c.n3 1) K:=by
 have⟨hb,I⟩:=m.g.ot.at_row;rw[kN];have F:∀l,l≠tp->(H.set tp (.row true tPg (aY_ (ds.set i c))))[l]?=H[l]? :=λl D=>by grind
 refine wr5 I hi (Y _ (m.turn hi t_ (λl _ _ D=>F l D) (kH ((kC.1 I).1)) (V.keep λl D=>F l (A l D).1) (O.keepOn λl D=>F l (A l D).1) A λj J=> .inr J) t_ F)
theorem WM.pop(m:WM B H le tp ds T X fa ws)(V:ws≠[])(W:∀x A H',(A++[x]).Perm ws->WM B H' le tp ds T X fa A->H'.length=H.length->(∀l,¬ yd_ le fa l->H'[l]?=H[l]?)->Q (.g (.iface 3 (.int .i64 x))) H'):
 iK_ [.g (.iface sT_ (.ptr (some (le,1))))] H Q:=by
 rcases m.fre with⟨_,e,_⟩|⟨O,F,e,h⟩;grind;refine xH_ h (length_pos_iff.2 V) λx A U H' J I N=>?_;refine W x A H' U ⟨m.g.keep (λl _ D=>N l (λq=>D (.inl q)) λq=>D (.inr ⟨0,g_⟩)) o_,.inr ⟨O,x::F,e,by rw[J.len];exact J⟩⟩ I λl D=>N l (λq=>D (.inl q)) λq=>D (.inr ⟨0,by rw[e,q]⟩)
theorem BI_(m:WM B H le tp ds T X fa ws)(U:ws≠[])(F:∀x∈ws,0<=x/\x<48)
 (V:∀(x:Int)(A:List Int) H',(A++[x]).Perm ws->WM B H' le tp ds T X fa A->H'.length=H.length->(∀l,¬ yd_ le fa l->H'[l]?=H[l]?)->Q (gI x) (H'.set tp (.row true tPg (aY_ (ds.set x.toNat c))))):
 cd_ [yQ le,.agg [.bool c.u,.bool c.l,.sl c.a1 c.n1 1,.sl c.a2 c.n2 1,.sl c.a3 c.n3 1]] H Q:=by
 have Y:=m.g.ot.len;refine⟨1,?_⟩;rw[mN_,ae_,kN];refine m.pop U λx A N J I D O=>?_;have⟨W,Z⟩:=F x (J.mem_iff.1 t_);refine⟨rfl,?_⟩;simp only[aj_];rw[ae_,kQ,ac_ I.gtE,ah_,af_];refine ab_ (by simp_all) ?_;rw[ae_,kN];have ex:tN x=x.toNat:=rfl;exact wr5 I.g.ot.at_row.2 o_ (V x A N J I D O)
theorem Fn_ (m:WM B H le tp ds T X fa ws) (hn:ws≠[]) (F:∀x∈ws,0<=x/\x<48) (hc:c.at H p) (hw:WoP H B.length 1000 c)
 (V:∀l,c.on l->l≠tp/\ ¬ yd_ le fa l/\B.length<=l/\∀j (W:j<ds.length),¬ (ds[j]).on l)
 (hQ:∀(x:Int)(A:List Int) H',(A++[x]).Perm ws->WM B H' le tp (ds.set x.toNat c) (T.set x.toNat p) (λj=>j≠x.toNat/\X j) fa A->H'.length=H.length->(∀l,¬ yd_ le fa l->l≠tp->H'[l]?=H[l]?)->Q (gI x) H'):
 cd_ [yQ le,.agg [.bool c.u,.bool c.l,.sl c.a1 c.n1 1,.sl c.a2 c.n2 1,.sl c.a3 c.n3 1]] H Q:=by
 have q1:=m.g.ot.len;refine BI_ m hn F λx A O hp m1 I Y=>?_;have⟨x1,x2⟩:=F x (hp.mem_iff.1 t_);have J:∀l,l≠tp->(O.set tp (.row true tPg (aY_ (ds.set x.toNat c))))[l]?=O[l]? :=λl D=>by rw[kF (Ne.symm D)]
 have Z:∀l,c.on l->(O.set tp (.row true tPg (aY_ (ds.set x.toNat c))))[l]?=H[l]? :=λl D=>by
  have⟨N,U,_,_⟩:=V l D;rw[J l N,Y l U]
 refine hQ x A _ hp (m1.turn o_ t_ (λl _ _ D=>J l D) (kH ((kC.1 m1.g.ot.at_row.2).1)) (hc.keep Z) (hw.keepOn Z) (λl D=>?_) λj W=> .inr W) (by simp[I]) λl N U=>by rw[J l U,Y l N]
 grind
end
section
variable{H:Hp}{Q:Post}{b n i:Nat}{a:Pl}
theorem Own.ge(h:Own H b t a n cs)(e:a=some (l,o)):b<=l:=by
 rcases h with⟨q,_⟩|⟨m,q,A,_⟩;grind;grind
theorem sJ_{xs:List Y_}(h:Own H b tS a n (xs.map GV.str))(A:b<=H.length)(hi:i<=n)(F:n<=1000)
 (D:∀H',Jo_ H a H'->Own H' b tS (some (H.length+1,0)) (n+1) ((xs.take i++s::xs.drop i).map GV.str)->Q (nL (some (H.length+1,0)) (n+1) 1) H'):
 slices_Insert__string_string [nL a n 1,gI (i:Int),nL (some (ln H,0)) 1 1] (pu H (.row false my_ [.str s])) Q:=by
 refine vb_ (by rwa [Nat.mul_one]) (kO _) rfl A hi (by unfold Lim;omega) λH' q o=>D H' q ?_;simp_all
theorem Fh_{xs:List Int}(h:Own H b tI a n (xs.map (GV.int .i64)))(A:b<=H.length)(hi:i<=n)(F:n<=1000)
 (D:∀H',Jo_ H a H'->Own H' b tI (some (H.length+1,0)) (n+1) ((xs.take i++s::xs.drop i).map (GV.int .i64))->Q (nL (some (H.length+1,0)) (n+1) 1) H'):
 slices_Insert__int_int [nL a n 1,gI (i:Int),nL (some (ln H,0)) 1 1] (pu H (.row false my_ [.int .i64 s])) Q:=by
 refine vb_ (by rwa [Nat.mul_one]) (kO _) rfl A hi (by unfold Lim;omega) λH' q o=>D H' q ?_;simp_all
end
section
variable{H:Hp}{Q:Post}{u l:Bool}{a1:Pl}{n1:Nat}{a2:Pl}{n2:Nat}{a3:Pl}{n3:Nat}{p:Pg}
theorem Db_(D:iP_ p)(h:p.keys.length<=5):small p:=by
 refine⟨λs F=>by have:=(D.keys s F).2;omega,λs F=>?_,o_,?_,?_⟩;cases A:p.leaf with
 |true=>have:=(D.leaf A).2.2 s F;omega
 |false=>rw[(D.inner A).2.1]at F;cases F
 cases A:p.leaf with
 |true=>have:=(D.leaf A).1;omega
 |false=>rw[(D.inner A).2.1];simp
 cases A:p.leaf with
 |true=>rw[(D.leaf A).2.1];simp
 |false=>have:=(D.inner A).2.2.1;omega
theorem u0_ (h:jn_ H u l a1 n1 a2 n2 a3 n3 p) (F:iP_ p)
 (hQ1:p.keys.length≠5->Q (.tup [.a [.bool false,.bool false,.sl none 0 1,.sl none 0 1,.sl none 0 1],.s (.str (mkS [])),.a [.bool false,.bool false,.sl none 0 1,.sl none 0 1,.sl none 0 1],nN 900]) H)
 (J:p.keys.length=5->∀(I:b3_ p<p.keys.length)(c d:PC) H',H<+:H'->c.at H' (eX_ p (b3_ p))->d.at H' (eD_ p (b3_ p))->WoP H' H.length 1000 c->WoP H' H.length 1000 d->(∀m,c.on m->H.length<=m/\ ¬ d.on m)->(∀m,d.on m->H.length<=m)->
  Q (.tup [.a [.bool c.u,.bool c.l,.sl c.a1 c.n1 1,.sl c.a2 c.n2 1,.sl c.a3 c.n3 1],.s (.str p.keys[b3_ p]),.a [.bool d.u,.bool d.l,.sl d.a1 d.n1 1,.sl d.a2 d.n2 1,.sl d.a3 d.n3 1],nN 0]) H'):
 dg_ [.agg [.bool u,.bool l,.sl a1 n1 1,.sl a2 n2 1,.sl a3 n3 1]] H Q:=by
 have e1:=h.keys.len;have O:=h.leaf;refine⟨2,?_⟩;rw[xS_];by_cases Y:p.keys.length=5
 rotate_left
 rw[az_ s_];grind;rw[aA_ s_];refine nU_ h λbb Z N hb=>?_;simp[aO_];rw[hb.2 F,aA_ t_];have I:b3_ p<p.keys.length:=by unfold b3_;cases p.leaf<;>simp<;>omega
 have key:dg_.l6 1 u l a1 n1 a2 n2 a3 n3 false false none 0 none 0 none 0 false false none 0 none 0 none 0 (b3_ p) Z Q:=by
  rw[dg_.l6_eq];refine uh_ (h.mono N) (Db_ F o_) I (λe=>(F.leaf e).1) (λe=>(F.inner e).2.2.1) λc d H2 p2 hc hd wc W U V=>?_;simp[aN_];have A:=N.length_le;exact J Y I c d H2 (N.trans p2) hc hd (wc.base A) (W.base A) (λm D=>⟨Nat.le_trans A (U m D).1,(U m D).2⟩) λm D=>Nat.le_trans A (V m D)
 cases e:l with
 |true=>
  subst e;rw[az_ rfl];have:(b3_ p:Int)=3:=by unfold b3_;rw[O];rfl
  grind
 |false=>
  subst e;rw[aA_ rfl];have:(b3_ p:Int)=2:=by unfold b3_;rw[O];rfl
  grind
end
section
variable{B H:Hp}{le tp:Nat}{ds:List PC}{T:List Pg}{X:Nat->Prop}{fa:Pl}{ws:List Int}{i:Nat}{p:Pg}{Q:Post}{key v:Y_}
theorem B0_ (m:WM B H le tp ds T X fa ws) (hp:T[i]?=some p) (hf:iP_ p) (hws:∀x∈ws,1<=x/\x<48) (hx:∀x∈ws,x.toNat≠i) (hne:p.keys.length=5->ws≠[])
 (hQ1:p.keys.length≠5->Q (gP none) H)
 (hQ2:p.keys.length=5->∀(hk:b3_ p<p.keys.length)(x:Int)(init:List Int) H' ds' lq,(init++[x]).Perm ws->WM B H' le tp ds' ((T.set i (eX_ p (b3_ p))).set x.toNat (eD_ p (b3_ p))) (λj=>j≠x.toNat/\j≠i/\X j) fa init->
  H'[lq]?=some (.row true xe_ [.str p.keys[b3_ p],.int .i64 x])->H.length<=lq->Q (yQ lq) H'):
 bT_ [yQ le,gI (i:Int)] H Q:=by
 have q1:=m.g.ot.len;have q2:=m.g.ot.lenT;have hiT:=(kC.1 hp).1;have eT:T[i]'hiT=p:=(kC.1 hp).2;have hi:i<ds.length:=by omega
 obtain⟨a0,a1,a2,a3,a4⟩:=m.g.cells hi;have hat:=m.g.ot.all i hi hiT;rw[eT]at hat;have ei:tN (i:Int)=i:=rfl;refine⟨1,?_⟩;rw[k8_,ae_,kQ,ac_ m.gtE,ah_,af_];refine ab_ s_ ?_;rw[ae_,ei,cz_ a0 a1 a2 a3 a4];refine u0_ hat hf (λh5=>?_) λh5 hk c d H1 p1 hc hd wc wd oc od=>?_
 .simp only[aN_,aJ_,e1_,bl_,ao_,ah_,bV_,bK_,aq_,aj_,bh_];rw[az_ d_];exact hQ1 h5
 ·simp only[aN_,aJ_,e1_,bl_,ao_,ah_,bV_,bK_,aq_,aj_,bh_];rw[aA_ d_];have m1:=m.mono p1;have hBH:=m.g.pre.length_le;have l1:=p1.length_le;have htp:=(kC.1 m.g.ot.at_row.2).1;rw[ae_,kQ,ac_ m1.gtE,ah_,af_];refine ab_ s_ ?_;rw[ae_];refine m1.lay (i:=i) (c:=c) (p:=eX_ p (b3_ p)) hi hc (wc.base hBH) (λl hl=>?_) λH2 m2 l2 k2=>?_
  .have:=(oc l hl).1;exact⟨o_,λq=>by have:=m.off_lt q;omega,o_,λj hj _ hl'=>by have:=m.g.onlt j hj hl';omega⟩
  have kd:∀l,d.on l->H2[l]?=H1[l]? :=λl hl=>k2 l (by have:=od l hl;omega);refine Fn_ m2 (hne h5) (λx hx=>⟨by have:=(hws x hx).1;omega,(hws x hx).2⟩) (c:=d) (p:=eD_ p (b3_ p)) (hd.keep kd) ((wd.base hBH).keepOn kd) (λl hl=>?_) λx init H3 hperm m3 l3 k3=>?_
  .have hl':=od l hl;refine⟨o_,λq=>by have:=m.off_lt q;omega,o_,λj hj hon=>?_⟩;rw[getElem_set]at hon;by_cases e:i=j
   .rw[if_pos e]at hon;exact (oc l hon).2 hl
   .rw[if_neg e]at hon;have:=m.g.onlt j (by simpa using hj) hon;omega
  simp only[aO_,aj_];have hxi:x.toNat≠i:=hx x (hperm.mem_iff.1 t_);have pr:=b9_ H3 (.row true xe_ [.str p.keys[b3_ p],.int .i64 x]);refine hQ2 h5 hk x init _ _ H3.length hperm ((m3.mono pr).weak λj hj=>hj) ?_ o_;simp[pu]
theorem WM.insLeaf (m:WM B H le tp ds T X fa ws) (hp:T[i]?=some p) (hX:X i) {s:Nat} (hs:s<=p.keys.length) (hv:p.vals.length=p.keys.length) (hsm:small p) (h4:p.keys.length<=900) (hk:key.size<=1000) (hvs:v.size<=1000) {K:Hp->Prop}
 (hK:∀H' ds',WM B H' le tp ds' (T.set i (Bi_ p s key v)) X fa ws->K H'):
 rd H tp (0+i*5+2) λv27=>dL 1 v27 λx28 n29=>rd H tp (0+i*5+3) λv30=>dL 1 v30 λx31 n32=>
 cl slices_Insert__string_string [(nL x28 n29 1),(gI (s:Int)),(nL (some ((ln H),0)) 1 1)] (pu H (.row false 1000003 [(.str key)])) λr33 H34=>
 rG r33 λv35=>dL 1 v35 λx36 n37=>rd H34 tp (0+i*5+3) λv38=>dL 1 v38 λx39 n40=>
 eqv (nL x31 n32 1) (nL x39 n40 1) (cl slices_Insert__string_string [(nL x31 n32 1),(gI (s:Int)),(nL (some ((ln H34),0)) 1 1)] (pu H34 (.row false 1000003 [(.str v)])) λr41 H42=>
 rG r41 λv43=>dL 1 v43 λx44 n45=>wr H42 tp (0+i*5+2) (.sl x36 n37 1) λH46=>wr H46 tp (0+i*5+3) (.sl x44 n45 1) K):=by
 have q1:=m.g.ot.len;have q2:=m.g.ot.lenT;have hiT:=(kC.1 hp).1;have eT:T[i]'hiT=p:=(kC.1 hp).2;have hi:i<ds.length:=by omega
 obtain⟨a0,a1,a2,a3,a4⟩:=m.g.cells hi;have hat:=m.g.ot.all i hi hiT;have ho:=m.g.own i hi hiT hX;rw[eT]at hat ho;have e1:=hat.keys.len;have e2:=hat.vals.len;have hBH:=m.g.pre.length_le;obtain⟨hb,hr⟩:=m.g.ot.at_row;have htp:=(kC.1 hr).1;have off:=m.g.ot.off _ (kE hi);rw[ac_ a2,ah_,ac_ a3,ah_];refine sJ_ ho.keys hBH o_ o_ λH1 w1 o1=>?_;simp only[aO_,ah_];have r1:H1[tp]?=H[tp]? :=w1.row tp htp λe=>off tp ⟨0,.inl e⟩ rfl;have g3:gt H1 tp (0+i*5+3)=some (.sl ds[i].a2 ds[i].n2 1):=by rw[<-a3];unfold gt;rw[r1]
 rw[ac_ g3,ah_];refine⟨rfl,?_⟩;have ov:Own H1 B.length tS ds[i].a2 ds[i].n2 (p.vals.map GV.str):=ho.vals.keep λl e=>w1.row l (ho.vals.lt' e) λq=>ho.d12 l 0 0 q e;have ok:Own H1 B.length tI ds[i].a3 ds[i].n3 (p.kids.map (GV.int .i64)):=ho.kids.keep λl e=>w1.row l (ho.kids.lt' e) λq=>ho.d13 l 0 0 q e;refine sJ_ ov (by have:=w1.len;omega) o_ o_ λH2 w2 o2=>?_;simp only[aO_,ah_];have hl1:=w1.len;have hl2:=w2.len;have r2:H2[tp]?=H[tp]? :=by rw[w2.row tp o_ λe=>off tp ⟨0,.inr (.inl e)⟩ rfl,r1]
 have hr2:H2[tp]?=some (.row true tPg (aY_ ds)):=by rw[r2];exact hr
 have htp2:=(kC.1 hr2).1;refine IJ_ hr2 hi ?_;have kp:∀l,l≠tp->(H2.set tp (.row true tPg (aY_ (ds.set i ⟨ds[i].u,ds[i].l,some (H.length+1,0),ds[i].n1+1,some (H1.length+1,0),ds[i].n2+1,ds[i].a3,ds[i].n3⟩))))[l]?=H2[l]? :=λl hl=>by rw[kF (Ne.symm hl)]
 have ow:(⟨ds[i].u,ds[i].l,some (H.length+1,0),ds[i].n1+1,some (H1.length+1,0),ds[i].n2+1,ds[i].a3,ds[i].n3⟩:PC).own (H2.set tp (.row true tPg (aY_ (ds.set i ⟨ds[i].u,ds[i].l,some (H.length+1,0),ds[i].n1+1,some (H1.length+1,0),ds[i].n2+1,ds[i].a3,ds[i].n3⟩)))) B.length (Bi_ p s key v):=by
  refine⟨ho.used,ho.leaf,o1.keep λl e=>?_,o2.keep λl e=>?_,ok.keep λl e=>?_,λl o o' q1 q2=>?_,λl o o' q1 q2=>?_,λl o o' q1 q2=>?_⟩
  .have:l=H.length+1:=by cases e;rfl
   rw[kp l o_,w2.row l o_ λq=>by have:=ho.vals.lt' q;omega]
  .have:l=H1.length+1:=by cases e;rfl
   rw[kp l o_]
  .have hlt:=ho.kids.lt' e;rw[kp l λq=>off l ⟨0,.inr (.inr e)⟩ (by rw[q]),w2.row l o_ λq=>ho.d23 l 0 0 q e]
  .simp at q1 q2;omega
  ·simp at q1;have:=ho.kids.lt' (show ds[i].a3=some (l,0) by
    rcases ho.kids with⟨e,_,_⟩|⟨l',e,_⟩
    .have q2':ds[i].a3=some (l,o'):=q2;rw[e]at q2';cases q2'
    .have q2':ds[i].a3=some (l,o'):=q2;rw[e]at q2';cases q2';exact e)
   omega
  ·simp at q1;have:=ho.kids.lt' (show ds[i].a3=some (l,0) by
    rcases ho.kids with⟨e,_,_⟩|⟨l',e,_⟩
    .have q2':ds[i].a3=some (l,o'):=q2;rw[e]at q2';cases q2'
    .have q2':ds[i].a3=some (l,o'):=q2;rw[e]at q2';cases q2';exact e)
   omega
 have at':(⟨ds[i].u,ds[i].l,some (H.length+1,0),ds[i].n1+1,some (H1.length+1,0),ds[i].n2+1,ds[i].a3,ds[i].n3⟩:PC).at (H2.set tp (.row true tPg (aY_ (ds.set i ⟨ds[i].u,ds[i].l,some (H.length+1,0),ds[i].n1+1,some (H1.length+1,0),ds[i].n2+1,ds[i].a3,ds[i].n3⟩)))) (Bi_ p s key v):=by
  refine⟨hat.used,hat.leaf,⟨ow.keys.cells,?_,?_⟩,⟨ow.vals.cells,?_,?_⟩,⟨ow.kids.cells,hat.kids.len,hat.kids.lim⟩⟩
  .show ds[i].n1+1=(p.keys.take s++key::p.keys.drop s).length;simp;omega
  .show (ds[i].n1+1)*16<=_;omega
  .show ds[i].n2+1=(p.vals.take s++v::p.vals.drop s).length;simp;omega
  .show (ds[i].n2+1)*16<=_;omega
 obtain⟨s1,s2,s3,s4,s5⟩:=hsm;have sm:small (Bi_ p s key v):=by
  refine⟨λk hk'=>?_,λk hk'=>?_,?_,?_,s5⟩
  .rcases mi_ hk' with z|z
   .rw[z];omega
   .exact s1 k z
  .rcases mi_ hk' with z|z
   .rw[z];omega
   .exact s2 k z
  .show (p.keys.take s++key::p.keys.drop s).length<=1000;simp;omega
  .show (p.vals.take s++v::p.vals.drop s).length<=1000;simp;omega
 refine hK _ _ (m.turn (c:=⟨ds[i].u,ds[i].l,some (H.length+1,0),ds[i].n1+1,some (H1.length+1,0),ds[i].n2+1,ds[i].a3,ds[i].n3⟩) hi s_ (λl h1 h2 h3=>?_) (kH htp2) at' (ow.wo at' sm) (λl hl=>?_) λj hj=>?_)
 .rw[kp l h3,w2.row l o_ λq=>h2 ⟨0,.inr (.inl q)⟩,w1.row l h1 λq=>h2 ⟨0,.inl q⟩]
 ·obtain⟨o,e|e|e⟩:=hl
  .have:l=H.length+1:=by cases e;rfl
   exact⟨o_,λq=>by have:=m.off_lt q;omega,o_,λj hj _ hl'=>by have:=m.g.onlt j hj hl';omega⟩
  .have:l=H1.length+1:=by cases e;rfl
   exact⟨o_,λq=>by have:=m.off_lt q;omega,o_,λj hj _ hl'=>by have:=m.g.onlt j hj hl';omega⟩
  .have hon:(ds[i]).on l:=⟨o,.inr (.inr e)⟩;exact⟨λq=>off l hon (by rw[q]),λq=>(m.g.off l q).2.2 i hi hon,m.g.base i hi l hon,λj hj hne=>m.g.ap i j hi hj (Ne.symm hne) l hon⟩
 .by_cases e:j=i
  .exact .inl ⟨e,ow⟩
  .exact .inr ⟨e,hj⟩
end
section
variable{B H:Hp}{le tp:Nat}{ds:List PC}{T:List Pg}{X:Nat->Prop}{fa:Pl}{ws:List Int}{i:Nat}{p:Pg}{Q:Post}{key v:Y_}
theorem zG_{A l:Nat}(F:H[A]?=some (.row true xe_ cs))(I:H[l]?=some (.row true t cs'))(D:xe_≠t):A≠l:=λe=>by
 grind
theorem WM.insInner (m:WM B H le tp ds T X fa ws) (hp:T[i]?=some p) (hX:X i) {s:Nat} (hs:s<=p.keys.length) (hv:p.kids.length=p.keys.length+1) (hsm:small p) (h4:p.keys.length<=900) {lq:Nat} {x:Int} (hq:H[lq]?=some (.row true xe_ [.str key,.int .i64 x])) (hk:key.size<=1000) {K:Hp->Prop}
 (hK:∀H' ds',WM B H' le tp ds' (T.set i (x5_ p s key x)) X fa ws->K H'):
 rd H tp (0+i*5+2) λv28=>dL 1 v28 λx29 n30=>pS (some (lq,0)) λn31 n32=>rd H n31 (n32+0) λv33=>dS v33 λs34=>
 rd H tp (0+i*5+4) λv35=>dL 1 v35 λx36 n37=>pS (some (lq,0)) λn38 n39=>rd H n38 (n39+1) λv40=>dI .i64 v40 λi41=>
 cl slices_Insert__string_string [(nL x29 n30 1),(gI (s:Int)),(nL (some ((ln H),0)) 1 1)] (pu H (.row false 1000003 [(.str s34)])) λr42 H43=>
 rG r42 λv44=>dL 1 v44 λx45 n46=>rd H43 n38 (n39+1) λv47=>dI .i64 v47 λi48=>eqv (gI i41) (gI i48) (rd H43 tp (0+i*5+4) λv49=>dL 1 v49 λx50 n51=>
 eqv (nL x36 n37 1) (nL x50 n51 1) (cl slices_Insert__int_int [(nL x36 n37 1),(gI (ad_ .i64 ((s:Int)+1))),(nL (some ((ln H43),0)) 1 1)] (pu H43 (.row false 1000003 [(.int .i64 i41)])) λr52 H53=>
 rG r52 λv54=>dL 1 v54 λx55 n56=>wr H53 tp (0+i*5+2) (.sl x45 n46 1) λH57=>wr H57 tp (0+i*5+4) (.sl x55 n56 1) K)):=by
 have q1:=m.g.ot.len;have q2:=m.g.ot.lenT;have hiT:=(kC.1 hp).1;have eT:T[i]'hiT=p:=(kC.1 hp).2;have hi:i<ds.length:=by omega
 obtain⟨a0,a1,a2,a3,a4⟩:=m.g.cells hi;have hat:=m.g.ot.all i hi hiT;have ho:=m.g.own i hi hiT hX;rw[eT]at hat ho;have e1:=hat.keys.len;have e3:=hat.kids.len;have hBH:=m.g.pre.length_le;obtain⟨hb,hr⟩:=m.g.ot.at_row;have htp:=(kC.1 hr).1;have off:=m.g.ot.off _ (kE hi);have gq0:gt H lq (0+0)=some (.str key):=by rw[aX_ hq];rfl
 have gq1:gt H lq (0+1)=some (.int .i64 x):=by rw[aX_ hq];rfl
 have hlq:=(kC.1 hq).1;rw[ac_ a2,ah_,ae_,ac_ gq0,aq_,ac_ a4,ah_,ae_,ac_ gq1,aj_];refine sJ_ ho.keys hBH o_ o_ λH1 w1 o1=>?_;simp only[aO_,ah_];have r1:H1[tp]?=H[tp]? :=w1.row tp htp λe=>off tp ⟨0,.inl e⟩ rfl;have rq:H1[lq]?=H[lq]? :=w1.row lq hlq λe=>by
  rcases ho.keys with⟨q,_,_⟩|⟨l,q,_,hl,_⟩
  .rw[q]at e;cases e
  .rw[q]at e;cases e;exact zG_ hq hl d_ rfl
 have gq1':gt H1 lq (0+1)=some (.int .i64 x):=by rw[<-gq1];unfold gt;rw[rq]
 rw[ac_ gq1',aj_];refine⟨rfl,?_⟩;have g4:gt H1 tp (0+i*5+4)=some (.sl ds[i].a3 ds[i].n3 1):=by rw[<-a4];unfold gt;rw[r1]
 rw[ac_ g4,ah_];refine⟨rfl,?_⟩;have ov:Own H1 B.length tS ds[i].a2 ds[i].n2 (p.vals.map GV.str):=ho.vals.keep λl e=>w1.row l (ho.vals.lt' e) λq=>ho.d12 l 0 0 q e;have ok:Own H1 B.length tI ds[i].a3 ds[i].n3 (p.kids.map (GV.int .i64)):=ho.kids.keep λl e=>w1.row l (ho.kids.lt' e) λq=>ho.d13 l 0 0 q e;rw[an_ o_];refine Fh_ ok (by have:=w1.len;omega) o_ o_ λH2 w2 o2=>?_;simp only[aO_,ah_];have hl1:=w1.len;have hl2:=w2.len;have r2:H2[tp]?=H[tp]? :=by rw[w2.row tp o_ λe=>off tp ⟨0,.inr (.inr e)⟩ rfl,r1]
 have hr2:H2[tp]?=some (.row true tPg (aY_ ds)):=by rw[r2];exact hr
 have htp2:=(kC.1 hr2).1;refine IM_ hr2 hi ?_;have kp:∀l,l≠tp->(H2.set tp (.row true tPg (aY_ (ds.set i ⟨ds[i].u,ds[i].l,some (H.length+1,0),ds[i].n1+1,ds[i].a2,ds[i].n2,some (H1.length+1,0),ds[i].n3+1⟩))))[l]?=H2[l]? :=λl hl=>by rw[kF (Ne.symm hl)]
 have a2at:∀{l o},ds[i].a2=some (l,o)->ds[i].a2=some (l,0):=λ{l o} q2=>by
  rcases ho.vals with⟨e,_,_⟩|⟨l',e,_⟩
  .rw[e]at q2;cases q2
  .rw[e]at q2;cases q2;exact e
 have ow:(⟨ds[i].u,ds[i].l,some (H.length+1,0),ds[i].n1+1,ds[i].a2,ds[i].n2,some (H1.length+1,0),ds[i].n3+1⟩:PC).own (H2.set tp (.row true tPg (aY_ (ds.set i ⟨ds[i].u,ds[i].l,some (H.length+1,0),ds[i].n1+1,ds[i].a2,ds[i].n2,some (H1.length+1,0),ds[i].n3+1⟩)))) B.length (x5_ p s key x):=by
  refine⟨ho.used,ho.leaf,o1.keep λl e=>?_,ov.keep λl e=>?_,o2.keep λl e=>?_,λl o o' q1 q2=>?_,λl o o' q1 q2=>?_,λl o o' q1 q2=>?_⟩
  .have:l=H.length+1:=by cases e;rfl
   rw[kp l o_,w2.row l o_ λq=>by have:=ho.kids.lt' q;omega]
  .have hlt:=ho.vals.lt' e;rw[kp l λq=>off l ⟨0,.inr (.inl e)⟩ (by rw[q]),w2.row l o_ λq=>ho.d23 l 0 0 e q]
  .have:l=H1.length+1:=by cases e;rfl
   rw[kp l o_]
  .have hlt:=ho.vals.lt' (a2at q2);simp at q1;omega
  .simp at q1 q2;omega
  .have hlt:=ho.vals.lt' (a2at q1);simp at q2;omega
 have at':(⟨ds[i].u,ds[i].l,some (H.length+1,0),ds[i].n1+1,ds[i].a2,ds[i].n2,some (H1.length+1,0),ds[i].n3+1⟩:PC).at (H2.set tp (.row true tPg (aY_ (ds.set i ⟨ds[i].u,ds[i].l,some (H.length+1,0),ds[i].n1+1,ds[i].a2,ds[i].n2,some (H1.length+1,0),ds[i].n3+1⟩)))) (x5_ p s key x):=by
  refine⟨hat.used,hat.leaf,⟨ow.keys.cells,?_,?_⟩,⟨ow.vals.cells,hat.vals.len,hat.vals.lim⟩,⟨ow.kids.cells,?_,?_⟩⟩
  .show ds[i].n1+1=(p.keys.take s++key::p.keys.drop s).length;simp;omega
  .show (ds[i].n1+1)*16<=_;omega
  .show ds[i].n3+1=(p.kids.take (s+1)++x::p.kids.drop (s+1)).length;simp;omega
  .show (ds[i].n3+1)*8<=_;omega
 obtain⟨s1,s2,s3,s4,s5⟩:=hsm;have sm:small (x5_ p s key x):=by
  refine⟨λk hk'=>?_,s2,?_,s4,?_⟩
  .rcases mi_ hk' with z|z
   .rw[z];omega
   .exact s1 k z
  .show (p.keys.take s++key::p.keys.drop s).length<=1000;simp;omega
  .show (p.kids.take (s+1)++x::p.kids.drop (s+1)).length<=1000;simp;omega
 refine hK _ _ (m.turn (c:=⟨ds[i].u,ds[i].l,some (H.length+1,0),ds[i].n1+1,ds[i].a2,ds[i].n2,some (H1.length+1,0),ds[i].n3+1⟩) hi s_ (λl h1 h2 h3=>?_) (kH htp2) at' (ow.wo at' sm) (λl hl=>?_) λj hj=>?_)
 .rw[kp l h3,w2.row l o_ λq=>h2 ⟨0,.inr (.inr q)⟩,w1.row l h1 λq=>h2 ⟨0,.inl q⟩]
 ·obtain⟨o,e|e|e⟩:=hl
  .have:l=H.length+1:=by cases e;rfl
   exact⟨o_,λq=>by have:=m.off_lt q;omega,o_,λj hj _ hl'=>by have:=m.g.onlt j hj hl';omega⟩
  .have hon:(ds[i]).on l:=⟨o,.inr (.inl e)⟩;exact⟨λq=>off l hon (by rw[q]),λq=>(m.g.off l q).2.2 i hi hon,m.g.base i hi l hon,λj hj hne=>m.g.ap i j hi hj (Ne.symm hne) l hon⟩
  .have:l=H1.length+1:=by cases e;rfl
   exact⟨o_,λq=>by have:=m.off_lt q;omega,o_,λj hj _ hl'=>by have:=m.g.onlt j hj hl';omega⟩
 .by_cases e:j=i
  .exact .inl ⟨e,ow⟩
  .exact .inr ⟨e,hj⟩
theorem WM.setVal (m:WM B H le tp ds T X fa ws) (hp:T[i]?=some p) (hX:X i) {s:Nat} (hs:s<p.vals.length) (hsm:small p) (hvs:v.size<=1000) {K:Hp->Prop}
 (hK:∀H' ds',WM B H' le tp ds' (T.set i ⟨p.used,p.leaf,p.keys,p.vals.set s v,p.kids⟩) X fa ws->K H'):
 rd H tp (0+i*5+3) λv21=>dL 1 v21 λx22 n23=>chk true (chk ((leI 0 (s:Int))&&(ltI (s:Int) (nI n23))) (pS x22 λn24 n25=>wr H n24 (n25+((tN (s:Int))*1)) (.str v) K)):=by
 have q1:=m.g.ot.len;have q2:=m.g.ot.lenT;have hiT:=(kC.1 hp).1;have eT:T[i]'hiT=p:=(kC.1 hp).2;have hi:i<ds.length:=by omega
 obtain⟨a0,a1,a2,a3,a4⟩:=m.g.cells hi;have hat:=m.g.ot.all i hi hiT;have ho:=m.g.own i hi hiT hX;rw[eT]at hat ho;have e2:=hat.vals.len;obtain⟨lv,v1,v2,v3,v4⟩:=kw_ ho.vals o_;have onv:(ds[i]).on lv:=⟨0,.inr (.inl v1)⟩;obtain⟨hb,hr⟩:=m.g.ot.at_row;have htp:=(kC.1 hr).1;have nvt:lv≠tp:=λe=>by subst e;exact m.g.ot.off _ (kE hi) _ onv rfl
 have es:tN (s:Int)=s:=rfl;rw[ac_ a3,ah_,af_];refine ab_ s_ ?_;rw[v1,ae_,es,kN,Nat.mul_one];refine ca_ v3 s_ ?_;have em:(p.vals.map GV.str).set s (.str v)=(p.vals.set s v).map GV.str:=by rw[<-List.map_set]
 rw[em];have hlv:=(kC.1 v3).1;have kp:∀l,l≠lv->(H.set lv (.row true tS ((p.vals.set s v).map GV.str)))[l]?=H[l]? :=λl hl=>by rw[kF (Ne.symm hl)]
 have ow:(ds[i]).own (H.set lv (.row true tS ((p.vals.set s v).map GV.str))) B.length ⟨p.used,p.leaf,p.keys,p.vals.set s v,p.kids⟩:=by
  refine⟨ho.used,ho.leaf,ho.keys.keep λl e=>kp l λq=>ho.d12 l 0 0 e (by rw[v1,q]),.inr ⟨lv,v1,v2,kH hlv,s_⟩,ho.kids.keep λl e=>kp l λq=>ho.d23 lv 0 0 v1 (by rw[e,q]),ho.d12,ho.d13,ho.d23⟩
 have at':(ds[i]).at (H.set lv (.row true tS ((p.vals.set s v).map GV.str))) ⟨p.used,p.leaf,p.keys,p.vals.set s v,p.kids⟩:=⟨hat.used,hat.leaf,⟨ow.keys.cells,hat.keys.len,hat.keys.lim⟩,⟨ow.vals.cells,s_,hat.vals.lim⟩,⟨ow.kids.cells,hat.kids.len,hat.kids.lim⟩⟩;obtain⟨s1,s2,s3,s4,s5⟩:=hsm;have sm:small ⟨p.used,p.leaf,p.keys,p.vals.set s v,p.kids⟩:=by
  refine⟨s1,λk hk'=>?_,s3,by simpa using s4,s5⟩;rcases mem_or_eq_of_mem_set hk' with z|z
  .exact s2 k z
  .rw[z];omega
 refine hK _ _ (m.turn (c:=ds[i]) hi t_ (λl h1 h2 h3=>kp l λq=>h2 (by rw[q];exact onv)) (by rw[kp tp (Ne.symm nvt),set_getElem_self];exact hr) at' (ow.wo at' sm) (λl hon=>?_) λj hj=>?_)
 .exact⟨λq=>m.g.ot.off _ (kE hi) l hon (by rw[q]),λq=>(m.g.off l q).2.2 i hi hon,m.g.base i hi l hon,λj hj hne=>m.g.ap i j hi hj (Ne.symm hne) l hon⟩
 .by_cases e:j=i
  .exact .inl ⟨e,ow⟩
  .exact .inr ⟨e,hj⟩
end
structure q8_(P:List Nat)(ws:List Int):Prop where
 rng:∀x∈ws,1<=x/\x<48
 nd:ws.Nodup
 out:∀x∈ws,x.toNat∉P
theorem q8_.pop(h:q8_ P ws)(F:(init++[x]).Perm ws):q8_ P init/\(1<=x/\x<48)/\x.toNat∉P/\(∀y∈init,y.toNat≠x.toNat)/\x∈ws/\(∀y∈init,y∈ws)/\init.length+1=ws.length:=by
 have I:x∈ws:=F.mem_iff.1 t_;have D:∀y∈init,y∈ws:=λy A=>F.mem_iff.1 g_;have⟨J,O,N⟩:=kT.1 (F.nodup_iff.2 h.nd);refine⟨⟨λy A=>h.rng y (D y A),J,λy A=>h.out y (D y A)⟩,h.rng x I,h.out x I,λy A e=>?_,I,D,by rw[<-F.length_eq];simp⟩;have a:=h.rng y (D y A);grind
def Rp(H:Hp)(r:Option (Y_ × Int))(rp:Pl):Prop:=match r with
 |none=>rp=none
 |some (s,x)=>∃lq,rp=some (lq,0)/\H[lq]?=some (.row true xe_ [.str s,.int .i64 x])
def Kx_(T':List Pg)(d a:Nat)(P':List Nat)(qs:KV)(r:Option (Y_ × Int)):Prop:=match r with
 |none=>Sub T' d a P' qs
 |some (s,x)=>∃PX psX PY psY,cF_ T' d a PX psX/\cF_ T' d x.toNat PY psY/\P'=PX++PY/\psX++psY=qs/\(∀e∈psX,blt e.1 s=true)/\(∀e∈psY,blt e.1 s=false)/\(1<=s.size/\s.size<=6)/\1<=x/\x<48/\x.toNat∉PX
structure JY_(T T':List Pg)(d a:Nat)(P P':List Nat)(ws ws':List Int)(qs:KV)(r:Option (Y_ × Int)):Prop where
 len:T'.length=T.length
 nd:P'.Nodup
 sub:∀j∈P,j∈P'
 new:∀j∈P',j∈P\/∃x∈ws,x.toNat=j
 out:∀j,j∉P'->T'[j]?=T[j]?
 wsub:∀x∈ws',x∈ws
 fr:q8_ P' ws'
 count:ws'.length+P'.length=ws.length+P.length
 res:Kx_ T' d a P' qs r
 half:∀s x,r=some (s,x)->x∈ws
section
variable{B H:Hp}{le tp d a:Nat}{ds:List PC}{T T' T1:List Pg}{X:Nat->Prop}{fa:Pl}{ws:List Int}{p p1:Pg}{P P1:List Nat}{ps qs:KV}{Q:Post}{key v:Y_}
theorem Bt_(m:WM B H le tp ds T X fa ws)(hS:B9_ T d a P qs)(Z:T[a]?=some p)(h5:p.keys.length<=5)(U:P.Nodup)(D:q8_ P ws)(O:p.keys.length=5->ws≠[])
 (hQ:∀H' J T' P' Y X' r rp,WM B H' le tp J T' X' fa Y->JY_ T T' d a P P' ws Y qs r->(r=none->T'=T)->(∀j,j∉P'->X j->X' j)->Rp H' r rp->Q (gP rp) H'):
 bT_ [yQ le,gI (a:Int)] H Q:=by
 have V:=hS;have⟨p',W,hf,hc⟩:=hS;rw[Z]at W;obtain rfl:=Option.some.inj W;have F:a∈P:=by rcases hc with⟨_,_,e,_⟩|⟨_,_,_,_,e,_⟩<;>simp[e]
 have q2:=m.g.ot.lenT;refine B0_ m Z hf D.rng (λx hx e=>D.out x hx (by rw[e];exact F)) O (λh=>?_) λh hk x N H' J lq I m' hq _=>?_;exact hQ H ds T P ws X none none m ⟨rfl,U,λj h=>h,λj h=> .inl h,λj _=>rfl,λx h=>h,D,rfl,V.sub Z o_,λs x e=>by cases e⟩ (λ_=>rfl) (λj _ h=>h) rfl;have⟨f1,f2,f3,f4,f5,f6,f7⟩:=D.pop I;have hxa:x.toNat≠a:=λe=>f3 (by rw[e];exact F);have hxl:x.toNat<T.length:=by omega
 have ta:((T.set a (eX_ p (b3_ p))).set x.toNat (eD_ p (b3_ p)))[a]?=some (eX_ p (b3_ p)):=by rw[kF hxa,kH ((kC.1 Z).1)]
 have tx:((T.set a (eX_ p (b3_ p))).set x.toNat (eD_ p (b3_ p)))[x.toNat]?=some (eD_ p (b3_ p)):=by rw[kH (by simpa)]
 have to:∀j,j≠a->j≠x.toNat->((T.set a (eX_ p (b3_ p))).set x.toNat (eD_ p (b3_ p)))[j]?=T[j]? :=λj h1 h2=>by rw[kF (Ne.symm h2),kF (Ne.symm h1)]
 obtain⟨PX,psX,PY,psY,s1,s2,s3,s4,s5,s6,s7,s8⟩:=EZ_ V Z h U f3 (λj A hja=>to j hja λe=>f3 (by rw[<-e];exact A)) ta tx hk;refine hQ H' J _ (PX++PY) N _ (some (p.keys[b3_ p],x)) (some (lq,0)) m' ⟨t_,s4,λj A=>(s5 j).2 (.inl A),λj A=>?_,λj A=>?_,f6,⟨f1.rng,f1.nd,λy hy hy'=>?_⟩,o_,?_,λs x' e=>by cases e;exact f5⟩ (λe=>by cases e) (λj A hx=>⟨λe=>A ((s5 j).2 (.inr e)),λe=>A ((s5 j).2 (.inl (by rw[e];exact F))),hx⟩) ⟨lq,rfl,hq⟩;rcases (s5 j).1 A with q|q;exact .inl q;exact .inr ⟨x,f5,q.symm⟩;grind;rcases (s5 _).1 hy' with q|q;exact f1.out y hy q;exact f4 y hy q;exact⟨PX,psX,PY,psY,s1,s2,rfl,s3,s7,s8,hf.keys _ (kE hk),f2.1,f2.2,λq=>(kT.1 s4).2.2 _ q _ s2.1.head rfl
⟩
structure J2_(T T':List Pg)(d a:Nat)(key v:Y_)(P P':List Nat)(ws ws':List Int)(ps:KV)(r:Option (Y_ × Int)):Prop where
 fin:JY_ T T' d a P P' ws ws' (insK ps key v) r
 keys:r=none->∃p q,T[a]?=some p/\T'[a]?=some q/\p.keys.length<=q.keys.length
theorem GH_ (m:WM B H le tp ds T X fa ws) (hS:Sub T d a P ps) (hp:T[a]?=some p) (hl:p.leaf=true) (hX:X a) (hfr:q8_ P ws) (hcnt:3*ps.length+3<=4*(ws.length+P.length)) (h1:1<=key.size) (h2:key.size<=6) (h3:v.size<=10)
 (hQ:∀H' ds' T' P' ws' X' r rp,WM B H' le tp ds' T' X' fa ws'->J2_ T T' d a key v P P' ws ws' ps r->(∀j,j∉P'->X j->X' j)->Rp H' r rp->Q (gP rp) H'):
 df_ [yQ le,gI (a:Int),gS key,gS v] H Q:=by
 have q1:=m.g.ot.len;have q2:=m.g.ot.lenT;have hlt:=(kC.1 hp).1;have eT:T[a]'hlt=p:=(kC.1 hp).2;have hm:=hS.may hp;have h4:=hm.1;obtain⟨e1,e2,e3⟩:=hS.leafD hp hl;obtain⟨f1,f2,f3⟩:=hm.2.leaf hl;have hat:=m.g.ot.all a o_ hlt;rw[eT]at hat;obtain⟨a0,a1,a2,a3,a4⟩:=m.g.cells (i:=a) o_;have ei:tN (a:Int)=a:=rfl;have hsl:bZ_ p.keys key<=p.keys.length:=rG_;refine⟨1,?_⟩;rw[m0_,ae_,kQ,ac_ m.gtE,ah_,af_];refine ab_ s_ ?_;rw[ae_,ei,ac_ a2,ah_];refine h0_ hat.keys ?_;simp only[aN_,aJ_,bK_,aj_,ao_,bh_];cases hb:dH_ p.keys key with
 | true=>
  rw[az_ rfl];obtain⟨hs,hk⟩:=rl_ hb;have hasc:=hS.asc.1;obtain⟨L,v0,R,es,hS2⟩:=Sub.setVal (v:=v) hp hl hb h3 hS (by rw[e2];simp) (by rw[e2];simp);have hL:∀x∈L,blt x.1 key=true:=λx hx=>by
   rw[es]at hasc;exact (kZ.1 hasc).2.2 x hx _ mem_cons_self
  have eins:insK ps key v=L++(key,v)::R:=by rw[es];exact CE_ hL
  refine m.setVal hp hX (s:=bZ_ p.keys key) (v:=v) o_ (hv_ hm) o_ λH' ds' m'=>?_;refine hQ H' ds' _ P ws X none none m' ⟨⟨t_,by rw[e2];simp,λj h=>h,λj h=> .inl h,λj hj=>?_,λx h=>h,hfr,rfl,by rw[eins];exact hS2,λs x e=>by cases e⟩,λ_=>⟨p,_,hp,kH hlt,kO _⟩⟩ (λj _ h=>h) rfl;rw[kF];intro e;subst e;exact hj (by rw[e2];simp)
 | false=>
  rw[aA_ rfl];obtain⟨g1,g2,hF⟩:=GA_ (v:=v) hS hp hl hb h1 h2 h3;refine m.insLeaf hp hX hsl f1 (hv_ hm) o_ o_ o_ λH1 ds1 m1=>?_;have hp1:(T.set a (Bi_ p (bZ_ p.keys key) key v))[a]?=some (Bi_ p (bZ_ p.keys key) key v):=kH hlt;have hk1:(Bi_ p (bZ_ p.keys key) key v).keys.length=p.keys.length+1:=by
   show (p.keys.take _++key::p.keys.drop _).length=_;simp;omega
  have hps:ps.length=p.keys.length:=by rw[e3,length_zip];omega
  refine Bt_ m1 hF hp1 o_ (by rw[e2];simp) hfr (λh=>?_) λH' ds' T' P' ws' X' r rp m' fin hnone hX' hrp=>?_
  .rw[e2]at hcnt;intro e;rw[e]at hcnt;simp at hcnt;omega
  simp only[aO_,ge_];refine hQ H' ds' T' P' ws' X' r rp m' ⟨⟨by rw[fin.len];simp,fin.nd,fin.sub,fin.new,λj hj=>?_,fin.wsub,fin.fr,fin.count,fin.res,fin.half⟩,λhr=>⟨p,_,hp,by rw[hnone hr];exact hp1,o_⟩⟩ hX' hrp;rw[fin.out j hj,kF];intro e;subst e;exact hj (fin.sub _ (by rw[e2];simp))
end
section
variable{T:List Pg}{d a:Nat}{p:Pg}{P:List Nat}{ps:KV}{key:Y_}
theorem mP_.pages (I:∀k P ps,R k P ps->4*P.length+2<=3*ps.length):∀{ks:List Int}{ss:List Y_}{P:List Nat}{ps:KV},mP_ R ks ss P ps->4*P.length+2*ks.length<=3*ps.length
 |[],[],P,ps,h=>by rw[h.1];simp
 |k::ks,s::ss,P,ps,⟨U,A,O,D,V,F,J,N,_,_⟩=>by
  have y:=mP_.pages I F;grind
theorem lV_.pages(D:∀k P ps,R k P ps->4*P.length+2<=3*ps.length)(h:lV_ R kc A P ps):4*P.length+2*kc.length<=3*ps.length:=by
 cases A with
 |nil=>rw[h.1,h.2.1];simp
 |cons s A=>exact bm_.pages D h.1
theorem B9_.pages(h:B9_ T d a P ps)(U:T[a]?=some p)(W:p.keys.length=5):4*P.length+8<=3*ps.length:=by
 have⟨q,V,D,J⟩:=h;rcases J with⟨e,A,I,F⟩|⟨A,O,N,e,I,F⟩;have:=(D.leaf A).1;grind;have x:=bm_.pages (λ_ _ _ h=>cF_.pages h) F;have y:=(D.inner A).2.2.1;grind
end
section
variable{B:Hp}{le tp:Nat}{fa:Pl}{key v:Y_}
theorem Cw_ (h1:1<=key.size) (h2:key.size<=6) (h3:v.size<=10):∀(d:Nat){H:Hp}{ds:List PC}{T:List Pg}{X:Nat->Prop}{ws:List Int}{a:Nat}{P:List Nat}{ps:KV}{p:Pg}{Q:Post},WM B H le tp ds T X fa ws->Sub T d a P ps->P.Nodup->(∀i∈P,X i)->q8_ P ws->T[a]?=some p->
 (3*ps.length+5<=4*(ws.length+P.length)\/(2<=p.keys.length/\3*ps.length+3<=4*(ws.length+P.length)))->
 (hQ:∀H' ds' T' P' ws' X' r rp,WM B H' le tp ds' T' X' fa ws'->J2_ T T' d a key v P P' ws ws' ps r->(∀j,j∉P'->X j->X' j)->Rp H' r rp->Q (gP rp) H')->
 a3_.at d [yQ le,gI (a:Int),gS key,gS v] H Q
 |0,H,ds,T,X,ws,a,P,ps,p,Q,m,hS,_,_,_,_,_,_=>hS.elim
 | n+1,H,ds,T,X,ws,a,P,ps,p,Q,m,hS,hnd,hX,hfr,hp,hcnt,hQ=>by
  have q1:=m.g.ot.len;have q2:=m.g.ot.lenT;have hm:=hS.may hp;have hlt:=(kC.1 hp).1;have eTa:T[a]'hlt=p:=(kC.1 hp).2;have at_a:=m.g.ot.all a o_ hlt;rw[eTa]at at_a;obtain⟨a0,a1,a2,a3,a4⟩:=m.g.cells (i:=a) o_;have ea:tN (a:Int)=a:=rfl;have hsm:=hv_ hm;have hlf:=at_a.leaf;refine⟨1,?_⟩;rw[nu_,ae_,kQ,ac_ m.gtE,ah_,af_];refine ab_ s_ ?_;rw[ae_,ea,ac_ a1,ao_];cases hl:p.leaf with
  |true=>
   rw[az_ (by rw[<-hlf,hl])];refine GH_ m hS hp hl (hX a hS.head) hfr o_ h1 h2 h3 λH' ds' T' P' ws' X' r rp m' pr hx hr=>?_;simp only[aO_,ge_];exact hQ H' ds' T' P' ws' X' r rp m' pr hx hr
  | false=>
   rw[aA_ (by rw[<-hlf,hl])];obtain⟨d,PA,psA,Pi,psi,PC,psC,ed,kd⟩:=yY_ (key:=key) hS hp hl;obtain rfl:n=d+1:=by omega
   obtain⟨f1,f2,f3,f4,f5⟩:=hm.2.inner hl;have hnd':=hnd;rw[kd.eP]at hnd';have n0:=nodup_cons.1 hnd';have n1:=kT.1 n0.2;have n2:=kT.1 n1.2.1;have hi:=kd.hi;have hm4:=hm.1;have kr:=f4 _ (kE hi);have ek:p.kids[ck_ p.keys key]=(((p.kids[ck_ p.keys key]).toNat:Nat):Int):=by omega
   have inP:∀i∈Pi,i∈P:=λi h=>by rw[kd.eP];simp[h]
   have aPi:a∉Pi:=λh=>n0.1 (by simp[h]);have kle:=(gK_ (key:=key) (b2_ hm.2.rising)).2.2;have c1:=mP_.pages (λ_ _ _ h=>cF_.pages h) kd.pre;have c2:=lV_.pages (λ_ _ _ h=>cF_.pages h) kd.suf;have c3:P.length=1+(PA.length+(Pi.length+PC.length)):=by rw[kd.eP];simp;omega
   have c4:ps.length=psA.length+(psi.length+psC.length):=by rw[kd.eps];simp
   have c5:(p.kids.take (ck_ p.keys key)).length=ck_ p.keys key:=by simp;omega
   have c6:(p.kids.drop (ck_ p.keys key+1)).length=p.kids.length-(ck_ p.keys key+1):=by simp
   rw[c5]at c1;rw[c6]at c2;obtain⟨kq,hkq,hkq2⟩:=kd.kid.2;refine kW_ (o:=0+a*5) a2 at_a.keys ?_;simp only[aO_,aj_];rw[ac_ a4,ah_,af_,at_a.kids.rd _ rfl hi,ek];refine Cw_ h1 h2 h3 (d+1) m kd.kid.1 n2.1 (λi h=>hX i (inP i h)) ⟨hfr.rng,hfr.nd,λx hx hxi=>hfr.out x hx (inP _ hxi)⟩ hkq (.inr ⟨hkq2,o_⟩) ?_;intro H1 ds1 T1 Pi' ws1 X1 r rp m1 pr hX1 hrp;have r1:=m1.g.ot.len;have r2:=m1.g.ot.lenT;have fi:=pr.fin;have frOut:∀x∈ws,x.toNat∉P:=hfr.out;have memPi:∀j∈Pi',j∈P->j∈Pi:=λj hj hjP=>by
    rcases fi.new j hj with q|⟨x,hx,e⟩
    .exact q
    .exact (frOut x hx (by rw[e];exact hjP)).elim
   have aPi':a∉Pi':=λh=>aPi (memPi a h hS.head);have hp1:T1[a]?=some p:=by rw[fi.out a aPi'];exact hp
   have eTa1:T1[a]'o_=p:=(kC.1 hp1).2;have disjA:∀j∈PA++PC,j∉Pi':=λj hj h=>by
    have hjP:j∈P:=by rw[kd.eP];simp only[kD]at hj;rcases hj with z|z<;>simp[z]
    have:=memPi j h hjP;rcases kD.1 hj with z|z
    .exact n1.2.2 j z j (by simp[this]) rfl
    .exact n2.2.2 j this j z rfl
   have hA:∀j∈PA++PC,T1[j]?=T[j]? :=λj hj=>fi.out j (disjA j hj);have hx1a:X1 a:=hX1 a aPi' (hX a hS.head);simp only[aO_,ge_];have key1:∀{P1:List Nat},(∀j,j∈P1↔j∈Pi')->(a::(PA++(P1++PC))).length=1+(PA.length+(Pi'.length+PC.length))->P1.Nodup->
    (a::(PA++(P1++PC))).Nodup/\(∀j∈P,j∈a::(PA++(P1++PC)))/\(∀j∈a::(PA++(P1++PC)),j∈P\/∃x∈ws,x.toNat=j)/\(∀x∈ws1,x.toNat∉a::(PA++(P1++PC))):=λ{P1} hm1 hl1 hn1=>by
    refine⟨nodup_cons.2 ⟨λh=>?_,kT.2 ⟨n1.1,kT.2 ⟨hn1,n2.2.1,λu hu w hw e=>?_⟩,λu hu w hw e=>?_⟩⟩,λj hj=>?_,λj hj=>?_,λx hx h=>?_⟩
    .simp only[kD]at h;rcases h with z|z|z
     .exact n0.1 (by simp[z])
     .exact aPi' ((hm1 a).1 z)
     .exact n0.1 (by simp[z])
    .subst e;exact disjA u (by simp[hw]) ((hm1 u).1 hu)
    .subst e;rcases kD.1 hw with z|z
     .exact disjA u (by simp[hu]) ((hm1 u).1 z)
     .exact n1.2.2 u hu u (by simp[z]) rfl
    .rw[kd.eP]at hj;simp only[kU,kD]at hj ⊢;rcases hj with z|z|z|z
     .exact .inl z
     .exact .inr (.inl z)
     .exact .inr (.inr (.inl ((hm1 j).2 (fi.sub j z))))
     .exact .inr (.inr (.inr z))
    ·simp only[kU,kD]at hj;rw[kd.eP];rcases hj with z|z|z|z
     .exact .inl (by simp[z])
     .exact .inl (by simp[z])
     .rcases fi.new j ((hm1 j).1 z) with q|q
      .exact .inl (by simp[q])
      .exact .inr q
     .exact .inl (by simp[z])
    .have hxw:=fi.wsub x hx;have nP:=frOut x hxw;rw[kd.eP]at nP;simp only[kU,kD]at h nP;rcases h with z|z|z|z
     .exact nP (.inl z)
     .exact nP (.inr (.inl z))
     .exact fi.fr.out x hx ((hm1 _).1 z)
     .exact nP (.inr (.inr (.inr z)))
   have cnt1:=fi.count;cases r with
   |none=>
    have hrp':rp=none:=hrp;subst hrp';rw[HV_,az_ rfl];obtain⟨p0,p1',hp0,hp1',hkk⟩:=pr.keys rfl;rw[hkq]at hp0;obtain rfl:=Option.some.inj hp0;have hsub:cF_ T1 (d+1) (p.kids[ck_ p.keys key]).toNat Pi' (insK psi key v):=⟨fi.res,p1',hp1',o_⟩;have hfin:=kd.put1 hp hm hl rfl hA hp1 hsub;obtain⟨k1,k2,k3,k4⟩:=key1 (P1:=Pi') (λj=>Iff.rfl) s_ fi.nd;refine hQ H1 ds1 T1 _ ws1 X1 none none m1 ⟨⟨fi.len,k1,k2,k3,λj hj=>fi.out j λh=>hj (by simp[h]),fi.wsub,⟨fi.fr.rng,fi.fr.nd,k4⟩,by simp only[length_cons,kI];omega,hfin,λs x e=>by cases e⟩,λ_=>⟨p,p,hp,hp1,kO _⟩⟩ (λj hj hx=>hX1 j (λh=>hj (by simp[h])) hx) rfl
   | some sx=>
    obtain⟨s,x⟩:=sx;obtain⟨lq,e,hq⟩:=hrp;subst e;rw[IF_,aA_ rfl];obtain⟨PX,psX,PY,psY,s1,s2,s3,s4,s5,s6,s7,s8,s9,s10⟩:=fi.res;have ex:(x.toNat:Int)=x:=by omega
    have hxw:=fi.half s x rfl;have hxP:x.toNat∉P:=frOut x hxw;have hmm:∀j,j∈PX++PY↔j∈Pi':=λj=>by rw[s3]
    refine m1.insInner hp1 hx1a kle f3 hsm o_ hq o_ λH2 ds2 m2=>?_;have hlt1:=(kC.1 hp1).1;have hp2:(T1.set a (x5_ p (ck_ p.keys key) s x))[a]?=some (x5_ p (ck_ p.keys key) s x):=kH hlt1;have out2:∀j,j≠a->(T1.set a (x5_ p (ck_ p.keys key) s x))[j]?=T1[j]? :=λj hj=>kF (Ne.symm hj);have nX:∀j∈PX++PY,j≠a:=λj hj e=>aPi' ((hmm a).1 (by rw[<-e];exact hj));have nA:∀j∈PA++PC,j≠a:=λj hj e=>by
     subst e;rcases kD.1 hj with z|z
     .exact n0.1 (by simp[z])
     .exact n0.1 (by simp[z])
    have hSF:=kd.put2 (T1:=T1.set a (x5_ p (ck_ p.keys key) s x)) (f:=x.toNat) (v:=v) hp hm hl rfl hxP o_ o_ s7 (λj hj=>by rw[out2 j (nA j hj)];exact hA j hj)
     (s1.keep λj hj=>out2 j (nX j (by simp[hj]))) (s2.keep λj hj=>out2 j (nX j (by simp[hj]))) s4 s5 s6 (by rw[ex];exact hp2)
    have hk5:(x5_ p (ck_ p.keys key) s x).keys.length=p.keys.length+1:=by
     show (p.keys.take _++s::p.keys.drop _).length=_;simp;omega
    have eas:PX++(PY++PC)=(PX++PY)++PC:=by simp
    rw[eas]at hSF;have hl3:(PX++PY).length=Pi'.length:=by rw[s3]
    obtain⟨k1,k2,k3,k4⟩:=key1 (P1:=PX++PY) hmm (by simp only[length_cons,kI]at hl3 ⊢;omega) (by rw[<-s3];exact fi.nd);have hfr1:q8_ (a::(PA++((PX++PY)++PC))) ws1:=⟨fi.fr.rng,fi.fr.nd,k4⟩;have hlen1:(a::(PA++((PX++PY)++PC))).length=1+(PA.length+(Pi'.length+PC.length)):=by simp only[length_cons,kI]at hl3 ⊢;omega
    have hins:=Ic_ (k:=key) (v:=v) hS.asc.1;refine Bt_ m2 hSF hp2 o_ k1 hfr1 (λh5 e=>?_) λH3 ds3 T3 P3 ws3 X3 r3 rp3 m3 fin3 hn3 hX3 hrp3=>?_
    .have:=hSF.pages hp2 h5;rw[hlen1]at this;rw[e]at cnt1;simp only[length_nil]at cnt1;omega
    simp only[aO_,ge_];have cnt3:=fin3.count;rw[hlen1]at cnt3;have inP3:∀j∈a::(PA++((PX++PY)++PC)),j∈P3:=fin3.sub;have inP4:∀j∈Pi',j∈P3:=λj h=>inP3 j (mem_cons_of_mem _ (kD.2 (.inr (kD.2 (.inl ((hmm j).2 h))))));refine hQ H3 ds3 T3 P3 ws3 X3 r3 rp3 m3 ⟨⟨by rw[fin3.len];simp[fi.len],fin3.nd,λj hj=>inP3 j (k2 j hj),λj hj=>?_,λj hj=>?_,λy hy=>fi.wsub y (fin3.wsub y hy),fin3.fr,o_,fin3.res,λs' x' e=>fi.wsub x' (fin3.half s' x' e)⟩,λhr=>⟨p,_,hp,by rw[hn3 hr];exact hp2,o_⟩⟩ (λj hj hx=>hX3 j hj (hX1 j (λh=>hj (inP4 j h)) hx)) hrp3
    .rcases fin3.new j hj with q|⟨y,hy,e⟩
     .exact k3 j q
     .exact .inr ⟨y,fi.wsub y hy,e⟩
    .rw[fin3.out j hj,out2 j λe=>hj (inP3 j (by simp[e]))];exact fi.out j λh=>hj (inP4 j h)
end
theorem bm_.pagesMay {G:Nat->Prop} (D:∀k P ps,R k P ps->∀i∈P,G i):∀{ks:List Int}{ss:List Y_}{P:List Nat}{ps:KV},bm_ R ks ss P ps->∀i∈P,G i
 |[],_,_,_,h,_,_=>h.elim
 |k::ks,[],P,ps,h,i,A=>D _ _ _ h.2 i A
 |k::ks,s::ss,P,ps,⟨W,F,O,J,U,N,I,V,_,_⟩,i,A=>by
  subst I;rcases kD.1 A with q|q;grind;exact bm_.pagesMay D N i q
theorem Sub.pagesMay:∀{d a:Nat}{P:List Nat}{ps:KV},Sub T d a P ps->∀i∈P,∃p,T[i]?=some p/\e8_ p
 |0,_,_,_,h,_,_=>h.elim
 |d+1,a,P,ps,h,i,A=>by
  obtain⟨p,hp,hm,⟨_,_,e,_⟩|⟨_,F,e,D⟩⟩:=h;grind;subst e;rcases kU.1 A with q|q;grind;exact bm_.pagesMay (λk P ps h i A=>Sub.pagesMay h.1 i A) D i q
def ij_(T:List Pg)(i:Nat):Bool:=match T[i]? with|some p=>p.used|none=>false
section
variable{T T':List Pg}{d:Nat}{P:List Nat}{ps:KV}
theorem fG_.used(w:fG_ T d P ps)(hi:i<48):i∈P↔ij_ T i=true:=by
 have F:=w.len;constructor;intro h;have⟨p,A,D⟩:=w.sub.pagesMay i h;unfold ij_;rw[A];exact D.2.used;refine λh=>Decidable.byContradiction λq=>?_;have:=w.rest i _ (kG o_) q;unfold ij_ at h;unfold cP_ at this;grind
def lB_(T:List Pg)(k:Nat):List Int:=List.map (λi:Nat=>(i:Int)) ((List.range k).filter λi=> !ij_ T i)
theorem wL_(T:List Pg)(k:Nat):lB_ T (k+1)=lB_ T k++(match ij_ T k with|true=>[]|false=>[(k:Int)]):=by
 unfold lB_;rw[range_succ,filter_append,kL];grind
theorem yz_:x∈lB_ T k↔∃i:Nat,x=i/\i<k/\ij_ T i=false:=by
 unfold lB_;grind
theorem A2_(T:List Pg)(k:Nat):(lB_ T k).Nodup:=by
 unfold lB_;rw[Nodup,pairwise_map];exact ((nodup_range).sublist filter_sublist).imp λh e=>h o_
theorem wX_ (q:Nat->Bool):∀l:List Nat,(l.filter q).length+(l.filter λi=> !q i).length=l.length
 |[]=>rfl
 |x::l=>by
  have:=wX_ q l;grind
theorem fG_.frees (w:fG_ T d P ps) (F:ws.Perm (lB_ T 48)):q8_ P ws/\ws.length+P.length=48:=by
 refine⟨⟨λx I=>?_,F.nodup_iff.2 (A2_ T 48),λx I J=>?_⟩,?_⟩;have⟨i,e,N,D⟩:=yz_.1 (F.mem_iff.1 I);have:i≠0:=λq=>by
  subst q;rw[(w.used o_).1 w.sub.head]at D;cases D
 omega;have⟨i,e,N,D⟩:=yz_.1 (F.mem_iff.1 I);subst e;have:(i:Int).toNat=i:=rfl;rw[this,w.used N,D]at J;grind;have A:P.Perm ((List.range 48).filter λi=>ij_ T i):=by
  refine (perm_ext_iff_of_nodup w.nodup ((nodup_range).sublist filter_sublist)).2 λi=>?_;rw[mem_filter,mem_range];constructor;intro h;have:=w.sub.inT i h;rw[w.len]at this;exact⟨this,(w.used this).1 h⟩;rintro⟨U,O⟩;exact (w.used U).2 O
 rw[A.length_eq,F.length_eq];unfold lB_;have:=wX_ (λi=>ij_ T i) (List.range 48);grind
def Ev_(T:List Pg):Nat:=(T.map gK).sum
theorem zr_ (h:0<aK_ T):Ev_ T=(cK_ T).length:=by
 have ⟨st,s⟩:=SF.of h;rw[<-s.sums.1];have A:=t0_ h;have:∀l:List Pg,(∀p∈l,p∈T)->(l.map gK).sum=oO_ gK l:=by
  intro l;induction l with
  |nil=>intro _;rfl
  |cons p l I=>
   intro F;have D:=I λq J=>F q (mem_cons_of_mem _ J);unfold oO_ at D ⊢;rw[map_cons,sum_cons,map_cons,sum_cons,D];rcases A p (F p t_) with q|q;rw[((d3_ p).1 q).2.used];rw[q];rfl
 exact this T λp A=>A
theorem EN_ (h:Sub T d k P ps) (F:T[k]?=some p) (J:T'[t]?=some p) (U:P.Nodup) (Z:∀i∈P,i≠k->T'[i]?=T[i]?):Sub T' d t (t::P.tail) ps:=by
 have I:=h.may F;cases A:p.leaf with
 |true=>
  have⟨e,D,O⟩:=h.leafD F A;subst e;subst D;exact⟨p,J,I,.inl ⟨rfl,A,rfl,O⟩⟩
 |false=>
  have⟨d',W,e,D,N⟩:=h.innD F A;subst e;subst D;exact⟨p,J,I,.inr ⟨A,W,rfl,N.imp λj Q qs Y V=>Y.keep λi hi=>Z i g_ λe=>(nodup_cons.1 U).1 g_⟩⟩
theorem Sub.eHead(h:Sub T d a P ps):P=a::P.tail:=by
 cases d with
 |zero=>exact h.elim
 |succ d=>obtain⟨p,_,_,⟨_,_,e,_⟩|⟨_,A,e,_⟩⟩:=h<;>simp[e]
theorem Ib_(O:cF_ T d 0 PX psX)(hY:cF_ T d x.toNat PY psY)(hq:psX++psY=qs)(lt:∀e∈psX,blt e.1 s=true)(ge:∀e∈psY,blt e.1 s=false)(hs:1<=s.size/\s.size<=6)
 (hx:1<=x/\x<48) (hy:1<=y/\y<48) (Z:(PX++PY).Nodup) (N:y.toNat∉PX++PY) (hr:T[0]?=some r) (F:T.length=48) (D:∀i p,T[i]?=some p->i∉PX++PY->cP_ p=true) (hc:qs.length<=60):
 ∃P,fG_ ((T.set 0 ⟨true,false,[s],[],[y,x]⟩).set y.toNat r) (d+1) P qs:=by
 have eX:=O.1.eHead;have n1:=kT.1 Z;have h0X:=O.1.head;have xY:=hY.1.head;have y0:y.toNat≠0:=by omega
 have xy:y.toNat≠x.toNat:=λe=>N (by rw[e];simp[xY]);have t0:((T.set 0 (⟨true,false,[s],[],[y,x]⟩)).set y.toNat r)[0]?=some ⟨true,false,[s],[],[y,x]⟩:=by rw[kF y0,kH o_]
 have ty:((T.set 0 (⟨true,false,[s],[],[y,x]⟩)).set y.toNat r)[y.toNat]?=some r:=by rw[kH s_]
 have Y:∀i,i≠0->i≠y.toNat->((T.set 0 (⟨true,false,[s],[],[y,x]⟩:Pg)).set y.toNat r)[i]?=T[i]? :=λi h1 h2=>by rw[kF (Ne.symm h2),kF (Ne.symm h1)]
 have I:∀i∈PX++PY,i≠y.toNat:=λi A e=>N (by rw[<-e];exact A);have⟨q,J,W⟩:=O.2;rw[hr]at J;obtain rfl:=Option.some.inj J;refine⟨0::((y.toNat::PX.tail)++PY),by simp[F],⟨_,t0,⟨t_,⟨rfl,ee_ t_,λk U=>?_,λe=>(by cases e),λ_=>⟨t_,rfl,rfl,λk U=>?_,?_⟩⟩⟩,.inr ⟨rfl,_,rfl,?_⟩⟩,g_,λi p hp A=>?_,hc⟩;rw[mem_singleton.1 U];exact hs;simp[kU]at U;rcases U with e|e;rw[e];exact hy;rw[e];exact hx;have:y≠x:=λe=>xy (by rw[e]);simp[this];refine⟨y.toNat::PX.tail,psX,PY,psY,⟨EN_ (T':=(T.set 0 (⟨true,false,[s],[],[y,x]⟩)).set y.toNat r) O.1 hr ty n1.1 λi A V=>Y i V (I i (by simp[A])),_,ty,W⟩,⟨rfl,hY.keep (T':=(T.set 0 (⟨true,false,[s],[],[y,x]⟩)).set y.toNat r) λi A=>Y i ((λi A e=>n1.2.2 0 h0X i A e.symm:∀i∈PY,i≠0) i A) (I i (by simp[A]))⟩,rfl,hq.symm,lt,ge⟩;simp only[kU,kD,not_or]at A;rw[Y i A.1 A.2.1.1]at hp;refine D i p hp λh=>?_;rcases kD.1 h with z|z;rw[eX]at z;rcases kU.1 z with z|z;exact A.1 z;exact A.2.1.2 z;exact A.2.2 z
end
section
variable{H:Hp}{Q:Post}{x:Pl}{n:Nat}{T:List Pg}{cs:List Am.PC}
theorem IQ_(h:p.keys.length<=1000):gK p<=1000:=by unfold gK;cases p.leaf<;>simp<;>omega
theorem zx_ {l0:Nat} (hT:Tr H x n cs T) (hg:gt H l0 0=some (.sl x n 5)) (hn:n<=48) (hs:∀p∈T,small p) (hQ:Q (gI (Ev_ T:Int)) H):bL_ [yQ l0] H Q:=by
 have hlT:=hT.lenT;have sumle:∀k,k<=n->((T.take k).map gK).sum<=1000*k:=by
  intro k;induction k with
  |zero=>intro _;simp
  |succ k ih=>
   intro hk;have hk':k<T.length:=by omega
   rw[take_succ_eq_append_getElem hk',kL,sum_append];have:=IQ_ (hs _ (kE hk')).2.2.1;simp only[map_cons,map_nil,sum_cons,sum_nil];have:=ih o_;omega
 have loop:∀(f k:Nat),n-k<f->k<=n->bL_.l3 f ((((T.take k).map gK).sum:Nat):Int) x n (nI n) (k:Int) H Q:=by
  intro f;induction f with
  |zero=>intro k h;omega
  | succ f ih=>
   intro k hf hk;rw[bL_.l3_eq];by_cases hkn:k<n
   ·obtain⟨l,o,c,p,rfl,hc,hpp,hpc,g0,g1,g2,g3,g4⟩:=hT.get hkn;have etN:tN (k:Int)=k:=rfl;rw[az_ s_,af_];refine ab_ s_ ?_;rw[ae_,etN,cz_ g0 g1 g2 g3 g4,an_ o_];have e1:=hpc.keys.len;have hk':k<T.length:=by omega
    have eT:T[k]=p:=(kC.1 hpp).2;have es:((T.take (k+1)).map gK).sum=((T.take k).map gK).sum+gK p:=by
     rw[take_succ_eq_append_getElem hk',eT];simp
    have b1:=sumle k o_;have b2:=IQ_ (hs p (by rw[<-eT];exact kE hk')).2.2.1;have b3:=(hs p (by rw[<-eT];exact kE hk')).2.2.1;have next:=ih (k+1) o_ o_;rw[es]at next;have hl:=hpc.leaf;unfold gK at next b2;cases hpl:p.leaf with
    |true=>
     rw[hpl]at next;rw[az_ (by rw[<-hl,hpl]),i9_,e1,b7_ o_ o_];have e2:(((T.take k).map gK).sum:Int)+(p.keys.length:Int)=((((T.take k).map gK).sum+p.keys.length:Nat):Int):=by omega
     rw[e2];exact next
    |false=>
     rw[hpl]at next;rw[aA_ (by rw[<-hl,hpl])];exact next
   .obtain rfl:k=n:=by omega
    rw[aA_ t_,k7 o_];exact hQ
 refine⟨n+2,?_⟩;rw[ra_,ae_,kQ,ac_ hg,ah_];exact loop (n+1) 0 o_ (kP _)
end
section
variable{B H:Hp}{le tp:Nat}{ds:List Am.PC}{T:List Pg}{X off:Nat->Prop}{fa:Pl}{ws:List Int}{Q:Post}
theorem CT.gt(g:CT B H tPg (some (tp,0)) 48 ds T)(D:∀p∈T,small p):GT B H tp ds T (λ_=>True) (λ_=>False):=by
 have J:=g.ot.len;have N:=g.ot.lenT;refine⟨g.pre,g.ot,λi h=>(g.own i h o_).wo (g.ot.all i h o_) (D _ (kE _)),λi h l F=>?_,λi h I _=>g.own i h I,g.ap,λl h=>h.elim⟩;have A:=g.own i h o_;obtain⟨o,e|e|e⟩:=F;exact A.keys.ge e;exact A.vals.ge e;exact A.kids.ge e
structure J1_(T A:List Pg)(key v:Y_):Prop where
 pos:0<aK_ A
 ent:cK_ A=insK (cK_ T) key v
theorem Dd_ {key v:Y_} {P:List Nat} {d:Nat} (f:Nat) (m:WM B H le tp ds T (λ_=>True) fa ws) (w:fG_ T d P (cK_ T)) (hp:ws.Perm (lB_ T 48)) (hc:(insK (cK_ T) key v).length<=60) (h1:1<=key.size) (h2:key.size<=6) (h3:v.size<=10) {x8:Pl} {n9:Nat} {a2:Pl} {n3:Nat}
 (hQ:∀H' ds' T' X' off',GT B H' tp ds' T' X' off'->J1_ T T' key v->Q (.tup [yB (some (tp,0)) 48,nN 0]) H'):
 br_.l8 (f+1) key v a2 n3 le 0 le 0 x8 n9 48 48 H Q:=by
 obtain⟨fr,cnt⟩:=w.frees hp;have q1:=m.g.ot.len;have q2:=m.g.ot.lenT;obtain⟨p0,hp0⟩:=w.sub.get;rw[br_.l8_eq,aA_ d_];refine⟨d,Cw_ h1 h2 h3 d (a:=0) m w.sub w.nodup (λ_ _=>trivial) fr hp0 (.inl (by have:=w.count;omega)) λH1 ds1 T1 P1 ws1 X1 r rp m1 pr hX1 hrp=>?_⟩;have fi:=pr.fin;have q3:=m1.g.ot.len;have q4:=m1.g.ot.lenT;have rest1:∀(i:Nat) p,T1[i]?=some p->i∉P1->cP_ p=true:=λi p hp hi=>by
  rw[fi.out i hi]at hp;exact w.rest i p hp λh=>hi (fi.sub i h)
 have cnt1:=fi.count;simp only[aO_,ge_];cases r with
 |none=>
  have hrp':rp=none:=hrp;subst hrp';rw[HV_,aA_ d_,kQ,ac_ m1.gtE,ah_];have w1:fG_ T1 d P1 (insK (cK_ T) key v):=⟨o_,fi.res,fi.nd,rest1,hc⟩;refine hQ H1 ds1 T1 X1 _ m1.g ⟨w1.pos',w1.sound.2⟩
 | some sx=>
  obtain⟨s,x⟩:=sx;obtain⟨lq,e,hq⟩:=hrp;subst e;obtain⟨PX,psX,PY,psY,s1,s2,s3,s4,s5,s6,s7,s8,s9,s10⟩:=fi.res;rw[IF_,az_ d_,kQ,ac_ m1.gtE,ah_,af_];refine ab_ d_ ?_;obtain⟨b0,b1,b2,b3,b4⟩:=m1.g.cells (i:=0) o_;have et0:tN 0=0:=rfl;rw[ae_,et0,cz_ b0 b1 b2 b3 b4];have hpg:=cF_.pages s1;have hpg2:=cF_.pages s2;have hPl:P1.length=PX.length+PY.length:=by rw[s3];simp
  have hql:psX.length+psY.length<=60:=by rw[<-s4]at hc;simpa using hc
  have hne:ws1≠[]:=λe=>by rw[e]at cnt1;simp at cnt1;omega
  refine BI_ m1 hne (λy hy=>⟨by have:=(fi.fr.rng y hy).1;omega,(fi.fr.rng y hy).2⟩) (c:=ds1[0]'o_) λy init H2 hperm m2 l2 k2=>?_;obtain⟨f1,f2,f3,f4,f5,f6,f7⟩:=fi.fr.pop hperm;simp only[aO_,aj_];have hr2:=m2.g.ot.at_row.2;have htp:=(kC.1 hr2).1;have hyl:y.toNat<ds1.length:=by omega
  have y0:y.toNat≠0:=by omega
  have hle:=m2.le_lt;have hlet:le≠tp:=(m2.g.off le (.inl rfl)).2.1;have hlq2:H2[lq]?=H1[lq]? :=k2 lq λh=>by
   rcases h with rfl|⟨o,e⟩
   .rcases m1.fre with⟨_,e,_⟩|⟨lf,rest,e,hf⟩
    .exact hne e
    .exact zG_ hq hf.wr d_ rfl
   .rcases m1.fre with⟨e',_,_⟩|⟨lf,rest,e',hf⟩
    .rw[e']at e;cases e
    .rw[e']at e;cases e;exact zG_ hq hf.row d_ rfl
  have hq2:H2[lq]?=some (.row true xe_ [.str s,.int .i64 x]):=by rw[hlq2];exact hq
  have hlqt:lq≠tp:=λe=>by rw[e,hr2]at hq2;simp at hq2;exact absurd hq2.1 d_
  have hlq:=(kC.1 hq2).1;have g0:∀Z:List Obj,gt (H2.set tp (.row true tPg (aY_ (ds1.set y.toNat (ds1[0]'o_))))++Z) le 0=some (.sl (some (tp,0)) 48 5):=λZ=>by
   rw[<-m2.gtE];unfold gt;rw[kM (by simpa using hle),kF (Ne.symm hlet)]
  have gq0:∀Z:List Obj,gt (H2.set tp (.row true tPg (aY_ (ds1.set y.toNat (ds1[0]'o_))))++Z) lq 0=some (.str s):=λZ=>by
   have:gt H2 lq 0=some (.str s):=by rw[aX_ hq2];rfl
   rw[<-this];unfold gt;rw[kM (by simpa using hlq),kF (Ne.symm hlqt)]
  have gq1:∀Z:List Obj,gt (H2.set tp (.row true tPg (aY_ (ds1.set y.toNat (ds1[0]'o_))))++Z) lq 1=some (.int .i64 x):=λZ=>by
   have:gt H2 lq 1=some (.int .i64 x):=by rw[aX_ hq2];rfl
   rw[<-this];unfold gt;rw[kM (by simpa using hlq),kF (Ne.symm hlqt)]
  have z0:=g0 [];have zq0:=gq0 [];have zq1:=gq1 [];rw[append_nil]at z0 zq0 zq1;rw[ac_ z0,ah_,ae_,kQ,ac_ zq0,aq_,ae_,kN,ac_ zq1,aj_];have fin:∀(Z:List Obj)(lk ln':Nat),Z.length=2->(H2++Z)[lk]?=some (.row true tS [.str s])->(H2++Z)[ln']?=some (.row true tI [.int .i64 y,.int .i64 x])->H2.length<=lk->H2.length<=ln'->lk≠ln'->
   wr (H2.set tp (.row true tPg (aY_ (ds1.set y.toNat (ds1[0]'o_))))++Z) tp (0*5) (.bool true) λH66=>wr H66 tp (0*5+1) (.bool false) λH67=>wr H67 tp (0*5+1+1) (.sl (some (lk,0)) 1 1) λH68=>wr H68 tp (0*5+1+1+1) (.sl none 0 1) λH69=>wr H69 tp (0*5+1+1+1+1) (.sl (some (ln',0)) 2 1) λH70=>
    rd H70 le 0 λv71=>dL 5 v71 λx72 n73=>Q (.tup [(.a [(.sl x72 n73 5)]),(nN 0)]) H70:=λZ lk ln' hZ hk hn hlk hln hne'=>by
   have ra:(H2.set tp (.row true tPg (aY_ (ds1.set y.toNat (ds1[0]'o_))))++Z)[tp]?=some (.row true tPg (aY_ (ds1.set y.toNat (ds1[0]'o_)))):=by
    rw[kM (by simpa using htp)];exact kH htp
   refine wr5 (i:=0) (c:=⟨true,false,some (lk,0),1,none,0,some (ln',0),2⟩) ra s_ ?_;have eset:(H2.set tp (.row true tPg (aY_ (ds1.set y.toNat (ds1[0]'o_))))++Z)=(H2++Z).set tp (.row true tPg (aY_ (ds1.set y.toNat (ds1[0]'o_)))):=(set_append_left _ _ htp).symm;rw[eset,set_set];have mZ:=m2.mono (prefix_append H2 Z);have hBl:=m2.g.pre.length_le;have htpZ:tp<(H2++Z).length:=by rw[kI];omega
   have kp:∀(cs:List GV) l,l≠tp->((H2++Z).set tp (.row true tPg cs))[l]?=(H2++Z)[l]? :=λcs l hl=>by rw[kF (Ne.symm hl)]
   have g1:gt ((H2++Z).set tp (.row true tPg (aY_ ((ds1.set y.toNat (ds1[0]'o_)).set 0 ⟨true,false,some (lk,0),1,none,0,some (ln',0),2⟩)))) le 0=some (.sl (some (tp,0)) 48 5):=by
    rw[<-mZ.gtE];unfold gt;rw[kp _ le hlet]
   rw[ac_ g1,ah_];have onr:∀l,(⟨true,false,some (lk,0),1,none,0,some (ln',0),2⟩:Am.PC).on l->l=lk\/l=ln':=λl hl=>by
    obtain⟨o,e|e|e⟩:=hl
    .cases e;exact .inl rfl
    .cases e
    .cases e;exact .inr rfl
   have at0:∀cs,(⟨true,false,some (lk,0),1,none,0,some (ln',0),2⟩:Am.PC).at ((H2++Z).set tp (.row true tPg cs)) ⟨true,false,[s],[],[y,x]⟩:=λcs=>by
    have k1:((H2++Z).set tp (.row true tPg cs))[lk]?=some (.row true tS [.str s]):=by rw[kp _ lk o_];exact hk
    have k2:((H2++Z).set tp (.row true tPg cs))[ln']?=some (.row true tI [.int .i64 y,.int .i64 x]):=by rw[kp _ ln' o_];exact hn
    exact⟨rfl,rfl,⟨by simp[cells?,k1],rfl,by show 1*16<=_;omega⟩,⟨rfl,rfl,by show 0*16<=_;omega⟩,⟨by simp[cells?,k2],rfl,by show 2*8<=_;omega⟩⟩
   have wo0:∀cs,WoP ((H2++Z).set tp (.row true tPg cs)) B.length 1000 ⟨true,false,some (lk,0),1,none,0,some (ln',0),2⟩:=λcs=>by
    have k1:((H2++Z).set tp (.row true tPg cs))[lk]?=some (.row true tS [.str s]):=by rw[kp _ lk o_];exact hk
    have k2:((H2++Z).set tp (.row true tPg cs))[ln']?=some (.row true tI [.int .i64 y,.int .i64 x]):=by rw[kp _ ln' o_];exact hn
    refine⟨.inr ⟨lk,0,[s],rfl,o_,k1,t_,λz hz=>?_⟩,.inl rfl,.inr ⟨ln',0,[y,x],rfl,o_,k2,t_⟩,by show 1<=1000;omega,by show 0<=1000;omega,by show 2<=1000;omega⟩;rw[mem_singleton.1 hz];omega
   have t1:=mZ.g.turn (i:=0) (H':=(H2++Z).set tp (.row true tPg (aY_ (ds1.set 0 ⟨true,false,some (lk,0),1,none,0,some (ln',0),2⟩)))) (c:=⟨true,false,some (lk,0),1,none,0,some (ln',0),2⟩) (p:=⟨true,false,[s],[],[y,x]⟩) (X':=λ_=>False) o_ t_ (λl _ _ hl _=>kp _ l hl) (kH htpZ) (at0 _) (wo0 _)
    (λl hl=>by
     have hl':H2.length<=l:=by rcases onr l hl with e|e<;>omega
     exact⟨o_,λq=>by have:=m2.off_lt q;omega,o_,λj hj _ hon=>by have:=m2.g.onlt j hj hon;omega⟩) λj hj=>hj.elim
   have t2:=t1.turn (i:=y.toNat) (H':=(H2++Z).set tp (.row true tPg (aY_ ((ds1.set 0 ⟨true,false,some (lk,0),1,none,0,some (ln',0),2⟩).set y.toNat (ds1[0]'o_))))) (c:=ds1[0]'o_) (p:=T1[0]'o_) (X':=λ_=>False) s_ t_ (λl _ _ hl _=>by rw[kp _ l hl,kp _ l hl]) (kH htpZ)
    ((mZ.g.ot.all 0 o_ o_).keep λl hl=>kp _ l λe=>mZ.g.ot.off _ (kE o_) l hl (by rw[e])) ((mZ.g.wo 0 o_).keepOn λl hl=>kp _ l λe=>mZ.g.ot.off _ (kE o_) l hl (by rw[e]))
    (λl hl=>by
     refine⟨λe=>mZ.g.ot.off _ (kE o_) l hl (by rw[e]),λq=>(mZ.g.off l q).2.2 0 o_ hl,mZ.g.base 0 o_ l hl,λj hj hne2 hon=>?_⟩;rw[getElem_set]at hon;by_cases e:0=j
     .rw[if_pos e]at hon;have:=m2.g.onlt 0 o_ hl;rcases onr l hon with z|z<;>omega
     .rw[if_neg e]at hon;exact mZ.g.ap 0 j o_ (by simpa using hj) e l hl hon) λj hj=>hj.elim
   rw[set_comm _ _ (Ne.symm y0)]at t2;have e0:T1[0]?=some (T1[0]'o_):=kG o_;obtain⟨P2,w2⟩:=Ib_ (y:=y) s1 s2 s4 s5 s6 s7 ⟨s8,s9⟩ f2 (by rw[<-s3];exact fi.nd) (by rw[<-s3];exact f3) e0 o_ (λi p hp hi=>rest1 i p hp (by rw[s3];exact hi)) hc;exact hQ _ _ _ _ _ t2 ⟨w2.pos',w2.sound.2⟩
  have eln:ln (H2.set tp (.row true tPg (aY_ (ds1.set y.toNat (ds1[0]'o_)))))=H2.length:=by simp[ln]
  have elp:∀o,ln (pu (H2.set tp (.row true tPg (aY_ (ds1.set y.toNat (ds1[0]'o_))))) o)=H2.length+1:=λo=>by simp[ln,pu]
  refine⟨?_,?_⟩
  .simp only[fl_];have A:=gq1 [.row true 9 [.str s]];have A0:=g0 [.row true 9 [.str s]];rw[ac_ A,aj_];refine⟨rfl,?_⟩;rw[ac_ A0,ah_];refine⟨rfl,?_⟩;rw[kV];have B0:=gq0 ([Obj.row true 9 [.str s]]++[.row true 3 [.int .i64 y,.int .i64 x]]);have B1:=g0 ([Obj.row true 9 [.str s]]++[.row true 3 [.int .i64 y,.int .i64 x]]);rw[ac_ B0,aq_];refine⟨rfl,?_⟩;rw[ac_ B1,ah_];refine⟨rfl,?_⟩;rw[af_];refine ab_ d_ ?_;rw[ae_];have F:=fin ([Obj.row true 9 [.str s]]++[.row true 3 [.int .i64 y,.int .i64 x]]) H2.length (H2.length+1) rfl t_ (by rw[<-kV,getElem?_append_right t_];simp) (kO _) o_ o_;simp only[d2_,kI,length_set,length_cons,length_nil,kN,kQ]at F ⊢;exact F
  .simp only[fl_];have A:=gq0 [.row true 3 [.int .i64 y,.int .i64 x]];have A0:=g0 [.row true 3 [.int .i64 y,.int .i64 x]];rw[ac_ A,aq_];refine⟨rfl,?_⟩;rw[ac_ A0,ah_];refine⟨rfl,?_⟩;rw[kV];have B0:=gq1 ([Obj.row true 3 [.int .i64 y,.int .i64 x]]++[.row true 9 [.str s]]);have B1:=g0 ([Obj.row true 3 [.int .i64 y,.int .i64 x]]++[.row true 9 [.str s]]);rw[ac_ B0,aj_];refine⟨rfl,?_⟩;rw[ac_ B1,ah_];refine⟨rfl,?_⟩;rw[af_];refine ab_ d_ ?_;rw[ae_];have F:=fin ([Obj.row true 3 [.int .i64 y,.int .i64 x]]++[.row true 9 [.str s]]) (H2.length+1) H2.length rfl (by rw[<-kV,getElem?_append_right t_];simp) t_ o_ (kO _) o_;simp only[d2_,kI,length_set,length_cons,length_nil,kN,kQ]at F ⊢;exact F
end
section
variable{B H:Hp}{le tp:Nat}{ds:List Am.PC}{T:List Pg}{Q:Post}{key v:Y_}{P:List Nat}{d:Nat}
theorem GT.all{X A:Nat->Prop}(g:GT B H tp ds T X A)(I:Hp)(h:∀l,B.length<=l->l<H.length->I[l]?=H[l]?):Tr I (some (tp,0)) 48 ds T:=by
 have⟨O,N⟩:=g.ot.at_row;refine (g.ot.keep (λl e=>by grind) λc J l F=>?_).tr;obtain⟨i,D,rfl⟩:=kK J;exact h l (g.base i D l F) (g.onlt i D F)
theorem AG_ (w:fG_ T d P (cK_ T)) (hc:(insK (cK_ T) key v).length<=60) (h1:1<=key.size) (h2:key.size<=6) (h3:v.size<=10) {a2:Pl} {n3:Nat}
 (hQ:∀H' ds' T' X' off',GT B H' tp ds' T' X' off'->J1_ T T' key v->Q (.tup [yB (some (tp,0)) 48,nN 0]) H'):
 ∀(f k:Nat)(fa:Pl)(ws:List Int)(H:Hp),48-k<f->k<=48->GT B H tp ds T (λ_=>True) (yd_ le fa)->FA H B.length le (.sl (some (tp,0)) 48 5) fa ws->ws.Perm (lB_ T k)->br_.l8 f key v a2 n3 le 0 le 0 (some (tp,0)) 48 48 (k:Int) H Q:=by
 intro f;induction f with
 |zero=>intro k _ _ _ h;omega
 | succ f ih=>
  intro k fa ws H hf hk g hfa hp;have q1:=g.ot.len;have q2:=g.ot.lenT;by_cases hk48:k=48
  .subst hk48;refine Dd_ f ⟨g,?_⟩ w hp hc h1 h2 h3 hQ;rcases hfa with h|⟨lf,e,hb,h⟩
   .exact .inl h
   .exact .inr ⟨lf,[],e,h⟩
  ·obtain⟨c0,c1,c2,c3,c4⟩:=g.cells (i:=k) o_;have etN:tN (k:Int)=k:=rfl;rw[br_.l8_eq,az_ s_,af_];refine ab_ s_ ?_;rw[ae_,etN,cz_ c0 c1 c2 c3 c4,an_ o_];have hat:=g.ot.all k o_ o_;have hu:ij_ T k=ds[k].u:=by
    unfold ij_;rw[kG o_];exact hat.used
   refine aa_ (λe=>?_) λe=>?_
   ·have e:ij_ T k=false:=by rw[hu];cases h:ds[k].u<;>simp_all
    have hlw:ws.length<1000:=by
     have:=hp.length_eq;have h2:(lB_ T k).length<=k:=by
      unfold lB_;rw[k9];have:=length_filter_le (λi=> !ij_ T i) (List.range k);rwa [length_range]at this
     omega
    rw[kN];refine vF_ hfa g.pre.length_le hlw λlf ws' H' hperm hfa' hlf hlf' hkeep=>?_;have htp:=(kC.1 g.ot.at_row.2).1;refine ih (k+1) (some (lf,0)) ws' H' o_ o_ ((g.keep (λl hl hno=>hkeep l hl (λq=>hno (.inl q)) λo q=>hno (.inr ⟨o,q⟩)) o_).reoff λl hl=>?_) hfa' ?_
    ·rcases hl with rfl|⟨o,e⟩
     .exact g.off _ (.inl rfl)
     .have e:lf=l:=by cases e;rfl
      subst e;exact⟨by have:=g.pre.length_le;omega,o_,λi hi hon=>by have:=g.onlt i hi hon;omega⟩
    .rw[wL_,e];exact hperm.trans (hp.append_right _)
   .have e:ij_ T k=true:=by rw[hu];cases h:ds[k].u<;>simp_all
    exact ih (k+1) fa ws H o_ o_ g hfa (by rw[wL_,e,append_nil];exact hp)
variable{x:Pl}{n:Nat}{cs:List Am.PC}
theorem pN_ (hT:Tr H x n cs T) (e0:0<aK_ T) (k1:1<=key.size) (k2:key.size<=6) (k3:v.size<=10) (hc:(insK (cK_ T) key v).length<=60)
 (hQ:∀a ds A H',H<+:H'->(∀I:Hp,(∀l,H.length<=l->l<H'.length->I[l]?=H'[l]?)->Tr I a 48 ds A)->0<aK_ A->cK_ A=insK (cK_ T) key v->Q (.tup [yB a 48,nN 0]) H'):
 br_ [yA x n,gS key,gS v] H Q:=by
 have pA:=b9_ H (.row true tTr [(.sl x n 5)]);have g0:gt (pu H (.row true tTr [(.sl x n 5)])) (ln H) 0=some (.sl x n 5):=by simp[gt,pu,ln]
 refine⟨60,?_⟩;rw[sx_,ac_ g0,ah_];have hTA:=hT.mono pA;refine im_ hTA λH1 p1=>?_;simp only[aO_,ao_];rw[lE e0,aA_ d_];refine pw_ ?_;simp only[aO_,ao_];rw[lE k1,lE k2,aA_ d_];refine mk_ ?_;simp only[aO_,ao_];rw[lE k3,aA_ d_];obtain⟨P,w⟩:=m9_ e0;have hn48:n=48:=by have:=hT.lenT;have:=w.len;omega
 subst hn48;have hs:=tQ_ e0;have g1:gt H1 (ln H) 0=some (.sl x 48 5):=b8_ p1 g0;rw[ac_ g1,ah_];refine oo_ (hTA.mono p1) λH2 p2=>?_;simp only[aN_,aJ_,bK_,aq_,ao_,aj_,bh_];have g2:gt H2 (ln H) 0=some (.sl x 48 5):=b8_ p2 g1;rw[Br_ e0];have work:∀H3:Hp,H2<+:H3->(rd H3 (ln H) 0 λv37=>dL 5 v37 λx38 n39=>cl cD_ [(.agg [(.sl x38 n39 5)])] H3 λr40 H41=>rA r40 λc42=>uC c42 λv43 c44=>dL 5 v43 λx45 n46=>uN c44 (rd (pu H41 (.row true iA_ [(.sl x45 n46 5),(.sl none 0 1)])) (ln H41) 0 λv47=>dL 5 v47 λx48 n49=>
  br_.l8 59 key v none 0 (ln H41) 0 (ln H41) 0 x48 n49 (nI n49) 0 (pu H41 (.row true iA_ [(.sl x45 n46 5),(.sl none 0 1)])) Q)):=λH3 p3=>by
  have p:=p1.trans (p2.trans p3);rw[ac_ (b8_ p3 g2),ah_];refine mt_ (hTA.mono p) o_ hs λa' ds H4 g=>?_;simp only[e0_,bl_,ah_,bV_];obtain⟨tp,ea,hb,hr,_⟩:=kw_ g.ot.own (by have:=g.ot.len;omega);subst ea;have g4:gt (pu H4 (.row true iA_ [(.sl (some (tp,0)) 48 5),(.sl none 0 1)])) (ln H4) 0=some (.sl (some (tp,0)) 48 5):=by simp[gt,pu,ln]
  rw[ac_ g4,ah_];have htp:=(kC.1 hr).1;refine AG_ w hc k1 k2 k3 (λH' ds' T' X' off' gt' q=>hQ _ _ _ _ (((pA.trans p).trans gt'.pre)) (λI hI=>gt'.all I λl a b=>hI l (Nat.le_trans (pA.trans p).length_le a) b) q.pos q.ent) 59 0 none [] _ o_ o_ (((g.gt hs).mono (b9_ H4 _)).reoff λl hl=>?_) (.inl ⟨rfl,rfl,by simp[pu,ln]⟩) (Perm.refl _);rcases hl with rfl|⟨o,e⟩
  .refine⟨g.pre.length_le,by unfold ln;omega,λi hi hon=>?_⟩;have:=(g.gt hs).onlt i hi hon;unfold ln at this;omega
  .cases e
 cases hf:(b6_ (cK_ T) key).isSome with
 | false=>
  rw[az_ d_];refine zx_ (hTA.mono (p1.trans p2)) g2 o_ hs ?_;simp only[aO_,aj_];have hl:(insK (cK_ T) key v).length=(cK_ T).length+1:=by
   rw[wt_ w.sub.asc.1];cases h:b6_ (cK_ T) key with
   |none=>rfl
   |some _=>rw[h]at hf;cases hf
  rw[zr_ e0,aA_ s_];exact work H2 (k8 _)
 |true=>
  rw[aA_ d_];exact work H2 (k8 _)
end
section
variable{H:Hp}{Q:Post}{x:Pl}{n:Nat}{T:List Pg}{cs:List Am.PC}{key:Y_}
theorem B5_(N:Tr H x n cs T)(hn:n*80<=140737488351232)(F:0<aK_ T)(V:(b6_ (cK_ T) key).isSome=true)
 (hQ:∀a Y T' H',H<+:H'->(∀I:Hp,(∀l,H.length<=l->l<H'.length->I[l]?=H'[l]?)->Tr I a 48 Y T')->0<aK_ T'->cK_ T'=iZ_ (cK_ T) key->Q (.tup [yB a 48,.s (.bool true),nN 0]) H'):
 cY_ [yA x n,gS key] H Q:=by
 refine⟨2,?_⟩;rw[wN_];refine oo_ N λH1 G=>?_;simp[aN_];have e1:kn_ 1100 T=0:=by unfold kn_;rw[lE F]
 rw[e1,aA_ t_,Br_ F];have⟨P,w⟩:=m9_ F;have D:n=48:=by have:=N.lenT;have:=w.len;omega
 subst D;have Z:=tQ_ F;refine mt_ (N.mono G) o_ Z λa' Y I g=>?_;simp[e0_];have⟨tp,ea,gm⟩:=g.cm Z;rw[V,az_ rfl];have⟨v,hv⟩:=Option.isSome_iff_exists.1 V;have A:=wH_ hv;refine⟨aK_ T,y7_ (aK_ T) (a:=0) gm w.sub w.nodup (λ_ _=>trivial) ⟨_,A,rfl⟩ o_ λH3 ds3 T3 X3 P3 g3 dr _=>?_⟩;refine Fs_ g3 w dr (by have:=HL_ (ps:=cK_ T) (k:=key);have:=w.count;omega) λH4 J T4 X4 r hw=>?_;have⟨d4,P4,U⟩:=hw;rw[cY_.l8_eq,kQ,ac_ r.gtE,ah_];have hb:=G.length_le;refine hQ _ J T4 _ (G.trans r.pre) (λH5 k=>(r.ot.keep (λl e=>?_) λc W l O=>?_).tr) U.pos' U.sound.2
 .exact k l (by have:=r.ot.own.above e;omega) (r.ot.own.lt' e)
 .obtain⟨i,hi,rfl⟩:=kK W;exact k l (by have:=r.base i hi l O;omega) (r.ot.onlt W O)
end
def TrP(P:Nat->Prop)(H:Hp)(x:Pl)(n:Nat)(cs:List PC)(A:List Pg):Prop:=∀H':Hp,(∀l,l<H.length-> ¬ P l->H'[l]?=H[l]?)->Tr H' x n cs A
structure TrX(H:Hp)(x:Pl)(n:Nat)(ps:KV)(P:Nat->Prop):Prop where
 ex:∃cs A,0<aK_ A/\cK_ A=ps/\TrP P H x n cs A
theorem Am_(h:0<aK_ T):eb_ T=cK_ T:=by unfold eb_;rw[lE h]
theorem HQ_{H G:Hp}(h:∀l,l<H.length->G[l]?=H[l]?):H<+:G:=ka_ (Nat.le_of_not_lt λq=>by
 have:=h _ q;rw[getElem?_eq_none (kO _),kG q]at this;cases this) h
section
variable{H:Hp}{Q:Post}{x:Pl}{n:Nat}{ps:KV}{k v:Y_}{P:Nat->Prop}
theorem TrP.keep(h:TrP P H x n cs A)(J:H.length<=H'.length)(e:∀l,l<H.length-> ¬ P l->H'[l]?=H[l]?):TrP P H' x n cs A:=λI k=>h I λl a b=>by grind
theorem TrP.mono(h:TrP P H x n cs A)(p:H<+:H'):TrP P H' x n cs A:=h.keep p.length_le λl a _=>a9_ p a
theorem TrP.tr(h:TrP P H x n cs A):Tr H x n cs A:=h H λ_ _ _=>rfl
theorem TrP.of(h:Tr H x n cs A):TrP (λ_=>False) H x n cs A:=λI k=>h.mono (HQ_ λl a=>k l a id)
theorem TrX.keep(h:TrX H x n ps P)(J:H.length<=H'.length)(e:∀l,l<H.length-> ¬ P l->H'[l]?=H[l]?):TrX H' x n ps P:=by
 have⟨F,A,r,D,G⟩:=h.ex;exact⟨F,A,r,D,G.keep J e⟩
theorem TrX.mono(h:TrX H x n ps P)(p:H<+:H'):TrX H' x n ps P:=h.keep p.length_le λl a _=>a9_ p a
theorem TrX.tr(h:TrX H x n ps P):TrK H x n ps:=by
 have⟨F,A,r,D,G⟩:=h.ex;exact⟨F,A,G.tr,r,by rw[Am_ r];exact D⟩
theorem DH_(r:Tr H x n cs A)(h:0<aK_ A):n=48:=by
 have⟨P,w⟩:=m9_ h;have:=r.lenT;have:=w.len;omega
theorem JG_(h:TrX H x n ps P)(Y:∀l,P l->l<H.length)(I:(b6_ ps k).isSome=true)
 (O:∀a H',H<+:H'->TrX H' a 48 (iZ_ ps k) P->Q (.tup [yB a 48,.s (.bool true),nN 0]) H'):cY_ [yA x n,gS k] H Q:=by
 have⟨Z,A,r,F,V⟩:=h.ex;have D:=V.tr;subst F;refine B5_ D (by rw[DH_ D r];omega) r I λa U N H' p t J G=>O a H' p ⟨U,N,J,G,λW q=>t W λl a b=>q l b λz=>by grind⟩
theorem Hs_(h:TrX H x n ps P)(Y:∀l,P l->l<H.length)(O:1<=k.size)(U:k.size<=6)(I:v.size<=10)(J:(insK ps k v).length<=60)
 (V:∀a H',H<+:H'->TrX H' a 48 (insK ps k v) P->Q (.tup [yB a 48,nN 0]) H'):br_ [yA x n,gS k,gS v] H Q:=by
 have⟨Z,A,r,F,D⟩:=h.ex;subst F;refine pN_ D.tr r O U I J λa W N H' p t F G=>V a H' p ⟨W,N,F,G,λM q=>t M λl a b=>q l b λz=>by grind⟩
end
theorem FY_{ps A:KV}(F:Asc ps)(D:(A.map (·.1)).Nodup)(h:∀k,b6_ ps k=look A k):ps.Perm A:=by
 refine (perm_ext_iff_of_nodup (hf_ (sK_ F)) (hf_ D)).2 λp=>⟨λr=>?_,λr=>?_⟩;exact cW_ (by rw[<-h];exact ld_ F r);exact wH_ (by rw[h];exact hi_ D r)
theorem yL_{α:Type}{l:List α}(hi:i<l.length)(k:α):k∈l.take (i+1)↔k∈l.take i\/k=l[i]:=by
 rw[take_add_one,kG hi,kD];simp
theorem tj_{kv:KV}(hi:i<kv.length)(k:Y_):k∈(kv.take (i+1)).map (·.1)↔k∈(kv.take i).map (·.1)\/k=kv[i].1:=by
 rw[take_add_one,kG hi,kL,kD];simp
theorem yv_(A:Asc kv)(hi:i<kv.length):kv[i].1∉(kv.take i).map (·.1):=λq=>by
 have⟨p,D,e⟩:=lA.1 q;obtain⟨j,r,rfl⟩:=kK D;rw[lC]at r;rw[getElem_take]at e;have:=kS.1 A j i o_ hi o_;rw[e,bY_]at this;cases this
section
variable{H:Hp}{Q:Post}{sp ms ml mi:Nat}{c4:GV}{st:StD}{x:Pl}{n:Nat}{kv:KV}{E:Nat->Sm}{P:Nat->Prop}
open Classical in
theorem uO_ (h:eZ_ H sp (.sl x n 5) ms ml mi c4 st) (ok:ze_ st) (hn:dW_ st<=60) (hX:TrX H x n kv P) (hP:∀l,P l->l<H.length)
 (hQ:∀H' x' kv',H<+:H'->TrX H' x' 48 kv' P->kv'.Perm (ty_ st)->Q (yA x' 48) H'):
 aM_ E [yQ sp] H Q:=by
 have hT:=hX.tr;obtain⟨cs0,A0,hT0,h0,e0⟩:=hT.ex;have hkv:mY_ kv:=by rw[<-e0];exact zR_ A0
 have hka:Asc kv:=hT.asc;have hkl:kv.length<=60:=by rw[<-e0];exact nP_ A0
 have hn48:=DH_ hT0 h0;refine⟨kv.length+1601,?_⟩;rw[oZ_];obtain⟨g0,_⟩:=h.rd;simp only[ae_,kN,kQ];rw[ac_ g0,ah_];have hn3:st.snaps.length<=60/\st.links.length<=60/\st.inos.length<=60:=by unfold dW_ at hn;omega
 refine qw_ h ok o_ λH1 mw ps p1 M1 hmw hp=>?_;simp only[aO_,c2_];rw[ac_ (cC_ p1 g0),ah_];refine⟨rfl,?_⟩;refine pz_ (hT0.mono p1) λa m H2 p2 o2 l2=>?_;simp only[aN_,aJ_,bK_,ah_,aj_,bh_,fl_,d2_];rw[e0]at o2 l2;subst l2;have hps:ps.length<=60:=by rw[hp.length_eq];unfold ty_;unfold dW_ at hn;simp;omega
 have M2:=M1.keep (a9_ p2 M1.lt);have nd:=M1.nodup;have p12:H<+:H2:=p1.trans p2;have hmw2:=M2.lt;have sz_ps:∀p∈ps,(1<=p.1.size/\p.1.size<=6)/\p.2.size<=10:=λp hp'=>by
  have hq:=hp.mem_iff.1 hp';unfold ty_ at hq;simp only[kD,lA]at hq;rcases hq with⟨z,hz,rfl⟩|⟨z,hz,rfl⟩|⟨z,hz,rfl⟩
  .exact⟨En_ (ok.snaps z hz).1,Et_ (ok.snaps z hz).2⟩
  .exact⟨DL_ (ok.links z hz).2.1,by show (uw_ z.2).size<=10;unfold uw_;rw[ki_];simp⟩
  .exact⟨by show 1<=(oc_ z.1).size/\(oc_ z.1).size<=6;unfold oc_;rw[ki_];simp,EB_ (ok.inos z hz).2⟩
 have loop13:∀(zs:List Y_)(az:Pl),zs.Perm (ps.map (·.1))->∀(f i:Nat)(G:Hp)(x':Pl)(kv':KV),zs.length-i<f->i<=zs.length->H<+:G->(∀j (hj:j<zs.length),∃l,az=some (l,0)/\gt G l j=some (.str zs[j]))->dF_ ekS evX G mw ps->dF_ ekS evX G H2.length kv->
  TrX G x' 48 kv' P->(∀k,b6_ kv' k=if k∈zs.take i then look ps k else if (look ps k).isSome=true then b6_ kv k else none)->
  aM_.l13 E f none 0 x' 48 (some mw) (some H2.length) az zs.length (nI zs.length) (i:Int) G Q:=by
  intro zs az hz f;induction f with
  |zero=>intro i G x' kv' h;omega
  | succ f ih=>
   intro i G x' kv' hf hi hG hr M D t hfk;have hzl:zs.length<=900:=by rw[hz.length_eq,k9];omega
   rw[aM_.l13_eq];refine aa_ (λe=>?_) λe=>?_
   ·have hi':i<zs.length:=by simpa using e
    obtain⟨l,rfl,hc⟩:=hr i hi';refine ab_ rfl (ab_ s_ ?_);have etn:∀k:Nat,tN (k:Int)=k:=λ_=>rfl;simp only[ae_,kN,etn,Nat.mul_one];rw[ac_ hc,aq_];have hin:=hz.mem_iff.1 (kE hi');obtain⟨w,hw⟩:=(ke_ (ps:=ps) _).1 hin;have hnt:zs[i]∉zs.take i:=λq=>by
     obtain⟨j,hj,e⟩:=kK q;rw[lC]at hj;rw[getElem_take]at e;exact kS.1 (hz.nodup_iff.2 nd) j i o_ hi' o_ e
    have hcur:b6_ kv' zs[i]=b6_ kv zs[i]:=by rw[hfk,if_neg hnt,hw,if_pos (show (some w).isSome=true from rfl)]
    have e2:ad_ .i64 ((i:Int)+1)=((i+1:Nat):Int):=an_ o_;have step:∀(kv2:KV),(∀k,b6_ kv2 k=if zs[i]=k then some w else b6_ kv' k)->∀k,b6_ kv2 k=if k∈zs.take (i+1) then look ps k else if (look ps k).isSome=true then b6_ kv k else none:=λkv2 h2 k=>by
     rw[h2];by_cases q:zs[i]=k
     .subst q;rw[if_pos rfl,if_pos ((yL_ hi' _).2 (.inr rfl)),hw]
     .rw[if_neg q,hfk];have:k∈zs.take (i+1)↔k∈zs.take i:=by rw[yL_ hi'];exact⟨λz=>z.resolve_right λw=>q w.symm,.inl⟩
      simp only[this]
    have hc2:(insK kv' zs[i] w).length<=60:=by
     have:=(d0_ (ps.map (·.1)) ((insK kv' zs[i] w).map (·.1)) (sK_ (rk_ t.tr.asc _ _)) λk hk=>?_).1
     .rw[k9,k9]at this;omega
     ·obtain⟨p,hp,rfl⟩:=lA.1 hk;have hp:=ld_ (rk_ t.tr.asc _ _) hp;rw[yT_ t.tr.asc]at hp;by_cases q:zs[i]=p.1
      .rw[<-q];exact hin
      ·rw[lH q]at hp;simp only at hp;rw[hfk]at hp;split at hp
       .exact (ke_ _).2 ⟨_,hp⟩
       .split at hp
        .rename_i z;exact (ke_ _).2 (Option.isSome_iff_exists.1 z)
        .cases hp
    refine fv_ (ev:=evX) okS D zs[i] (λv0 hv0=>?_) λhv0=>?_;simp only[evX,bK_,aq_];rw[aA_ (show (!true)=false from rfl)];refine fv_ (ev:=evX) okS M zs[i] (λv hv=>?_) λhv=>by rw[hw]at hv;cases hv
    rw[hw]at hv;cases hv;simp only[evX,bK_,aq_];refine aa_ (λe=>?_) λe=>?_
    rotate_left
    .have e:v0=w:=by simpa using e
     rw[e2];refine ih (i+1) G x' kv' o_ o_ hG hr M D t (step _ λk=>?_);by_cases q:zs[i]=k
     .subst q;rw[if_pos rfl,hcur,ld_ hka (cW_ hv0),e]
     .rw[if_neg q]
    simp only[bK_,aq_];rw[az_ (show (!false)=true from rfl)]
    all_goals
     refine fv_ (ev:=evX) okS M zs[i] (λv hv=>?_) λhv=>by rw[hw]at hv;cases hv
     rw[hw]at hv;cases hv
     simp only[evX,bK_,aq_]
     obtain⟨⟨z1,z2⟩,z3⟩:=sz_ps _ (cW_ hw)
     refine Hs_ t (λl hl=>by have:=hP l hl;have:=hG.length_le;omega) z1 z2 z3 hc2 λa' G2 q2 t2=>?_
     simp only[aN_,aJ_,e1_,bl_,ah_,bV_,bK_,aj_,bh_]
     rw[e2]
     refine ih (i+1) G2 a' _ o_ o_ (hG.trans q2) (λj hj=>?_) (M.keep (a9_ q2 M.lt)) (D.keep (a9_ q2 D.lt)) t2 (step _ λk=>?_)
     .obtain⟨l',e',c'⟩:=hr j hj;exact⟨l',e',cC_ q2 c'⟩
     .rw[yT_ t.tr.asc];by_cases q:zs[i]=k
      .rw[lE q,if_pos q]
      .rw[lH q,if_neg q]
   ·have hi':i=zs.length:=by simp at e;omega
    refine hQ G x' kv' hG t ((FY_ t.tr.asc nd λk=>?_).trans hp);rw[hfk,hi',take_length];by_cases q:k∈zs
    .rw[if_pos q]
    ·have:look ps k=none:=by
      cases z:look ps k with
      |none=>rfl
      |some v=>exact absurd (hz.mem_iff.2 ((ke_ k).2 ⟨v,z⟩)) q
     rw[if_neg q,this];rfl
 have loop5:∀(f i:Nat)(G:Hp)(x':Pl)(n':Nat)(kv':KV),1500+(kv.length-i)<f->i<=kv.length->(∀l,l<H2.length->G[l]?=H2[l]?)->H2.length<G.length->dF_ ekS evX G H2.length (kv.take i)->
  TrX G x' n' kv' (λl=>P l\/l=H2.length)->(∀k,b6_ kv' k=if k∈(kv.take i).map (·.1)/\look ps k=none then none else b6_ kv k)->
  aM_.l5 E f none 0 x' n' (some mw) (some H2.length) a kv.length (nI kv.length) (i:Int) G Q:=by
  intro f;induction f with
  |zero=>intro i G x' n' kv' h;omega
  | succ f ih=>
   intro i G x' n' kv' hf hi hk hl D t hfk;have M:=M2.keep (hk _ hmw2);rw[aM_.l5_eq];refine aa_ (λe=>?_) λe=>?_
   ·have hi':i<kv.length:=by simpa using e
    obtain⟨l,o,rfl,q1,q2⟩:=Kv.get (H:=H2) ⟨o2.cells,rfl⟩ hi';have hlo:=o2.ltAny rfl;refine ab_ rfl (ab_ s_ ?_);have etn:∀k:Nat,tN (k:Int)=k:=λ_=>rfl;simp only[ae_,etn];have r1:gt G l (o+i*2)=some (.str kv[i].1):=by unfold gt at q1 ⊢;rw[hk l hlo];exact q1
    have r2:gt G l (o+i*2+1)=some (.str kv[i].2):=by unfold gt at q2 ⊢;rw[hk l hlo];exact q2
    rw[ac_ r1,aq_,ac_ r2,aq_];refine vc_ D (λq hq e=>yv_ hka hi' (lA.2 ⟨q,hq,e⟩)) λG1 l1 k1 D1=>?_;have e1:kv.take i++[(kv[i].1,kv[i].2)]=kv.take (i+1):=by rw[take_add_one,kG hi'];rfl
    rw[e1]at D1;have e2:ad_ .i64 ((i:Int)+1)=((i+1:Nat):Int):=an_ o_;rw[e2];have t1:=t.keep (H':=G1) o_ λl _ hne=>k1 l λz=>hne (.inr z);have M':=M.keep (k1 mw o_);have hfi:b6_ kv kv[i].1=some kv[i].2:=ld_ hka (kE hi');have hcur:b6_ kv' kv[i].1=some kv[i].2:=by rw[hfk,if_neg λz=>yv_ hka hi' z.1,hfi]
    refine fv_ (ev:=evX) okS M' kv[i].1 (λw hw=>?_) λhw=>?_
    ·simp only[evX,bK_,aq_];rw[aA_ (show (!true)=false from rfl)];refine ih (i+1) G1 x' n' kv' o_ o_ (λl hl'=>by rw[k1 l o_,hk l hl']) o_ D1 t1 λk=>?_;rw[hfk];by_cases q:k=kv[i].1
     .subst q;rw[if_neg (λz=>by rw[hw]at z;cases z.2),if_neg λz=>by rw[hw]at z;cases z.2]
     .have:k∈(kv.take (i+1)).map (·.1)↔k∈(kv.take i).map (·.1):=by rw[tj_ hi'];exact⟨λz=>z.resolve_right q,.inl⟩
      simp only[this]
    ·simp only[bK_,aq_];rw[az_ (show (!false)=true from rfl)];refine JG_ t1 (λl hl=>by have:=p12.length_le;rcases hl with hl|rfl;have:=hP l hl;omega;omega) (by rw[hcur];rfl) λa' G2 p' t2=>?_;simp only[aN_,aJ_,e1_,bl_,ah_,bV_,bK_,ao_,aj_,bh_];have:=p'.length_le;refine ih (i+1) G2 a' 48 _ o_ o_ (λl hl'=>by rw[a9_ p' o_,k1 l o_,hk l hl']) o_ (D1.keep (a9_ p' D1.lt)) t2 λk=>?_;rw[Fq_ t1.tr.asc,hfk];by_cases q:kv[i].1=k
     .subst q;rw[lE rfl];show none=_;rw[if_pos ⟨(tj_ hi' _).2 (.inr rfl),hw⟩]
     .rw[lH q];have:k∈(kv.take (i+1)).map (·.1)↔k∈(kv.take i).map (·.1):=by rw[tj_ hi'];exact⟨λz=>z.resolve_right λw=>q w.symm,.inl⟩
      simp only[this]
   ·have hi':i=kv.length:=by simp at e;omega
    subst hi';rw[take_length]at D hfk;refine⟨1,?_⟩;rw[fM_];simp only[aO_,d2_,fl_];refine y4_ M (λp hp'=>by have:=(sz_ps p hp').1;omega) o_ (.inr rfl) λzs hz hasc G2 az q2 hr=>?_;simp only[aO_,ah_];have t':TrX G x' n' kv' P:=by
     obtain⟨F,A,r,D,K⟩:=t.ex;exact⟨F,A,r,D,λI k=>K I λl a b=>k l a λz=>b (.inl z)⟩
    replace t':=t'.mono q2;obtain⟨cs',A',hT',h',_⟩:=t.tr.ex;have:=DH_ hT' h';subst this;have hzl:zs.length<=900:=by rw[hz.length_eq,k9];omega
    refine loop13 zs az hz f 0 G2 x' kv' o_ o_ ((p12.trans (ka_ o_ hk)).trans q2) hr (M.keep (a9_ q2 M.lt)) (D.keep (a9_ q2 D.lt)) t' λk=>?_;rw[hfk];simp only[take_zero,not_mem_nil,if_false];cases z:look ps k with
    |some v=>simp
    |none=>
     by_cases q:k∈kv.map (·.1)
     .simp[q]
     .have:b6_ kv k=none:=hr_ λy hy e=>q (lA.2 ⟨y,hy,e⟩);simp[q,this]
 have tX:TrX (H2++[Obj.map [] 0]) x n kv (λl=>P l\/l=H2.length):=by
  obtain⟨F,A,r,D,K⟩:=hX.ex;have:=p12.length_le;exact⟨F,A,r,D,λI k=>K I λl a b=>by rw[k l s_ λz=>z.elim b o_,kM o_,a9_ p12 a]⟩
 exact loop5 _ 0 _ x n kv o_ o_ (λl hl=>by rw[kM hl]) t_ (lf_ H2) tX λk=>by simp
end
def ib_ (id frm:Int) (st:StD) (l:LKey × LVal):StD:=match decide (l.1.1=frm) with
 |false=>st
 |true=>match look st.inos l.2.1 with
  |none=>st
  |some y=>⟨st.snaps,st.links++[((id,l.1.2),(l.2.1,false))],fF_ st.inos l.2.1 ⟨y.links+1,y.content⟩⟩
def qU_ (st:StD) (parent:Y_):StD:=match decide (parent=mkS []) with
 |true=>st
 |false=>match look st.snaps parent with
  |none=>st
  |some x=>st.links.foldl (ib_ (eh_ st) x.id) st
def d4_(st:StD)(name parent:Y_)(kind:Int):StD:=let s:=qU_ st parent;⟨s.snaps++[(name,⟨eh_ st,kind,parent,mkS []⟩)],s.links,s.inos⟩
def IR_(st:StD)(l:LKey × LVal):FileR:=(l.1.2,(bA_ st l).2.1,false)
structure Kid(st:StD)(id frm:Int)(ls:List (LKey × LVal))(st':StD):Prop where
 sto:Sto st'
 snaps:st'.snaps=st.snaps
 len:st'.links.length<=st.links.length+ls.length
 nos:st'.inos.length=st.inos.length
 sub:∀l,l∈st'.links↔l∈st.links\/∃m∈ls,m.1.1=frm/\l=((id,m.1.2),(m.2.1,false))
 text:∀k,(∃y',(k,y')∈st'.inos)↔∃y,(k,y)∈st.inos
 same:∀k y' y,(k,y')∈st'.inos->(k,y)∈st.inos->y'.content=y.content
theorem BD_ {st:StD} (h:Sto st) {id frm:Int} (h1:1<=id) (h2:id<=255) (hu:∀l∈st.links,l.1.1≠id) (hl:st.links.length<=60) {ls:List (LKey × LVal)} {l:LKey × LVal} (hin:l∈st.links) (hsub:∀m∈ls,m∈st.links) (hnew:∀m∈ls,m.1≠l.1) (hls:ls.length<=60) {st':StD} (k:Kid st id frm ls st'):Kid st id frm (ls++[l]) (ib_ id frm st' l):=by
 unfold ib_;cases e:decide (l.1.1=frm) with
 | false=>
  dsimp only;have e': ¬ l.1.1=frm:=by simpa using e
  refine⟨k.sto,k.snaps,by rw[kI];have:=k.len;omega,k.nos,λm=>?_,k.text,k.same⟩;rw[k.sub];constructor
  .rintro (q|⟨x,hx,q⟩)
   .exact .inl q
   .exact .inr ⟨x,by simp[hx],q⟩
  ·rintro (q|⟨x,hx,q1,q2⟩)
   .exact .inl q
   ·rcases kD.1 hx with z|z
    .exact .inr ⟨x,z,q1,q2⟩
    .have:x=l:=by simpa using z
     subst this;exact absurd q1 e'
 | true=>
  dsimp only;have e':l.1.1=frm:=by simpa using e
  obtain⟨y0,_,hy0,_⟩:=h.ino hin;obtain⟨y,hy⟩:=(k.text l.2.1).2 ⟨y0,hy0⟩;have hlk:=(d5_ k.sto.nd.inos).2 hy;rw[hlk];dsimp only;obtain⟨e1,e2⟩:=dw_.1 k.sto.lk;have hcy:=e2 _ hy;dsimp only at hcy;have hmay:=(k.sto.ok.inos _ hy).2;have hcl:ey_ st' l.2.1<=st'.links.length:=countP_le_length;have hyb:y.links<=120:=by have:=k.len;omega
  have hpm:=qZ_ k.sto.nd.inos (v:=(⟨y.links+1,y.content⟩:InoR)) hlk;have hkey:∀m∈st'.links,m.1≠(id,l.1.2):=λm hm q=>by
   rcases (k.sub m).1 hm with z|⟨x,hx,z1,z2⟩
   .exact hu m z (by rw[q])
   .rw[z2]at q;have q2':=congrArg (λz:LKey=>z.2) q;have q2:x.1.2=l.1.2:=q2';exact hnew x hx (Prod.ext (by rw[z1,e']) q2)
  have hc:∀n,ey_ ⟨st'.snaps,st'.links++[((id,l.1.2),(l.2.1,false))],fF_ st'.inos l.2.1 ⟨y.links+1,y.content⟩⟩ n=ey_ st' n+(if l.2.1=n then 1 else 0):=λn=>by
   unfold ey_;dsimp only;rw[countP_append];by_cases z:l.2.1=n<;>simp[z]
  refine⟨⟨⟨k.sto.ok.snaps,λm hm=>?_,λx hx=>?_⟩,⟨k.sto.nd.snaps,?_,wR_ k.sto.nd.inos hlk⟩,dw_.2 ⟨λm hm=>?_,λx hx=>?_⟩⟩,k.snaps,?_,?_,λm=>?_,λn=>?_,λn y' y'' g1 g2=>?_⟩
  ·rcases kD.1 hm with q|q
   .exact k.sto.ok.links m q
   .have:m=((id,l.1.2),(l.2.1,false)):=by simpa using q
    subst this;obtain⟨_,c2,c3,c4⟩:=h.ok.links l hin;exact⟨⟨h1,h2⟩,c2,c3,c4⟩
  ·rcases (hpm x).1 hx with q|q
   .subst q;obtain⟨c1,c2⟩:=k.sto.ok.inos _ hy;refine⟨c1,?_⟩;unfold ei_ at c2 ⊢;simp only[kR]at c2 ⊢;have c21:1<=y.links:=by simpa using c2.1.1
    exact⟨⟨s_,s_⟩,c2.2⟩
   .exact k.sto.ok.inos x q.1
  .dsimp only;rw[kL,kT];refine⟨k.sto.nd.links,t_,λa ha b hb q=>?_⟩;obtain⟨m,hm,rfl⟩:=lA.1 ha;have:b=(id,l.1.2):=by simpa using hb
   exact hkey m hm (by rw[q,this])
  ·dsimp only;have tomem:∀n z,(n,z)∈st'.inos->∃z',(n,z')∈fF_ st'.inos l.2.1 ⟨y.links+1,y.content⟩:=λn z hz=>by
    by_cases q:n=l.2.1
    .exact⟨_,(hpm _).2 (.inl (by rw[q]))⟩
    .exact⟨z,(hpm _).2 (.inr ⟨hz,q⟩)⟩
   rcases kD.1 hm with q|q
   .obtain⟨z,hz⟩:=e1 m q;exact tomem _ z hz
   .have:m=((id,l.1.2),(l.2.1,false)):=by simpa using q
    subst this;exact tomem _ y hy
  .rw[hc];rcases (hpm x).1 hx with q|q
   .subst q;grind
   .rw[if_neg (Ne.symm q.2)];exact e2 x q.1
  .dsimp only;rw[kI,kI];have:=k.len;simp;omega
  .dsimp only;rw[<-k.nos];unfold fF_;rw[hlk,k9]
  ·dsimp only;rw[kD,k.sub];constructor
   .rintro ((q|⟨x,hx,q⟩)|q)
    .exact .inl q
    .exact .inr ⟨x,by simp[hx],q⟩
    .exact .inr ⟨l,t_,e',by simpa using q⟩
   ·rintro (q|⟨x,hx,q1,q2⟩)
    .exact .inl (.inl q)
    ·rcases kD.1 hx with z|z
     .exact .inl (.inr ⟨x,z,q1,q2⟩)
     .have:x=l:=by simpa using z
      subst this;exact .inr (by simp[q2])
  ·dsimp only;rw[<-k.text];constructor
   .rintro⟨y',q⟩;rcases (hpm _).1 q with z|z
    .have:=congrArg Prod.fst z;dsimp only at this;exact⟨y,by rw[this];exact hy⟩
    .exact⟨y',z.1⟩
   .rintro⟨y',q⟩;by_cases z:n=l.2.1
    .exact⟨_,(hpm _).2 (.inl (by rw[z]))⟩
    .exact⟨y',(hpm _).2 (.inr ⟨q,z⟩)⟩
  .dsimp only at g1;rcases (hpm _).1 g1 with z|z
   .have z1:=congrArg Prod.fst z;have z2:=congrArg Prod.snd z;dsimp only at z1 z2;rw[z2];rw[z1]at g2;exact k.same l.2.1 y y'' hy g2
   .exact k.same n y' y'' z.1 g2
theorem BB_ (h:Sto st) {id frm:Int} (N:1<=id) (G:id<=255) (I:∀l∈st.links,l.1.1≠id) (J:st.links.length<=60):∀(D ls:List (LKey × LVal)) (r:StD),st.links=ls++D->Kid st id frm ls r->Kid st id frm st.links (D.foldl (ib_ id frm) r)
 |[],ls,r,e,k=>by
  grind
 |m::D,ls,r,e,k=>by
  have O:m∈st.links:=by grind
  have A:=h.nd.links;rw[e,kL,kT]at A;refine BB_ h N G I J D (ls++[m]) _ g_ (BD_ h N G I J O (λx F=>by grind) (λx F q=>?_) ?_ k)
  .exact A.2.2 x.1 (lA.2 ⟨x,F,rfl⟩) m.1 t_ q
  .grind
theorem Kid.file(h:Sto st){id frm:Int}(k:Kid st id frm ls st')(I:l∈st.links)(G:l'.2.1=l.2.1):(bA_ st' l').2.1=(bA_ st l).2.1:=by
 have⟨y,F,D,_⟩:=h.ino I;have⟨J,r⟩:=(k.text l.2.1).2 ⟨y,D⟩;have A:=(d5_ k.sto.nd.inos).2 r;unfold bA_;rw[G,F,A];exact k.same _ _ _ r D
theorem AC_ (h:hT_ is name parent kind=0):a8_ name 4=true/\(parent=mkS []\/a8_ parent 4=true)/\(kind=0\/kind=1)/\c1_ is name=none/\kU_ is parent=true/\is.length<6:=by
 unfold hT_ at h;cases F:a8_ name 4 with
 |false=>rw[F]at h;cases h
 | true=>
  rw[F]at h;cases I:decide (parent=mkS [])||a8_ parent 4 with
  |false=>rw[I]at h;cases h
  | true=>
   rw[I]at h;cases A:eqI kind 0||eqI kind 1 with
   |false=>rw[A]at h;cases h
   | true=>
    rw[A]at h;cases D:c1_ is name with
    |some i=>rw[D]at h;cases h
    | none=>
     rw[D]at h;cases G:kU_ is parent with
     |false=>rw[G]at h;cases h
     | true=>
      rw[G]at h;cases r:leI 6 is.length with
      |true=>rw[r]at h;cases h
      |false=>
       refine⟨rfl,?_,?_,rfl,rfl,by simp at r;omega⟩
       .grind
       .simp_all
structure Ki_(st st':StD)(name:Y_)(id:Int)(kind:Int)(parent:Y_):Prop where
 good:d7_ st'
 snaps:st'.snaps=st.snaps++[(name,⟨id,kind,parent,mkS []⟩)]
 bare:∀fs,cg_ st' id fs->∀f∈fs,f.2.2=false
theorem wW_ (h:Sto st) (N:dW_ st<=60) (r:Y_):∃frm ls,Kid st (eh_ st) frm ls (qU_ st r)/\(ls=[]\/(r≠mkS []/\ls=st.links/\∃x,look st.snaps r=some x/\frm=x.id)):=by
 unfold dW_ at N;have⟨⟨I,F⟩,_,k4⟩:=s5_ (st:=st) o_;have base:∀frm,Kid st (eh_ st) frm [] st:=λfrm=>⟨h,rfl,t_,rfl,λl=>by simp,λk=>Iff.rfl,λk y U G J=>by
  have D:=(d5_ h.nd.inos).2 G;have A:=(d5_ h.nd.inos).2 J;rw[D]at A;rw[Option.some.inj A]⟩
 unfold qU_;cases e:decide (r=mkS []) with
 |true=>exact⟨0,[],base 0,.inl rfl⟩
 | false=>
  cases O:look st.snaps r with
  |none=>exact⟨0,[],base 0,.inl rfl⟩
  |some x=>
   exact⟨x.id,st.links,BB_ h I F k4 o_ st.links [] st rfl (base x.id),.inr ⟨by simpa using e,rfl,x,rfl,rfl⟩⟩
theorem zc_ {st:StD} (g:d7_ st) (hm:dW_ st<=60) {is:List InfoR} (his:cA_ st is) {name parent:Y_} {kind:Int} (hp:hT_ is name parent kind=0):Ki_ st (d4_ st name parent kind) name (eh_ st) kind parent:=by
 obtain⟨w1,w2,w3,w4,w5,w6⟩:=AC_ hp;have hm':=hm;unfold dW_ at hm';obtain⟨⟨k1,k2⟩,k3,k4⟩:=s5_ (st:=st) o_;obtain⟨frm,ls,K,hls⟩:=wW_ g.sto hm parent;have hsn:(d4_ st name parent kind).snaps=st.snaps++[(name,⟨eh_ st,kind,parent,mkS []⟩)]:=by
  unfold d4_;dsimp only;rw[K.snaps]
 have hlk:(d4_ st name parent kind).links=(qU_ st parent).links:=rfl;have hin:(d4_ st name parent kind).inos=(qU_ st parent).inos:=rfl;have hfile:∀l,bA_ (d4_ st name parent kind) l=bA_ (qU_ st parent) l:=λl=>by unfold bA_;rw[hin]
 have hslen:is.length=st.snaps.length:=by have:=his.perm.length_eq;simpa using this
 have hnew:∀x∈st.snaps,x.1≠name:=λx hx e=>by
  obtain⟨i,hi,ei,_⟩:=his.put g.sto.nd.snaps hx;unfold c1_ at w4;rw[find?_eq_none]at w4;exact w4 i hi (by rw[ei];simpa using e)
 have hlsub:∀m∈ls,m∈st.links:=λm h=>by
  rcases hls with q|⟨_,q,_⟩
  .rw[q]at h;cases h
  .rw[q]at h;exact h
 have other:∀j,j≠eh_ st->∀fs,cg_ (d4_ st name parent kind) j fs↔cg_ st j fs:=λj hj fs=>by
  have key:∀f,(∃l∈(d4_ st name parent kind).links,l.1.1=j/\f=bA_ (d4_ st name parent kind) l)↔∃l∈st.links,l.1.1=j/\f=bA_ st l:=λf=>by
   have same:∀l∈st.links,bA_ (d4_ st name parent kind) l=bA_ st l:=λl hl=>by
    rw[hfile];exact Prod.ext rfl (Prod.ext (K.file g.sto hl rfl) rfl)
   constructor
   .rintro⟨l,q1,q2,q3⟩;rw[hlk]at q1;rcases (K.sub l).1 q1 with z|⟨m,hm,z1,z2⟩
    .exact⟨l,z,q2,by rw[q3,same l z]⟩
    .rw[z2]at q2;exact absurd q2.symm hj
   .rintro⟨l,q1,q2,q3⟩;exact⟨l,(K.sub l).2 (.inl q1),q2,by rw[q3,same l q1]⟩
  exact⟨λg=>⟨g.asc,λf=>(g.mem f).trans (key f)⟩,λg=>⟨g.asc,λf=>(g.mem f).trans (key f).symm⟩⟩
 have own:∀fs,cg_ (d4_ st name parent kind) (eh_ st) fs->∀f∈fs,∃m∈ls,m.1.1=frm/\f=IR_ st m:=λfs hf f hff=>by
  obtain⟨l,q1,q2,q3⟩:=(hf.mem f).1 hff;rcases (K.sub l).1 q1 with z|⟨m,hm,z1,z2⟩
  .exact absurd q2 (k4 l z)
  .refine⟨m,hm,z1,?_⟩;rw[q3,hfile];unfold IR_;refine Prod.ext (by rw[z2];rfl) (Prod.ext (K.file g.sto (hlsub m hm) (by rw[z2])) (by rw[z2];rfl))
 have sto:Sto (d4_ st name parent kind):=by
  refine⟨⟨λx hx=>?_,K.sto.ok.links,K.sto.ok.inos⟩,⟨?_,K.sto.nd.links,K.sto.nd.inos⟩,?_⟩
  ·rw[hsn]at hx;rcases kD.1 hx with q|q
   .exact g.sto.ok.snaps x q
   ·have:x=(name,⟨eh_ st,kind,parent,mkS []⟩):=by simpa using q
    subst this;refine⟨w1,?_⟩;unfold fx_;simp only[kR,Bool.or_eq_true];refine⟨⟨by simpa using k1,by simpa using k2⟩,⟨?_,?_⟩,?_,rfl⟩
    .rcases w3 with q|q<;>rw[q]<;>rfl
    .rcases w3 with q|q<;>rw[q]<;>rfl
    .rcases w2 with q|q
     .exact .inl (by simpa using q)
     .exact .inr q
  .rw[hsn,kL,kT];refine⟨g.sto.nd.snaps,t_,λa ha b hb e=>?_⟩;obtain⟨x,hx,rfl⟩:=lA.1 ha;have:b=name:=by simpa using hb
   exact hnew x hx (by rw[e,this])
  .exact K.sto.lk
 have par:parent=mkS []\/∃y,look st.snaps parent=some y/\y.kind=2:=by
  unfold kU_ at w5;rw[Bool.or_eq_true,decide_eq_true_eq]at w5;rcases w5 with q|q
  .exact .inl q
  ·right;cases hf:c1_ is parent with
   |none=>rw[hf]at q;cases q
   |some i=>
    rw[hf]at q;obtain⟨him,hin⟩:=f9_ hf;obtain⟨z,hz,ez,_⟩:=his.get him;refine⟨z.2,?_,?_⟩
    .have:=hi_ g.sto.nd.snaps hz;rw[show z.1=parent by rw[ez]at hin;exact hin]at this;exact this
    .rw[ez]at q;simpa using q
 refine⟨vd_ sto ?_ ?_ (λy hy fs hf=>?_) λy hy=>?_,hsn,λfs hf f hff=>?_⟩
 .rw[hsn,kL,kT];refine⟨g.ids,t_,λa ha b hb e=>?_⟩;obtain⟨x,hx,rfl⟩:=lA.1 ha;have:b=eh_ st:=by simpa using hb
  exact k3 x hx (by rw[e,this])
 .rw[hsn,kI];simp;omega
 ·rw[hsn]at hy;rcases kD.1 hy with q|q
  .exact g.info y q fs ((other _ (k3 y q) fs).1 hf)
  ·have:y=(name,⟨eh_ st,kind,parent,mkS []⟩):=by simpa using q
   subst this;dsimp only at hf ⊢;have hown:=own fs hf;rcases hls with q|⟨hne,q,x,hx,hfrm⟩
   ·have:fs=[]:=by
     cases fs with
     |nil=>rfl
     |cons f fs=>obtain⟨m,hm,_⟩:=hown f t_;rw[q]at hm;cases hm
    subst this;refine (eH_ (i:=⟨name,kind,parent,mkS [],[]⟩) Pairwise.nil).2 ⟨w1,?_,kP _,(λf hf=>absurd hf not_mem_nil),kP _⟩;dsimp only;omega
   ·obtain⟨fs0,hf0⟩:=rz_ g.sto frm;have hold:=g.info _ (cW_ hx) fs0 (by dsimp only;rw[<-hfrm];exact hf0);obtain⟨o1,o2,o3,o4,o5⟩:=(eH_ (i:=⟨parent,x.kind,x.parent,x.label,fs0⟩) hf0.asc).1 hold;dsimp only at o1 o2 o3 o4 o5;have hmem:∀f∈fs,∃f0∈fs0,f=(f0.1,f0.2.1,false):=λf hff=>by
     obtain⟨m,hm,z1,z2⟩:=hown f hff;exact⟨bA_ st m,(hf0.mem _).2 ⟨m,hlsub m hm,z1,rfl⟩,by rw[z2];rfl⟩
    refine (eH_ (i:=⟨name,kind,parent,mkS [],fs⟩) hf.asc).2 ⟨w1,?_,kP _,λf hff=>?_,?_⟩
    .dsimp only;rcases w3 with z|z<;>rw[z]<;>decide
    .obtain⟨f0,h0,e0⟩:=hmem f hff;have:=o4 f0 h0;unfold es_ at this ⊢;simp only[kR]at this ⊢;rw[e0];exact⟨this.1,this.2.1,t_⟩
    ·dsimp only;have hsub:=(d0_ (fs0.map λf=>f.1) (fs.map λf=>f.1) (by
      unfold Nodup;rw[pairwise_map];exact hf.asc.imp λr q=>by rw[q,bY_]at r;cases r) λs hs=>by
      obtain⟨f,hff,rfl⟩:=lA.1 hs;obtain⟨f0,h0,e0⟩:=hmem f hff;exact lA.2 ⟨f0,h0,by rw[e0]⟩).1
     rw[k9,k9]at hsub;omega
 ·have mono:∀p,gy_ (xZ_ st.snaps) p->gy_ (xZ_ (d4_ st name parent kind).snaps) p:=λp=>gy_.mono λz hz hk=>by
   obtain⟨x,hx,e⟩:=l9_.1 hz;exact⟨z,l9_.2 ⟨x,by rw[hsn];simp[hx],e⟩,rfl,hk,rfl⟩
  rw[hsn]at hy;rcases kD.1 hy with q|q
  .exact mono _ (g.hdr his y q)
  .have:y=(name,⟨eh_ st,kind,parent,mkS []⟩):=by simpa using q
   subst this;dsimp only;refine mono _ ?_;rcases par with z|⟨p,hp1,hp2⟩
   .rw[z];exact .nil
   .have hpm:=cW_ hp1;have:=gy_.step (is:=xZ_ st.snaps) (y:=⟨parent,p.kind,p.parent,p.label,[]⟩) (l9_.2 ⟨_,hpm,rfl⟩) hp2 (g.hdr his _ hpm);exact this
 .obtain⟨m,_,_,e⟩:=own fs hf f hff;rw[e];rfl
def eW_(st:StD)(name to:Y_):StD:=⟨st.snaps.map λx=>if x.1=name then (to,⟨x.2.id,2,x.2.parent,x.2.label⟩) else x,st.links,st.inos⟩
theorem vP_ (h:e7_ is name to=0):a8_ name 4=true/\a8_ to 4=true/\(∃i,c1_ is name=some i/\i.kind=0)/\c1_ is to=none:=by
 unfold e7_ at h;cases A:a8_ name 4&&a8_ to 4 with
 |false=>rw[A]at h;cases h
 | true=>
  rw[A]at h;rw[kR]at A;cases G:dy_ is name==0 with
  |false=>
   grind
  | true=>
   rw[G]at h;have r:dy_ is name=0:=by grind
   refine⟨A.1,A.2,?_,?_⟩
   ·unfold dy_ at r;cases D:c1_ is name with
    |none=>rw[D]at r;cases r
    |some i=>
     rw[D]at r;dsimp at r;cases F:eqI i.kind 0 with
     |true=>simpa using F
     |false=>rw[F]at r;cases r
   .cases D:c1_ is to with
    |none=>rfl
    |some i=>rw[D]at h;cases h
theorem AE_ {st:StD} (g:d7_ st) {is:List InfoR} (his:cA_ st is) {name to:Y_} (hc:e7_ is name to=0):d7_ (eW_ st name to):=by
 obtain⟨w1,w2,⟨i,hi,hk⟩,hto⟩:=vP_ hc;have hnew:∀x∈st.snaps,x.1≠to:=λx hx e=>by
  obtain⟨i,hi,ei,_⟩:=his.put g.sto.nd.snaps hx;unfold c1_ at hto;grind
 have hkind:∀x∈st.snaps,x.1=name->x.2.kind=0:=λx hx e=>by
  obtain⟨him,hin⟩:=f9_ hi;obtain⟨z,hz,ez,_⟩:=his.get him;have h1:=hi_ g.sto.nd.snaps hz;have h2:=hi_ g.sto.nd.snaps hx;grind
 have hmem:∀y,y∈(eW_ st name to).snaps↔∃x∈st.snaps,(x.1≠name/\y=x)\/(x.1=name/\y=(to,⟨x.2.id,2,x.2.parent,x.2.label⟩)):=λy=>by
  unfold eW_;grind
 have hids:(eW_ st name to).snaps.map (λx=>x.2.id)=st.snaps.map λx=>x.2.id:=by
  unfold eW_;rw[map_map];apply map_congr_left;grind
 have hfiles:∀j fs,cg_ (eW_ st name to) j fs↔cg_ st j fs:=λj fs=>⟨λh=>⟨h.asc,h.mem⟩,λh=>⟨h.asc,h.mem⟩⟩;have sto:Sto (eW_ st name to):=by
  refine⟨⟨λy hy=>?_,g.sto.ok.links,g.sto.ok.inos⟩,⟨?_,g.sto.nd.links,g.sto.nd.inos⟩,g.sto.lk⟩
  .obtain⟨x,hx,⟨q,e⟩|⟨q,e⟩⟩:=(hmem y).1 hy
   .rw[e];exact g.sto.ok.snaps x hx
   .rw[e];refine⟨w2,?_⟩;have:=(g.sto.ok.snaps x hx).2;unfold fx_ at this ⊢;simp only[kR]at this ⊢;exact⟨this.1,⟨rfl,rfl⟩,this.2.2⟩
  .have hn:=g.sto.nd.snaps;unfold eW_;rw[map_map];unfold Nodup at hn ⊢;rw[pairwise_map]at hn ⊢;refine hn.imp_of_mem λ{a b} ha hb hab=>?_;grind
 refine vd_ sto (by rw[hids];exact g.ids) (by unfold eW_;dsimp only;rw[k9];exact g.few) (λy hy fs hf=>?_) λy hy=>?_
 .obtain⟨x,hx,⟨q,e⟩|⟨q,e⟩⟩:=(hmem y).1 hy
  .rw[e]at hf ⊢;exact g.info x hx fs ((hfiles _ fs).1 hf)
  .rw[e]at hf ⊢;have hf':=(hfiles _ fs).1 hf;have:=g.info x hx fs hf';obtain⟨o1,o2,o3,o4,o5⟩:=(eH_ (i:=⟨x.1,x.2.kind,x.2.parent,x.2.label,fs⟩) hf'.asc).1 this;refine (eH_ (i:=⟨to,2,x.2.parent,x.2.label,fs⟩) hf'.asc).2 ⟨w2,⟨t_,t_⟩,o3,λf hff=>?_,o5⟩;have:=o4 f hff;rw[hkind x hx q]at this;exact this
 ·have mono:∀p,gy_ (xZ_ st.snaps) p->gy_ (xZ_ (eW_ st name to).snaps) p:=λp=>gy_.mono λz hz hk=>by
   obtain⟨x,hx,e⟩:=l9_.1 hz;have hne:x.1≠name:=λq=>by
    have:=hkind x hx q;rw[e]at hk;dsimp only at hk;omega
   exact⟨z,l9_.2 ⟨x,(hmem x).2 ⟨x,hx,.inl ⟨hne,rfl⟩⟩,e⟩,rfl,hk,rfl⟩
  obtain⟨x,hx,⟨q,e⟩|⟨q,e⟩⟩:=(hmem y).1 hy
  .rw[e];exact mono _ (g.hdr his x hx)
  .rw[e];exact mono _ (g.hdr his x hx)
section
variable{H:Hp}{Q:Post}{x:Pl}{n:Nat}{cs:List PC}{T:List Pg}
structure Bz_(T:List Pg)(st:StD):Prop where
 of:ofD T=some st
 good:d7_ st
 infos:cA_ st (aC_ st)
 asc:hH_ (aC_ st)
 from_:bz_ (aC_ st) (aC_ st).length 0=true
 many:dW_ st<=60
 size:(aC_ st).length<=900/\∀x∈aC_ st,x.name.size<=140737488351232/\x.files.length<=100000/\∀f∈x.files,f.1.size<=140737488351232
theorem eJ_(h:ofD T=some st):Bz_ T st:=by
 have⟨I,A,D⟩:=j4_ h;have G:=kA_.2 ⟨A,D⟩;have g:=d7_.of (lo_ T) G;have r:=id_ (ig_ (lo_ T) A);have J:=Bb_ A;have F:=nP_ T;have sz:=r.sizes (oH_ A) o_;exact⟨h,g,r,r.asc',g.forest r,by unfold dW_;omega,o_,sz.2⟩
theorem zT_(h:TrK H x n ps):∃cs T,Tr H x n cs T/\ofD T=et_ ps:=by
 have⟨cs,T,r,D,A⟩:=h.ex;unfold ofD;grind
theorem Cy_ {st:StD} {x:SnapR} (G:k<st.snaps.length) (e:st.snaps[k].1=s) (r:∀j (D:j<st.snaps.length),j<k->st.snaps[j].1≠s) (A:look st.snaps s=some x):st.snaps[k].2=x:=by
 unfold look at A;have F:st.snaps.find? (λp=>decide (p.1=s))=some st.snaps[k]:=by
  rw[find?_eq_some_iff_getElem];grind
 grind
theorem sl_ {name path content:Y_} (hT:Tr H x n cs T) (hs1:name.size<=140737488351232) (hs2:path.size<=140737488351232)
 (h0:ofD T=none->∀H',H<+:H'->Q (.tup [yB none 0,nN 2000]) H')
 (h1:∀st e,ofD T=some st->cR_ (aC_ st) name path content=e->e≠0->∀H',H<+:H'->Q (.tup [yB none 0,nN e]) H')
 (h2:∀st y,ofD T=some st->cR_ (aC_ st) name path content=0->look st.snaps name=some y->∀H' x',H<+:H'->TrK H' x' 48 (eG_ (iG_ (f3_ st y.id path content)))->Q (.tup [yB x' 48,nN 0]) H'):
 cw_ [yA x n,gS name,gS path,gS content] H Q:=by
 refine⟨3,?_⟩;rw[wy_];have etn:∀k:Nat,tN (k:Int)=k:=λ_=>rfl;refine hb_ hT (λe H' p hp=>?_) λst e B H' sp a1 n1 a2 n2 a3 n3 hB hR=>?_
 .simp only[aN_,aJ_,bK_,ge_,ao_,bh_];exact aa_ (λ_=>h0 e H' hp) (λe=>by cases e)
 ·simp only[aN_,aJ_,bK_,ge_,ao_,bh_];refine aa_ (λe=>by cases e) λ_=>?_;have K:=eJ_ e;have hm:=K.many;unfold dW_ at hm;obtain⟨_,hd,hok⟩:=j4_ e;refine fB_ hR ⟨o_,o_,o_⟩ (rP_ hok) λG a pG ha=>?_;simp only[aO_,ah_];refine s2_ ha K.asc K.from_ K.size.1 K.size.2 (λx hx=>by obtain⟨_,_,_,hf⟩:=K.infos.get hx;exact hf.asc) hs1 hs2 (λq=>?_) (λhw G1 b1 pG1 _=>?_)
  .simp only[aN_,aJ_,bK_,ah_,aj_,bh_];rw[az_ (by simpa using q)];exact h1 st _ e rfl q G (hB.trans (hR.mono pG).pre)
  simp only[aN_,aJ_,bK_,ah_,aj_,bh_];rw[aA_ d_];have hR1:=hR.mono (pG.trans pG1);obtain⟨w1,w2,w3,i,hi,hk,hfew⟩:=r8_ hw;obtain⟨him,hin⟩:=f9_ hi;obtain⟨z,hz,ez,hfz⟩:=K.infos.get him;have hy:look st.snaps name=some z.2:=by
   have:=hi_ K.good.sto.nd.snaps hz;rw[show z.1=name by rw[ez]at hin;exact hin]at this;exact this
  obtain⟨gd,W⟩:=pO_ K.good K.infos o_ hw hy;have back:∀(st1:StD)(G:Hp)(a2:Pl)(n2:Nat)(a3:Pl)(n3:Nat),st1.snaps=st.snaps->st1.links.length<=100->st1.inos.length<=100->f3_ st z.2.id path content=jo_ st1 z.2.id path content->c7_ B G sp a1 n1 a2 n2 a3 n3 st1->cw_.l10 2 name path content none 0 (some (sp,0)) G Q:=by
   intro st1 G a2 n2 a3 n3 hs1 hl1 hi1 hwd hR;rw[cw_.l10_eq];refine na_ hR o_ ?_;obtain⟨fr,hfr⟩:∃fr,en_ st1=fr:=⟨_,rfl⟩;rw[hfr];have hst:(⟨st1.snaps,st1.links++[((z.2.id,path),(fr,true))],st1.inos++[(fr,⟨1,content⟩)]⟩:StD)=f3_ st z.2.id path content:=by rw[hwd];unfold jo_;rw[hfr]
   clear hwd;simp only[aO_,aj_,ae_];obtain⟨g1,g2,g3⟩:=hR.rd;rw[ac_ g3,ah_];have hl3:=hR.l3;refine ab_ rfl ?_;refine hR.putI (fr,⟨1,content⟩) o_ λa3' G2 hR2=>?_;obtain⟨g1,g2,g3⟩:=hR2.rd;rw[ac_ g2,ah_,ac_ g1,ah_];have hsn:st1.snaps.length<=60:=by rw[hs1];omega
   refine gR_ hR2 (by dsimp only;omega) (λk hk ek hmin=>?_) λq=>?_
   .simp only[aO_,aj_];rw[ac_ g1,ah_];refine⟨rfl,?_⟩;rw[ac_ g2,ah_];refine⟨rfl,?_⟩;have hl1':=hR2.l1;have hl2':=hR2.l2;dsimp only at hl1' hl2' hk ek hmin;refine ab_ rfl (ab_ (by simp<;>omega) ?_);obtain⟨l,e1,r1,r2,_⟩:=hR2.snapG k hk;have hxk:=Cy_ (st:=st1) hk ek hmin (by rw[hs1];exact hy);rw[e1];simp only[ae_,etn,kN,kQ];rw[ac_ r2,aj_];dsimp only;rw[hxk];refine ab_ rfl ?_;refine hR2.putL ((z.2.id,path),(fr,true)) o_ λa2' G3 hR3=>?_;have hR3':c7_ B G3 sp a1 n1 a2' (n2+1) a3' (n3+1) (f3_ st z.2.id path content):=by rw[<-hst];exact hR3
    have hdl:=congrArg (λs:StD=>s.links.length) hst;have hdi:=congrArg (λs:StD=>s.inos.length) hst;dsimp only at hdl hdi;rw[kI]at hdl hdi;refine i7_ hR3' gd.sto ⟨?_,?_,?_⟩ (tc_ gd).2.2 λG4 x' pG4 hT'=>?_
    .rw[W.snaps];omega
    .rw[<-hdl];simp;omega
    .rw[<-hdi];simp;omega
    .simp only[e0_,bl_,ah_,bV_];exact h2 st z.2 e hw hy G4 x' (hB.trans pG4) hT'
   ·obtain⟨j,hj,ej⟩:=kK hz;have:(z.1)≠name:=by
     have:=q j (by dsimp only;rw[hs1];exact hj);dsimp only at this;simp only[hs1,ej]at this;exact this
    exact absurd (by rw[ez]at hin;exact hin) this
  refine qE_ hR1 ⟨o_,o_⟩ hy ?_;simp only[aO_,aj_];cases hfn:h3_ st z.2.id path with
  |none=>
   have hfo:l5_ st z.2.id path= -1:=by unfold l5_;unfold h3_ at hfn;rw[hfn]
   rw[hfo];refine aa_ (λe=>by simp at e) λ_=>?_;exact back st G1 a2 n2 a3 n3 rfl o_ o_ (by unfold f3_;rw[hfn]) hR1
  |some j=>
   have hfo:l5_ st z.2.id path=((j:Nat):Int):=by unfold l5_;unfold h3_ at hfn;rw[hfn]
   rw[hfo];obtain⟨hj,ej⟩:=fY_ hfn;refine aa_ (λ_=>?_) (λe=>by simp at e<;>omega);refine ml_ hR1 K.good.sto ⟨o_,o_⟩ hj λG2 a2' n2' a3' n3' hR2=>?_;obtain⟨yy,hyy,eqd⟩:=eR_ K.good.sto hj;refine back (gn_ st j) G2 a2' n2' a3' n3' (by rw[eqd]) ?_ ?_ (by unfold f3_;rw[hfn]) hR2
   .rw[eqd];dsimp only;have:=length_eraseIdx_le st.links j;omega
   .rw[eqd];dsimp only;unfold lE_;refine Nat.le_trans (length_filter_le _ _) ?_;unfold fF_;rw[hyy,k9];omega
end
theorem G3_(h:Sto a)(A:x∈a.inos):∃l∈a.links,l.2.1=x.1:=by
 have F:=(dw_.1 h.lk).2 x A;have r:=(h.ok.inos x A).2;unfold ei_ at r;simp at r;have:0<ey_ a x.1:=by omega
 have⟨l,D,e⟩:=countP_pos_iff.1 this;grind
theorem HE_(F:Asc ps)(A:Asc qs)(h:ps.Perm qs):ps=qs:=
 vi_ (λa e=>by rw[bY_]at e;cases e) (λa b D r=>by have:=dq_ D r;rw[bY_]at this;cases this) F A λx=>h.mem_iff
theorem FF_(h:Sto a):(eG_ a).Perm (ty_ a)/\Asc (eG_ a):=by
 have:=od_ Pairwise.nil (by simpa using yw_ h.ok h.nd);exact⟨by simpa[eG_] using this.1,this.2⟩
theorem Bz_.fr(k:Bz_ T st):FrK (aC_ st):=⟨k.asc,k.from_,k.size.1,k.size.2,λx A=>by
 have⟨s,_,e,D⟩:=k.infos.get A;exact⟨((eH_ D.asc).1 (xc_ k.from_ x A)).2.2.2.2,D.asc⟩⟩
section
variable{H:Hp}{Q:Post}{sp ms ml mi:Nat}{c0 c4:GV}{st:StD}{x:Pl}{n:Nat}{cs:List PC}{T:List Pg}
theorem ur_(h:eZ_ H sp c0 ms ml mi c4 st)(I:dW_ st<=1000)(J:Q (gI (dW_ st:Nat)) H):dS_ [yQ sp] H Q:=by
 refine⟨1,?_⟩;rw[o2_];have⟨_,D,A,F,_⟩:=h.rd;unfold dW_ at I J;simp only[ae_];rw[ac_ D,c2_];refine ma_ h.snaps ?_;rw[ac_ A,c2_];refine ma_ h.links ?_;rw[ac_ F,c2_];refine ma_ h.inos ?_;unfold nI;rw[b7_ (n:=((st.snaps.length:Nat):Int)+(st.links.length:Nat)) o_ o_,b7_ o_ o_];grind
def NoT(Q:Post)(H:Hp)(e:Int):Prop:=∀H',H<+:H'->Q (.tup [yB none 0,nN e]) H'
def OkX(Q:Post)(P:Nat->Prop)(H:Hp)(kv:KV):Prop:=∀H' x',H<+:H'->TrX H' x' 48 kv P->Q (.tup [yB x' 48,nN 0]) H'
def OkT(Q:Post)(P:Nat->Prop)(H:Hp)(is:List InfoR):Prop:=∀H' x' cs T st,H<+:H'->TrP P H' x' 48 cs T->ofD T=some st->aC_ st=is->Q (.tup [yB x' 48,nN 0]) H'
structure JR_ (E:Nat->Sm) (H:Hp) (T:List Pg) (f1:Nat) (c1:List (Nat × Nat)) (f2:Nat) (c2:List (Nat × Nat)) (err:StD->Int) (R:StD->StD->Prop):Prop where
 says:∀st,ofD T=some st->∀(H':Hp) b a (K:Post),H<+:H'->bX_ H' b a (aC_ st)->(∀H'':Hp,H'<+:H''->K (gI (err st)) H'')->E f1 (cpl [nL a (aC_ st).length 5] c1) H' K
 turn:∀st st1,ofD T=some st->err st=0->hc_ st st1->∀(H':Hp) sp ms ml mi c0 c4 (K:Post),H<+:H'->(H.length<=ms/\H.length<=ml/\H.length<=mi)->eZ_ H' sp c0 ms ml mi c4 st1->
  (∀(H'':Hp) st2,H<+:H''->eZ_ H'' sp c0 ms ml mi c4 st2->R st1 st2->K (.tup []) H'')->E f2 (cpl [yQ sp] c2) H' K
 ok:∀st st1 st2,ofD T=some st->err st=0->hc_ st st1->R st1 st2->Sto st2/\dW_ st2<=1000/\(eg_ st1=none->dW_ st2<=60)
theorem mE_ {f1 f2:Nat} {R:StD->StD->Prop} (hX:TrP P H x n cs T) (hP:∀l,P l->l<H.length) (t:JR_ E H T f1 c1 f2 c2 err R)
 (h0:ofD T=none->NoT Q H 2000)
 (h1:∀st,ofD T=some st->err st≠0->NoT Q H (err st))
 (h2:∀st D A,ofD T=some st->err st=0->hc_ st D->R D A->OkX Q P H (eG_ A)):
 fT_ E [yA x n,.g (.fn f1 c1),.g (.fn f2 c2)] H Q:=by
 refine⟨1,?_⟩;rw[xP_];have hT:=hX.tr;refine k5_ hT (λe H' p q=>?_) λst e H1 O Z W Y b a o=>?_;exact h0 e H' q;have K:=eJ_ e;simp[aN_];have⟨_,_,_,_,g4⟩:=o.at_.rd;rw[ac_ g4,ah_];refine t.says st e H1 b a _ o.pre o.infos λH2 p2=>?_;simp[aO_];refine aa_ (λz=>h1 st e (by simpa using z) _ (o.pre.trans p2)) λz=>?_;have z:err st=0:=by simpa using z
 have low:=o.low;have J:∀(G:Hp) O Z W Y c4 D A,H<+:G->eZ_ G O (.sl x n 5) Z W Y c4 A->hc_ st D->R D A->dW_ A<=60->
  cl (aM_ E) [(yQ O)] G λr48 H49=>rA r48 λc50=>uC c50 λv51 c52=>dL 5 v51 λx53 n54=>uN c52 (Q (.tup [(.a [(.sl x53 n54 5)]),(nN 0)]) H49):=λG O Z W Y c4 D A hG h2' F hR hm=>by
  refine uO_ h2' (t.ok st D A e z F hR).1.ok hm ((⟨_,_,(j4_ e).1,(Am_ (j4_ e).1).symm,hX⟩:TrX H x n (eb_ T) P).mono hG) (λl N=>Nat.lt_of_lt_of_le (hP l N) hG.length_le) λH' x' kv p t' hp=>?_;simp[e0_];have⟨z1,z2⟩:=FF_ (t.ok st D A e z F hR).1;rw[HE_ t'.tr.asc z2 (hp.trans z1.symm)]at t';exact h2 st D A e z F hR H' x' (hG.trans p) t'
 refine t.turn st st e z (hc_.refl K.good.sto) H2 O Z W Y _ _ _ (o.pre.trans p2) ⟨low.1,low.2.1,low.2.2.1⟩ (o.at_.keep λl N=>a9_ p2 N) λH3 A I s3 r3=>?_;have⟨_,hm,_⟩:=t.ok st st A e z (hc_.refl K.good.sto) r3;refine ur_ s3 hm ?_;simp[aO_];refine aa_ (λz6=>?_) λz6=>?_;refine k5_ (hT.mono I) (λU=>by rw[e]at U;cases U) λst' U H4 sp' ms' ml' mi' b' a' V=>?_;rw[e]at U;cases U;have hmm:=K.many;unfold dW_ at hmm;have low':=V.low;have l3:=I.length_le;refine sA_ V.at_ K.good.sto o_ λH5 D k5 l5 s5 F ho=>?_;have p5:H<+:H5:=ka_ (by have:=(I.trans V.pre).length_le;omega) λl N=>by
  rw[k5 l (by have:=(I.trans V.pre).length_le;omega) o_ o_,a9_ (I.trans V.pre) N]
 exact t.turn st D e z F H5 sp' ms' ml' mi' _ _ _ p5 o_ s5 λH6 A p6 s6 r6=>J H6 _ _ _ _ _ _ _ p6 s6 F r6 ((t.ok st D A e z F r6).2.2 ho);exact J H3 _ _ _ _ _ _ _ I s3 (hc_.refl K.good.sto) r3 (by simp at z6;omega)
end
theorem yI_(h:∀l∈st.links,∃x∈st.snaps,x.2.id=l.1.1):eg_ st=none:=by
 unfold eg_;grind
theorem A4_ (h:Sto a):a.inos.length<=a.links.length:=by
 have:=(d0_ (a.links.map (·.2.1)) (a.inos.map (·.1)) h.nd.inos λk A=>by
  obtain⟨x,F,rfl⟩:=lA.1 A;have⟨l,D,e⟩:=G3_ h F;exact lA.2 ⟨l,D,e⟩).1
 grind
theorem G6_(g:hc_ st a):a.snaps.length=st.snaps.length/\a.links.length<=st.links.length/\a.inos.length<=a.links.length:=
 ⟨by rw[g.snaps],(d0_ st.links a.links (hf_ g.sto.nd.links) g.sub).1,A4_ g.sto⟩
structure rF_(st st':StD)(d:Int)(path:Y_)(nw:List FileR):Prop where
 sto:Sto st'
 snaps:st'.snaps=st.snaps
 other:∀j,j≠d->∀fs,cg_ st' j fs↔cg_ st j fs
 own:∀fs fs',cg_ st d fs->cg_ st' d fs'->∀f,f∈fs'↔f∈nw\/(f∈fs/\f.1≠path)
theorem A7_.ft(w:A7_ st st' d path content):rF_ st st' d path [(path,content,true)]:=
 ⟨w.sto,w.snaps,w.other,λF A h D f=>by rw[w.own F A h D,mem_singleton]⟩
theorem Ez_ (h:Sto st) (hf:h3_ st d path=some i):rF_ st (gn_ st i) d path []:=by
 have⟨A,V⟩:=fY_ hf;have Y:(gn_ st i).snaps=st.snaps:=by have⟨y,_,e⟩:=eR_ h A;rw[e]
 have key:∀l∈st.links,l.1=(d,path)->l=st.links[i]:=λl hl q=>by
  obtain⟨j,N,rfl⟩:=kK hl;have nd:=h.nd.links;have:=Nat.le_antisymm (Nat.le_of_not_lt λc=>absurd (kS.1 nd i j g_ g_ c) g_) (Nat.le_of_not_lt λc=>absurd (kS.1 nd j i g_ g_ c) g_);grind
 refine⟨lk_ h A,Y,λj N Z=>?_,λZ U I W f=>?_⟩;have m:∀f,(∃l∈(gn_ st i).links,l.1.1=j/\f=bA_ (gn_ st i) l)↔∃l∈st.links,l.1.1=j/\f=bA_ st l:=λf=>
  ⟨fun⟨l,a,b,c⟩=>⟨l,((gJ_ h A l).1 a).1,b,by rw[c,ic_ h A a]⟩,fun⟨l,a,b,c⟩=>by
   have z:=(gJ_ h A l).2 ⟨a,λe=>N g_⟩;exact⟨l,z,b,by rw[c,ic_ h A z]⟩⟩
 exact⟨λg=>⟨g.asc,λf=>(g.mem f).trans (m f)⟩,λg=>⟨g.asc,λf=>(g.mem f).trans (m f).symm⟩⟩;rw[W.mem];constructor;rintro⟨l,a,b,c⟩;have⟨D,F⟩:=(gJ_ h A l).1 a;exact .inr ⟨(I.mem f).2 ⟨l,D,b,by rw[c,ic_ h A a]⟩,λe=>F (key l D (Prod.ext b (by rw[<-e,c];rfl)))⟩;rintro (q|⟨a,b⟩);cases q;have⟨l,D,F,J⟩:=(I.mem f).1 a;have z:=(gJ_ h A l).2 ⟨D,λe=>b (by rw[J,e];show st.links[i].1.2=path;rw[V])⟩;exact⟨l,z,F,by rw[J,ic_ h A z]⟩
theorem rF_.good_less(w:rF_ st st' d path [])(g:d7_ st)(J:cA_ st is):d7_ st':=by
 refine vd_ w.sto (by rw[w.snaps];exact g.ids) (by rw[w.snaps];exact g.few) (λy I F D=>?_) (by rw[w.snaps];exact g.hdr J);rw[w.snaps]at I;by_cases e:y.2.id=d;have⟨O,N⟩:=rz_ g.sto y.2.id;have o:=(eH_ N.asc).1 (g.info y I O N);subst e;have m:=w.own O F N D;exact (eH_ D.asc).2 ⟨o.1,o.2.1,o.2.2.1,λf A=>o.2.2.2.1 f (((m f).1 A).resolve_left t_).1,Nat.le_trans (d0_ O F D.nodup λf A=>(((m f).1 A).resolve_left t_).1).1 o.2.2.2.2⟩;exact g.info y I F ((w.other _ e F).1 D)
theorem rF_.infos (w:rF_ st st' y.id path nw) (g:d7_ st) (h:cA_ st is) (Z:look st.snaps name=some y) (hK:K<is.length) (W:is[K].name=name) (fa:h7_ A) (fm:∀f,f∈A↔f∈nw\/(f∈is[K].files/\f.1≠path)):
 cA_ st' (is.set K ⟨is[K].name,is[K].kind,is[K].parent,is[K].label,A⟩):=by
 have U:(is.set K ⟨is[K].name,is[K].kind,is[K].parent,is[K].label,A⟩).map (·.name)=is.map (·.name):=by
  rw[List.map_set];exact lp_ g_
 refine⟨by rw[U,w.snaps];exact h.perm,by rw[U];exact h.asc,λi Y=>?_⟩;obtain⟨j,V,rfl⟩:=kK Y;rw[length_set]at V;rw[getElem_set];by_cases e:K=j;subst e;rw[if_pos rfl];have⟨x,D,F,I,N,J⟩:=(h.info _ (kE hK)).mem;have:x=y:=by grind
 subst this;have⟨gs,O⟩:=rz_ w.sto x.id;refine⟨x,by rw[w.snaps];exact D,F,I,N,fa,λf=>?_⟩;rw[fm,<-w.own _ gs J O,O.mem];rw[if_neg e];have⟨x,D,F,I,N,J⟩:=(h.info _ (kE V)).mem;refine⟨x,by rw[w.snaps];exact D,F,I,N,(w.other x.id (λq=>?_) _).2 J⟩;have z:=Hq_ g.ids (cW_ D) (cW_ Z) q;have z:is[j].name=name:=congrArg Prod.fst z;have asc:=kS.1 h.asc;rcases Nat.lt_or_gt_of_ne e with c|c;have:=asc K j g_ g_ c;simp at this;rw[W,z,bY_]at this;cases this;have:=asc j K g_ g_ c;simp at this;rw[W,z,bY_]at this;cases this
theorem yn_(h:cA_ st is)(D:c1_ is s=some i):∃y,look st.snaps s=some y/\i.kind=y.kind/\i.parent=y.parent/\i.label=y.label/\cg_ st y.id i.files:=by
 have⟨A,F⟩:=f9_ D;have⟨y,I⟩:=(h.info i A).mem;grind
theorem Kp_(H:Hp)(a b c:Obj):(H++[a]++[b]++[c])[H.length]?=some a/\(H++[a]++[b]++[c])[H.length+1]?=some b/\(H++[a]++[b]++[c])[H.length+1+1]?=some c:=⟨t_,t_,by rw[getElem?_append_right t_];simp⟩
theorem J6_(H:Hp)(a b:Obj):(H++[a]++[b])[H.length]?=some a/\(H++[a]++[b])[H.length+1]?=some b:=by simp
theorem CS_(h:fP_ is s path=0):ia_ is s path=0/\∀i,c1_ is s=some i->(i.files.any λf=>decide (f.1=path))=true:=by
 unfold fP_ at h;grind
theorem CM_(h:d7_ st)(I:cg_ st d fs)(J:(fs.any λf=>decide (f.1=path))=true):∃i,h3_ st d path=some i:=by
 have⟨f,D,A⟩:=any_eq_true.1 J;have⟨l,F,N,O⟩:=(I.mem f).1 D;cases h:h3_ st d path with
 |some i=>exact⟨i,rfl⟩
 |none=>exact absurd (Prod.ext N (by rw[O]at A;exact of_decide_eq_true A)) (ql_ h l F)
theorem vj_(K:Bz_ T st)(g:hc_ st a):a.snaps.length<=60/\a.links.length<=60/\a.inos.length<=60:=by
 have:=K.many;unfold dW_ at this;have:=G6_ g;omega
theorem rF_.many(w:rF_ st st' d path nw)(A:st'.links.length<=st.links.length+1):dW_ st'<=st.snaps.length+2*(st.links.length+1):=by
 have:=A4_ w.sto;unfold dW_;rw[w.snaps];omega
theorem Ac_(h:Sto st):(f3_ st d path content).links.length<=st.links.length+1:=by
 unfold f3_;split;rename_i i A;have⟨y,_,e⟩:=eR_ h (fY_ A).1;simp[jo_];grind;simp[jo_]
theorem xW_(h:Sto st)(N:eg_ st=none)(J:(∃s,(s,y)∈st.snaps)):eg_ (f3_ st y.id path content)=none:=by
 have own:=lS_ N;have⟨s,F⟩:=J;refine yI_ λl A=>?_;unfold f3_ at A ⊢;split at A;rename_i i I;have⟨D,_⟩:=fY_ I;have e:(gn_ st i).snaps=st.snaps:=by have⟨y,_,e⟩:=eR_ h D;rw[e]
 rcases kD.1 A with q|q;simp only[jo_,e];exact own l ((gJ_ h D l).1 q).1;rw[mem_singleton.1 q];simp only[jo_,e];exact⟨_,F,rfl⟩;rcases kD.1 A with q|q;exact own l q;rw[mem_singleton.1 q];exact⟨_,F,rfl⟩
section
variable{H:Hp}{Q:Post}{x:Pl}{n:Nat}{cs:List PC}{T:List Pg}{name path content:Y_}{P:Nat->Prop}
theorem sk_(hT:TrP P H x n cs T)(hP:∀l,P l->l<H.length)(N:name.size<=140737488351232)(W:path.size<=140737488351232)
 (h0:ofD T=none->NoT Q H 2000)
 (h1:∀st,ofD T=some st->cR_ (aC_ st) name path content≠0->NoT Q H (cR_ (aC_ st) name path content))
 (h2:∀st A y,ofD T=some st->cR_ (aC_ st) name path content=0->hc_ st A->look st.snaps name=some y->OkX Q P H (eG_ (f3_ A y.id path content))):
 dG_ [yA x n,gS name,gS path,gS content] H Q:=by
 refine⟨1,?_⟩;rw[wk_];simp only[fl_,d2_,kI];have p:H<+:H++[Obj.row true 9 [.str name]]++[.row true 9 [.str path]]++[.row true 9 [.str content]]:=by simp
 obtain⟨q1,q2,q3⟩:=Kp_ H (.row true 9 [.str name]) (.row true 9 [.str path]) (.row true 9 [.str content]);refine mE_ (err:=λst=>cR_ (aC_ st) name path content) (R:=λA I=>∃y,look A.snaps name=some y/\I=f3_ A y.id path content) (hT.mono p) (λl O=>Nat.lt_of_lt_of_le (hP l O) p.length_le) ⟨λst e H' b a K D V Y=>?_,λst A e J g H' sp ms ml mi c0 c4 K D low s Y=>?_,λst A I e J g Z=>?_⟩ (λe H' D=>?_) (λst e J H' D=>?_) λst A I e J g Z H' x' D t=>?_
 .refine⟨1,?_⟩;show as_ _ _ _ [nL a (aC_ st).length 5,yQ H.length,gP (some (H.length+1,0)),gP (some (H.length+1+1,0))] _ _;rw[sV_,ac_ (cC_ D (by rw[aX_ q1];rfl)),aq_,ac_ (cC_ D (by rw[aX_ q2];rfl)),aq_,ac_ (cC_ D (by rw[aX_ q3];rfl)),aq_];refine qQ_ V (eJ_ e).fr N W λU a' n' p2=>?_;simp[aN_,aJ_,bK_,ah_,aj_];exact Y U p2
 .refine⟨1,?_⟩;show as_ _ _ _ [yQ sp,yQ H.length,gP (some (H.length+1,0)),gP (some (H.length+1+1,0))] _ _;rw[tx_,ac_ (cC_ D (by rw[aX_ q1];rfl)),aq_,ac_ (cC_ D (by rw[aX_ q2];rfl)),aq_,ac_ (cC_ D (by rw[aX_ q3];rfl)),aq_];have k:=eJ_ e;obtain⟨_,_,_,i,V,_⟩:=r8_ J;obtain⟨y,F,_⟩:=yn_ (g.infos.2 k.infos) V;have:=vj_ k g;have lp:=D.length_le;refine r9_ s g.sto o_ F λU k2 l2 s2=>Y U _ (ka_ o_ λl O=>?_) s2 ⟨y,F,rfl⟩;rw[k2 l o_ o_ o_,a9_ D O]
 .obtain⟨y,F,rfl⟩:=Z;have k:=eJ_ e;have b:=vj_ k g;have w:=(pO_ (g.good k.good) (g.infos.2 k.infos) o_ J F);have m:=w.2.ft.many (Ac_ g.sto);refine⟨w.2.sto,o_,λho=>?_⟩;have:=s9_ w.1 (xW_ g.sto ho ⟨_,cW_ F⟩);omega
 .simp[aN_,aJ_,e1_,bl_,bK_,ah_,aj_];exact h0 e H' (p.trans D)
 .simp[aN_,aJ_,e1_,bl_,bK_,ah_,aj_,bV_,bh_];exact h1 st e J H' (p.trans D)
 .simp[aN_,aJ_,e1_,bl_,bK_,ah_,aj_];obtain⟨y,F,rfl⟩:=Z;exact h2 st A y e J g (by rw[<-g.snaps];exact F) H' x' (p.trans D) t
theorem rq_ (hT:TrP P H x n cs T) (hP:∀l,P l->l<H.length) (Y:name.size<=140737488351232) (W:path.size<=140737488351232)
 (h0:ofD T=none->NoT Q H 2000)
 (h1:∀st,ofD T=some st->fP_ (aC_ st) name path≠0->NoT Q H (fP_ (aC_ st) name path))
 (h2:∀st A y i,ofD T=some st->fP_ (aC_ st) name path=0->hc_ st A->look st.snaps name=some y->h3_ A y.id path=some i->OkX Q P H (eG_ (gn_ A i))):
 dc_ [yA x n,gS name,gS path] H Q:=by
 refine⟨1,?_⟩;rw[uP_];simp only[fl_,d2_,kI];have p:H<+:H++[Obj.row true 9 [.str name]]++[.row true 9 [.str path]]:=by simp
 have⟨q1,q2⟩:=J6_ H (.row true 9 [.str name]) (.row true 9 [.str path]);refine mE_ (err:=λst=>fP_ (aC_ st) name path) (R:=λA I=>∃y i,look A.snaps name=some y/\h3_ A y.id path=some i/\I=gn_ A i) (hT.mono p) (λl J=>Nat.lt_of_lt_of_le (hP l J) p.length_le) ⟨λst e H' b a K D F U=>?_,λst A e N g H' sp ms ml mi c0 c4 K D low s U=>?_,λst A I e N g V=>?_⟩ (λe H' D=>?_) (λst e N H' D=>?_) λst A I e N g V H' x' D t=>?_;refine⟨1,?_⟩;show as_ _ _ _ [nL a (aC_ st).length 5,yQ H.length,gP (some (H.length+1,0))] _ _;rw[ry_,ac_ (cC_ D (by rw[aX_ q1];rfl)),aq_,ac_ (cC_ D (by rw[aX_ q2];rfl)),aq_];refine pI_ F (eJ_ e).fr Y W λZ a' n' p2=>?_;simp[aN_];exact U Z p2;refine⟨1,?_⟩;show as_ _ _ _ [yQ sp,yQ H.length,gP (some (H.length+1,0))] _ _;rw[rp_,ac_ (cC_ D (by rw[aX_ q1];rfl)),aq_,ac_ (cC_ D (by rw[aX_ q2];rfl)),aq_];have k:=eJ_ e;have⟨f0,hfa⟩:=CS_ N;have⟨i,F⟩:∃i,c1_ (aC_ st) name=some i:=by
  have:=(AT_ f0).2.1;unfold dy_ at this;cases h:c1_ (aC_ st) name with
  |some i=>exact⟨i,rfl⟩
  |none=>rw[h]at this;cases this
 have⟨y,O,_,_,_,hfo⟩:=yn_ (g.infos.2 k.infos) F;have⟨j,hj⟩:=CM_ (g.good k.good) hfo (hfa i F);have lp:=D.length_le;refine rg_ s g.sto O hj λZ k2 l2 s2=>U Z _ (ka_ o_ λl J=>?_) s2 ⟨y,j,O,hj,rfl⟩;rw[k2 l o_ o_ o_,a9_ D J];obtain⟨y,i,O,F,rfl⟩:=V;have k:=eJ_ e;have b:=vj_ k g;have w:=Ez_ g.sto F;have⟨z,_,ed⟩:=eR_ g.sto (fY_ F).1;have J:(gn_ A i).links.length<=A.links.length:=by
  rw[ed];simp[length_eraseIdx];split<;>omega
 have m:=w.many o_;refine⟨w.sto,o_,λho=>?_⟩;have:=s9_ (w.good_less (g.good k.good) (g.infos.2 k.infos)) (yI_ λl J=>by
  rw[w.snaps];exact lS_ ho l ((gJ_ g.sto (fY_ F).1 l).1 J).1)
 omega;simp[aN_];exact h0 e H' (p.trans D);simp[aN_];exact h1 st e N H' (p.trans D);simp[aN_];obtain⟨y,i,O,F,rfl⟩:=V;exact h2 st A y i e N g (by rw[<-g.snaps];exact O) F H' x' (p.trans D) t
end
def wx_ (T:List Pg) (name path:Y_):Y_ × Int:=match ofD T with
 |none=>(mkS [],2000)
 | some st=>match a8_ name 4 with
  |false=>(mkS [],1901)
  | true=>match c1_ (aC_ st) name with
   |none=>(mkS [],1903)
   | some i=>match a8_ path 3 with
    |false=>(mkS [],1907)
    |true=>match i.files.find? λf=>decide (f.1=path) with
     |none=>(mkS [],1908)
     |some f=>(f.2.1,0)
theorem ES_ (h:h7_ fs) (I:f∈fs) (e:f.1=path):(fs.find? λf=>decide (f.1=path))=some f:=by
 cases q:fs.find? λf=>decide (f.1=path) with
 |none=>exact absurd (lE e) g_
 |some g=>
  have A:g.1=path:=by grind
  obtain⟨i,D,rfl⟩:=kK I;obtain⟨j,F,rfl⟩:=kK (mem_of_find?_eq_some q);have asc:=kS.1 h;have:=Nat.le_antisymm (Nat.le_of_not_lt λc=>by have:=asc i j D F c;rw[e,A,bY_]at this;cases this) (Nat.le_of_not_lt λc=>by have:=asc j i F D c;rw[e,A,bY_]at this;cases this);grind
theorem HC_{fs:List FileR}(h:(fs.any λf:FileR=>decide (f.1=path))=false):(fs.find? λf=>decide (f.1=path))=none:=
 find?_eq_none.2 λf A=>by grind
theorem Fo_ (h:cA_ st is) (A:c1_ is s=none):look st.snaps s=none:=by
 cases q:look st.snaps s with
 |none=>rfl
 |some x=>
  have⟨i,D,e⟩:=lA.1 (h.perm.mem_iff.2 (lA.2 ⟨_,cW_ q,rfl⟩));exact absurd (lE e) (find?_eq_none.1 A i D)
section
variable{H:Hp}{Q:Post}{x:Pl}{n:Nat}{cs:List PC}{T:List Pg}{E:Nat->Sm}{name path:Y_}
theorem tm_(D:Tr H x n cs T)
 (J:ofD T=none->∀H',H<+:H'->Q (.tup [yR none 0 5,nN 2000]) H')
 (A:∀st,ofD T=some st->∀H' b a,H<+:H'->H.length<=b->bX_ H' b a (aC_ st)->Q (.tup [yR a (aC_ st).length 5,nN 0]) H'):
 go_ E [yA x n] H Q:=by
 refine⟨1,?_⟩;rw[v5_];refine k5_ D (λe H' p I=>by simp_all) λst e H' O V U N b a o=>?_;simp only[aN_,aJ_,bK_,ge_,ao_];have⟨_,_,_,_,F⟩:=o.at_.rd;rw[bN1,ae_,kN,ac_ F,ah_];exact A st e H' b a o.pre o.low.2.2.2.2 o.infos
theorem jc_ (hT:Tr H x n cs T) (hs1:name.size<=140737488351232) (hs2:path.size<=140737488351232) (hQ:∀H',H<+:H'->Q (.tup [.s (.str (wx_ T name path).1),nN (wx_ T name path).2]) H'):
 f4_ E [yA x n,gS name,gS path] H Q:=by
 refine⟨1,?_⟩;rw[yk_];refine⟨1,?_⟩;rw[x9_];unfold wx_ at hQ;refine tm_ hT (λe H' p=>?_) λst e H1 b a p1 _ i1=>?_
 .simp only[aN_,aJ_,e1_,bl_,bK_,aq_,ah_,aj_,bV_,bh_];rw[az_ d_,az_ d_];simp only[e]at hQ;exact hQ H' p
 simp only[aN_,aJ_,e1_,bl_,bK_,aq_,ah_,aj_,bV_,bh_];simp only[e]at hQ;have k:=(eJ_ e).fr;rw[aA_ d_];refine e6_ hs1 ?_;simp only[aO_,ao_];cases hw:a8_ name 4 with
 |false=>
  rw[bN0,az_ d_];simp only[hw]at hQ;exact hQ H1 p1
 | true=>
  simp only[hw]at hQ;rw[bN1];refine j0_ i1.rd k.asc (by have:=k.few;omega) ?_;simp only[aN_,aJ_,bK_,ao_,aj_,bh_];cases q:(aC_ st).any λy=>decide (y.name=name) with
  |false=>
   rw[bN0,az_ d_];simp only[jC_ k.asc q]at hQ;exact hQ H1 p1
  | true=>
   obtain⟨hp,hfi⟩:=nj_ k.asc q;generalize dK_ (aC_ st) name=K at hp hfi ⊢;simp only[hfi]at hQ;obtain⟨la,pf,e1,hb,r1,r2,r3,r4,r5,r6,_⟩:=i1.src _ hp;subst e1;obtain⟨h4,hfa⟩:=k.f4 _ (kE hp);rw[bN1,af_];refine ab_ s_ ?_;rw[ae_,show tN (K:Int)=K from rfl,kN,ac_ r1,aq_,ac_ r2,aj_,ac_ r3,aq_,ac_ r4,aq_,ac_ r5,ah_,aA_ d_];refine f8_ hs2 ?_;simp only[aO_,ao_];cases hw2:a8_ path 3 with
   |false=>
    rw[bN0];simp only[hw2]at hQ;exact hQ H1 p1
   | true=>
    simp only[hw2]at hQ;rw[bN1];refine f6_ r6 hfa o_ ?_;simp only[aN_,aJ_,bK_,ao_,aj_,bh_];cases q2:(aC_ st)[K].files.any λf=>decide (f.1=path) with
    |false=>
     rw[bN0];simp only[HC_ q2]at hQ;exact hQ H1 p1
    |true=>
     obtain⟨hpf,ef⟩:=Ai_ hfa q2;simp only[ES_ hfa (kE hpf) ef]at hQ;obtain⟨l,o,e1,_,g2,_⟩:=r6.rd _ hpf;subst e1;rw[bN1,af_];refine ab_ s_ ?_;rw[ae_,show tN (gd_ (aC_ st)[K].files path:Int)=gd_ (aC_ st)[K].files path from rfl,ac_ g2,aq_];exact hQ H1 p1
end
section
variable{H:Hp}{Q:Post}{x:Pl}{n:Nat}{cs:List PC}{T:List Pg}{name path content:Y_}{P:Nat->Prop}
theorem yZ_ (k:Bz_ T st) (g:hc_ st st1) (w:rF_ st1 st2 y.id path nw) (W:d7_ st2) (D:look st.snaps name=some y) (U:FTo path nw G) (t:TrX H x n (eG_ st2) P):
 ∃cs T' A,TrP P H x n cs T'/\ofD T'=some A/\aC_ A=hG_ (aC_ st) name G:=by
 have⟨cs,T',J,e3,ht⟩:=t.ex;have e:ofD T'=et_ (eG_ st2):=by unfold ofD;rw[lE J,Am_ J,e3]
 have⟨r,hr,sm,Z,_⟩:=E7_ W;have⟨i,N⟩:∃i,c1_ (aC_ st) name=some i:=by
  cases q:c1_ (aC_ st) name with
  |some i=>exact⟨i,rfl⟩
  |none=>rw[Fo_ k.infos q]at D;cases D
 obtain⟨F,Y⟩:=nj_ k.asc (any_eq_true.2 ⟨i,(f9_ N).1,by simpa using (f9_ N).2⟩);have I:=(f9_ Y).2;have⟨z,_,_,_,_,hf⟩:=(k.infos.info _ (kE F)).mem;have⟨O,V⟩:=U _ hf.asc;exact⟨cs,T',r,ht,e.trans hr,by rw[AN_ k.asc F I];exact Z.unique (w.infos (g.good k.good) (g.infos.2 k.infos) (by rw[g.snaps];exact D) F I O V)⟩
theorem kR_(V:TrP P H x n cs T)(N:∀l,P l->l<H.length)(D:name.size<=140737488351232)(F:path.size<=140737488351232)
 (J:ofD T=none->NoT Q H 2000)
 (W:∀st,ofD T=some st->cR_ (aC_ st) name path content≠0->NoT Q H (cR_ (aC_ st) name path content))
 (Z:∀st,ofD T=some st->cR_ (aC_ st) name path content=0->OkT Q P H (hG_ (aC_ st) name (o6_ path content))):
 dG_ [yA x n,gS name,gS path,gS content] H Q:=by
 refine sk_ V N D F J W λst O y e U g I H' x' p t=>?_;have k:=eJ_ e;have b:=vj_ k g;have w:=pO_ (g.good k.good) (g.infos.2 k.infos) o_ U (by rw[g.snaps];exact I);have⟨cs',T',A,q1,Y,q3⟩:=yZ_ k g w.2.ft w.1 I EI_ t;exact Z st e U H' x' cs' T' A p q1 Y q3
theorem nk_(U:TrP P H x n cs T)(N:∀l,P l->l<H.length)(D:name.size<=140737488351232)(F:path.size<=140737488351232)
 (I:ofD T=none->NoT Q H 2000)
 (W:∀st,ofD T=some st->fP_ (aC_ st) name path≠0->NoT Q H (fP_ (aC_ st) name path))
 (Z:∀st,ofD T=some st->fP_ (aC_ st) name path=0->OkT Q P H (hG_ (aC_ st) name (GV_ path))):
 dc_ [yA x n,gS name,gS path] H Q:=by
 refine rq_ U N D F I W λst O y i e e0 g J V H' x' p t=>?_;have k:=eJ_ e;have w:=Ez_ g.sto V;have⟨cs',T',A,q1,Y,q3⟩:=yZ_ k g w (w.good_less (g.good k.good) (g.infos.2 k.infos)) J Hz_ t;exact Z st e e0 H' x' cs' T' A p q1 Y q3
theorem uN_(I:TrP P H x n cs T)(N:∀l,P l->l<H.length)(o:ofD T=some st)(e:cR_ (aC_ st) name path content=0)(F:name.size<=140737488351232)(D:path.size<=140737488351232)
 (J:OkT Q P H (hG_ (aC_ st) name (o6_ path content))):
 dG_ [yA x n,gS name,gS path,gS content] H Q:=
 kR_ I N F D (λq=>by grind) (λA q r=>by rw[o]at q;cases q;exact absurd e r) λA q _=>by rw[o]at q;cases q;exact J
theorem sw_(I:TrP P H x n cs T)(N:∀l,P l->l<H.length)(o:ofD T=some st)(e:fP_ (aC_ st) name path=0)(F:name.size<=140737488351232)(D:path.size<=140737488351232)
 (J:OkT Q P H (hG_ (aC_ st) name (GV_ path))):
 dc_ [yA x n,gS name,gS path] H Q:=
 nk_ I N F D (λq=>by grind) (λA q r=>by rw[o]at q;cases q;exact absurd e r) λA q _=>by rw[o]at q;cases q;exact J
theorem noP:∀l:Nat,False->l<n:=λ_=>False.elim
theorem hh_(A:Tr H x n cs T)(o:ofD T=some st)(e:aC_ st=is)(D:∀H' b a,H<+:H'->bX_ H' b a is->Q (.tup [yR a is.length 5,nN 0]) H'):dI_ [yA x n] H Q:=
 sH_ A (λq=>by grind) λF q=>by rw[o]at q;cases q;rw[e];exact λH' b a p _=>D H' b a p
end
section
variable{H:Hp}{Q:Post}{x:Pl}{n:Nat}{cs:List PC}{T:List Pg}{E:Nat->Sm}
end
theorem map_set{α β:Type}[DecidableEq α]{ps:List (α × β)}(r:(ps.map (·.1)).Nodup){k:α}{g:α × β->α × β}(D:m<ps.length)(h:ps[m].1=k):(ps.map λx=>if x.1=k then g x else x)=ps.set m (g ps[m]):=by
 apply ext_getElem t_;intro j A I;rw[getElem_map,getElem_set];have G:j<ps.length:=by grind
 by_cases e:m=j
 .grind
 .rw[if_neg e,if_neg];intro q;apply e;exact (getElem_inj (h₀:=by grind) (h₁:=by simpa) r).1 g_
section
variable{B H:Hp}{Q:Post}{sp n1 n2 n3:Nat}{a1 a2 a3:Pl}{st:StD}
theorem c7_.updS(h:c7_ B H sp (some (A,0)) n1 a2 n2 a3 n3 st)(V:m<st.snaps.length)(Y:j<5)(N:(CA_ st.snaps[m]).set j v=CA_ x')
 (W:∀D,D.length=H.length->c7_ B D sp (some (A,0)) n1 a2 n2 a3 n3 { st with snaps:=st.snaps.set m x' }->K D):wr H A (m*5+j) v K:=by
 have⟨t,Z⟩:=h.row;have O:=h.l1;rcases h.snaps with⟨q,_⟩|⟨l,e,J,r,U⟩
 .cases q
 .cases e;refine ca_ r o_ ?_;have I:=iQ_ (m:=5) (λ_=>rfl) Y st.snaps m V N;have F:=(kC.1 r).1;rw[I];refine W _ t_ ⟨⟨t,g_⟩,dL_ h.pre J _,h.base,.inr ⟨A,rfl,J,by rw[kH F],by rw[<-I];simp[U]⟩,h.links.set (λe=>h.d12 A rfl e) _,h.inos.set (λe=>h.d13 A rfl e) _,by simpa using h.l1,h.l2,h.l3,h.d12,h.d13,h.d23,h.s1,h.s2,h.s3⟩
end
section
variable{H:Hp}{Q:Post}{x:Pl}{n:Nat}{cs:List PC}{T:List Pg}
theorem rC_ {A F:Y_} (hT:Tr H x n cs T) (Z:A.size<=140737488351232) (Y:F.size<=140737488351232)
 (h0:ofD T=none->∀H',H<+:H'->Q (.tup [yB none 0,nN 2000]) H')
 (h1:∀st e,ofD T=some st->e7_ (aC_ st) A F=e->e≠0->∀H',H<+:H'->Q (.tup [yB none 0,nN e]) H')
 (h2:∀st,ofD T=some st->e7_ (aC_ st) A F=0->∀H' x',H<+:H'->TrK H' x' 48 (eG_ (iG_ (eW_ st A F)))->Q (.tup [yB x' 48,nN 0]) H'):
 e9_ [yA x n,gS A,gS F] H Q:=by
 refine⟨2,?_⟩;rw[us_];have I:∀k:Nat,tN (k:Int)=k:=λ_=>rfl;refine hb_ hT (λe H' p hp=>?_) λst e B H' sp a1 n1 a2 n2 a3 n3 hB hR=>?_
 .simp only[aN_,aJ_,bK_,ge_,ao_,bh_];exact aa_ (λ_=>h0 e H' hp) (λe=>by cases e)
 ·simp only[aN_,aJ_,bK_,ge_,ao_,bh_];refine aa_ (λe=>by cases e) λ_=>?_;have K:=eJ_ e;have hm:=K.many;unfold dW_ at hm;have⟨_,hd,hok⟩:=j4_ e;refine fB_ hR ⟨o_,o_,o_⟩ (rP_ hok) λG a pG ha=>?_;simp only[aO_,ah_];refine qK_ ha K.asc K.from_ K.size.1 K.size.2 Z Y λG1 b1 m1 pG1=>?_;simp only[aN_,aJ_,bK_,ah_,aj_,bh_];have D:=hR.mono (pG.trans pG1);refine aa_ (λq=>?_) (λq=>?_)
  .exact h1 st _ e rfl (by simpa using q) G1 (hB.trans D.pre)
  have hw:e7_ (aC_ st) A F=0:=by simpa using q
  obtain⟨w1,w2,⟨i,hi,O⟩,hto⟩:=vP_ hw;have⟨him,J⟩:=f9_ hi;obtain⟨z,hz,ez,hfz⟩:=K.infos.get him;have hz1:z.1=A:=by rw[ez]at J;exact J
  have gd:=AE_ K.good K.infos hw;refine gR_ D o_ (λk O ek hmin=>?_) λq=>?_
  ·simp only[aO_,aj_,ae_];obtain⟨W,g2,g3⟩:=D.rd;rw[ac_ W,ah_];have hl1:=D.l1;refine ab_ rfl (ab_ (by simp<;>omega) ?_);obtain⟨l,e1,r1,r2,r3,r4,r5⟩:=D.snapG k O;subst e1;simp only[ae_,I,kN];refine D.updS O o_ (x':=(F,st.snaps[k].2)) rfl λG2 hG2 V=>?_;obtain⟨W,g2,g3⟩:=V.rd;rw[kQ]at W;rw[ac_ W,ah_];refine ab_ rfl (ab_ (by simp<;>omega) ?_);simp only[ae_,I,kN];have U:k<(st.snaps.set k (F,st.snaps[k].2)).length:=by rw[length_set];exact O
   have hgk:=getElem_set_self U;refine V.updS (j:=2) U o_ (x':=(F,⟨st.snaps[k].2.id,2,st.snaps[k].2.parent,st.snaps[k].2.label⟩)) (by dsimp only;rw[hgk];rfl) λG3 hG3 hR3=>?_;have hst:(⟨(st.snaps.set k (F,st.snaps[k].2)).set k (F,⟨st.snaps[k].2.id,2,st.snaps[k].2.parent,st.snaps[k].2.label⟩),st.links,st.inos⟩)=eW_ st A F:=by
    unfold eW_;rw[map_set K.good.sto.nd.snaps O ek,set_set]
   have N:c7_ B G3 sp (some (l,0)) n1 a2 n2 a3 n3 (eW_ st A F):=by rw[<-hst];exact hR3
   refine i7_ N gd.sto ⟨?_,?_,?_⟩ (tc_ gd).2.2 λG4 x' pG4 hT'=>?_
   .unfold eW_;dsimp only;rw[k9];omega
   .unfold eW_;dsimp only;omega
   .unfold eW_;dsimp only;omega
   .simp only[e0_,bl_,ah_,bV_];exact h2 st e hw G4 x' (hB.trans pG4) hT'
  .obtain⟨j,hj,ej⟩:=kK hz;have:=q j hj;rw[ej]at this;exact absurd hz1 this
theorem GW_{id frm:Int}(e:l.1.1=frm)(r:look st.inos l.2.1=some y):ib_ id frm st l=⟨st.snaps,st.links++[((id,l.1.2),(l.2.1,false))],fF_ st.inos l.2.1 ⟨y.links+1,y.content⟩⟩:=by
 unfold ib_;grind
theorem G1_{id frm:Int}(e: ¬ l.1.1=frm):ib_ id frm st l=st:=by
 unfold ib_;grind
theorem qy_ {name parent:Y_} {kind:Int} (hT:Tr H x n cs T) (hs1:name.size<=140737488351232) (hs2:parent.size<=140737488351232)
 (h0:ofD T=none->∀H',H<+:H'->Q (.tup [yB none 0,nN 2000]) H')
 (h1:∀st e,ofD T=some st->hT_ (aC_ st) name parent kind=e->e≠0->∀H',H<+:H'->Q (.tup [yB none 0,nN e]) H')
 (h2:∀st,ofD T=some st->hT_ (aC_ st) name parent kind=0->∀H' x',H<+:H'->TrK H' x' 48 (eG_ (iG_ (d4_ st name parent kind)))->Q (.tup [yB x' 48,nN 0]) H'):
 a5_ [yA x n,gS name,gS parent,gI kind] H Q:=by
 refine⟨100,?_⟩;rw[tJ_];have etn:∀k:Nat,tN (k:Int)=k:=λ_=>rfl;refine hb_ hT (λe H' p hp=>?_) λst e B H' sp a1 n1 a2 n2 a3 n3 hB hR=>?_
 .simp only[aN_,aJ_,bK_,ge_,ao_,bh_];exact aa_ (λ_=>h0 e H' hp) (λe=>by cases e)
 ·simp only[aN_,aJ_,bK_,ge_,ao_,bh_];refine aa_ (λe=>by cases e) λ_=>?_;have K:=eJ_ e;have hm:=K.many;have hm':=hm;unfold dW_ at hm;obtain⟨_,hd,hok⟩:=j4_ e;refine fB_ hR ⟨o_,o_,o_⟩ (rP_ hok) λG a pG ha=>?_;simp only[aO_,ah_];refine qd_ ha K.asc K.from_ K.size.1 K.size.2 hs1 hs2 λG1 b1 m1 pG1=>?_;simp only[aN_,aJ_,bK_,ah_,aj_,bh_];have hR1:=hR.mono (pG.trans pG1);refine aa_ (λq=>?_) (λq=>?_)
  .exact h1 st _ e rfl (by simpa using q) G1 (hB.trans hR1.pre)
  have hw:hT_ (aC_ st) name parent kind=0:=by simpa using q
  obtain⟨w1,w2,w3,w4,w5,w6⟩:=AC_ hw;have P:=zc_ K.good hm' K.infos hw;have gd:=P.good;obtain⟨⟨k1,k2⟩,k3,k4⟩:=s5_ (st:=st) o_;refine rU_ hR1 ⟨o_,o_⟩ ?_;simp only[aO_,aj_];obtain⟨frm0,ls0,KK,_⟩:=wW_ K.good.sto hm' parent;have hks:=KK.snaps;have hpd:d4_ st name parent kind=⟨(qU_ st parent).snaps++[(name,⟨eh_ st,kind,parent,mkS []⟩)],(qU_ st parent).links,(qU_ st parent).inos⟩:=rfl;have hkl:(qU_ st parent).links.length<=200/\(qU_ st parent).inos.length<=100:=by
   obtain⟨frm,ls,KK,hls⟩:=wW_ K.good.sto hm' parent;have h1:=KK.len;have h2:=KK.nos;have:ls.length<=60:=by
    rcases hls with q|⟨_,q,_⟩
    .rw[q];simp
    .rw[q];omega
   omega
  obtain⟨fid,hfid⟩:∃fid,eh_ st=fid:=⟨_,rfl⟩;rw[hfid]at k1 k2 k3 k4 hpd ⊢;generalize hkid:qU_ st parent=S at hpd hkl hks;have l18:∀(F:Nat)(G:Hp)(a2:Pl)(n2:Nat)(a3:Pl)(n3:Nat),c7_ B G sp a1 n1 a2 n2 a3 n3 S->a5_.l18 (F+1) name parent kind none 0 (some (sp,0)) fid G Q:=by
   intro F G a2 n2 a3 n3 hR;rw[a5_.l18_eq];obtain⟨g1,g2,g3⟩:=hR.rd;simp only[ae_];rw[ac_ g1,ah_];have hl1:=hR.l1;refine ab_ rfl ?_;refine hR.putS (name,⟨fid,kind,parent,mkS []⟩) (by rw[hl1,hks];omega) λa1' G2 hR2=>?_;have hR2':c7_ B G2 sp a1' (n1+1) a2 n2 a3 n3 (d4_ st name parent kind):=by rw[hpd];exact hR2
   refine i7_ hR2' gd.sto ⟨?_,?_,?_⟩ (tc_ gd).2.2 λG4 x' pG4 hT'=>?_
   .rw[P.snaps,kI];simp;omega
   .rw[hpd];dsimp only;omega
   .rw[hpd];dsimp only;omega
   .simp only[e0_,bl_,ah_,bV_];exact h2 st e hw G4 x' (hB.trans pG4) hT'
  refine aa_ (λe=>?_) λe=>?_
  ·have hne: ¬ parent=mkS []:=by simpa using e
   simp only[ae_];obtain⟨g1,g2,g3⟩:=hR1.rd;rw[ac_ g1,ah_];have hl1:=hR1.l1;have hl2:=hR1.l2;have hpar:∃y,look st.snaps parent=some y:=by
    unfold kU_ at w5;rw[lH hne,Bool.false_or]at w5;cases hf:c1_ (aC_ st) parent with
    |none=>rw[hf]at w5;cases w5
    |some i=>
     obtain⟨him,hin⟩:=f9_ hf;obtain⟨z,hz,ez,_⟩:=K.infos.get him;refine⟨z.2,?_⟩;have:=hi_ K.good.sto.nd.snaps hz;rw[show z.1=parent by rw[ez]at hin;exact hin]at this;exact this
   obtain⟨px,hpx⟩:=hpar;have hS:S=st.links.foldl (ib_ fid px.id) st:=by
    rw[<-hkid,<-hfid];unfold qU_;rw[lH hne];dsimp only;rw[hpx]
   refine gR_ hR1 o_ (λk hk ek hmin=>?_) λq=>?_
   ·simp only[aO_,aj_];rw[ac_ g1,ah_];refine⟨rfl,ab_ rfl (ab_ (by simp<;>omega) ?_)⟩;obtain⟨l,e1,r1,r2,_⟩:=hR1.snapG k hk;have hxk:=Cy_ (st:=st) hk ek hmin hpx;rw[e1];simp only[ae_,etn,kN,kQ];rw[ac_ r2,aj_,hxk];have g2':gt G1 sp 1=some (.sl a2 n2 4):=by simpa using g2
    rw[ac_ g2',ah_];have l12:∀(f i F:Nat)(G:Hp)(a2:Pl)(n2':Nat)(a3:Pl)(n3':Nat),f=st.links.length-i->i<=st.links.length->f+2<=F->Kid st fid px.id (st.links.take i) ((st.links.take i).foldl (ib_ fid px.id) st)->st.links<+:((st.links.take i).foldl (ib_ fid px.id) st).links->c7_ B G sp a1 n1 a2 n2' a3 n3' ((st.links.take i).foldl (ib_ fid px.id) st)->
     a5_.l12 F name parent kind none 0 (some (sp,0)) fid px.id ((st.links.length:Nat):Int) ((i:Nat):Int) G Q:=by
     intro f;induction f with
     |zero=>
      intro i F G a2 n2' a3 n3' hf hi hF hK hpre hR;obtain⟨F,rfl⟩:∃G,F=G+1+1:=⟨F-2,o_⟩;rw[a5_.l12_eq];refine aa_ (λe=>by simp at e<;>omega) λ_=>?_;rw[k7 o_,<-hS]at hR;exact l18 F G a2 n2' a3 n3' hR
     | succ f ih=>
      intro i F G a2 n2' a3 n3' hf hi hF hK hpre hR;have hil:i<st.links.length:=by omega
      obtain⟨F,rfl⟩:∃G,F=G+1:=⟨F-1,o_⟩;have hfold:(st.links.take (i+1)).foldl (ib_ fid px.id) st=ib_ fid px.id ((st.links.take i).foldl (ib_ fid px.id) st) st.links[i]:=by
       rw[take_add_one,kG hil,Option.toList_some,foldl_append];rfl
      generalize hS1:(st.links.take i).foldl (ib_ fid px.id) st=S1 at hK hpre hR hfold;have hnd:∀m∈st.links.take i,m.1≠st.links[i].1:=λm hm q=>by
       obtain⟨j,hj,rfl⟩:=kK hm;rw[getElem_take]at q;have hj':j<i:=by rw[lC]at hj;omega
       have:=(getElem_inj (h₀:=by rw[k9];omega) (h₁:=by rw[k9];omega) K.good.sto.nd.links).1 (show (st.links.map (·.1))[j]'(by rw[k9];omega)=(st.links.map (·.1))[i]'(by rw[k9];omega) by rw[getElem_map,getElem_map];exact q);omega
      have hstep:=BD_ K.good.sto k1 k2 k4 o_ (ls:=st.links.take i) (l:=st.links[i]) (kE hil) (λm hm=>mem_of_mem_take hm) hnd (by rw[lC];omega) hK;have htk:st.links.take i++[st.links[i]]=st.links.take (i+1):=by rw[take_add_one,kG hil];rfl
      rw[htk]at hstep;have hlen1:=hK.len;rw[lC]at hlen1;have hno1:=hK.nos;have hil1:i<S1.links.length:=by have:=hpre.length_le;omega
      have hli:S1.links[i]=st.links[i]:=by
       obtain⟨r,hr⟩:=hpre;have:S1.links[i]?=st.links[i]? :=by rw[<-hr,kM hil]
       rw[kG hil1,kG hil]at this;exact Option.some.inj this
      have hl2':=hR.l2;rw[a5_.l12_eq];refine aa_ (λ_=>?_) (λe=>by simp at e<;>omega);obtain⟨g1,g2,g3⟩:=hR.rd;simp only[ae_];rw[ac_ g2,ah_];refine ab_ rfl (ab_ (by simp<;>omega) ?_);obtain⟨lk,e2,q1,q2,q3,q4,_⟩:=hR.linkG i hil1;rw[hli]at q1 q2 q3 q4;rw[e2];simp only[ae_,etn,kN];rw[ac_ q1,aj_,ac_ q2,aq_,ac_ q3,aj_,ac_ q4,ao_];have w1:ad_ .i64 (((i:Nat):Int)+1)=((i+1:Nat):Int):=an_ o_;refine aa_ (λe=>?_) λe=>?_
      ·have e':st.links[i].1.1=px.id:=by simpa using e
       obtain⟨y0,_,hy0,_⟩:=K.good.sto.ino (kE hil);obtain⟨y,hym⟩:=(hK.text st.links[i].2.1).2 ⟨y0,hy0⟩;have hy:=(d5_ hK.sto.nd.inos).2 hym;have heq:=GW_ (id:=fid) (frm:=px.id) e' hy;rw[ac_ (show gt G sp 1=some (.sl a2 n2' 4) by simpa using g2),ah_];refine ab_ rfl ?_;refine hR.putL ((fid,st.links[i].1.2),(st.links[i].2.1,false)) o_ λa2' G2 hR2=>?_;obtain⟨g1',g2',g3'⟩:=hR2.rd;rw[ac_ (show gt G2 sp 2=some (.sl a3 n3' 3) by simpa using g3'),ah_];refine fC_ hR2 (by dsimp only;omega) ?_;simp only[aO_,aj_];obtain⟨mm,hmm,em,ey⟩:=tn_ hy;rw[em,ac_ (show gt G2 sp 2=some (.sl a3 n3' 3) by simpa using g3'),ah_];have hl3':=hR2.l3;dsimp only at hl3';refine⟨rfl,ab_ rfl (ab_ (by simp<;>omega) ?_)⟩;obtain⟨lr,e3,z1,z2,z3⟩:=hR2.inoG mm hmm;subst e3;simp only[ae_,etn,kN,kQ];rw[ac_ z2,aj_];refine ab_ rfl (ab_ (by simp<;>omega) ?_);have hcy:=(dw_.1 hK.sto.lk).2 _ hym;dsimp only at hcy;have hcl:ey_ S1 st.links[i].2.1<=S1.links.length:=countP_le_length;rw[ey];dsimp only;rw[b7_ (n:=y.links+1) o_ o_];refine hR2.updI hmm _ λG3 hG3 hR3=>?_;rw[w1];have hfin:(⟨S1.snaps,S1.links++[((fid,st.links[i].1.2),(st.links[i].2.1,false))],S1.inos.set mm (S1.inos[mm].1,⟨y.links+1,S1.inos[mm].2.content⟩)⟩:StD)=ib_ fid px.id S1 st.links[i]:=by
        rw[heq,w7_ hK.sto.nd.inos hmm ey,ey]
       have hR3':c7_ B G3 sp a1 n1 a2' (n2'+1) (some (lr,0)) n3' (ib_ fid px.id S1 st.links[i]):=by rw[<-hfin];exact hR3
       refine ih (i+1) F G3 a2' _ _ n3' o_ hil o_ (by rw[hfold];exact hstep) ?_ (by rw[hfold];exact hR3');rw[hfold,heq];exact hpre.trans (prefix_append _ _)
      .have e': ¬ st.links[i].1.1=px.id:=by simpa using e
       have heq:=G1_ (id:=fid) (frm:=px.id) (st:=S1) e';rw[heq]at hfold hstep;rw[w1];exact ih (i+1) F G a2 n2' a3 n3' o_ hil o_ (by rw[hfold];exact hstep) (by rw[hfold];exact hpre) (by rw[hfold];exact hR)
    rw[hl2];refine l12 _ 0 99 G1 a2 n2 a3 n3 rfl (kP _) o_ ?_ (k8 _) hR1;exact⟨K.good.sto,rfl,t_,rfl,λl=>by simp,λk=>Iff.rfl,λk y y' g1 g2=>by
     have e1:=(d5_ K.good.sto.nd.inos).2 g1;have e2:=(d5_ K.good.sto.nd.inos).2 g2;rw[e1]at e2;rw[Option.some.inj e2]⟩
   .obtain⟨j,hj,ej⟩:=kK (cW_ hpx);have:=q j hj;rw[ej]at this;exact absurd rfl this
  .have hpe:parent=mkS []:=by simpa using e
   have hS:S=st:=by rw[<-hkid];unfold qU_;rw[lE hpe]
   rw[<-hS]at hR1;exact l18 98 G1 a2 n2 a3 n3 hR1
end
section
variable{H:Hp}{Q:Post}
end
section
variable{B H:Hp}{Q:Post}{sp n1 n2 n3:Nat}{a1 a2 a3:Pl}{st:StD}
end
section
variable{H:Hp}{Q:Post}{x:Pl}{n:Nat}{cs:List PC}{T:List Pg}
end
def zb_(kv:KV)(name parent:Y_)(kind:Int):Option KV:=match et_ kv with
 |none=>none
 |some st=>match hT_ (aC_ st) name parent kind==0 with|true=>some (eG_ (iG_ (d4_ st name parent kind)))|false=>none
def tK_ (kv:KV) (name path content:Y_):Option KV:=match et_ kv with
 |none=>none
 |some st=>match cR_ (aC_ st) name path content==0 with
  |true=>(match look st.snaps name with|some y=>some (eG_ (iG_ (f3_ st y.id path content)))|none=>none)
  |false=>none
def vm_(kv:KV)(name to:Y_):Option KV:=match et_ kv with
 |none=>none
 |some st=>match e7_ (aC_ st) name to==0 with|true=>some (eG_ (iG_ (eW_ st name to)))|false=>none
def sW:Y_:=mkS [119]
def px_:Y_:=mkS [98,97,115,101]
def mn_:Y_:=mkS [119,111,114,107]
def KG_:Option KV:=zb_ [] sW (mkS []) 0
def KK_:Option KV:=KG_.bind λk=>tK_ k sW (mkS [97]) (mkS [111,110,101])
def KD_:Option KV:=KK_.bind λk=>vm_ k sW px_
def KJ_:Option KV:=KD_.bind λk=>zb_ k mn_ px_ 0
def JZ_:Option KV:=KJ_.bind λk=>tK_ k mn_ (mkS [98]) (mkS [116,119,111])
section
variable{H:Hp}{Q:Post}{x:Pl}{n:Nat}{kv kv':KV}
theorem yt_ (h:TrK H x n kv) (e:zb_ kv name parent kind=some kv') (r:name.size<=140737488351232) (D:parent.size<=140737488351232)
 (Y:∀H' x',H<+:H'->TrK H' x' 48 kv'->Q (.tup [yB x' 48,nN 0]) H'):a5_ [yA x n,gS name,gS parent,gI kind] H Q:=by
 have⟨W,T,G,N⟩:=zT_ h;unfold zb_ at e;cases F:et_ kv with
 |none=>rw[F]at e;cases e
 | some st=>
  rw[F]at e N;dsimp at e;cases I:hT_ (aC_ st) name parent kind==0 with
  |false=>rw[I]at e;cases e
  |true=>
   refine qy_ G r D (λq=>?_) (λA U O J V=>?_) λA O J H' x' p t=>?_
   .grind
   .grind
   .grind
theorem vW_ (h:TrK H x n kv) (e:tK_ kv name path content=some kv') (r:name.size<=140737488351232) (D:path.size<=140737488351232)
 (Z:∀H' x',H<+:H'->TrK H' x' 48 kv'->Q (.tup [yB x' 48,nN 0]) H'):cw_ [yA x n,gS name,gS path,gS content] H Q:=by
 have⟨Y,T,J,U⟩:=zT_ h;unfold tK_ at e;cases G:et_ kv with
 |none=>rw[G]at e;cases e
 | some st=>
  rw[G]at e U;dsimp at e;cases F:cR_ (aC_ st) name path content==0 with
  |false=>rw[F]at e;cases e
  | true=>
   rw[F]at e;cases I:look st.snaps name with
   |none=>rw[I]at e;cases e
   |some y=>
    refine sl_ J r D (λq=>?_) (λA W V O N=>?_) λA y' V O N H' x' p t=>?_
    .grind
    .grind
    .grind
theorem B6_ (h:TrK H x n kv) (e:vm_ kv name to=some kv') (r:name.size<=140737488351232) (D:to.size<=140737488351232)
 (Y:∀H' x',H<+:H'->TrK H' x' 48 kv'->Q (.tup [yB x' 48,nN 0]) H'):e9_ [yA x n,gS name,gS to] H Q:=by
 have⟨W,T,G,N⟩:=zT_ h;unfold vm_ at e;cases F:et_ kv with
 |none=>rw[F]at e;cases e
 | some st=>
  rw[F]at e N;dsimp at e;cases I:e7_ (aC_ st) name to==0 with
  |false=>rw[I]at e;cases e
  |true=>
   refine rC_ G r D (λq=>?_) (λA U O J V=>?_) λA O J H' x' p t=>?_
   .grind
   .grind
   .grind
theorem zt_(H:Hp):Tr H none 0 [] []:=⟨rfl,rfl,rfl,λi h=>by simp⟩
theorem G7_:ofD []=none:=by
 have:decide (0<aK_ [])=false:=by decide+kernel
 unfold ofD;grind
end
end Go.Am
section
set_option maxRecDepth 100000
namespace Go.Am
open List
def AQ_ (is:List InfoR) (name path:Y_):Y_ × Int:=match a8_ name 4 with
 |false=>(mkS [],1901)
 | true=>match c1_ is name with
  |none=>(mkS [],1903)
  | some i=>match a8_ path 3 with
   |false=>(mkS [],1907)
   |true=>match i.files.find? λf=>decide (f.1=path) with
    |none=>(mkS [],1908)
    |some f=>(f.2.1,0)
theorem vx_(h:ofD T=some st):wx_ T s t=AQ_ (aC_ st) s t:=by unfold wx_;rw[h];rfl
theorem C7_(h:ofD T=none):wx_ T s t=(mkS [],2000):=by unfold wx_;rw[h]
def KQ_:FileR:=(mkS [97],mkS [111,110,101],true)
def JN_:FileR:=(mkS [97],mkS [111,110,101],false)
def JK_:FileR:=(mkS [98],mkS [116,119,111],true)
def GZ_:InfoR:=⟨px_,2,mkS [],mkS [],[KQ_]⟩
def Kn_:InfoR:=⟨mn_,0,px_,mkS [],[JN_,JK_]⟩
def is0:List InfoR:=[GZ_,Kn_]
def is1:List InfoR:=[GZ_,⟨mn_,0,px_,mkS [],[(mkS [97],mkS [115,105,120],true),JK_]⟩]
def is2:List InfoR:=[GZ_,⟨mn_,0,px_,mkS [],[JN_]⟩]
def J3_:Bool:=match JZ_ with
 |none=>false
 |some k5=>match et_ k5 with
  |none=>false
  |some st=>decide (aC_ st=is0)
set_option maxRecDepth 1000000 in
theorem Gv_:J3_=true:=by decide+kernel
theorem JL_:∃J F N I D st,zb_ [] sW (mkS []) 0=some J/\tK_ J sW (mkS [97]) (mkS [111,110,101])=some F/\vm_ F sW px_=some N/\zb_ N mn_ px_ 0=some I/\tK_ I mn_ (mkS [98]) (mkS [116,119,111])=some D/\et_ D=some st/\aC_ st=is0:=by
 have h:=Gv_;unfold J3_ at h;cases U:JZ_ with
 |none=>rw[U]at h;cases h
 |some D=>
  rw[U]at h;have r:=U;have⟨I,V,r⟩:=Option.bind_eq_some_iff.1 r;have⟨N,Z,V⟩:=Option.bind_eq_some_iff.1 V;have⟨F,O,Z⟩:=Option.bind_eq_some_iff.1 Z;have⟨J,W,O⟩:=Option.bind_eq_some_iff.1 O;dsimp at h;cases Y:et_ D with
  |none=>rw[Y]at h;cases h
  |some st=>rw[Y]at h;exact⟨J,F,N,I,D,st,W,O,Z,V,r,Y,of_decide_eq_true h⟩
theorem GO_:hG_ is0 mn_ (o6_ (mkS [97]) (mkS [115,105,120]))=is1/\hG_ is0 mn_ (GV_ (mkS [98]))=is2/\cR_ is0 mn_ (mkS [97]) (mkS [115,105,120])=0/\fP_ is0 mn_ (mkS [98])=0/\cR_ is0 px_ (mkS [97]) (mkS [])=1905/\
 AQ_ is0 mn_ (mkS [97])=(mkS [111,110,101],0)/\AQ_ is0 px_ (mkS [122])=(mkS [],1908):=by decide+kernel
section
variable{H:Hp}{Q:Post}{x:Pl}{n:Nat}{cs:List PC}{T:List Pg}
theorem qD_(hQ:∀H' x' cs T st,H<+:H'->Tr H' x' 48 cs T->ofD T=some st->aC_ st=is0->Q (yA x' 48) H'):fS_ [] H Q:=by
 have⟨k1,k2,k3,k4,k5,st,O,J,U,A,V,e6,u1⟩:=JL_;have sz:∀l:List UInt8,l.length<=100->(mkS l).size<=140737488351232:=λl h=>by rw[ki_];omega
 refine⟨1,?_⟩;rw[uD_];refine k1_ λY p1 Z=>?_;simp[e0_];have D:TrK Y (some (H.length,0)) 48 []:=⟨sB_,m1_,Z.tr,by rw[IY_];omega,EH_⟩;refine yt_ D O (sz _ t_) (sz _ t_) λH2 x2 p2 F=>?_;simp[aN_];refine vW_ F J (sz _ t_) (sz _ t_) λH3 x3 p3 t3=>?_;simp[aN_];refine B6_ t3 U (sz _ t_) (sz _ t_) λH4 x4 p4 N=>?_;simp[aN_];refine yt_ N A (sz _ t_) (sz _ t_) λH5 x5 p5 I=>?_;simp[aN_];refine vW_ I V (sz _ t_) (sz _ t_) λH6 x6 p6 W=>?_;simp[aN_];have⟨cs,T,hT,ho⟩:=zT_ W;grind
theorem sf_ {E:Nat->Sm} (hQ:∀H',H<+:H'->Q (gB true) H'):gp_ E [] H Q:=by
 obtain⟨v1,v2,v3,v4,v5,v6,v7⟩:=GO_;refine⟨1,?_⟩;rw[vv_];have sz:∀l:List UInt8,l.length<=100->(mkS l).size<=140737488351232:=λl h=>by rw[ki_];omega
 refine qD_ λH1 x1 c1 T1 st p1 t1 o1 i1=>?_;simp only[e0_,bl_,ah_,bV_];refine jc_ t1 (sz _ d_) (sz _ d_) λH2 p2=>?_;rw[vx_ o1,i1,show AQ_ is0 (mkS [119,111,114,107]) (mkS [97])=(mkS [111,110,101],0) from v6];simp only[aN_,aJ_,bK_,aq_,aj_,bh_];refine uN_ (.of (t1.mono p2)) noP o1 (by rw[i1];exact v3) (sz _ d_) (sz _ d_) λH3 x3 c3 T3 st3 p3 t3 o3 i3=>?_;rw[i1,show hG_ is0 (mkS [119,111,114,107]) _=is1 from v1]at i3;simp only[aN_,aJ_,e1_,bl_,bK_,ah_,aj_,bV_,bh_];refine hh_ t3.tr o3 i3 λH4 b4 a4 p4 f4=>?_;simp only[aN_,aJ_,e1_,bl_,bK_,ah_,aj_,bV_,bh_];refine sw_ (.of (t1.mono (p2.trans (p3.trans p4)))) noP o1 (by rw[i1];exact v4) (sz _ d_) (sz _ d_) λH5 x5 c5 T5 st5 p5 t5 o5 i5=>?_;rw[i1,show hG_ is0 (mkS [119,111,114,107]) _=is2 from v2]at i5;simp only[aN_,aJ_,e1_,bl_,bK_,ah_,aj_,bV_,bh_];refine hh_ t5.tr o5 i5 λH6 b6 a6 p6 f6=>?_;simp only[aN_,aJ_,e1_,bl_,bK_,ah_,aj_,bV_,bh_];have p16:=p2.trans (p3.trans (p4.trans (p5.trans p6)));refine kR_ (.of (t1.mono p16)) noP (sz _ d_) (sz _ d_) (λq=>by rw[o1]at q;cases q) (λst' q r H7 p7=>?_) λst' q r=>by
  rw[o1]at q;cases q;rw[i1,show cR_ is0 (mkS [98,97,115,101]) _ _=1905 from v5]at r;cases r
 rw[o1]at q;cases q;rw[i1,show cR_ is0 (mkS [98,97,115,101]) _ _=1905 from v5];simp only[aN_,aJ_,e1_,bl_,bK_,ah_,aj_,bV_,bh_];refine jc_ (t1.mono (p16.trans p7)) (sz _ d_) (sz _ d_) λH8 p8=>?_;rw[vx_ o1,i1,show AQ_ is0 (mkS [98,97,115,101]) _=(mkS [],1908) from v7];simp only[aN_,aJ_,bK_,aq_,aj_,bh_];refine jc_ (zt_ H8) (sz _ d_) (sz _ d_) λH9 p9=>?_;rw[C7_ G7_];simp only[aN_,aJ_,bK_,aq_,aj_,bh_];have p49:=p5.trans (p6.trans (p7.trans (p8.trans p9)));have g4:=(f4.pre p49).rd;have g6:=(f6.pre (p7.trans (p8.trans p9))).rd;obtain⟨l0,o0,q0,e0,_,_,_,_,w0,g0⟩:=g4 0 d_;obtain⟨l1,o1',q1,e1,_,_,_,_,w1,g1⟩:=g4 1 d_;obtain⟨l2,o2,q2,e2,_,_,_,_,w2,_⟩:=g6 1 d_;obtain⟨l3,o3',e3,_,w3,_⟩:=g0 0 d_;obtain⟨l4,o4,e4,_,w4,_⟩:=g1 0 d_;cases e0.symm.trans e1;have tn:tN 0=0/\tN 1=1:=⟨rfl,rfl⟩;rw[aA_ d_,aA_ d_];refine ab_ rfl (ab_ d_ ?_);rw[e0];simp only[ae_,tn.1,tn.2];rw[ac_ w0,ah_,aA_ d_];refine ab_ rfl (ab_ d_ ?_);rw[ac_ w1,ah_,aA_ d_,az_ (by decide+kernel)];refine eA_ ?_;simp only[aO_,aj_];rw[az_ d_];refine ab_ rfl (ab_ d_ ?_);rw[ac_ w1,ah_];refine ab_ rfl (ab_ d_ ?_);rw[e4];simp only[ae_];rw[ac_ w4,aq_,az_ (by decide+kernel)];refine ab_ rfl (ab_ d_ ?_);rw[ac_ w0,ah_];refine ab_ rfl (ab_ d_ ?_);rw[e3];simp only[ae_];rw[ac_ w3,aq_,az_ (by decide+kernel)];refine eA_ ?_;simp only[aO_,aj_];rw[az_ d_];refine ab_ rfl (ab_ d_ ?_);rw[e2];simp only[ae_];rw[ac_ w2,ah_,az_ d_];refine eA_ ?_;simp only[aO_,aj_];rw[az_ d_];refine eA_ ?_;simp only[aO_,aj_];rw[az_ d_];refine eA_ ?_;simp only[aO_,aj_];rw[az_ d_];refine eA_ ?_;simp only[aO_,aj_];exact hQ H9 (p1.trans (p2.trans (p3.trans (p4.trans p49))))
end
end Go.Am
end
namespace Go.Am
open List
section
variable{H:Hp}{Q:Post}{x:Pl}{n:Nat}{cs:List PC}{T:List Pg}{name path content s t:Y_}{z:Int}
theorem FG_(A:∀H',Q (gB true) H'):b5_ [yA none 0,yA none 0] H Q:=
 p3_ (zt_ H) (zt_ H) t_ λb D=>by grind
end
section
variable{H:Hp}{Q:Post}{x:Pl}{n:Nat}{cs:List PC}{T:List Pg}{name path content s t:Y_}{z:Int}
end
theorem ys_ {α:Type} (f:α->Int):∀(ks:List Int)(L:List α),ks.Nodup->(∀l∈L,f l∈ks)->(ks.map λk=>L.countP λl=>decide (f l=k)).sum=L.length
 |[],L,_,h=>by
  cases L with
  |nil=>rfl
  |cons l L=>exact absurd (h l t_) t_
 | k::ks,L,D,h=>by
  have A:=ys_ f ks (L.filter λl=> !decide (f l=k)) (nodup_cons.1 D).2 λl I=>by
   grind
  have e:(ks.map λj=>(L.filter λl=> !decide (f l=k)).countP λl=>decide (f l=j))=ks.map λj=>L.countP λl=>decide (f l=j):=by
   refine map_congr_left λj F=>?_;rw[countP_filter];grind
  rw[e]at A;rw[map_cons,sum_cons,A,<-countP_eq_length_filter];have:=length_eq_countP_add_countP (λl=>decide (f l=k)) (l:=L);simp_all
theorem F4_(hi:i<is.length)(h:is[i].name≠name):(hG_ is name g)[i]'(by unfold hG_;simpa using hi)=is[i]:=by
 unfold hG_;grind
theorem Hl_(is:List InfoR):(hG_ is name g).length=is.length:=by unfold hG_;simp
section
variable{H:Hp}{Q:Post}{x:Pl}{n:Nat}{cs:List PC}{T:List Pg}{name path content s t:Y_}{z:Int}{b:Bool}
def law21_FilesBreakN:Sm:=aB_ aw_
theorem m8_:am_ Go.Proofs.Tryz.prog 6 law21_FilesBreakN:=pk_ aw_ (BV_ _)
theorem oN_(A:∀H',Q (gB true) H')(D:z≠0):aB_.l6 E 1000 name x n none 0 z H Q:=by
 rw[aB_.l6_eq];refine eA_ ?_;simp[aO_];rw[az_ (by simp_all)];refine FG_ λH'=>?_;simp_all
theorem w1_ {E:Nat->Sm} {x':Pl} {cs':List PC} {T':List Pg} {g:List FileR->List FileR} (hQ:∀H',Q (gB true) H') (hT:Tr H x n cs T) (o:ofD T=some st) (hT':Tr H x' 48 cs' T') (o':ofD T'=some st') (i':aC_ st'=hG_ (aC_ st) name g):aB_.l6 E 1000 name x n x' 48 0 H Q:=by
 have etn:∀k:Nat,tN (k:Int)=k:=λ_=>rfl;have k:=eJ_ o;have k':=eJ_ o';have sz:=k.size;have sz':=k'.size;have le:(aC_ st').length=(aC_ st).length:=by rw[i'];exact Hl_ _
 rw[aB_.l6_eq];refine eA_ ?_;simp only[aO_,aj_];rw[aA_ d_];refine hh_ hT o rfl λH1 b1 a1 p1 f1=>?_;simp only[aN_,aJ_,e1_,bl_,bK_,ah_,aj_,bV_,bh_];refine hh_ (hT'.mono p1) o' rfl λH2 b2 a2 p2 f2=>?_;simp only[aN_,aJ_,e1_,bl_,bK_,ah_,aj_,bV_,bh_];rw[aA_ d_,aA_ d_,aA_ (by simp[le])];have g1:=(f1.pre p2).rd;have g2:=f2.rd;have l13:∀(f i:Nat),(aC_ st).length-i<f->i<=(aC_ st).length->aB_.l13 E (f+150) name x' 48 a1 (aC_ st).length a2 (aC_ st').length (i:Int) H2 Q:=by
  intro f;induction f with
  |zero=>intro i h;omega
  | succ f ih=>
   intro i hf hi;rw[show f+1+150=f+150+1 by omega,aB_.l13_eq];refine aa_ (λe=>?_) λ_=>?_
   ·have hi:i<(aC_ st).length:=by simp at e;omega
    have ck:(leI 0 (i:Int)&&ltI (i:Int) (nI (aC_ st).length))=true:=by simp;omega
    obtain⟨l,o1,p,e1,q1,q2,q3,q4,q5,q6⟩:=g1 i hi;rw[af_];refine ab_ ck ?_;rw[e1];simp only[ae_,etn];rw[show o1+i*5+0=o1+i*5 from rfl,ac_ q1,aq_,an_ o_];have next:=ih (i+1) o_ o_;rw[e1]at next;refine aa_ (λe=>?_) λ_=>next;rw[af_];refine ab_ ck ?_;rw[ac_ q1,aq_,ac_ q2,aj_,ac_ q3,aq_,ac_ q4,aq_,ac_ q5,ah_,af_];refine ab_ s_ ?_;obtain⟨l',o2,p',e2,r1,r2,r3,r4,r5,r6⟩:=g2 i o_;have ei:(aC_ st')[i]'o_=(aC_ st)[i]:=by
     have:=F4_ (g:=g) hi (show (aC_ st)[i].name≠name by simpa using e);simp only[i'];exact this
    rw[ei]at r1 r2 r3 r4 r5 r6;rw[e2];simp only[ae_];rw[ac_ r1,aq_,ac_ r2,aj_,ac_ r3,aq_,ac_ r4,aq_,ac_ r5,ah_];refine qm_ q6 r6 (sz.2 _ (kE hi)).2.1 ?_;simp only[aO_,ao_];rw[aA_ (show (!true)=false from rfl),<-e2];exact next
   ·refine hb_ (hT'.mono (p1.trans p2)) (λq=>by rw[o']at q;cases q) λst2 q B H3 sp b1 n1 b2 n2 b3 n3 hB hR=>?_;rw[o']at q;cases q;simp only[aN_,aJ_,bK_,ge_,ao_,bh_];obtain⟨c1,c2,c3⟩:=hR.rd;have d2:=hR.l2;have d3:=hR.l3;have lk:=dw_.1 k'.good.sto.lk;have many:=k'.many;unfold dW_ at many;have all:=ys_ (λl:LKey × LVal=>l.2.1) (st'.inos.map (·.1)) st'.links k'.good.sto.nd.inos λl hl=>by
     obtain⟨y,hy⟩:=lk.1 l hl;exact lA.2 ⟨_,hy,rfl⟩
    rw[map_map]at all;have all:(st'.inos.map λx=>ey_ st' x.1).sum=st'.links.length:=all;have l20:∀(f i:Nat),st'.inos.length-i<f->i<=st'.inos.length->aB_.l20 E f a2 (aC_ st').length (some (sp,0)) ((((st'.inos.take i).map λx=>ey_ st' x.1).sum:Nat):Int) (i:Int) H3 Q:=by
     intro f;induction f with
     |zero=>intro i h;omega
     | succ f ih=>
      intro i hf hi;rw[aB_.l20_eq];simp only[ae_];rw[ac_ c3,ah_];refine aa_ (λe=>?_) λe=>?_
      ·have hi:i<st'.inos.length:=by simp at e;omega
       rw[ac_ c3,ah_,af_];refine ab_ s_ ?_;obtain⟨lr,e3,z1,z2,z3⟩:=hR.inoG i hi;rw[e3];simp only[ae_,etn,kN,kQ];rw[ac_ z2,aj_,<-lk.2 _ (kE hi)];have e4:((st'.inos.take (i+1)).map λx=>ey_ st' x.1).sum=((st'.inos.take i).map λx=>ey_ st' x.1).sum+ey_ st' st'.inos[i].1:=by
        rw[take_add_one,kG hi,kL,sum_append];simp
       have e5:((st'.inos.take (i+1)).map λx=>ey_ st' x.1).sum<=st'.links.length:=by
        rw[<-all];have:=congrArg (λl:List (Int × InoR)=>(l.map λx=>ey_ st' x.1).sum) (lD (i+1) st'.inos);simp only[kL,sum_append]at this;omega
       have:=ih (i+1) o_ o_;rw[e4]at this e5;rw[b7_ o_ o_,an_ o_];rw[Int.natCast_add]at this;exact this
      .have hi:i=st'.inos.length:=by simp at e;omega
       rw[hi,take_length,all,ac_ c2,ah_,az_ (by simp[d2])];refine d1_ ((f2.pre (hB.trans hR.pre)).rd) k'.asc o_ sz'.2 ?_;rw[k'.from_];simp only[aO_,ao_];exact hQ _
    have:=l20 (f+150) 0 o_ (kP _);exact this
 have many:=k.many;unfold dW_ at many;have e6:(aC_ st).length=st.snaps.length:=by have:=k.infos.perm.length_eq;simpa using this
 exact l13 849 0 o_ (kP _)
theorem lL_ (V:Tr H x n cs T) (hn:n*80<=140737488351232) (J:name.size<=140737488351232) (I:path.size<=140737488351232) (F:∀H',Q (gB true) H'):law21_FilesBreakN [yA x n,gS name,gS path,gS content,gB b] H Q:=by
 refine⟨1001,?_⟩;rw[pb_];refine sf_ λH1 p1=>?_;have del:∀A:Hp,H1<+:A->cl dc_ [(.agg [(.sl x n 5)]),(gS name),(gS path)] A λr18 O=>
  rT r18 λc20=>uR c20 λq21 c22=>rC q21 λW=>uC W λv24 c25=>dL 5 v24 λx26 n27=>
  uN c25 (uR c22 λq28 Y=>rS q28 λv30=>dI .i64 v30 λU=>uE Y (aB_.l6 aw_ 1000 name x n x26 n27 U O Q)):=λA D=>by
  have N:=(V.mono p1).mono D;refine nk_ (.of N) noP J I (λ_ H3 p3=>?_) (λst e Z H3 p3=>?_) λst e e0 H3 x3 c3 T3 st3 p3 t3 o3 i3=>?_
  all_goals simp[aN_]
  exact oN_ F t_;exact oN_ F Z;exact w1_ F (N.mono p3) e t3.tr o3 i3
 refine kR_ (.of (V.mono p1)) noP J I (λ_ A D=>?_) (λst e Z A D=>?_) λst e e0 A x2 c2 T2 st2 D N o2 i2=>?_
 all_goals
  simp[aN_]
  refine aa_ (λ_=>del A D) λ_=>?_
 exact oN_ F t_;exact oN_ F Z;exact w1_ F ((V.mono p1).mono D) e N.tr o2 i2
end
end Go.Am
