import Derived.Test.YtjbgjfikgpffmaaGreatM10
set_option linter.all false
set_option autoImplicit true
set_option relaxedAutoImplicit true
set_option maxRecDepth 100000
namespace Go.Am
open List
section
def bs_(st:StD)(l:LKey × LVal):FileR:=(l.1.2,(match look st.inos l.2.1 with|some x=>x.content|none=>mkS []),l.2.2)
structure cl_(st:StD)(id:Int)(fs:List FileR):Prop where
 asc:hO_ fs
 mem:∀f,f∈fs↔∃l∈st.links,l.1.1=id/\f=bs_ st l
def hO_.ext:∀{fs A:List FileR},hO_ fs->hO_ A->(∀f,f∈fs↔f∈A)->fs=A
 |[],[],_,_,_=>rfl
 |[],g::A,_,_,h=>absurd ((h g).2 mem_cons_self) not_mem_nil
 |f::fs,[],_,_,h=>absurd ((h f).1 mem_cons_self) not_mem_nil
 | f::fs,g::A,F,G,h=>by
  have D:=kW.1 F;have C:=kW.1 G;have e:f=g:=by
   rcases kU.1 ((h f).1 mem_cons_self) with q|q
   .exact q
   .rcases kU.1 ((h g).2 mem_cons_self) with r|r
    .grind
    .have:=dC_ (C.1 f q);grind
  subst e;congr 1;refine hO_.ext D.2 C.2 λx=>⟨λq=>?_,λq=>?_⟩
  .rcases kU.1 ((h x).1 (mem_cons_of_mem _ q)) with r|r
   .have:=D.1 x q;rw[r,b0_]at this;cases this
   .exact r
  .rcases kU.1 ((h x).2 (mem_cons_of_mem _ q)) with r|r
   .have:=C.1 x q;rw[r,b0_]at this;cases this
   .exact r
theorem cl_.unique{id:Int}(r:cl_ st id fs)(A:cl_ st id gs):fs=gs:=r.asc.ext A.asc λf=>(r.mem f).trans (A.mem f).symm
def Hv_ (h:hO_ fs) (s:Y_):(∀x∈fs.take (gk_ fs s),blt x.1 s=true)/\(∀x∈fs.drop (gk_ fs s),blt x.1 s=false):=by
 constructor
 .intro x A;obtain⟨i,D,rfl⟩:=kK A;have C:i<gk_ fs s/\i<fs.length:=by grind
  rw[getElem_take];exact (h0_ h s i C.2).2 C.1
 .intro x A;obtain⟨i,D,rfl⟩:=kK A;have r:gk_ fs s+i<fs.length:=by grind
  rw[getElem_drop];have:=h0_ h s _ r;cases e:blt fs[gk_ fs s+i].1 s with
  |false=>rfl
  |true=>have:=this.1 e;omega
theorem hO_.put (h:hO_ fs) (f:FileR) (N:∀x∈fs,x.1≠f.1):hO_ (fs.take (gk_ fs f.1)++(f::fs.drop (gk_ fs f.1))):=by
 have⟨I,O⟩:=Hv_ h f.1;have A:(fs.take (gk_ fs f.1)++fs.drop (gk_ fs f.1)).Pairwise λx y=>blt x.1 y.1=true:=by rw[lD];exact h
 have⟨C,F,U⟩:=kZ.1 A;have G:∀x∈fs.drop (gk_ fs f.1),blt f.1 x.1=true:=λx D=>by
  rcases g4_ x.1 f.1 with r|r|r
  .grind
  .grind
  .grind
 refine kZ.2 ⟨C,kW.2 ⟨G,F⟩,λx D y J=>?_⟩;grind
theorem HW_{fs:List FileR}(p:Nat):x∈fs.take p++(f::fs.drop p)↔x=f\/x∈fs:=by
 have:x∈fs↔x∈fs.take p\/x∈fs.drop p:=by rw[<-kD,lD]
 grind
end
section
variable{H:Hp}{Q:Post}{sp ms ml mi:Nat}{c0 c4:GV}{st:StD}
def ts_ {G:Hp} {f:FileR} {i b:Nat} {R:Post} (h:bR_ G a fs) (O:∀l o,a=some (l,o)->b<=l) (J:b<=G.length) (hi:i<=fs.length) (U:fs.length<=1000)
 (hR:∀r a',bR_ r a' (fs.take i++(f::fs.drop i))->(∀l o,a'=some (l,o)->b<=l)->G.length<=r.length->(∀l,l<b->r[l]?=G[l]?)->R (nL a' (fs.length+1) 3) r):
 slices_Insert__api_File_api_File [(nL a fs.length 3),(gI ((i:Nat):Int)),(nL (some (G.length,0)) 1 3)] (G++[.row false mV_ (wk_ f)]) R:=by
 have o:Own G b gl_ a (fs.length*3) (bJ_ fs):=by
  rcases h with⟨rfl,rfl⟩|⟨l,rfl,F⟩
  .exact .inl ⟨rfl,rfl,rfl⟩
  .exact .inr ⟨l,rfl,O l 0 rfl,F,e0_ fs⟩
 refine vA_ o o_ rfl J hi (by unfold Lim;omega) λH' q o'=>?_;rcases o' with⟨e,_⟩|⟨l,e,hb,hr,_⟩
 .cases e
 cases e;refine hR H' _ (.inr ⟨_,rfl,?_⟩) (λl o e=>by cases e;exact hb) (h_ q.len) λl hl=>q.row l o_ λe=>h_ (O _ _ e)
 rw[hr,CY_ _ _ hi,Cr_ _ _ hi,gS_,bJ_]
def sN_ (h:fb_ H sp c0 ms ml mi c4 st) (id:Int) (hn:st.links.length<=900) (hQ:∀H' a fs,H<+:H'->bR_ H' a fs->cl_ st id fs->(∀l o,a=some (l,o)->H.length<=l)->Q (nL a fs.length 3) H'):
 bj_ [yQ sp,gI id] H Q:=by
 refine⟨st.links.length+3,?_⟩;rw[np_];obtain⟨_,_,g2,_⟩:=h.rd;have hml:ml<H.length:=h.links.lt;simp only[ad_,kN,ed_];rw[ac_ g2,c6_];refine wC_ h.links λo R0=>?_;have go:∀(f:Nat)(js:List Nat)(G:Hp)(a:Pl)(fs:List FileR),st.links.length-js.length<f->H<+:G->H.length+1<=G.length->fh_ ekL evL G H.length ml st.links js->
  bR_ G a fs->(∀l o,a=some (l,o)->H.length+1<=l)->hO_ fs->fs.length<=js.length->(∀f,f∈fs↔∃j∈js,∃hj:j<st.links.length,st.links[j].1.1=id/\f=bs_ st st.links[j])->
  bj_.l3 f (some (sp,0)) id a fs.length H.length 0 G Q:=by
  intro f;induction f with
  |zero=>intro js G a fs h;omega
  | succ f ih=>
   intro js G a fs hf hG hl R hfa hal hasc hle hmem;rw[bj_.l3_eq];refine xP_ R o_ (λj hj hjs G1 l1 k1 R1=>?_) λhperm=>?_
   ·have hlj:=o6_ R1;rw[kI,length_singleton]at hlj;refine rc_ R1 hj ?_;simp only[ekL,evL,bD_,aq_,ak_,eN_,bc_,ai_,bI_];have hG1:H<+:G1:=kg_ hG l1 λl hl=>by rw[k1 l o_]
    have hfa1:bR_ G1 a fs:=by
     rcases hfa with q|⟨l,rfl,q⟩
     .exact .inl q
     .have:=hal l 0 rfl;exact .inr ⟨l,rfl,by rw[k1 l o_];exact q⟩
    refine aa_ (λe=>?_) λe=>?_
    ·have hid:st.links[j].1.1=id:=by simpa using e
     refine gd_ hfa1 hasc o_ ?_;simp only[aH_,aD_,bD_,ai_,ak_,a8_,ad_,kN];have hS:=h.keep (H':=G1) λl hl=>a9_ hG1 hl;obtain⟨_,_,_,g3,_⟩:=hS.rd;rw[ac_ g3,c6_];have hnew:∀x∈fs,x.1≠(bs_ st st.links[j]).1:=λx hx q=>by
      obtain⟨i,hi,hi',hid',rfl⟩:=(hmem x).1 hx;have hk:st.links[i].1=st.links[j].1:=Prod.ext (by rw[hid,hid']) q;have nd:=h.links.nodup;have:i=j:=by
       refine Classical.byContradiction λhne=>?_;have hp:=kS.1 nd;rcases Nat.lt_or_gt_of_ne hne with z|z
       .exact hp i j (u_ hi') (u_ hj) z (u_ hk)
       .exact hp j i (u_ hj) (u_ hi') z (u_ hk.symm)
      subst this;exact hjs hi
     have step:∀c,c=(bs_ st st.links[j]).2.1->slices_Insert__api_File_api_File [(nL a fs.length 3),(gI ((gk_ fs st.links[j].1.2:Nat):Int)),(nL (some (G1.length,0)) 1 3)] (G1++[.row false mV_ [.str st.links[j].1.2,.str c,.bool st.links[j].2.2]]) λr43 H44=>
      rG r43 λv45=>dL 3 v45 λx46 n47=>bj_.l3 f (some (sp,0)) id x46 n47 H.length 0 H44 Q:=λc hc=>by
      subst hc;refine ts_ (f:=bs_ st st.links[j]) (b:=H.length+1) hfa1 hal o_ (vL_ _ _) o_ λG2 a' hf2 hb2 hl2 k2=>?_;simp only[aJ_];refine⟨.inr rfl,?_⟩;have e1:fs.length+1=(fs.take (gk_ fs st.links[j].1.2)++(bs_ st st.links[j]::fs.drop (gk_ fs st.links[j].1.2))).length:=by
       have:=vL_ fs st.links[j].1.2;simp;omega
      rw[e1];have hG2:H<+:G2:=by
       rw[prefix_iff_eq_take];apply ext_getElem?;intro i;rw[getElem?_take];split
       .rename_i hi;rw[k2 i o_,a9_ hG1 hi]
       .exact getElem?_eq_none o_
      refine ih (js++[j]) G2 a' _ (by rw[kI,length_singleton];omega) hG2 o_ (R1.keep (k2 _ o_) (k2 _ o_)) hf2 hb2 (hasc.put _ hnew) (by rw[<-e1,kI,length_singleton];omega) λx=>?_;rw[HW_,hmem x];constructor
      .rintro (q|⟨i,hi,r⟩)
       .exact⟨j,t_,hj,hid,q⟩
       .exact⟨i,by simp[hi],r⟩
      ·rintro⟨i,hi,hi',r⟩;rcases kD.1 hi with q|q
       .exact .inr ⟨i,q,hi',r⟩
       .have:i=j:=by simpa using q
        subst this;exact .inl r.2
     refine fH_ (ev:=evI) okI hS.inos st.links[j].2.1 (λv hlk=>?_) λhlk=>?_
     .have hc:evI v= .a [.int .i64 v.links,.str v.content]:=rfl;rw[hc];simp only[eN_,bc_,ai_,aq_,bI_];exact step _ (by simp[bs_,hlk])
     .simp only[eN_,bc_,ai_,aq_,bI_];exact step _ (by simp[bs_,hlk])
    ·have hid: ¬ st.links[j].1.1=id:=by simpa using e
     refine ih (js++[j]) G1 a fs (by rw[kI,length_singleton];omega) hG1 o_ R1 hfa1 hal hasc (by rw[kI,length_singleton];omega) λx=>?_;rw[hmem x];constructor
     .rintro⟨i,hi,r⟩;exact⟨i,by simp[hi],r⟩
     ·rintro⟨i,hi,hi',r⟩;rcases kD.1 hi with q|q
      .exact⟨i,q,hi',r⟩
      .have:i=j:=by simpa using q
       subst this;exact absurd r.1 hid
   .refine hQ G a fs hG hfa ⟨hasc,λx=>?_⟩ λl o e=>by have:=hal l o e;omega
    rw[hmem x];constructor
    .rintro⟨i,_,hi',r⟩;exact⟨_,kE hi',r⟩
    .rintro⟨l,hl',r⟩;obtain⟨i,hi,rfl⟩:=kK hl';exact⟨i,hperm.mem_iff.2 (mem_range.2 hi),hi,r⟩
 exact go _ [] _ none [] t_ (b4_ _ _) t_ R0 (.inl ⟨rfl,rfl⟩) (λl o e=>k_ e) Pairwise.nil t_ λx=>t_
end
structure InfoR where
 name:Y_
 kind:Int
 parent:Y_
 label:Y_
 files:List FileR
 deriving DecidableEq
def gP_(p:Pl)(i:InfoR):List GV:=[.str i.name,.int .i64 i.kind,.str i.parent,.str i.label,.sl p i.files.length 3]
inductive dD_(H:Hp)(b:Nat)(a:Pl):List GV->List InfoR->Prop
 |nil:dD_ H b a [] []
 |cons {p:Pl} {i:InfoR} {cs:List GV} {is:List InfoR}:bR_ H p i.files->(∀l o,p=some (l,o)->b<=l/\∀o',a≠some (l,o'))->dD_ H b a cs is->dD_ H b a (gP_ p i++cs) (i::is)
theorem bR_.lt(h:bR_ H (some (l,o)) fs):l<H.length:=by
 rcases h with⟨q,_⟩|⟨r,e,q⟩
 .cases q
 .grind
theorem bR_.keep(h:bR_ H p fs)(r:∀l o,p=some (l,o)->H'[l]?=H[l]?):bR_ H' p fs:=by
 rcases h with q|⟨l,rfl,q⟩
 .exact .inl q
 .exact .inr ⟨l,rfl,g_⟩
theorem dD_.keep {a D:Pl} (C:∀l,b<=l->(∀o,a≠some (l,o))->l<H.length->H'[l]?=H[l]? /\∀o,D≠some (l,o)):∀{cs:List GV}{is:List InfoR},dD_ H b a cs is->dD_ H' b D cs is:=by
 intro cs is h;induction h with
 |nil=>exact .nil
 |cons A r _ F=>
  refine .cons (A.keep λl o e=>?_) (λl o e=>?_) F
  .subst e;exact (C l (r l o rfl).1 (r l o rfl).2 A.lt).1
  .subst e;exact⟨(r l o rfl).1,(C l (r l o rfl).1 (r l o rfl).2 A.lt).2⟩
def dD_.snoc(h:dD_ H b a cs is)(A:bR_ H p i.files)(D:∀l o,p=some (l,o)->b<=l/\∀F,a≠some (l,F)):dD_ H b a (cs++gP_ p i) (is++[i]):=by
 induction h with
 |nil=>simpa using (dD_.cons A D .nil)
 |cons r G _ C=>exact .cons r G C
theorem dD_.len(h:dD_ H b a cs is):cs.length=is.length*5:=by
 induction h with
 |nil=>rfl
 |cons _ _ _ r=>simp[gP_];omega
def bT_(H:Hp)(b:Nat)(a:Pl)(is:List InfoR):Prop:=(a=none/\is=[])\/∃l cs,a=some (l,0)/\b<=l/\H[l]?=some (.row true hb_ cs)/\dD_ H b a cs is
def y6_ (h:bT_ H b a is) (G:b<=H.length) (C:bR_ H p i.files) (F:∀l o,p=some (l,o)->b<=l/\∀I,a≠some (l,I)) (hn:is.length<=1000)
 (D:∀N H',bT_ H' b N (is++[i])->(∀l,l<b->H'[l]?=H[l]?)->H.length<=H'.length->K N (is++[i]).length H'):ap H hb_ 5 80 a is.length (gP_ p i) 1 K:=by
 have J:(gP_ p i).length=1*5:=rfl;unfold ap app?;rw[if_pos ⟨by unfold Lim;omega,J⟩];rw[kI,length_singleton]at D;rcases h with⟨rfl,rfl⟩|⟨l,cs,rfl,Y,r,O⟩
 .simp only[length_nil,if_pos];rw[if_neg o_];refine D _ _ (.inr ⟨H.length,gP_ p i,rfl,G,t_,?_⟩) (λl J=>by rw[kM o_]) t_;have:gP_ p i=gP_ p i++[]:=by simp
  rw[this];refine .cons (C.keep λl o e=>?_) (λl o e=>?_) .nil
  .subst e;rw[kM C.lt]
  .subst e;exact⟨(F l o rfl).1,λI q=>by cases q;exact absurd C.lt (Nat.lt_irrefl _)⟩
 .have U:=(kC.1 r).1;simp only[r];rw[if_pos ⟨trivial,trivial,O.len⟩];refine D _ _ (.inr ⟨H.length,cs++gP_ p i,rfl,G,t_,?_⟩) (λV hl'=>by rw[kM s_,kF o_]) t_;refine dD_.keep (H:=H) (λV W Z A=>⟨?_,λo q=>by cases q;exact absurd A (Nat.lt_irrefl _)⟩) (O.snoc C F);grind
section
variable{H:Hp}{Q:Post}{sp ms ml mi:Nat}{c0 c4:GV}{st:StD}
structure td_(st:StD)(i:InfoR):Prop where
 mem:∃x,look st.snaps i.name=some x/\i.kind=x.kind/\i.parent=x.parent/\i.label=x.label/\cl_ st x.id i.files
def y3_ {ev:β->RV} {l f t:Nat} (h:dS_ ekS ev H l ps) (hs:∀x∈ps,x.1.size<=140737488351232) (hn:ps.length<=1000) (hf:Go.Proofs.keysFn f)
 (hK:∀zs:List Y_,zs.Perm (ps.map (·.1))->zs.Pairwise (λa b=>blt a b=true)->∀H' a,H<+:H'->(∀i (hi:i<zs.length),∃l,a=some (l,0)/\gt H' l i=some (.str zs[i]))->K (nL a zs.length 1) H'):
 slices_Sorted_string [.g (.fn f [(H.length,0)])] (H++[.row true t [.map (some l)]]) K:=by
 have⟨A,c,hm,J,U,N⟩:=h.ex;have V:=h.lt;have F:A.map (λe=>k6_ e.2.1)=ps.map (·.1):=by
  have e1:A.map (λe=>k6_ e.2.1)=(A.map λe=>(e.2.1,e.2.2)).map λq=>k6_ q.1:=t_
  rw[e1,J,map_map];rfl
 have Y:A.length=ps.length:=by have:=congrArg length J;simpa
 have D:∀e∈A,∃x∈ps,e.2.1= .s (.str x.1):=λe r=>by
  have:(e.2.1,e.2.2)∈A.map λe=>(e.2.1,e.2.2):=lA.2 ⟨e,r,rfl⟩;rw[J]at this;have⟨x,W,q⟩:=lA.1 this;have q':=congrArg Prod.fst q;exact⟨x,W,q'.symm⟩
 refine⟨f,H.length,t,[.map (some l)],some l,hf,rfl,t_,rfl,?_⟩;refine⟨A,c,by rw[kM V];exact hm,⟨λe r=>?_,U,N,by rw[F];exact h.nodup,o_⟩,λzs O I=>?_⟩
 .have⟨x,W,q⟩:=D e r;exact⟨x.1,q,hs x W⟩
 ·rw[F]at O;have nd:=O.nodup_iff.2 h.nodup;have asc:zs.Pairwise (λa b=>blt a b=true):=by
   rw[kS]at I ⊢;intro i j hi hj G;have Z:blt zs[j] zs[i]=false:=I i j hi hj G;rcases g4_ zs[i] zs[j] with q|q|q
   .exact q.1
   .exact absurd q.1 (kS.1 nd i j hi hj G)
   .rw[q.1]at Z;cases Z
  refine⟨λe=>?_,λe=>?_⟩
  .simp_all
  .refine hK zs O asc _ _ ((b4_ _ _).trans (b4_ _ _)) λi hi=>⟨_,rfl,?_⟩;simp only[fv_,ed_];rw[aY_ (by rw[getElem?_append_right (kO _),Nat.sub_self];rfl)];simp
def to_(h:fb_ H sp c0 ms ml mi c4 st)(hs:∀x∈st.snaps,x.1.size<=140737488351232)(hn:st.snaps.length<=1000){E:Nat->Sm}{K:Post}
 (hK:∀zs:List Y_,zs.Perm (st.snaps.map (·.1))->zs.Pairwise (λa b=>blt a b=true)->∀H' a,H<+:H'->(∀i (hi:i<zs.length),∃l,a=some (l,0)/\gt H' l i=some (.str zs[i]))->K (nL a zs.length 1) H'):
 cl (aX_ E) [(.g (.map (some ms)))] H λr4 H5=>rG r4 λv6=>cl slices_Sorted_string [(.g v6)] H5 K:=by
 refine⟨1,?_⟩;rw[fi_];simp only[aJ_,ed_,fv_];exact y3_ h.snaps hs hn (.inl rfl) hK
end
theorem cn_{H H':Hp}(p:H<+:H')(h:gt H l o=some v):gt H' l o=some v:=by
 by_cases r:l<H.length
 .unfold gt;rw[a9_ p r];exact h
 .unfold gt at h;rw[getElem?_eq_none o_]at h;cases h
theorem bT_.pre{H H':Hp}(h:bT_ H b a is)(p:H<+:H'):bT_ H' b a is:=by
 rcases h with q|⟨l,G,rfl,F,D,I⟩
 .exact .inl q
 .exact .inr ⟨l,G,rfl,F,by rw[a9_ p (kC.1 D).1];exact D,I.keep λJ _ A r=>⟨a9_ p r,A⟩⟩
theorem bT_.lt(h:bT_ H b (some (l,o)) is):l<H.length:=by
 rcases h with⟨q,_⟩|⟨r,D,e,G,A,F⟩
 .cases q
 .grind
section
variable{H:Hp}{Q:Post}{sp ms ml mi:Nat}{c0 c4:GV}{st:StD}
def j2_{H G:Hp}(r:H.length<=G.length)(h:∀l,l<H.length->G[l]?=H[l]?):H<+:G:=by
 rw[prefix_iff_eq_take];apply ext_getElem?;grind
structure cI_(st:StD)(is:List InfoR):Prop where
 perm:(is.map (·.name)).Perm (st.snaps.map (·.1))
 asc:(is.map (·.name)).Pairwise λa b=>blt a b=true
 info:∀i∈is,td_ st i
def s8_ (h:fb_ H sp c0 ms ml mi c4 st) (hs:∀x∈st.snaps,x.1.size<=140737488351232) (hn:st.snaps.length<=900) (V:st.links.length<=900)
 (hQ:∀H' b a is,H<+:H'->H.length<=b->bT_ H' b a is->cI_ st is->Q (nL a is.length 5) H'):
 bx_ E [yQ sp] H Q:=by
 refine⟨st.snaps.length+2,?_⟩;rw[nz_];have⟨_,g1,_⟩:=h.rd;simp;rw[ac_ g1,c6_];refine to_ h hs o_ λr hp hasc H1 az J hz=>⟨.inr rfl,?_⟩;have hzl:r.length=st.snaps.length:=by rw[hp.length_eq,k9]
 have go:∀(f k) G a is,r.length-k<f->k<=r.length->H1<+:G->bT_ G H1.length a is->is.map (·.name)=r.take k->(∀i∈is,td_ st i)->
  bx_.l3 E f (some (sp,0)) a is.length az r.length (r.length) (k) G Q:=by
  intro f;induction f with
  |zero=>omega
  | succ f ih=>
   intro k G a is hf hk O N D I;rw[bx_.l3_eq];have hil:is.length=k:=by have:=congrArg length D;rw[k9,lC]at this;omega
   refine aa_ (λe=>?_) λe=>?_
   ·have A:k<r.length:=by simpa using e
    obtain⟨lz,rfl,hgz⟩:=hz k A;refine ab_ rfl (ab_ s_ ?_);have etn:∀k:Nat,tN (k:Int)=k:=λ_=>rfl;simp[ad_];rw[ac_ (cn_ O hgz),aq_];have hS:=h.keep (H':=G) λl V=>a9_ (J.trans O) V;have⟨_,g1',_⟩:=hS.rd;rw[ac_ g1',c6_];have Y:=hp.mem_iff.1 (kE A);refine fH_ okS hS.snaps r[k] (λx U=>?_) λU=>?_
    ·have hc:evS x= .a [.int .i64 x.id,.int .i64 x.kind,.str x.parent,.str x.label]:=rfl;rw[hc];simp[eN_];refine sN_ hS x.id V λG2 p fs F hfa hfo Z=>⟨.inr rfl,ab_ rfl (y6_ (i:=⟨r[k],x.kind,x.parent,x.label,fs⟩) (N.pre F) (Nat.le_trans O.length_le F.length_le) hfa (λl o e=>⟨Nat.le_trans O.length_le (Z l o e),λo' q=>?_⟩) o_ λa' G3 W hk3 hl3=>?_)⟩
     .subst q;have:=N.lt;have:=Z l o e;omega
     ·rw[ao_ o_];refine ih (k+1) G3 a' _ o_ A (j2_ (Nat.le_trans (O.trans F).length_le hl3) λl V=>by rw[hk3 l V,a9_ (O.trans F) V]) W ?_ λi hi=>?_
      .rw[kL,D,take_add_one,kG A];rfl
      ·rcases kD.1 hi with q|q
       .exact I i q
       .have:i=⟨r[k],x.kind,x.parent,x.label,fs⟩:=by simpa using q
        subst this;exact⟨⟨x,U,rfl,rfl,rfl,hfo⟩⟩
    .have⟨x,hx,e⟩:=lA.1 Y;exact absurd e (oZ_ U x hx)
   .have A: ¬ k<r.length:=by simpa using e
    have hke:k=r.length:=o_
    subst hke;rw[take_length]at D;exact hQ G H1.length a is (J.trans O) J.length_le N ⟨by rw[D];exact hp,by rw[D];exact hasc,I⟩
 exact go _ 0 H1 none [] o_ (kP _) (k8 _) (.inl ⟨rfl,rfl⟩) t_ λi hi=>k_ hi
end
def fI_(H:Hp)(a:Pl)(fs:List FileR):Prop:=∀i (hi:i<fs.length),∃l o,a=some (l,o)/\gt H l (o+i*3)=some (.str fs[i].1)/\gt H l (o+i*3+1)=some (.str fs[i].2.1)/\gt H l (o+i*3+1+1)=some (.bool fs[i].2.2)
theorem bR_.rd(h:bR_ H a fs):fI_ H a fs:=λi r=>by
 rcases h with⟨_,rfl⟩|⟨l,rfl,h⟩
 .cases r
 .exact⟨l,0,rfl,by simpa using bR_.gets h i r⟩
theorem fI_.pre{H H':Hp}(h:fI_ H a fs)(p:H<+:H'):fI_ H' a fs:=λi F=>by
 have⟨l,o,e,A,D,r⟩:=h i F;exact⟨l,o,e,cn_ p A,cn_ p D,cn_ p r⟩
def cY_(H:Hp)(a:Pl)(is:List InfoR):Prop:=∀i (hi:i<is.length),∃l o p,a=some (l,o)/\gt H l (o+i*5)=some (.str is[i].name)/\gt H l (o+i*5+1)=some (.int .i64 is[i].kind)/\gt H l (o+i*5+1+1)=some (.str is[i].parent)/\gt H l (o+i*5+1+1+1)=some (.str is[i].label)/\
 gt H l (o+i*5+1+1+1+1)=some (.sl p is[i].files.length 3)/\fI_ H p is[i].files
theorem cY_.pre{H H':Hp}(h:cY_ H a is)(p:H<+:H'):cY_ H' a is:=λi J=>by
 have⟨l,o,q,e,G,I,r,F,D,A⟩:=h i J;exact⟨l,o,q,e,cn_ p G,cn_ p I,cn_ p r,cn_ p F,cn_ p D,A.pre p⟩
theorem dD_.at (h:dD_ H b a cs is):∀i (hi:i<is.length),∃p,cs[i*5]?=some (.str is[i].name)/\cs[i*5+1]?=some (.int .i64 is[i].kind)/\cs[i*5+2]?=some (.str is[i].parent)/\cs[i*5+3]?=some (.str is[i].label)/\
 cs[i*5+4]?=some (.sl p is[i].files.length 3)/\fI_ H p is[i].files:=by
 induction h with
 |nil=>intro i hi;cases hi
 | @cons p x cs is D F _ A=>
  intro i hi;cases i with
  |zero=>exact⟨p,rfl,rfl,rfl,rfl,rfl,D.rd⟩
  | succ i=>
   have⟨q,g⟩:=A i (a_);have r:∀k,(gP_ p x++cs)[(i+1)*5+k]?=cs[i*5+k]? :=λk=>by
    rw[getElem?_append_right (by simp[gP_];omega)];congr 1;simp[gP_];omega
   refine⟨q,?_⟩;rw[show (i+1)*5=(i+1)*5+0 from rfl,r 0,show ∀k,(i+1)*5+0+k=(i+1)*5+k from λ_=>rfl,show ∀k,(i+1)*5+0+k=(i+1)*5+k from λ_=>rfl,r 1,r 2,r 3,r 4];exact g
theorem bT_.rd(h:bT_ H b a is):cY_ H a is:=λi r=>by
 rcases h with⟨_,rfl⟩|⟨l,N,rfl,_,A,D⟩
 .cases r
 .have⟨p,O,G,I,U,J,F⟩:=D.at i r;refine⟨l,0,p,rfl,?_,?_,?_,?_,?_,F⟩<;>rw[aY_ A,kN]<;>assumption
end Go.Am
namespace Go.Am
open List
open Go.Proofs
def hM_(fs:List InfoR):Prop:=fs.Pairwise λx y=>blt x.name y.name=true
def dP_(fs:List InfoR)(s:Y_):Nat:=fs.countP λf=>blt f.name s
def IK_(fs:List InfoR)(s:Y_):dP_ fs s<=fs.length:=countP_le_length
def iZ_:∀{fs:List InfoR}(h:hM_ fs)(s:Y_)(i:Nat)(hi:i<fs.length),blt fs[i].name s=true↔i<dP_ fs s
 |[],_,_,_,hi=>g_
 | f::fs,h,s,i,hi=>by
  have r:=kW.1 h;unfold dP_;rw[countP_cons];cases e:blt f.name s with
  | true=>
   rw[if_pos rfl];cases i with
   |zero=>simp[e]
   |succ i=>
    have:=iZ_ r.2 s i g_;simp;rw[this];unfold dP_;omega
  | false=>
   have A:fs.countP (λf=>blt f.name s)=0:=by
    rw[countP_eq_zero];intro x D q;rw[dw_ (r.1 x D) q]at e;cases e
   rw[A];cases i with
   |zero=>simp[e]
   |succ i=>
    grind
section
variable{H:Hp}{Q:Post}
def lT_(r:Q (gI (BI_ a b)) H):cW_ [(H6_,fk_)] H6_ [.agg [.str a,.int .i64 d,.str c,.str e,.sl p m 3],gS b] H Q:=by
 refine⟨1,?_⟩;rw[wY_];refine iQ_ ?_;simp_all
def j6_ {a:Pl} {fs:List InfoR} {s:ByteArray} (h:cY_ H a fs) (ha:hM_ fs) (hn:fs.length<=1000)
 (hQ:Q (.tup [nN ((dP_ fs s:Nat):Int),.s (.bool (fs.any λf=>decide (f.name=s)))]) H):
 fN_ [nL a fs.length 5,gS s] H Q:=by
 refine⟨1,?_⟩;rw[AU_];refine⟨fs.length+2,?_⟩;rw[eE_];have go:∀(f i j:Nat),j-i<f->i<=dP_ fs s->dP_ fs s<=j->j<=fs.length->∀{R:Post},R (.tup [nN ((dP_ fs s:Nat):Int),.s (.bool (fs.any λf=>decide (f.name=s)))]) H->
  am_.l3 (cW_ [(H6_,fk_)]) f a fs.length s H6_ [] ((fs.length:Nat):Int) ((i:Nat):Int) ((j:Nat):Int) H R:=by
  intro f;induction f with
  |zero=>intro i j h;omega
  | succ f ih=>
   intro i j hf h1 h2 h3 R hR;rw[am_.l3_eq];refine aa_ (λe=>?_) λe=>?_
   ·have hij:i<j:=by simpa using e
    rw[A8_ o_];have hm:(i+j) / 2<fs.length:=o_
    refine ab_ rfl (ab_ s_ ?_);obtain⟨l,o,p,rfl,r1,r2,r3,r4,r5,_⟩:=h _ hm
    ·skip;have etn:∀ k:Nat,tN (k:Int)=k:=λ_=>rfl;simp only[ad_,etn];rw[ac_ r1,aq_,ac_ r2,ai_,ac_ r3,aq_,ac_ r4,aq_,ac_ r5];refine⟨.inr rfl,?_⟩;refine lT_ ?_;simp only[aJ_,ai_];rw[Em_,ao_ o_];have hp:=iZ_ ha s _ hm;refine aa_ (λe=>?_) (λe=>?_)
     .exact ih _ _ o_ (h_ (hp.1 e)) h2 h3 hR
     ·exact ih _ _ (by omega) h1 (by rw[e]at hp;have: ¬ (i+j) / 2<dP_ fs s:=λq=>by cases hp.2 q
                                     omega) o_ hR
   ·have hij: ¬ i<j:=by simpa using e
    have hi:i=dP_ fs s:=o_
    subst hi;refine aa_ (λe=>?_) λe=>?_
    ·have hm:dP_ fs s<fs.length:=by simpa using e
     refine ab_ rfl (ab_ s_ ?_);obtain⟨l,o,p,rfl,r1,r2,r3,r4,r5,_⟩:=h _ hm
     ·skip;have etn:∀k:Nat,tN (k:Int)=k:=λ_=>rfl;simp only[ad_,etn];rw[ac_ r1,aq_,ac_ r2,ai_,ac_ r3,aq_,ac_ r4,aq_,ac_ r5];refine⟨.inr rfl,?_⟩;refine lT_ ?_;simp only[aJ_,ai_];rw[El_];have:decide (fs[dP_ fs s].name=s)=fs.any λf=>decide (f.name=s):=by
       rw[Bool.eq_iff_iff,any_eq_true];simp only[decide_eq_true_eq];refine⟨λe=>⟨_,kE hm,e⟩,fun⟨x,hx,e⟩=>?_⟩;obtain⟨k,hk,rfl⟩:=kK hx;have hk1:=iZ_ ha s k hk;rw[e,b0_]at hk1;have hle:dP_ fs s<=k:=by
        refine Nat.le_of_not_lt λq=>?_;cases hk1.2 q
       rcases Nat.lt_or_eq_of_le hle with q|q
       .have hlt:=(kS.1 ha) _ _ hm hk q;rw[e]at hlt;have:=(iZ_ ha s _ hm).1 hlt;omega
       .simp only[q];exact e
      rw[this];exact hR
    ·have hm: ¬ dP_ fs s<fs.length:=by simpa using e
     have:(fs.any λf=>decide (f.name=s))=false:=by
      rw[any_eq_false];intro x hx q;obtain⟨k,hk,rfl⟩:=kK hx;have hk1:=iZ_ ha s k hk;have q':fs[k].name=s:=u_ q
      rw[q',b0_]at hk1;have: ¬ k<dP_ fs s:=λz=>by cases hk1.2 z
      omega
     rw[this]at hR;exact hR
 refine go _ 0 fs.length o_ (kP _) (IK_ _ _) (kO _) ?_;simp only[aH_,aD_,bD_,ai_,ak_,a8_];exact hQ
end
end Go.Am
namespace Go.Am
open List
def dE_ (is:List InfoR):Nat->Nat->Bool
 |0,_=>false
 | f+1,i=>match is[i]? with
  |none=>false
  |some x=>if x.parent=mkS [] then true else (is.any λy=>decide (y.name=x.parent))&&match is[dP_ is x.parent]? with
   |none=>false
   |some y=>eqI y.kind 2&&dE_ is f (dP_ is x.parent)
def Iu_(h:hM_ is)(A:(is.any λy=>decide (y.name=s))=true):dP_ is s<is.length:=by
 have⟨x,G,e⟩:=any_eq_true.1 A;have F:x.name=s:=g_
 obtain⟨k,D,rfl⟩:=kK G;have r:=iZ_ h s k D;rw[F,b0_]at r;grind
section
variable{H:Hp}{Q:Post}
def qo_ (h:cY_ H a is) (J:hM_ is) (Y:is.length<=1000) (hi:i<is.length) (A:Q (gB (dE_ is is.length i)) H):
 ca_ [nL a is.length 5,gI ((i:Nat):Int)] H Q:=by
 refine⟨is.length+2,?_⟩;rw[tz_];have I:∀k:Nat,tN (k:Int)=k:=λ_=>rfl;have go:∀(f i k),f=is.length-k->k<=is.length->i<is.length->Q (gB (dE_ is f i)) H->ca_.l2 (f+1) a is.length (i) (is.length) (k) H Q:=by
  intro f;induction f with
  |zero=>
   intro i k O V hi A;rw[ca_.l2_eq];refine aa_ (λe=>?_) λe=>A;have:k<is.length:=a_
   omega
  | succ f U=>
   intro i k O V hi A;rw[ca_.l2_eq];refine aa_ (λe=>?_) λe=>?_
   ·refine ab_ rfl (ab_ s_ ?_);obtain⟨l,o,p,rfl,Z,r2,W,r4,r5,_⟩:=h _ hi;simp only[ad_,I];rw[ac_ W,aq_];rw[dE_,kG hi]at A;dsimp at A;refine aa_ (λe=>?_) (λe=>?_)
    .have G:is[i].parent=mkS []:=by simpa using e
     rw[if_pos G]at A;exact A
    ·have G: ¬ is[i].parent=mkS []:=by simpa using e
     rw[if_neg G]at A;refine j6_ h J Y ?_;simp only[aH_,aD_,bD_,ai_];refine aa_ (λe=>?_) λe=>?_
     .rw[show (is.any λy=>decide (y.name=is[i].parent))=false by simpa only[Bool.not_eq_true'] using e,Bool.false_and]at A;exact A
     .have N:(is.any λy=>decide (y.name=is[i].parent))=true:=by simpa using e
      have F:=Iu_ J N;rw[N,Bool.true_and,kG F]at A;dsimp at A;refine ab_ rfl (ab_ s_ ?_);obtain⟨l',o',p',q,_,D,_⟩:=h _ F;cases q;simp;rw[ac_ D,ai_];refine aa_ (λe=>?_) λe=>?_
      .rw[show eqI is[dP_ is is[i].parent].kind 2=false by simpa using e,Bool.false_and]at A;exact A
      .rw[show eqI is[dP_ is is[i].parent].kind 2=true by simpa using e,Bool.true_and]at A;rw[ao_ o_];exact U _ (k+1) o_ o_ F A
   .have: ¬ k<is.length:=by simpa using e
    omega
 exact go is.length i 0 o_ (kP _) hi A
end
def eI_(cl:Bool)(f:FileR):Bool:=aZ_ f.1 3&&(leI (sz f.2.1) 6&& !(cl&&f.2.2))
def zX_{α:Type}(lt:α->α->Bool):List α->Bool
 |[]=>true
 |[_]=>true
 |x::y::l=>lt x y&&zX_ lt (y::l)
theorem qN_:∀{l:List α},zX_ lt l=true↔∀i (h:i+1<l.length),lt l[i] l[i+1]=true
 |[]=>⟨λ_ i h=>absurd h t_,λ_=>rfl⟩
 |[x]=>⟨λ_ i h=>absurd h t_,λ_=>rfl⟩
 | x::y::l=>by
  rw[zX_,kR,qN_];constructor
  .rintro⟨A,r⟩ i h;cases i with
   |zero=>exact A
   |succ i=>exact r i g_
  .exact λh=>⟨h 0 t_,λi D=>h (i+1) g_⟩
def Dm_ (h:zX_ (λx y=>blt x.name y.name) fs=true):hM_ fs:=by
 rw[qN_]at h;unfold hM_;rw[kS];intro i j F D r;induction j with
 |zero=>omega
 |succ j A=>
  rcases Nat.lt_or_eq_of_le (Nat.le_of_lt_succ r) with q|q
  .exact dw_ (A o_ q) (h j D)
  .grind
end Go.Am
namespace Go.Am
def cN_ (cl:Bool) (fs:List FileR):Nat->Nat->Bool
 |0,_=>leI (fs.length:Int) 4
 |f+1,k=>match fs[k]? with
  |none=>false
  |some x=>eI_ cl x&&((match k with|0=>true|j+1=>match fs[j]? with|none=>false|some y=>blt y.1 x.1)&&cN_ cl fs f (k+1))
section
variable{H:Hp}{Q:Post}
def q7_ {a:Pl} {fs:List FileR} {c:Bool} (h:fI_ H a fs) (hn:fs.length<=100000) (hs:∀f∈fs,f.1.size<=140737488351232) (hQ:Q (gB (cN_ c fs fs.length 0)) H):
 bG_ [nL a fs.length 3,gB c] H Q:=by
 refine⟨fs.length+2,?_⟩;rw[uM_];have etn:∀k:Nat,tN (k:Int)=k:=λ_=>rfl;have go:∀(f k:Nat),f=fs.length-k->k<=fs.length->Q (gB (cN_ c fs f k)) H->bG_.l2 (f+1) a fs.length c a fs.length ((fs.length:Nat):Int) ((k:Nat):Int) H Q:=by
  intro f;induction f with
  |zero=>
   intro k hf hk hQ;rw[bG_.l2_eq];refine aa_ (λe=>?_) λe=>hQ;have:k<fs.length:=u_ e
   omega
  | succ f ih=>
   intro k hf hk hQ;have hkl:k<fs.length:=o_
   rw[bG_.l2_eq];refine aa_ (λe=>?_) λe=>?_
   ·refine ab_ rfl (ab_ s_ ?_);obtain⟨l,o,rfl,r1,r2,r3⟩:=h _ hkl;rw[cN_,kG hkl]at hQ;dsimp only at hQ;simp only[ad_,etn];rw[ac_ r1,aq_,ac_ r2,aq_,ac_ r3,ak_];refine gg_ (hs _ (kE hkl)) ?_;simp only[aJ_,ak_];refine aa_ (λe=>?_) (λe=>?_)
    .have e':aZ_ fs[k].1 3=false:=by simpa only[Bool.not_eq_true'] using e
     rw[show eI_ c fs[k]=false by unfold eI_;rw[e',Bool.false_and],Bool.false_and]at hQ;exact hQ
    have e1:aZ_ fs[k].1 3=true:=by simpa only[Bool.not_eq_false'] using e
    refine hu_ ?_;simp only[aJ_,ak_];refine aa_ (λe=>?_) λe=>?_
    .have e':leI (sz fs[k].2.1) 6=false:=by simpa only[Bool.not_eq_true'] using e
     rw[show eI_ c fs[k]=false by unfold eI_;rw[e',e1];rfl,Bool.false_and]at hQ;exact hQ
    have e2:leI (sz fs[k].2.1) 6=true:=by simpa only[Bool.not_eq_false'] using e
    have tail:eI_ c fs[k]=true->cq_ (ltI 0 ((k:Nat):Int)) (chk true (chk ((leI 0 (ae_ .i64 (((k:Nat):Int)-1)))&&(ltI (ae_ .i64 (((k:Nat):Int)-1)) ((fs.length:Nat):Int))) (rd H l ((o+((tN (ae_ .i64 (((k:Nat):Int)-1)))*3))+0) λv18=>
     dS v18 λs19=>cq_ (!(dQ_ s19 fs[k].1)) (Q (gB false) H) (bG_.l2 (f+1) (some (l,o)) fs.length c (some (l,o)) fs.length ((fs.length:Nat):Int) (ae_ .i64 (((k:Nat):Int)+1)) H Q))))
     (bG_.l2 (f+1) (some (l,o)) fs.length c (some (l,o)) fs.length ((fs.length:Nat):Int) (ae_ .i64 (((k:Nat):Int)+1)) H Q):=λhok=>by
     rw[hok,Bool.true_and]at hQ;rw[ao_ o_];cases k with
     |zero=>
      refine aa_ (n_) λe=>?_;dsimp only at hQ;rw[Bool.true_and]at hQ;exact ih 1 o_ o_ hQ
     |succ j=>
      refine aa_ (λe=>?_) (n_);rw[en_ o_];refine ab_ rfl (ab_ s_ ?_);have hj:j<fs.length:=o_
      obtain⟨l',o',q,r1',_⟩:=h j hj;cases q;simp only[etn,kQ];rw[ac_ r1',aq_,kn_];dsimp only at hQ;rw[kG hj]at hQ;dsimp only at hQ;refine aa_ (λe=>?_) λe=>?_
      .rw[show blt fs[j].1 fs[j+1].1=false by unfold blt;simpa only[Bool.not_eq_true'] using e,Bool.false_and]at hQ;exact hQ
      .rw[show blt fs[j].1 fs[j+1].1=true by unfold blt;simpa only[Bool.not_eq_false'] using e,Bool.true_and]at hQ;exact ih (j+1+1) o_ o_ hQ
    refine aa_ (λec=>?_) λec=>?_
    .refine aa_ (λe=>?_) (λe=>?_)
     .rw[show eI_ c fs[k]=false by unfold eI_;rw[e1,e2,ec,e];rfl,Bool.false_and]at hQ;exact hQ
     .exact tail (by unfold eI_;rw[e1,e2,ec,e];rfl)
    .exact tail (by unfold eI_;rw[e1,e2,ec];rfl)
   .have: ¬ k<fs.length:=by simpa using e
    omega
 exact go fs.length 0 o_ (kP _) hQ
end
end Go.Am
namespace Go.Am
open List
def dg_(x:InfoR):Bool:=aZ_ x.name 4&&((leI 0 x.kind&&leI x.kind 2)&&(leI (sz x.label) 3&&cN_ (eqI x.kind 1) x.files x.files.length 0))
def gX_(is:List InfoR):Nat->Nat->Bool
 |0,_=>leI (is.length:Int) 6
 |f+1,k=>dE_ is is.length k&&gX_ is f (k+1)
def bu_ (is:List InfoR):Nat->Nat->Bool
 |0,_=>gX_ is is.length 0
 |f+1,k=>match is[k]? with
  |none=>false
  |some x=>dg_ x&&((match k with|0=>true|j+1=>match is[j]? with|none=>false|some y=>blt y.name x.name)&&bu_ is f (k+1))
section
variable{H:Hp}{Q:Post}
def rK_ (h:cY_ H a is) (A:hM_ is) (D:is.length<=1000):∀(f k:Nat),f=is.length-k->k<=is.length->Q (gB (gX_ is f k)) H->bz_.l8 (f+1) a is.length ((is.length:Nat):Int) ((k:Nat):Int) H Q:=by
 intro f;induction f with
 |zero=>
  intro k I F r;rw[bz_.l8_eq];refine aa_ (λe=>?_) λe=>r;have:k<is.length:=a_
  omega
 | succ f G=>
  intro k I F r;rw[bz_.l8_eq];refine aa_ (λe=>?_) λe=>?_
  .refine qo_ h A D o_ ?_;rw[gX_]at r;refine aa_ (λe=>?_) (λe=>?_)
   .grind
   .rw[show dE_ is is.length k=true by simpa using e,Bool.true_and]at r;rw[ao_ o_];exact G (k+1) o_ o_ r
  .have: ¬ k<is.length:=by simpa using e
   omega
end
section
variable{H:Hp}{Q:Post}
def mH_ {a:Pl} {is:List InfoR} (h:cY_ H a is) (hn:is.length<=1000) (hs:∀x∈is,x.name.size<=140737488351232/\x.files.length<=100000/\∀f∈x.files,f.1.size<=140737488351232) (hQ:Q (gB (bu_ is is.length 0)) H):
 bz_ [nL a is.length 5] H Q:=by
 refine⟨is.length*2+3,?_⟩;rw[yw_];have etn:∀k:Nat,tN (k:Int)=k:=λ_=>rfl;have mono:∀(f k:Nat),bz_.l8 (is.length+1) a is.length ((is.length:Nat):Int) ((0:Nat):Int) H Q->True:=λ_ _ _=>trivial;have go:∀(f k:Nat),f=is.length-k->k<=is.length->(∀i (hi:i+1<is.length),i+1<k->blt is[i].name is[i+1].name=true)->Q (gB (bu_ is f k)) H->
  bz_.l2 (f+(is.length+2)) a is.length a is.length ((is.length:Nat):Int) ((k:Nat):Int) H Q:=by
  intro f;induction f with
  | zero=>
   intro k hf hk hp hQ;rw[(o_:0+(is.length+2)=(is.length+1)+1),bz_.l2_eq];refine aa_ (λe=>?_) λe=>?_
   .have:k<is.length:=by simpa using e
    omega
   .exact rK_ h (Dm_ (qN_.2 λi hi=>hp i hi o_)) hn is.length 0 o_ (kP _) hQ
  | succ f ih=>
   intro k hf hk hp hQ;have hkl:k<is.length:=o_
   rw[(o_:f+1+(is.length+2)=(f+(is.length+2))+1),bz_.l2_eq];refine aa_ (λe=>?_) λe=>?_
   ·refine ab_ rfl (ab_ s_ ?_);obtain⟨l,o,p,rfl,r1,r2,r3,r4,r5,r6⟩:=h _ hkl;obtain⟨s1,s2,s3⟩:=hs _ (kE hkl);rw[bu_,kG hkl]at hQ;dsimp only at hQ;simp only[ad_,etn];rw[ac_ r1,aq_,ac_ r2,ai_,ac_ r3,aq_,ac_ r4,aq_,ac_ r5];refine⟨.inr rfl,?_⟩;refine fe_ s1 ?_;simp only[aJ_,ak_];refine aa_ (λe=>?_) (λe=>?_)
    .have e':aZ_ is[k].name 4=false:=by simpa only[Bool.not_eq_true'] using e
     rw[show dg_ is[k]=false by unfold dg_;rw[e',Bool.false_and],Bool.false_and]at hQ;exact hQ
    have e1:aZ_ is[k].name 4=true:=by simpa only[Bool.not_eq_false'] using e
    refine nX_ ?_;simp only[aJ_,ak_];refine aa_ (λe=>?_) λe=>?_
    .have e':(leI 0 is[k].kind&&leI is[k].kind 2)=false:=by simpa only[Bool.not_eq_true'] using e
     rw[show dg_ is[k]=false by unfold dg_;rw[e1,e',Bool.false_and,Bool.true_and],Bool.false_and]at hQ;exact hQ
    have e2:(leI 0 is[k].kind&&leI is[k].kind 2)=true:=by simpa only[Bool.not_eq_false'] using e
    refine jh_ ?_;simp only[aJ_,ak_];refine aa_ (λe=>?_) λe=>?_
    .have e':leI (sz is[k].label) 3=false:=by simpa only[Bool.not_eq_true'] using e
     rw[show dg_ is[k]=false by unfold dg_;rw[e1,e2,e'];rfl,Bool.false_and]at hQ;exact hQ
    have e3:leI (sz is[k].label) 3=true:=by simpa only[Bool.not_eq_false'] using e
    refine q7_ r6 s2 s3 ?_;simp only[aJ_,ak_];have eq:dg_ is[k]=cN_ (eqI is[k].kind 1) is[k].files is[k].files.length 0:=by unfold dg_;rw[e1,e2,e3];rfl
    rw[eq]at hQ;refine aa_ (λe=>?_) λe=>?_
    .rw[show cN_ (eqI is[k].kind 1) is[k].files is[k].files.length 0=false by simpa only[Bool.not_eq_true'] using e,Bool.false_and]at hQ;exact hQ
    rw[show cN_ (eqI is[k].kind 1) is[k].files is[k].files.length 0=true by simpa only[Bool.not_eq_false'] using e,Bool.true_and]at hQ;rw[ao_ o_];cases k with
    |zero=>
     refine aa_ (n_) λe=>?_;dsimp only at hQ;rw[Bool.true_and]at hQ;exact ih 1 o_ o_ (λi hi h=>o_) hQ
    | succ j=>
     refine aa_ (λe=>?_) (n_);rw[en_ o_];refine ab_ rfl (ab_ s_ ?_);have hj:j<is.length:=o_
     obtain⟨l',o',p',q,r1',_⟩:=h j hj;cases q;simp only[etn,kQ];rw[ac_ r1',aq_,kn_];dsimp only at hQ;rw[kG hj]at hQ;dsimp only at hQ;refine aa_ (λe=>?_) λe=>?_
     .rw[show blt is[j].name is[j+1].name=false by unfold blt;simpa only[Bool.not_eq_true'] using e,Bool.false_and]at hQ;exact hQ
     ·have hb:blt is[j].name is[j+1].name=true:=by unfold blt;simpa only[Bool.not_eq_false'] using e
      rw[hb,Bool.true_and]at hQ;refine ih (j+1+1) o_ o_ (λi hi h=>?_) hQ;by_cases c:i+1<j+1
      .exact hp i hi c
      .have:i=j:=by omega
       subst this;exact hb
   .have: ¬ k<is.length:=by simpa using e
    omega
 have:=go is.length 0 o_ (kP _) (λi hi h=>o_) hQ;rw[(o_:is.length+(is.length+2)=is.length*2+2)]at this;exact this
end
section
variable{H:Hp}{Q:Post}
def yr_ (h:cY_ H a is) (Y:is.length<=1000)
 (V:∀i (hi:i<is.length),is[i].name=s->(∀j (A:j<is.length),j<i->is[j].name≠s)->Q (gI ((i:Nat):Int)) H)
 (J:(∀j (A:j<is.length),is[j].name≠s)->Q (gI (-1)) H):co_ [nL a is.length 5,gS s] H Q:=by
 refine⟨is.length+2,?_⟩;rw[Bv_];have W:∀k:Nat,tN (k:Int)=k:=λ_=>rfl;have go:∀(f k),f=is.length-k->k<=is.length->(∀j A,j<k->is[j].name≠s)->co_.l2 (f+1) a is.length s (k) H Q:=by
  intro f;induction f with
  |zero=>
   intro k I N F;rw[co_.l2_eq];refine aa_ (λe=>?_) λe=>J λj A=>F j A o_;have:k<is.length:=u_ e
   omega
  | succ f O=>
   intro k I N F;have D:k<is.length:=o_
   rw[co_.l2_eq];refine aa_ (λe=>?_) λe=>?_
   ·refine ab_ rfl (ab_ s_ ?_);obtain⟨l,o,p,rfl,U,_⟩:=h _ D;simp[ad_];rw[ac_ U,aq_];refine aa_ (λe=>?_) (λe=>?_)
    .exact V k D (u_ e) F
    .rw[ao_ o_];refine O (k+1) o_ o_ λj A G=>?_;rcases Nat.lt_or_eq_of_le (Nat.le_of_lt_succ G) with q|q
     .exact F j A q
     .subst q;simpa using e
   .have: ¬ k<is.length:=by simpa using e
    omega
 grind
end
end Go.Am
namespace Go.Am
def jr_ (is:List InfoR):Nat->Y_->Bool
 |0,p=>decide (p=mkS [])
 |f+1,p=>if p=mkS [] then true else (is.any λy=>decide (y.name=p))&&match is[dP_ is p]? with
  |none=>false
  |some y=>eqI y.kind 2&&jr_ is f y.parent
def AO_(h:hM_ is)(hi:i<is.length):dP_ is is[i].name=i:=by
 have D:=iZ_ h is[i].name i hi;rw[b0_]at D;have r:dP_ is is[i].name<=i:=Nat.le_of_not_lt λq=>g_
 rcases Nat.lt_or_eq_of_le r with q|q
 .have A:=(kS.1 h) _ _ o_ hi q;have:=(iZ_ h is[i].name _ o_).1 A;omega
 .exact q
def x6_(h:hM_ is)(D:(is.any λy=>decide (y.name=s))=true):∃F:dP_ is s<is.length,is[dP_ is s].name=s:=by
 have⟨x,A,e⟩:=List.any_eq_true.1 D;obtain⟨k,r,rfl⟩:=kK A;have:=AO_ h r;grind
theorem oS_:∀(f i:Nat)(hi:i<is.length),dE_ is (f+1) i=jr_ is f is[i].parent
 | 0,i,hi=>by
  rw[dE_,jr_,kG hi];by_cases e:is[i].parent=mkS []
  .grind
  .simp;cases is[dP_ is is[i].parent]? with
   |none=>simp
   |some y=>simp[dE_]
 | f+1,i,hi=>by
  rw[dE_,jr_,kG hi];dsimp;by_cases e:is[i].parent=mkS []
  .grind
  .by_cases r:dP_ is is[i].parent<is.length
   .rw[kG r,oS_ f _ r]
   .grind
theorem Eu_(a b:Y_):(dQ_ a b||er_ a b)= !(blt b a):=by
 rw[kn_,o1_];change (blt a b||decide (a=b))= !(blt b a);rcases g4_ a b with⟨A,r,D⟩|⟨A,r,D⟩|⟨A,r,D⟩
 .grind
 .grind
 .grind
def so_ {cl:Bool}:∀(f k:Nat),cN_ cl fs f k=true->leI (fs.length:Int) 4=true
 |0,_,h=>h
 | f+1,k,h=>by
  rw[cN_]at h;cases r:fs[k]? with
  |none=>rw[r]at h;cases h
  |some x=>
   rw[r]at h;simp at h;exact so_ f _ h.2.2
section
variable{H:Hp}{Q:Post}
def gW_(h:cY_ H a is)(G:hM_ is)(F:is.length<=1000)
 (I:(is.any λy=>decide (y.name=s))=true->Q (gI ((dP_ is s:Nat):Int)) H)
 (D:(is.any λy=>decide (y.name=s))=false->Q (gI (-1)) H):co_ [nL a is.length 5,gS s] H Q:=by
 refine yr_ h F (λi r e _=>?_) λq=>?_
 .have:=AO_ G r;grind
 .refine D ?_;rw[List.any_eq_false];intro x A;obtain⟨j,J,rfl⟩:=kK A;grind
def u7_ (h:cY_ H a is) (G:hM_ is) (U:is.length<=1000):∀(f s:Nat)(p:Y_),s+f=7->Q (gB (jr_ is f p)) H->∀m,aV_.l11 (f+1+m) a is.length p ((s:Nat):Int) H Q:=by
 have F:∀k:Nat,tN (k:Int)=k:=λ_=>rfl;intro f;induction f with
 | zero=>
  intro s p W A m;rw[(o_:0+1+m=m+1),aV_.l11_eq];rw[jr_]at A;refine aa_ (λe=>?_) λe=>?_
  .have I: ¬ p=mkS []:=by simpa using e
   have e2:decide (p=mkS [])=false:=by simpa
   rw[e2]at A;refine gW_ h G U (λD=>?_) λD=>?_
   .simp only[aJ_,ai_];have⟨J,_⟩:=x6_ G D;refine aa_ (λe=>A) λe=>?_;refine ab_ rfl (ab_ s_ ?_);obtain⟨l,o,q,rfl,V,N,O,Z,Y,_⟩:=h _ J;simp only[ad_,F];rw[ac_ N,ai_];refine aa_ (λe=>A) λe=>?_;simp_all
   .simp only[aJ_,ai_];refine aa_ (λe=>A) (n_)
  .simp_all
 | succ f ih=>
  intro s p W A m;rw[(o_:f+1+1+m=(f+1+m)+1),aV_.l11_eq];rw[jr_]at A;refine aa_ (λe=>?_) λe=>?_
  ·have I: ¬ p=mkS []:=by simpa using e
   rw[if_neg I]at A;refine gW_ h G U (λD=>?_) λD=>?_
   ·simp only[aJ_,ai_];obtain⟨J,_⟩:=x6_ G D;rw[D,Bool.true_and,kG J]at A;dsimp at A;refine aa_ (λe=>?_) (λe=>?_)
    .simp at e;omega
    refine ab_ rfl (ab_ s_ ?_);obtain⟨l,o,q,rfl,V,N,O,Z,Y,_⟩:=h _ J;simp only[ad_,F];rw[ac_ N,ai_];refine aa_ (λe=>?_) λe=>?_
    .grind
    rw[show eqI is[dP_ is p].kind 2=true by simpa only[Bool.not_eq_false'] using e,Bool.true_and]at A;refine aa_ (λe=>?_) λe=>?_
    .have:(6:Int)<s:=by simpa using e
     omega
    refine ab_ rfl (ab_ s_ ?_);rw[ac_ O,aq_,ao_ o_];exact ih (s+1) _ o_ A m
   .simp_all
  .have I:p=mkS []:=by simpa using e
   rw[if_pos I]at A;exact A
def qP_ {a p:Pl} {is:List InfoR} {x:InfoR} (h:cY_ H a is) (ha:hM_ is) (hn:is.length<=1000) (hf:fI_ H p x.files) (hfn:x.files.length<=100000) (hs:x.name.size<=140737488351232) (hs2:∀f∈x.files,f.1.size<=140737488351232)
 (hQ:Q (gB (dg_ x&&jr_ is 7 x.parent)) H):
 aV_ [nL a is.length 5,.agg [.str x.name,.int .i64 x.kind,.str x.parent,.str x.label,.sl p x.files.length 3]] H Q:=by
 refine⟨x.files.length+10+1,?_⟩;rw[sC_];have etn:∀k:Nat,tN (k:Int)=k:=λ_=>rfl;refine b5_ hs ?_;simp only[aJ_,ak_];refine aa_ (λe=>?_) λe=>?_
 .rw[show dg_ x=false by unfold dg_;rw[show aZ_ x.name 4=false by simpa only[Bool.not_eq_true'] using e,Bool.false_and],Bool.false_and]at hQ;exact hQ
 have e1:aZ_ x.name 4=true:=by simpa only[Bool.not_eq_false'] using e
 refine aa_ (λe=>?_) λe=>?_
 .rw[show dg_ x=false by unfold dg_;rw[show leI 0 x.kind=false by simp at e ⊢;omega];simp,Bool.false_and]at hQ;exact hQ
 have e2:leI 0 x.kind=true:=z_ e
 refine aa_ (λe=>?_) λe=>?_
 .rw[show dg_ x=false by unfold dg_;rw[show leI x.kind 2=false by simp at e ⊢;omega];simp,Bool.false_and]at hQ;exact hQ
 have e3:leI x.kind 2=true:=z_ e
 refine aa_ (λe=>?_) λe=>?_
 .rw[show dg_ x=false by unfold dg_;rw[show leI (sz x.label) 3=false by simp at e ⊢;omega];simp,Bool.false_and]at hQ;exact hQ
 have e4:leI (sz x.label) 3=true:=z_ e
 have eq:dg_ x=cN_ (eqI x.kind 1) x.files x.files.length 0:=by unfold dg_;rw[e1,e2,e3,e4];rfl
 rw[eq]at hQ;refine aa_ (λe=>?_) λe=>?_
 ·have:cN_ (eqI x.kind 1) x.files x.files.length 0=false:=by
   cases hff:cN_ (eqI x.kind 1) x.files x.files.length 0 with
   |false=>rfl
   |true=>
    have:=so_ _ _ hff;simp at e this;omega
  rw[this,Bool.false_and]at hQ;exact hQ
 have e5:leI (x.files.length:Int) 4=true:=z_ e
 have go:∀(f k:Nat),f=x.files.length-k->k<=x.files.length->Q (gB (cN_ (eqI x.kind 1) x.files f k&&jr_ is 7 x.parent)) H->
  aV_.l4 (f+10) a is.length x.name x.kind x.parent x.label p x.files.length ((k:Nat):Int) H Q:=by
  intro f;induction f with
  | zero=>
   intro k hf' hk hQ;rw[show 0+10=9+1 by omega,aV_.l4_eq];refine aa_ (λe=>?_) λe=>?_
   .have:k<x.files.length:=by simpa using e
    omega
   .rw[cN_,e5,Bool.true_and]at hQ;exact u7_ h ha hn 7 0 _ rfl hQ 1
  | succ f ih=>
   intro k hf' hk hQ;have hkl:k<x.files.length:=o_
   rw[(o_:f+1+10=(f+10)+1),aV_.l4_eq];refine aa_ (λe=>?_) (m_);refine ab_ rfl (ab_ s_ ?_);obtain⟨l,o,rfl,r1,r2,r3⟩:=hf _ hkl;rw[cN_,kG hkl]at hQ;dsimp only at hQ;simp only[ad_,etn];rw[ac_ r1,aq_,ac_ r2,aq_,ac_ r3,ak_];refine d1_ (hs2 _ (kE hkl)) ?_;simp only[aJ_,ak_];refine aa_ (λe=>?_) λe=>?_
   .rw[show eI_ (eqI x.kind 1) x.files[k]=false by unfold eI_;rw[show aZ_ x.files[k].1 3=false by simpa only[Bool.not_eq_true'] using e,Bool.false_and],Bool.false_and,Bool.false_and]at hQ;exact hQ
   have e6:aZ_ x.files[k].1 3=true:=by simpa only[Bool.not_eq_false'] using e
   refine aa_ (λe=>?_) λe=>?_
   .rw[show eI_ (eqI x.kind 1) x.files[k]=false by unfold eI_;rw[show leI (sz x.files[k].2.1) 6=false by simp at e ⊢;omega];simp,Bool.false_and,Bool.false_and]at hQ;exact hQ
   have e7:leI (sz x.files[k].2.1) 6=true:=z_ e
   have tail:eI_ (eqI x.kind 1) x.files[k]=true->cq_ (ltI 0 ((k:Nat):Int)) (chk true (chk ((leI 0 (ae_ .i64 (((k:Nat):Int)-1)))&&(ltI (ae_ .i64 (((k:Nat):Int)-1)) (nI x.files.length))) (
    rd H l ((o+((tN (ae_ .i64 (((k:Nat):Int)-1)))*3))+0) λv18=>
    dS v18 λs19=>cq_ ((dQ_ x.files[k].1 s19)||(er_ x.files[k].1 s19)) (Q (gB false) H)
     (aV_.l4 (f+10) a is.length x.name x.kind x.parent x.label (some (l,o)) x.files.length (ae_ .i64 (((k:Nat):Int)+1)) H Q))))
    (aV_.l4 (f+10) a is.length x.name x.kind x.parent x.label (some (l,o)) x.files.length (ae_ .i64 (((k:Nat):Int)+1)) H Q):=λhok=>by
    rw[hok,Bool.true_and]at hQ;rw[ao_ o_];cases k with
    |zero=>
     refine aa_ (n_) λe=>?_;dsimp only at hQ;rw[Bool.true_and]at hQ;exact ih 1 o_ o_ hQ
    |succ j=>
     refine aa_ (λe=>?_) (n_);rw[en_ o_];refine ab_ rfl (ab_ s_ ?_);have hj:j<x.files.length:=o_
     obtain⟨l',o',q,r1',_⟩:=hf j hj;cases q;simp only[etn,kQ];rw[ac_ r1',aq_,Eu_];dsimp only at hQ;rw[kG hj]at hQ;dsimp only at hQ;refine aa_ (λe=>?_) λe=>?_
     .rw[show blt x.files[j].1 x.files[j+1].1=false by simpa only[Bool.not_eq_true'] using e,Bool.false_and,Bool.false_and]at hQ;exact hQ
     .rw[show blt x.files[j].1 x.files[j+1].1=true by simpa only[Bool.not_eq_false'] using e,Bool.true_and]at hQ;exact ih (j+1+1) o_ o_ hQ
   refine aa_ (λeo=>?_) λeo=>?_
   .refine aa_ (λe=>?_) (λe=>?_)
    .rw[show eI_ (eqI x.kind 1) x.files[k]=false by unfold eI_;rw[e6,e7,eo,e];rfl,Bool.false_and,Bool.false_and]at hQ;exact hQ
    .exact tail (by unfold eI_;rw[e6,e7,eo,e];rfl)
   .exact tail (by unfold eI_;rw[e6,e7,eo];simp)
 exact go _ 0 rfl (kP _) hQ
end
end Go.Am
namespace Go.Am
open List
def zl_ {α:Type} {p q:α->Bool}:∀{l:List α},(∀x∈l,p x=true->q x=true)->(∃x∈l,q x=true/\p x=false)->l.countP p<l.countP q
 |[],_,⟨x,h,_⟩=>g_
 |y::l,A,G=>by
  have I:l.countP p<=l.countP q:=countP_mono_left λx r=>A x g_;have⟨x,r,D,F⟩:=G;rcases kU.1 r with rfl|r
  .grind
  .have:=zl_ (λx r=>A x g_) ⟨x,r,D,F⟩;grind
def tP_:∀(f i:Nat),dE_ is f i=true->dE_ is (f+1) i=true
 |0,i,h=>k_ h
 | f+1,i,h=>by
  rw[dE_]at h ⊢;cases D:is[i]? with
  |none=>rw[D]at h;cases h
  | some x=>
   rw[D]at h;dsimp at h ⊢;by_cases e:x.parent=mkS []
   .grind
   ·rw[if_neg e]at h ⊢;rw[kR]at h ⊢;refine⟨h.1,?_⟩;have r:=h.2;cases A:is[dP_ is x.parent]? with
    |none=>rw[A]at r;cases r
    |some y=>
     rw[A]at r;rw[kR]at r ⊢;exact⟨r.1,tP_ f _ r.2⟩
def qm_ (r:f<=g) (h:dE_ is f i=true):dE_ is g i=true:=by
 induction g with
 | zero=>have:f=0:=by omega
         grind
 |succ g A=>
  rcases Nat.lt_or_eq_of_le r with q|q
  .exact tP_ g i (A o_)
  .grind
def E9_ (h:dE_ is f i=true):i<is.length:=by
 cases f with
 |zero=>cases h
 |succ f=>
  rw[dE_]at h;grind
def FR_ (r:dE_ is (f+2) i=true) (D:dE_ is (f+1) i=false):∃j,dE_ is (f+1) j=true/\dE_ is f j=false:=by
 rw[dE_]at r D;cases A:is[i]? with
 |none=>rw[A]at r;cases r
 |some x=>
  grind
def zF_:∀(f i:Nat),dE_ is (f+1) i=true->dE_ is f i=false->f+1<=(List.range is.length).countP (dE_ is (f+1))
 |0,i,r,_=>countP_pos_iff.2 ⟨i,mem_range.2 (E9_ r),r⟩
 |f+1,i,r,A=>by
  have⟨j,G,D⟩:=FR_ r A;have I:=zF_ f j G D;have:=zl_ (q:=dE_ is (f+2)) (λx _ F=>tP_ _ _ F) ⟨i,mem_range.2 (E9_ r),r,A⟩;grind
theorem wi_:∀(m i:Nat),dE_ is m i=true->dE_ is is.length i=true
 |0,i,h=>k_ h
 | m+1,i,h=>by
  by_cases A:m+1<=is.length
  .exact qm_ A h
  ·cases r:dE_ is m i with
   |true=>exact wi_ m i r
   |false=>
    have D:=zF_ m i h r;have F:(List.range is.length).countP (dE_ is (m+1))<=(List.range is.length).length:=countP_le_length;grind
theorem DS_ (A:is.length<=6) (i:Nat):dE_ is 8 i=dE_ is is.length i:=by
 cases h:dE_ is is.length i with
 |true=>exact qm_ o_ h
 |false=>
  cases r:dE_ is 8 i with
  |false=>rfl
  |true=>rw[wi_ 8 i r]at h;cases h
theorem jL_:∀(f k:Nat),f=is.length-k->k<=is.length->(gX_ is f k=true↔(∀j,k<=j->j<is.length->dE_ is is.length j=true)/\leI (is.length:Int) 6=true)
 |0,k,A,r=>by
  rw[gX_];grind
 |f+1,k,A,r=>by
  rw[gX_,kR,jL_ f (k+1) o_ o_];grind
def kI_:∀(f k:Nat),bu_ is f k=true->gX_ is is.length 0=true
 |0,_,h=>h
 | f+1,k,h=>by
  rw[bu_]at h;cases r:is[k]? with
  |none=>rw[r]at h;cases h
  |some x=>
   rw[r]at h;simp at h;exact kI_ f _ h.2.2
section
variable{H:Hp}{Q:Post}
def d9_ {a:Pl} {is:List InfoR} (h:cY_ H a is) (ha:hM_ is) (hn:is.length<=1000) (hs:∀x∈is,x.name.size<=140737488351232/\x.files.length<=100000/\∀f∈x.files,f.1.size<=140737488351232) (hQ:Q (gB (bu_ is is.length 0)) H):
 aW_ [nL a is.length 5] H Q:=by
 refine⟨is.length+2,?_⟩;rw[qJ_];have etn:∀k:Nat,tN (k:Int)=k:=λ_=>rfl;refine aa_ (λe=>?_) λe=>?_
 ·have:bu_ is is.length 0=false:=by
   cases hi:bu_ is is.length 0 with
   |false=>rfl
   |true=>
    have:=(jL_ (is:=is) _ 0 rfl (kP _)).1 (kI_ _ _ hi);have h6:=this.2;simp at e h6;omega
  rw[this]at hQ;exact hQ
 have h6:is.length<=6:=i_ e
 have go:∀(f k:Nat),f=is.length-k->k<=is.length->(∀j,j<k->dE_ is is.length j=true)->Q (gB (bu_ is f k)) H->
  aW_.l4 (f+1) a is.length ((k:Nat):Int) H Q:=by
  intro f;induction f with
  | zero=>
   intro k hf hk hr hQ;rw[aW_.l4_eq];refine aa_ (λe=>?_) λe=>?_
   .have:k<is.length:=by simpa using e
    omega
   .have:bu_ is 0 k=true:=(jL_ (is:=is) _ 0 rfl (kP _)).2 ⟨λj _ hj=>hr j o_,s_⟩;rw[this]at hQ;exact hQ
  | succ f ih=>
   intro k hf hk hr hQ;have hkl:k<is.length:=o_
   rw[aW_.l4_eq];refine aa_ (λe=>?_) (m_);refine ab_ rfl (ab_ s_ ?_);obtain⟨l,o,p,rfl,r1,r2,r3,r4,r5,r6⟩:=h _ hkl;obtain⟨s1,s2,s3⟩:=hs _ (kE hkl);simp only[ad_,etn];rw[ac_ r1,aq_,ac_ r2,ai_,ac_ r3,aq_,ac_ r4,aq_,ac_ r5];refine⟨.inr rfl,?_⟩;refine qP_ h ha hn r6 s2 s1 s3 ?_;simp only[aJ_,ak_];have hw:jr_ is 7 is[k].parent=dE_ is is.length k:=by rw[<-oS_ 7 k hkl,DS_ h6]
   rw[hw];refine aa_ (λe=>?_) λe=>?_
   ·have e':(dg_ is[k]&&dE_ is is.length k)=false:=by simpa only[Bool.not_eq_true'] using e
    have:bu_ is (f+1) k=false:=by
     cases hi:bu_ is (f+1) k with
     |false=>rfl
     |true=>
      have hroot:=((jL_ (is:=is) _ 0 rfl (kP _)).1 (kI_ _ _ hi)).1 k (kP _) hkl;rw[bu_,kG hkl]at hi;dsimp only at hi;rw[kR]at hi;rw[hi.1,hroot]at e';cases e'
    rw[this]at hQ;exact hQ
   ·have e':(dg_ is[k]&&dE_ is is.length k)=true:=by simpa only[Bool.not_eq_false'] using e
    rw[kR]at e';rw[bu_,kG hkl]at hQ;dsimp only at hQ;rw[e'.1,Bool.true_and]at hQ;have hr':∀j,j<k+1->dE_ is is.length j=true:=λj hj=>by
     rcases Nat.lt_or_eq_of_le (Nat.le_of_lt_succ hj) with q|q
     .exact hr j q
     .subst q;exact e'.2
    rw[ao_ o_];cases k with
    |zero=>
     refine aa_ (n_) λe=>?_;dsimp only at hQ;rw[Bool.true_and]at hQ;exact ih 1 o_ o_ hr' hQ
    |succ j=>
     refine aa_ (λe=>?_) (n_);refine ab_ rfl (ab_ s_ ?_);simp only[ad_,etn,kQ];rw[ac_ r1,aq_,en_ o_];refine ab_ rfl (ab_ s_ ?_);have hj:j<is.length:=o_
     obtain⟨l',o',p',q,r1',_⟩:=h j hj;cases q;simp only[etn,kQ];rw[ac_ r1',aq_,Eu_];dsimp only at hQ;rw[kG hj]at hQ;dsimp only at hQ;have hb:blt is[j].name is[j+1].name=true:=(kS.1 ha) _ _ hj hkl (Nat.lt_succ_self _);rw[hb,Bool.true_and]at hQ;rw[hb];exact ih (j+1+1) o_ o_ hr' hQ
 exact go _ 0 rfl (kP _) (λj hj=>o_) hQ
end
section
variable{B H:Hp}{t:TypeId}{ps:KV}{lf lt:Nat}{lo hi:Y_}{Q:Post}
def q2_ (g:SJ B H t ps) (O:gt B lf 0=some (.str lo)) (F:gt B lt 0=some (.str hi)) (G:ps.length<=1000) (k v:Y_)
 (I:∀H',SJ B H' t (ps++[(k,v)].filter (inR lo hi))->Q (.tup []) H'):eD_ [.agg [.str k,.str v],yQ lf,yQ lt,yQ B.length] H Q:=by
 have D:inR lo hi (k,v)=false->Q (.tup []) H:=λe=>I H g_;have r:inR lo hi (k,v)=true->∀H',SJ B H' t (ps++[(k,v)])->Q (.tup []) H':=λe H' U=>I H' g_;rw[JD_]at D r;refine⟨1,?_⟩;rw[vb_,ac_ (cd_ g.pre O),aq_,h2_];refine aa_ (λe=>?_) λe=>D g_;rw[ac_ (cd_ g.pre F),aq_];refine aa_ (λN=>?_) λN=>?_
 .have A:hi=mkS []:=by simp_all
  exact g.add k v G (r g_)
 .have A: ¬ hi=mkS []:=by simp_all
  rw[ac_ (cd_ g.pre F),aq_,h2_];refine aa_ (λJ=>?_) λJ=>?_
  .exact g.add k v G (r g_)
  .grind
end
section
variable{H0 B:Hp}{x:Pl}{cs:List PC}{T:List Pg}{t:TypeId}{lp lf lt gf:Nat}{lo hi:Y_}{E:Nat->Sm}
def xU_ (hT:Tr H0 x 48 cs T) (h0B:H0<+:B) (hlp:gt B lp 0=some (.sl x 48 5)) (hf:gt B lf 0=some (.str lo)) (ht:gt B lt 0=some (.str hi)) (hE:E gf=eD_):
 ∀(f at_:Nat)(H:Hp)(Q:Post)(ps:KV),WfT T f at_->at_<48->SJ B H t ps->ps.length+(allD T f at_).length<=1000->(∀H',SJ B H' t (ps++(allD T f at_).filter (inR lo hi))->Q (.tup []) H')->
  bi_.at E f [yQ lp,gI (at_:Int),.g (.fn gf [(lf,0),(lt,0),(B.length,0)])] H Q:=by
 intro f;induction f with
 |zero=>intro _ _ _ _ h;exact h.elim
 | succ f ih=>
  intro at_ H Q ps hg hat g hb hQ
  obtain⟨p,hp,hm,hkids⟩:=hg;obtain⟨l,o,c,p',rfl,hc,hp',hpc,g0,g1,g2,g3,g4⟩:=hT.get hat;rw[hp]at hp';cases hp';obtain⟨hv1,hv2⟩:=Cg_ hm;have hswap:p.keys.zip p.vals++(p.kids.flatMap λk=>allD T f k.toNat)=(p.kids.flatMap λk=>allD T f k.toNat)++p.keys.zip p.vals:=by
   cases hl:p.leaf with
   |true=>rw[(hm.2.leaf hl).2.1];simp
   |false=>rw[(hm.2.inner hl).2.1];simp
  rw[E1_ hp,hswap]at hb hQ;rw[kI,hv2]at hb;have hn1:=hpc.keys.len;have hn2:=hpc.vals.len;have hn3:=hpc.kids.len;have hl3:=hpc.kids.lim;have hl2:=hpc.vals.lim;have k48:∀k∈p.kids,1<=k/\k<48:=λk hk=>by
   cases hlf:p.leaf with
   |true=>rw[(hm.2.leaf hlf).2.1]at hk;simp at hk
   |false=>exact (hm.2.inner hlf).2.2.2.1 k hk
  have etN:tN (at_:Int)=at_:=rfl
  have l7:∀(F i:Nat)(H:Hp)(qs:KV),p.vals.length-i<F->i<=p.vals.length->SJ B H t qs->qs.length+(p.vals.length-i)<=1000->qs++((p.keys.zip p.vals).drop i).filter (inR lo hi)=ps++((p.kids.flatMap λk=>allD T f k.toNat)++p.keys.zip p.vals).filter (inR lo hi)->
   bi_.l7 E (bi_.at E f) F gf [(lf,0),(lt,0),(B.length,0)] l (o+at_*5) c.a2 c.n2 (nI c.n2) (i:Int) H Q:=by
   intro F;induction F with
   |zero=>intro i _ _ h;omega
   | succ F ihF=>
    intro i H qs hF hi' g hb he;have hH:=h0B.trans g.pre;rw[bi_.l7_eq];by_cases hik:i<p.vals.length
    ·rw[ay_ s_,af_,(hpc.mono hH).vals.rd i rfl hik,ac_ (v:= .sl c.a1 c.n1 1) (by exact cd_ hH g2),ah_,af_,(hpc.mono hH).keys.rd i rfl o_];have e:(p.keys.zip p.vals).drop i=(p.keys[i]'o_,p.vals[i])::(p.keys.zip p.vals).drop (i+1):=by
      rw[lB o_];simp
     rw[e]at he;rw[hE];refine q2_ g hf ht o_ _ _ λH' g'=>?_;rw[ao_ o_];have hfl:([(p.keys[i]'o_,p.vals[i])].filter (inR lo hi)).length<=1:=length_filter_le _ _;refine ihF (i+1) H' _ o_ o_ g' (by rw[kI];omega) ?_;rw[kV,<-filter_append];exact he
    .rw[aB_ s_];rw[drop_of_length_le o_,filter_nil,append_nil]at he;subst he;exact hQ H g
  have l2:∀(F i:Nat)(H:Hp)(qs:KV),p.kids.length-i+p.vals.length+2<F->i<=p.kids.length->SJ B H t qs->qs.length+((p.kids.drop i).flatMap λk=>allD T f k.toNat).length+p.vals.length<=1000->
   qs++(((p.kids.drop i).flatMap λk=>allD T f k.toNat)++p.keys.zip p.vals).filter (inR lo hi)=ps++((p.kids.flatMap λk=>allD T f k.toNat)++p.keys.zip p.vals).filter (inR lo hi)->
   bi_.l2 E (bi_.at E f) F (some (lp,0)) gf [(lf,0),(lt,0),(B.length,0)] l (o+at_*5) c.a3 c.n3 (nI c.n3) (i:Int) H Q:=by
   intro F;induction F with
   |zero=>intro i _ _ h;omega
   | succ F ihF=>
    intro i H qs hF hi' g hb he;have hH:=h0B.trans g.pre;rw[bi_.l2_eq];by_cases hik:i<p.kids.length
    .rw[BB_ p.kids i hik]at hb he;rw[kI]at hb;have hmem:=kE hik;have hk:=k48 _ hmem;have ek:p.kids[i]=((p.kids[i].toNat:Nat):Int):=by omega
     rw[ay_ s_,af_,(hpc.mono hH).kids.rd i rfl hik];generalize hkk:p.kids[i]=kk at*;rw[ek];refine ih kk.toNat H _ qs (hkids kk hmem) o_ g o_ λH' g'=>?_;rw[ao_ o_];have hfl:((allD T f kk.toNat).filter (inR lo hi)).length<=(allD T f kk.toNat).length:=length_filter_le _ _;refine ihF (i+1) H' _ o_ o_ g' (by rw[kI];omega) ?_;rw[kV,<-filter_append,<-kV (allD T f kk.toNat)];exact he
    .rw[aB_ s_,ac_ (v:= .sl c.a2 c.n2 1) (by exact cd_ hH g3),ah_];rw[drop_of_length_le o_,flatMap_nil,nil_append]at he;rw[drop_of_length_le o_]at hb;exact l7 F 0 H qs o_ o_ g (i_ hb) (by rw[drop_zero];exact he)
  have hH:=h0B.trans g.pre;refine⟨p.vals.length+p.kids.length+4,?_⟩;rw[z6_,ad_,ac_ (v:= .sl (some (l,o)) 48 5) (by exact cd_ g.pre hlp),ah_,af_];refine ab_ s_ ?_;rw[ad_,etN,ac_ (v:= .sl c.a3 c.n3 1) (by exact cd_ hH g4),ah_];exact l2 _ 0 H ps o_ o_ g (by rw[drop_zero];omega) (by rw[drop_zero])
end
section
variable{H:Hp}{Q:Post}{x:Pl}{n:Nat}{cs:List PC}{T:List Pg}{lo hi:Y_}
def uS_ (J:Tr H x n cs T) (G:∀a m H',H<+:H'->Own H' H.length tKV a (m*2) (bZ_ (uF_ T lo hi))->(uF_ T lo hi).length=m->Q (.tup [yR a m 2,nN (ky_ 1400 T)]) H'):hy_ [yA x n,gS lo,gS hi] H Q:=by
 refine⟨1,?_⟩;rw[yu_];simp only[fv_,ed_];generalize N:(((H++[Obj.row true tTr [.sl x n 5]])++[Obj.row true tS [.str lo]])++[Obj.row true tS [.str hi]])=B0;have F:H<+:B0:=g_
 have U:gt B0 H.length 0=some (.sl x n 5):=by rw[<-N];simp[gt]
 have gf:gt B0 (H++[Obj.row true tTr [.sl x n 5]]).length 0=some (.str lo):=by rw[<-N];simp[gt]
 have O:gt B0 ((H++[Obj.row true tTr [.sl x n 5]])++[Obj.row true tS [.str lo]]).length 0=some (.str hi):=by rw[<-N];simp[gt]
 rw[ac_ U,ah_];refine iu_ (J.mono F) λV r=>?_;simp only[aJ_,ak_];by_cases h:0<aL_ T
 ·have I:ky_ 1400 T=0:=by unfold ky_;rw[lE h]
  have D:el_ T=cL_ T:=by unfold el_;rw[lE h]
  rw[I]at G;rw[lE h,aB_ t_];have⟨st,s⟩:=SF.of h;have hn:n=48:=by have:=J.lenT;have:=s.len;omega
  subst hn;refine⟨49,xU_ (t:=K1_) (J.mono (F.trans r)) (k8 _) (cd_ r U) (cd_ r gf) (cd_ r O) (by rw[o3_]) 49 0 _ _ [] s.good o_
   ⟨b4_ _ _,none,0,t_,.inl ⟨rfl,rfl,rfl⟩,rfl⟩ (by have:=s.ents.2.2.2;unfold cL_ at this;simp;omega) λZ g=>?_⟩
  have⟨a,m,A,W,Y⟩:=g.out;rw[ac_ (by rw[aY_ A];rfl),ah_];refine G a m Z (F.trans (r.trans g.pre)) ?_ ?_
  .unfold uF_;rw[D];exact W.base g_
  .unfold uF_;rw[D];exact Y
 .have I:ky_ 1400 T=1400:=by unfold ky_;rw[lH h]
  have D:uF_ T lo hi=[]:=by unfold uF_ el_;rw[lH h];rfl
  rw[I,D]at G;rw[lH h,ay_ t_];exact G none 0 V (F.trans r) (.inl ⟨rfl,rfl,rfl⟩) rfl
def pO_(r:Tr H x n cs T)(A:∀a m H',H<+:H'->Own H' H.length tKV a (m*2) (bZ_ (el_ T))->(el_ T).length=m->Q (.tup [yR a m 2,nN (ky_ 1400 T)]) H'):hP_ [yA x n] H Q:=by
 refine⟨1,?_⟩;rw[Cu_];refine uS_ r λa m H' p o l=>?_;rw[FY_]at o l;simp_all
end
def snE(p:Y_ × Y_):Option (Y_ × SnapR):=match cu_ p.1 with|some n=>(bB_ p.2).map λx=>(n,x)|none=>none
def lnE(p:Y_ × Y_):Option (LKey × LVal):=match b1_ p.1 with|some k=>(fd_ p.2).map λx=>(k,x)|none=>none
def inE(p:Y_ × Y_):Option (Int × InoR):=match c7_ p.1 with|some i=>(cR_ p.2).map λx=>(i,x)|none=>none
def okE(p:Y_ × Y_):Bool:=(snE p).isSome||((lnE p).isSome||(inE p).isSome)
def jV_ (h:cu_ k=some n):b1_ k=none/\c7_ k=none:=by
 have⟨_,A,_⟩:=fX_ h;constructor
 .cases r:b1_ k with
  |none=>rfl
  |some x=>have:=(fY_ r).2.1;rw[A]at this;cases this
 .cases r:c7_ k with
  |none=>rfl
  |some x=>have:=(gI_ r).2.1;rw[A]at this;cases this
theorem ko_ {x:LKey} (h:b1_ k=some x):cu_ k=none/\c7_ k=none:=by
 have⟨_,A,_⟩:=fY_ h;constructor
 .cases r:cu_ k with
  |none=>rfl
  |some x=>have:=(fX_ r).2.1;rw[A]at this;cases this
 .cases r:c7_ k with
  |none=>rfl
  |some x=>have:=(gI_ r).2.1;rw[A]at this;cases this
theorem tR_ (h:c7_ k=some x):cu_ k=none/\b1_ k=none:=by
 have⟨_,A,_⟩:=gI_ h;constructor
 .cases r:cu_ k with
  |none=>rfl
  |some x=>have:=(fX_ r).2.1;rw[A]at this;cases this
 .cases r:b1_ k with
  |none=>rfl
  |some x=>have:=(fY_ r).2.1;rw[A]at this;cases this
def J2_(st:StD)(p:Y_ × Y_):StD:=⟨st.snaps++(snE p).toList,st.links++(lnE p).toList,st.inos++(inE p).toList⟩
theorem HI_ (st:StD) (p:Y_ × Y_):jq_ st p=if okE p=true then some (J2_ st p) else none:=by
 unfold jq_ okE J2_ snE lnE inE;cases A:cu_ p.1 with
 |some n=>
  have⟨G,r⟩:=jV_ A;grind
 | none=>
  cases D:b1_ p.1 with
  |some k=>
   have⟨_,r⟩:=ko_ D;grind
  |none=>
   cases F:c7_ p.1 with
   |some i=>cases cR_ p.2<;>simp
   |none=>simp
theorem CF_:∀(ps:KV)(st:StD),ij_ jq_ st ps=if (ps.all okE)=true then some ⟨st.snaps++ps.filterMap snE,st.links++ps.filterMap lnE,st.inos++ps.filterMap inE⟩ else none
 |[],st=>by simp[ij_]
 | p::ps,st=>by
  unfold ij_;rw[HI_];by_cases h:okE p=true
  ·rw[if_pos h];dsimp only;rw[CF_ ps,all_cons,h,Bool.true_and];have r:∀{β:Type}(f:Y_ × Y_->Option β),(p::ps).filterMap f=(f p).toList++ps.filterMap f:=λf=>by
    grind
   simp[r,J2_]
  .grind
theorem qr_(ps:KV):eW_ ps=if (ps.all okE)=true then some ⟨ps.filterMap snE,ps.filterMap lnE,ps.filterMap inE⟩ else none:=by
 unfold eW_;rw[CF_];rfl
def kQ_(h:eW_ ps=some st):(∀p∈ps,okE p=true)/\st=⟨ps.filterMap snE,ps.filterMap lnE,ps.filterMap inE⟩:=by
 rw[qr_]at h;grind
structure Aj_(st:StD):Prop where
 snaps:∀x∈st.snaps,aZ_ x.1 4=true/\fG_ x.2=true
 links:∀x∈st.links,(1<=x.1.1/\x.1.1<=255)/\aZ_ x.1.2 3=true/\0<=x.2.1/\x.2.1<=255
 inos:∀x∈st.inos,(1<=x.1/\x.1<=255)/\ev_ x.2=true
def BS_(h:bB_ s=some x):fG_ x=true:=by
 unfold bB_ at h;grind
def Dd_(h:cR_ s=some x):ev_ x=true:=by
 unfold cR_ at h;grind
theorem rW_ (h:snE p=some x):cu_ p.1=some x.1/\bB_ p.2=some x.2:=by
 unfold snE at h;cases A:cu_ p.1 with
 |none=>rw[A]at h;cases h
 |some n=>
  rw[A]at h;cases r:bB_ p.2 with
  |none=>rw[r]at h;cases h
  |some y=>rw[r]at h;cases h;exact⟨rfl,rfl⟩
theorem lG_ (h:lnE p=some x):b1_ p.1=some x.1/\fd_ p.2=some x.2:=by
 unfold lnE at h;cases A:b1_ p.1 with
 |none=>rw[A]at h;cases h
 |some n=>
  rw[A]at h;cases r:fd_ p.2 with
  |none=>rw[r]at h;cases h
  |some y=>rw[r]at h;cases h;exact⟨rfl,rfl⟩
theorem wL_ (h:inE p=some x):c7_ p.1=some x.1/\cR_ p.2=some x.2:=by
 unfold inE at h;cases A:c7_ p.1 with
 |none=>rw[A]at h;cases h
 |some n=>
  rw[A]at h;cases r:cR_ p.2 with
  |none=>rw[r]at h;cases h
  |some y=>rw[r]at h;cases h;exact⟨rfl,rfl⟩
def FZ_(h:fd_ s=some x):0<=x.1/\x.1<=255:=by
 unfold fd_ at h;split at h
 .cases h;exact le_ _ _
 .cases h
def oM_(h:eW_ ps=some st):Aj_ st:=by
 obtain⟨_,rfl⟩:=kQ_ h;refine⟨λx A=>?_,λx A=>?_,λx A=>?_⟩
 .have⟨p,_,e⟩:=mem_filterMap.1 A;have⟨D,r⟩:=rW_ e;exact⟨(fX_ D).2.2.1,BS_ r⟩
 .have⟨p,_,e⟩:=mem_filterMap.1 A;have⟨D,r⟩:=lG_ e;have⟨_,_,F,G,I⟩:=fY_ D;refine⟨?_,G,FZ_ r⟩;rw[I];exact⟨F,(le_ _ _).2⟩
 .have⟨p,_,e⟩:=mem_filterMap.1 A;have⟨D,r⟩:=wL_ e;have⟨_,_,F,G⟩:=gI_ D;refine⟨?_,Dd_ r⟩;rw[G];exact⟨F,(le_ _ _).2⟩
def ix_(h:eW_ ps=some st):st.snaps.length<=ps.length/\st.links.length<=ps.length/\st.inos.length<=ps.length:=by
 obtain⟨_,rfl⟩:=kQ_ h;grind
def A5_ (h:eW_ ps=some st):st.snaps.length+st.links.length+st.inos.length=ps.length:=by
 obtain⟨D,rfl⟩:=kQ_ h;clear h;induction ps with
 |nil=>rfl
 | cons p ps N=>
  have r:=D p t_;have one:(snE p).toList.length+(lnE p).toList.length+(inE p).toList.length=1:=by
   unfold okE at r;cases F:snE p with
   |some x=>
    have⟨J,A⟩:=jV_ (rW_ F).1;simp[lnE,inE,J,A]
   | none=>
    cases G:lnE p with
    |some x=>
     have⟨_,A⟩:=ko_ (lG_ G).1;simp[inE,A]
    |none=>
     rw[F,G]at r;cases I:inE p with
     |some x=>rfl
     |none=>rw[I]at r;cases r
  grind
def e6_(h:aZ_ s m=true):1<=(s.size:Int)/\(s.size:Int)<=m:=by
 unfold aZ_ at h;simp_all
def Er_ (h:1<=s.size):∃b,bs s=b::bs (sub s 1 s.size)/\((b.toNat:Nat):Int)=byt s 0:=by
 have e:=tN_ s 0 o_;cases r:bs s with
 |nil=>rw[r]at e;simp at e
 |cons b t=>
  refine⟨b,?_,g_⟩;rw[iJ_,r];rfl
def r8_ (h:2<=s.size):∃b c,bs s=b::c::bs (sub s 2 s.size)/\((b.toNat:Nat):Int)=byt s 0/\((c.toNat:Nat):Int)=byt s 1:=by
 have e:=tN_ s 0 o_;have A:=tN_ s 1 o_;cases r:bs s with
 |nil=>rw[r]at e;simp at e
 | cons b t=>
  cases t with
  |nil=>rw[r]at A;simp at A
  |cons c t=>
   rw[r]at e A;refine⟨b,c,?_,g_,u_ A⟩;rw[iJ_,r];rfl
theorem lD_(b c:UInt8)(s t:List UInt8):Op.bytesLess (b::s) (c::t)=(decide (b<c)||(b==c&&Op.bytesLess s t)):=rfl
theorem HK_(h:cu_ k=some n)(I:cu_ k'=some n'):blt k k'=blt n n':=by
 have⟨A,U,_,D⟩:=fX_ h;have⟨J,N,_,G⟩:=fX_ I;have⟨b,r,O⟩:=Er_ A;have⟨c,F,V⟩:=Er_ J;unfold blt;rw[r,F,lD_,D,G];have:b=c:=UInt8.toNat_inj.1 o_;grind
theorem I0_(h:c7_ k=some n)(D:c7_ k'=some n'):blt k k'=decide (n<n'):=by
 have⟨V,Z,_,J⟩:=gI_ h;have⟨I,U,_,t3⟩:=gI_ D;have⟨b,O,r,G,N⟩:=r8_ (s:=k) o_;have⟨c,Y,A,f2,W⟩:=r8_ (s:=k') o_;have z:bs (sub k 2 k.size)=[]:=by rw[iJ_];exact drop_eq_nil_of_le (by rw[hC_];omega)
 have F:bs (sub k' 2 k'.size)=[]:=by rw[iJ_];exact drop_eq_nil_of_le (by rw[hC_];omega)
 unfold blt;rw[r,A,lD_,lD_,z,F];have:b=c:=UInt8.toNat_inj.1 o_;subst this;simp[Op.bytesLess,UInt8.lt_iff_toNat_lt];omega
theorem GK_{x x':LKey}(h:b1_ k=some x)(D:b1_ k'=some x')(e:x.1=x'.1):blt k k'=blt x.2 x'.2:=by
 have⟨s1,s2,_,_,F⟩:=fY_ h;have⟨V,Z,_,_,O⟩:=fY_ D;have⟨b,G,r,U,W⟩:=r8_ (s:=k) o_;obtain⟨c,N,A,f2,f3⟩:=r8_ o_;have Y:byt k 1=byt k' 1:=g_
 have I:b=c:=UInt8.toNat_inj.1 o_;have J:G=N:=UInt8.toNat_inj.1 o_;subst I;subst J;unfold blt;rw[r,A,lD_,lD_,F,O];simp
structure B2_(st:StD):Prop where
 snaps:st.snaps.Pairwise λx y=>blt x.1 y.1=true
 links:st.links.Pairwise λx y=>x.1≠y.1/\(x.1.1=y.1.1->blt x.1.2 y.1.2=true)
 inos:st.inos.Pairwise λx y=>x.1<y.1
def h8_ {α β:Type} {R:α->α->Prop} {S:β->β->Prop} {f:α->Option β} (r:∀a b x y,R a b->f a=some x->f b=some y->S x y):∀{l:List α},l.Pairwise R->(l.filterMap f).Pairwise S
 |[],_=>Pairwise.nil
 | a::l,h=>by
  have A:=kW.1 h;rw[filterMap_cons];cases e:f a with
  |none=>exact h8_ r A.2
  |some x=>
   refine kW.2 ⟨λy D=>?_,h8_ r A.2⟩;grind
def iv_ (I:Asc ps) (h:eW_ ps=some st):B2_ st:=by
 obtain⟨_,rfl⟩:=kQ_ h;refine⟨h8_ (λa b x y r A D=>?_) I,h8_ (λa b x y r A D=>?_) I,h8_ (λa b x y r A D=>?_) I⟩
 .rw[<-HK_ (rW_ A).1 (rW_ D).1];exact r
 .refine⟨λq=>?_,λq=>?_⟩
  .have F:=(lG_ A).1;rw[q]at F;have:=CE_ F (lG_ D).1;have G:=r;rw[this,b0_]at G;cases G
  .rw[<-GK_ (lG_ A).1 (lG_ D).1 q];exact r
 .have G:=r;rw[I0_ (wL_ A).1 (wL_ D).1]at G;grind
def x0_(st:StD)(id:Int):List FileR:=(st.links.filter λl=>decide (l.1.1=id)).map (bs_ st)
def aA_(st:StD):List InfoR:=st.snaps.map λx=>⟨x.1,x.2.kind,x.2.parent,x.2.label,x0_ st x.2.id⟩
theorem g3_ [DecidableEq α] {x:α × β} (D:(ps.map (·.1)).Nodup) (r:x∈ps):look ps x.1=some x.2:=by
 cases h:look ps x.1 with
 |none=>exact absurd rfl (oZ_ h x r)
 |some v=>
  have A:=cU_ h;have⟨i,F,G⟩:=kK r;have⟨j,J,I⟩:=kK A;have:i=j:=(getElem_inj (h₀:=g_) (h₁:=by simpa) D).1 g_;grind
def DX_(st:StD)(id:Int)(f:FileR):f∈x0_ st id↔∃l∈st.links,l.1.1=id/\f=bs_ st l:=by
 unfold x0_;grind
def D0_(r:B2_ st)(id:Int):cl_ st id (x0_ st id):=by
 refine⟨?_,DX_ st id⟩;unfold x0_ hO_;rw[pairwise_map];have h:=Pairwise.filter (λl:LKey × LVal=>decide (l.1.1=id)) r.links;exact Pairwise.imp_of_mem (λ{a b} r A h=>h.2 g_) h
def ux_(r:B2_ st):(st.snaps.map (·.1)).Nodup:=by
 refine Pairwise.map _ (λa b h e=>?_) r.snaps;rw[e,b0_]at h;cases h
def il_(r:B2_ st):cI_ st (aA_ st):=by
 have e:(aA_ st).map (·.name)=st.snaps.map (·.1):=by unfold aA_;rw[map_map];rfl
 refine⟨by rw[e],?_,λi A=>?_⟩
 .rw[e,pairwise_map];exact r.snaps
 .obtain⟨x,D,rfl⟩:=lA.1 A;exact⟨x.2,g3_ (ux_ r) D,rfl,rfl,rfl,D0_ r _⟩
def vz_ {α:Type} {R:α->α->Prop} (D:∀a,¬ R a a) (A:∀a b,R a b-> ¬ R b a):∀{l m:List α},l.Pairwise R->m.Pairwise R->(∀x,x∈l↔x∈m)->l=m
 |[],[],_,_,_=>rfl
 |[],g::G,_,_,h=>absurd ((h g).2 mem_cons_self) not_mem_nil
 |f::O,[],_,_,h=>absurd ((h f).1 mem_cons_self) not_mem_nil
 | f::O,g::G,F,J,h=>by
  have I:=kW.1 F;have N:=kW.1 J;have e:f=g:=by
   rcases kU.1 ((h f).1 mem_cons_self) with q|q
   .exact q
   .rcases kU.1 ((h g).2 mem_cons_self) with r|r
    .grind
    .grind
  congr 1;refine vz_ D A I.2 N.2 λx=>⟨λq=>?_,λq=>?_⟩
  .grind
  .grind
theorem cI_.unique (A:cI_ st is) (G:cI_ st js):is=js:=by
 have V:∀a:Y_,¬ blt a a=true:=λa q=>by rw[b0_]at q;cases q
 have Y:∀a b:Y_,blt a b=true-> ¬ blt b a=true:=λa b q r=>by rw[dC_ q]at r;cases r
 have J:=vz_ V Y A.asc G.asc λx=>A.perm.mem_iff.trans G.perm.mem_iff.symm;have W:is.length=js.length:=by have:=congrArg length J;simpa
 apply ext_getElem W;intro k D F;have⟨x,I,x2,x3,x4,U⟩:=(A.info _ (kE D)).mem;have⟨y,N,y2,Z,y4,O⟩:=(G.info _ (kE F)).mem;have e:is[k].name=js[k].name:=by
  have:=congrArg (λl:List Y_=>l[k]?) J;grind
 rw[e,N]at I;cases I;have hf:=U.unique O;cases hi:is[k];cases hj:js[k];grind
def jA_(st:StD):Bool:=dG_ st&&(decide (st.snaps.map λx=>x.2.id).Nodup&&bu_ (aA_ st) (aA_ st).length 0)
def eH_(ps:KV):Option StD:=match eW_ ps with|some st=>(match jA_ st with|true=>some st|false=>none)|none=>none
def ofD(T:List Pg):Option StD:=match decide (0<aL_ T) with|true=>eH_ (el_ T)|false=>none
def kG_:eH_ ps=some st↔eW_ ps=some st/\jA_ st=true:=by
 unfold eH_;cases eW_ ps with
 |none=>simp
 |some s=>
  dsimp;cases h:jA_ s with
  |true=>exact⟨λe=>g_,λe=>e.1⟩
  |false=>exact⟨λe=>g_,fun⟨r,A⟩=>g_⟩
def bT_.hold(h:bT_ H b a is)(J:∀l,b<=l->H'[l]?=H[l]?):bT_ H' b a is:=by
 rcases h with q|⟨l,F,rfl,I,N,D⟩
 .exact .inl q
 .exact .inr ⟨l,F,rfl,I,g_,D.keep λG A r _=>⟨J G A,r⟩⟩
def cI_.sizes (ok:Aj_ st) (h:cI_ st is) (A:st.links.length<=1000):is.length=st.snaps.length/\∀x∈is,x.name.size<=140737488351232/\x.files.length<=100000/\∀f∈x.files,f.1.size<=140737488351232:=by
 refine⟨by have:=h.perm.length_eq;simpa using this,λx I=>?_⟩;have⟨y,J,_,_,_,G⟩:=(h.info x I).mem;refine⟨?_,?_,λf F=>?_⟩
 .have:=e6_ (ok.snaps _ (cU_ J)).1;grind
 ·have D:x.files.Nodup:=by
   refine Pairwise.imp (λ{a b} r e=>?_) G.asc;rw[e,b0_]at r;cases r
  have:=(d8_ (st.links.map (bs_ st)) x.files D λf F=>by
   have⟨l,A,_,e⟩:=(G.mem f).1 F;exact lA.2 ⟨l,A,e.symm⟩).1
  grind
 .have⟨l,A,_,e⟩:=(G.mem f).1 F;have:=e6_ (ok.links l A).2.1;rw[e];unfold bs_;dsimp;omega
section
variable{H:Hp}{Q:Post}{x:Pl}{n:Nat}{cs:List PC}{T:List Pg}{E:Nat->Sm}
theorem DO_{ps:KV}(hi:i<ps.length)(st:StD):ij_ kJ_ st (ps.drop i)=match kJ_ st ps[i] with|some r=>ij_ kJ_ r (ps.drop (i+1))|none=>none:=by
 rw[lB hi];rfl
structure Lf_(H H':Hp)(x:Pl)(n sp ms ml mi b:Nat)(a:Pl)(st:StD):Prop where
 at_:fb_ H' sp (.sl x n 5) ms ml mi (.sl a (aA_ st).length 5) st
 row:∃t,H'[sp]?=some (.row true t [.sl x n 5,.map (some ms),.map (some ml),.map (some mi),.sl a (aA_ st).length 5])
 infos:bT_ H' b a (aA_ st)
 pre:H<+:H'
 low:H.length<=ms/\H.length<=ml/\H.length<=mi/\H.length<=sp/\H.length<=b
 lowb:sp<b/\ms<b/\ml<b/\mi<b
def k8_ (hT:Tr H x n cs T)
 (h1:ofD T=none->∀H' p,H<+:H'->Q (.tup [.s (.ptr p),.s (.bool false)]) H')
 (h2:∀st,ofD T=some st->∀H' sp ms ml mi b a,Lf_ H H' x n sp ms ml mi b a st->Q (.tup [.s (.ptr (some (sp,0))),.s (.bool true)]) H'):
 dU_ E [yA x n] H Q:=by
 refine⟨(el_ T).length+3,?_⟩;rw[BR_];refine pO_ hT λa m H1 p1 o1 l1=>?_;simp only[aH_,aD_,bD_,ah_,ai_,a8_,fv_,ed_];have etn:∀k:Nat,tN (k:Int)=k:=λ_=>rfl;have e0:(((H1++[Obj.map [] 0])++[Obj.map [] 0])++[Obj.map [] 0]).length=H1.length+3:=t_
 have e1:((H1++[Obj.map [] 0])++[Obj.map [] 0]).length=H1.length+2:=t_
 have e2:(H1++[Obj.map [] 0]).length=H1.length+1:=t_
 rw[e0,e1,e2];have hl1:=p1.length_le;have hm60:=oG_ T;have hkv:=z8_ T;generalize hG:(((H1++[Obj.map [] 0])++[Obj.map [] 0])++[Obj.map [] 0])++[Obj.row true zW_ [.sl x n 5,.map (some H1.length),.map (some (H1.length+1)),.map (some (H1.length+2)),.sl none 0 5]]=G0;have pG:H1<+:G0:=by rw[<-hG];exact (((b4_ _ _).trans (b4_ _ _)).trans (b4_ _ _)).trans (b4_ _ _)
 have lG:G0.length=H1.length+4:=by rw[<-hG];simp
 have atG:∀(k:Nat),G0[H1.length+k]?=([Obj.map [] 0,Obj.map [] 0,Obj.map [] 0,Obj.row true zW_ [.sl x n 5,.map (some H1.length),.map (some (H1.length+1)),.map (some (H1.length+2)),.sl none 0 5]]:List Obj)[k]? :=λk=>by
  have:G0=H1++[Obj.map [] 0,Obj.map [] 0,Obj.map [] 0,Obj.row true zW_ [.sl x n 5,.map (some H1.length),.map (some (H1.length+1)),.map (some (H1.length+2)),.sl none 0 5]]:=by rw[<-hG];simp
  rw[this,getElem?_append_right o_];congr 1;omega
 have emp:∀{α β:Type}{ek:α->RV}{ev:β->RV}(l:Nat),G0[l]?=some (.map [] 0)->dS_ ek ev G0 l ([]:List (α × β)):=λl h=>
  ⟨⟨[],0,h,rfl,(λe h=>absurd h not_mem_nil),nodup_nil⟩,nodup_nil⟩
 have S0:fb_ G0 (H1.length+3) (.sl x n 5) H1.length (H1.length+1) (H1.length+2) (.sl none 0 5) st0:=
  ⟨⟨zW_,by rw[atG 3];rfl⟩,emp _ (by have:=atG 0;simpa using this),emp _ (by have:=atG 1;simpa using this),emp _ (by have:=atG 2;simpa using this),o_,o_,o_⟩
 have hdec:ij_ kJ_ st0 (el_ T)=eW_ (el_ T):=Hm_ (tJ_ (lM_ T));have go:∀(f i:Nat)(G:Hp)(st:StD),m-i<f->i<=m->H1<+:G->G.length=H1.length+4->fb_ G (H1.length+3) (.sl x n 5) H1.length (H1.length+1) (H1.length+2) (.sl none 0 5) st->
  ij_ kJ_ st ((el_ T).drop i)=eW_ (el_ T)->dU_.l4 E (f+1) (ky_ 1400 T) (H1.length+3) 0 (H1.length+3) 0 a m (nI m) ((i:Nat):Int) G Q:=by
  intro f;induction f with
  |zero=>intro i G st h;omega
  | succ f ih=>
   intro i G st hf hi hG1 hGl hS hd;rw[dU_.l4_eq];refine aa_ (λe=>?_) λe=>?_
   .have him:i<m:=by simpa using e
    obtain⟨l,o,rfl,q1,q2⟩:=Kv.get (H:=G) (Kv.mono hG1 ⟨o1.cells,l1⟩) (i:=i) o_;refine ab_ rfl (ab_ s_ ?_);simp only[ad_,etn];rw[ac_ q1,aq_,ac_ q2,aq_];have hmem:=hkv _ (kE (o_:i<(el_ T).length));rw[DO_ o_]at hd;refine sP_ o_ o_ hS (λhn G' hu=>?_) λst' hs G' hu hS'=>?_
    .simp only[aJ_,ak_];rw[show kJ_ st (el_ T)[i]=none from hn]at hd;refine aa_ (λ_=>?_) (c_);refine h1 ?_ G' none (p1.trans (kg_ hG1 hu.len λl hl=>hu.row l o_));unfold ofD eH_;rw[<-hd];cases decide (0<aL_ T)<;>rfl
    .simp only[aJ_,ak_];rw[show kJ_ st (el_ T)[i]=some st' from hs]at hd;rw[ao_ o_];refine aa_ (c_) λ_=>?_;refine ih (i+1) G' st' o_ him (kg_ hG1 hu.len λl hl=>hu.row l o_) (by rw[hu.len,hGl]) hS' hd
   ·have him:i=m:=by have: ¬ i<m:=by simpa using e
                     omega
    subst him;rw[drop_eq_nil_of_le o_]at hd;have hd':eW_ (el_ T)=some st:=hd.symm;have pH:H<+:G:=p1.trans hG1;refine aa_ (λe=>?_) λe=>?_
    .refine h1 ?_ G none pH;unfold ofD;cases hh:decide (0<aL_ T) with
     |false=>rfl
     |true=>unfold ky_ at e;rw[hh]at e;cases e
    have hh:decide (0<aL_ T)=true:=by
     cases hh:decide (0<aL_ T) with
     |true=>rfl
     |false=>unfold ky_ at e;rw[hh]at e;cases e
    have hof:ofD T=match jA_ st with|true=>some st|false=>none:=by
     unfold ofD eH_;rw[hh,hd']<;>rfl
    obtain⟨n1,n2,n3⟩:=ix_ hd';have ok:=oM_ hd';have hasc:=iv_ (lM_ T) hd';refine ql_ hS ⟨o_,o_⟩ (λy hy=>?_) λG1 pG1=>?_
    .have:=(ok.inos y hy).2;unfold ev_ at this;simp only[kR]at this;simpa using this.1.1
    simp only[aJ_,ak_];refine aa_ (λe=>?_) λe=>?_
    .refine h1 ?_ G1 none (pH.trans pG1);rw[hof,show jA_ st=false by unfold jA_;rw[dZ_ e,Bool.false_and]]
    have k1:=eB_ e;have hS1:=hS.keep (H':=G1) λl hl=>a9_ pG1 hl;refine rV_ hS1 o_ λG2 pG2=>?_;simp only[aJ_,ak_];refine aa_ (λe=>?_) λe=>?_
    .refine h1 ?_ G2 none (pH.trans (pG1.trans pG2));rw[hof,show jA_ st=false by unfold jA_;rw[dZ_ e,Bool.false_and,Bool.and_false]]
    have k2:=eB_ e;have hS2:=hS1.keep (H':=G2) λl hl=>a9_ pG2 hl;refine s8_ hS2 (λy hy=>by have:=e6_ (ok.snaps y hy).1;omega) o_ o_ λG3 b ia is pG3 hb hia hof3=>?_;have his:is=aA_ st:=hof3.unique (il_ hasc);subst his;have hS3:=hS2.keep (H':=G3) λl hl=>a9_ pG3 hl;obtain⟨t,hr⟩:=hS3.row;simp only[aJ_,ah_];have gl:=pG1.length_le;have gl2:=pG2.length_le;have gl3:=pG3.length_le;have hne:H1.length+3<b:=o_
    refine ce_ hr t_ ?_;generalize hG4:G3.set (H1.length+3) (.row true t ([.sl x n 5,.map (some H1.length),.map (some (H1.length+1)),.map (some (H1.length+2)),.sl none 0 5].set (0+4) (.sl ia (aA_ st).length 5)))=G4;have r4:G4[H1.length+3]?=some (.row true t [.sl x n 5,.map (some H1.length),.map (some (H1.length+1)),.map (some (H1.length+2)),.sl ia (aA_ st).length 5]):=by
     rw[<-hG4,kH o_];rfl
    have k4:∀l,l≠H1.length+3->G4[l]?=G3[l]? :=λl hl=>by rw[<-hG4,kF (Ne.symm hl)]
    have l4:G4.length=G3.length:=by rw[<-hG4];simp
    have hia4:=hia.hold (H':=G4) λl hl=>k4 l o_;rw[ac_ (v:= .sl ia (aA_ st).length 5) (by rw[aY_ r4];rfl),ah_];have sz:=(il_ hasc).sizes ok o_;refine mH_ hia4.rd o_ sz.2 ?_;simp only[aJ_,ak_];have p4:H<+:G4:=kg_ (pH.trans (pG1.trans (pG2.trans pG3))) l4 λl hl=>k4 l o_;cases hf:bu_ (aA_ st) (aA_ st).length 0 with
    |false=>exact h1 (by rw[hof,show jA_ st=false by unfold jA_;rw[hf,Bool.and_false,Bool.and_false]]) G4 _ p4
    | true=>
     have hS4:fb_ G4 (H1.length+3) (.sl x n 5) H1.length (H1.length+1) (H1.length+2) (.sl ia (aA_ st).length 5) st:=
      ⟨⟨t,r4⟩,hS3.snaps.keep (k4 _ o_),hS3.links.keep (k4 _ o_),hS3.inos.keep (k4 _ o_),hS3.d1,hS3.d2,hS3.d3⟩
     exact h2 st (by rw[hof,show jA_ st=true by unfold jA_;rw[k1,k2,hf];rfl]) G4 _ _ _ _ b ia ⟨hS4,⟨t,r4⟩,hia4,p4,⟨o_,o_,o_,o_,o_⟩,⟨o_,o_,o_,o_⟩⟩
 exact go _ 0 G0 st0 o_ (kP _) pG lG S0 (by rw[drop_zero];exact hdec)
end
def cK_(is:List InfoR)(s:Y_):Option InfoR:=is.find? λi=>decide (i.name=s)
def jZ_ (h:ofD T=some st):0<aL_ T/\eW_ (el_ T)=some st/\jA_ st=true:=by
 unfold ofD at h;cases A:decide (0<aL_ T) with
 |false=>rw[A]at h;cases h
 |true=>
  rw[A]at h;exact⟨of_decide_eq_true A,kG_.1 h⟩
def FW_(h:B2_ st):hM_ (aA_ st):=by
 have:=(il_ h).asc;rw[pairwise_map]at this;exact this
theorem qT_(A:hM_ is):(is.any λy=>decide (y.name=s))=(cK_ is s).isSome/\∀i,cK_ is s=some i->is[dP_ is s]?=some i:=by
 constructor
 .unfold cK_;grind
 .intro i r;unfold cK_ at r;have F:=mem_of_find?_eq_some r;obtain⟨k,D,rfl⟩:=kK F;have:=AO_ A D;grind
section
variable{H:Hp}{Q:Post}{x:Pl}{n:Nat}{cs:List PC}{T:List Pg}{E:Nat->Sm}{s:Y_}
end
theorem c8_ {α:Type} {f:α->List GV} (A:∀x,(f x).length=m):∀(l:List α)(i:Nat)(hi:i<l.length)(j:Nat),j<m->(l.flatMap f)[i*m+j]?=(f l[i])[j]?
 |[],i,hi,_,_=>g_
 |x::l,0,hi,j,r=>by
  grind
 |x::l,i+1,hi,j,r=>by
  rw[flatMap_cons,getElem?_append_right g_,show (i+1)*m+j-(f x).length=i*m+j by rw[A,Nat.succ_mul];omega,c8_ A l i g_ j r];rfl
def wP_(h:Own H b t a n cs)(r:0<n):∃l,a=some (l,0)/\∀j,gt H l j=cs[j]? :=by
 rcases h with⟨_,rfl,_⟩|⟨l,rfl,_,A,_⟩
 .cases r
 .exact⟨l,rfl,λj=>aY_ A⟩
section
variable{B H:Hp}{Q:Post}{sp n1 n2 n3:Nat}{a1 a2 a3:Pl}{st:StD}
theorem dd_.mono(h:dd_ B H sp a1 n1 a2 n2 a3 n3 st){H':Hp}(p:H<+:H'):dd_ B H' sp a1 n1 a2 n2 a3 n3 st:=by
 have⟨t,r⟩:=h.row;exact⟨⟨t,by rw[a9_ p (kC.1 r).1];exact r⟩,h.pre.trans p,h.base,h.snaps.keep λl e=>a9_ p (h.snaps.lt' e),h.links.keep λl e=>a9_ p (h.links.lt' e),h.inos.keep λl e=>a9_ p (h.inos.lt' e),h.l1,h.l2,h.l3,h.d12,h.d13,h.d23,h.s1,h.s2,h.s3⟩
def dd_.snapG(h:dd_ B H sp a1 n1 a2 n2 a3 n3 st)(i:Nat)(hi:i<st.snaps.length):∃l,a1=some (l,0)/\gt H l (i*5)=some (.str st.snaps[i].1)/\gt H l (i*5+1)=some (.int .i64 st.snaps[i].2.id)/\gt H l (i*5+1+1)=some (.int .i64 st.snaps[i].2.kind)/\
 gt H l (i*5+1+1+1)=some (.str st.snaps[i].2.parent)/\gt H l (i*5+1+1+1+1)=some (.str st.snaps[i].2.label):=by
 have⟨l,e,A⟩:=wP_ h.snaps (h_ h.l1);have r:∀x,(Bb_ x).length=5:=λx=>rfl;refine⟨l,e,?_,?_,?_,?_,?_⟩<;>rw[A]
 .exact c8_ r _ i hi 0 o_
 .exact c8_ r _ i hi 1 o_
 .exact c8_ r _ i hi 2 o_
 .exact c8_ r _ i hi 3 o_
 .exact c8_ r _ i hi 4 o_
def dd_.linkG(h:dd_ B H sp a1 n1 a2 n2 a3 n3 st)(i:Nat)(hi:i<st.links.length):∃l,a2=some (l,0)/\gt H l (i*4)=some (.int .i64 st.links[i].1.1)/\gt H l (i*4+1)=some (.str st.links[i].1.2)/\gt H l (i*4+1+1)=some (.int .i64 st.links[i].2.1)/\
 gt H l (i*4+1+1+1)=some (.bool st.links[i].2.2)/\gt H l (i*4+2)=some (.int .i64 st.links[i].2.1):=by
 have⟨l,e,A⟩:=wP_ h.links (h_ h.l2);have r:∀x,(Bi_ x).length=4:=λx=>rfl;refine⟨l,e,?_,?_,?_,?_,?_⟩<;>rw[A]
 .exact c8_ r _ i hi 0 o_
 .exact c8_ r _ i hi 1 o_
 .exact c8_ r _ i hi 2 o_
 .exact c8_ r _ i hi 3 o_
 .exact c8_ r _ i hi 2 o_
def dd_.inoG(h:dd_ B H sp a1 n1 a2 n2 a3 n3 st)(i:Nat)(hi:i<st.inos.length):∃l,a3=some (l,0)/\gt H l (i*3)=some (.int .i64 st.inos[i].1)/\gt H l (i*3+1)=some (.int .i64 st.inos[i].2.links)/\gt H l (i*3+1+1)=some (.str st.inos[i].2.content):=by
 have⟨l,e,A⟩:=wP_ h.inos (h_ h.l3);have r:∀x,(inoC x).length=3:=λx=>rfl;refine⟨l,e,?_,?_,?_⟩<;>rw[A]
 .exact c8_ r _ i hi 0 o_
 .exact c8_ r _ i hi 1 o_
 .exact c8_ r _ i hi 2 o_
def ve_(l:List Int)(k:Int):Int:=match l.findIdx? (λx=>decide (x=k)) with|some i=>(i:Int)|none=> -1
theorem vK_ {i:Nat} (hi:i<l.length) (h:l[i]=k) (r:∀j (A:j<l.length),j<i->l[j]≠k):ve_ l k=i:=by
 unfold ve_;have:l.findIdx? (λx=>decide (x=k))=some i:=by
  rw[findIdx?_eq_some_iff_getElem];grind
 grind
theorem zw_ (h:∀j (r:j<l.length),l[j]≠k):ve_ l k= -1:=by
 unfold ve_;have:l.findIdx? (λx=>decide (x=k))=none:=by
  rw[findIdx?_eq_none_iff];intro x A;obtain⟨j,r,rfl⟩:=kK A;grind
 grind
def jm_ (h:dd_ B H sp a1 n1 a2 n2 a3 n3 st) (Z:st.snaps.length<=1000) {k:Int} (I:Q (gI (ve_ (st.snaps.map (·.2.id)) k)) H):bb_ [yQ sp,gI k] H Q:=by
 have ⟨N,g2,g3⟩:=h.rd;refine⟨st.snaps.length+2,?_⟩;rw[pu_];have O:∀k:Nat,tN (k:Int)=k:=λ_=>rfl;have hl:=h.l1;have go:∀(f i),f=st.snaps.length-i->i<=st.snaps.length->(∀j A,j<i->st.snaps[j].2.id≠k)->bb_.l2 (f+1) (some (sp,0)) k (i) H Q:=by
  intro f;induction f with
  | zero=>
   intro i Y V G;rw[bb_.l2_eq];simp only[ad_];rw[ac_ N,ah_];refine aa_ (λe=>?_) λe=>?_
   .have:i<n1:=by simp_all
    omega
   .rw[zw_ λj A=>by rw[getElem_map];rw[k9]at A;exact G j A o_]at I;exact I
  | succ f W=>
   intro i Y V G;have F:i<st.snaps.length:=o_
   rw[bb_.l2_eq];simp only[ad_];rw[ac_ N,ah_];refine aa_ (λe=>?_) (m_);rw[ac_ N,ah_];refine ab_ rfl (ab_ s_ ?_);obtain⟨l,rfl,r1,U,_⟩:=h.snapG i F;simp[ad_];rw[ac_ U,ai_];refine aa_ (λe=>?_) λe=>?_
   .have J:st.snaps[i].2.id=k:=by simpa using e
    rw[vK_ (by simpa) (by rw[getElem_map];exact J) λj A D=>by rw[getElem_map];exact G j o_ D]at I;exact I
   .have J: ¬ st.snaps[i].2.id=k:=by simpa using e
    rw[ao_ o_];refine W (i+1) o_ F λj A D=>?_;rcases Nat.lt_or_eq_of_le (Nat.le_of_lt_succ D) with q|q
    .exact G j A q
    .subst q;exact J
 exact go _ 0 rfl (kP _) λj A h=>o_
def eO_ (h:dd_ B H sp a1 n1 a2 n2 a3 n3 st) (Z:st.inos.length<=1000) (G:Q (gI (ve_ (st.inos.map (·.1)) k)) H):aO_ [yQ sp,gI k] H Q:=by
 have ⟨g1,g2,J⟩:=h.rd;refine⟨st.inos.length+2,?_⟩;rw[n1_];have O:∀k:Nat,tN (k:Int)=k:=λ_=>rfl;have hl:=h.l3;have go:∀(f i),f=st.inos.length-i->i<=st.inos.length->(∀j D,j<i->st.inos[j].1≠k)->aO_.l2 (f+1) (some (sp,0)) k (i) H Q:=by
  intro f;induction f with
  | zero=>
   intro i Y V I;rw[aO_.l2_eq];simp;rw[ac_ J,ah_];refine aa_ (λe=>?_) λe=>?_
   .have:i<n3:=by simpa using e
    omega
   .rw[zw_ λj D=>g_]at G;exact G
  | succ f W=>
   intro i Y V I;have F:i<st.inos.length:=o_
   rw[aO_.l2_eq];simp only[ad_];rw[ac_ J,ah_];refine aa_ (λe=>?_) (m_);rw[ac_ J,ah_];refine ab_ rfl (ab_ s_ ?_);obtain⟨l,rfl,U,r2,_⟩:=h.inoG i F;simp[ad_];rw[ac_ U,ai_];refine aa_ (λe=>?_) λe=>?_
   .have N:st.inos[i].1=k:=by simpa using e
    rw[vK_ (by simpa) (by rw[getElem_map];exact N) λj D A=>by rw[getElem_map];exact I j o_ A]at G;exact G
   .have N: ¬ st.inos[i].1=k:=by simpa using e
    rw[ao_ o_];refine W (i+1) o_ F λj D A=>?_;rcases Nat.lt_or_eq_of_le (Nat.le_of_lt_succ A) with q|q
    .exact I j D q
    .subst q;exact N
 exact go _ 0 rfl (kP _) λj D h=>o_
theorem vH_ {l:List Int} {k:Int}:ltI (ve_ l k) 0= !(l.any λx=>decide (x=k)):=by
 unfold ve_;cases h:l.findIdx? (λx=>decide (x=k)) with
 |none=>
  simp_all
 |some i=>
  rw[findIdx?_eq_some_iff_getElem]at h;have⟨r,e,_⟩:=h;have:(l.any λx=>decide (x=k))=true:=any_eq_true.2 ⟨_,kE r,e⟩;rw[this];simp
def sf_ (h:dd_ B H sp a1 n1 a2 n2 a3 n3 st) (hn:st.links.length<=1000/\st.inos.length<=1000) (hQ:Q (gB (dG_ st)) H):aw_ [yQ sp] H Q:=by
 obtain⟨g1,g2,g3⟩:=h.rd;refine⟨st.links.length+(st.inos.length*(st.links.length+2)+1)+2,?_⟩;rw[m0_];have etn:∀k:Nat,tN (k:Int)=k:=λ_=>rfl;have hl2:=h.l2;have hl3:=h.l3;have go7:∀(f i F:Nat),f=st.inos.length-i->i<=st.inos.length->f*(st.links.length+2)+1<=F->(∀l∈st.links,st.inos.any (λx=>decide (x.1=l.2.1))=true)->(∀j (hj:j<st.inos.length),j<i->((fF_ st st.inos[j].1:Nat):Int)=st.inos[j].2.links)->
  aw_.l7 F (some (sp,0)) ((i:Nat):Int) H Q:=by
  intro f;induction f with
  | zero=>
   intro i F hf hi hm ha hp;obtain⟨F,rfl⟩:∃G,F=G+1:=⟨F-1,o_⟩;rw[aw_.l7_eq];simp only[ad_];rw[ac_ g3,ah_];refine aa_ (λe=>?_) λe=>?_
   .have:i<n3:=by simpa using e
    omega
   ·have:dG_ st=true:=by
     unfold dG_;rw[kR,all_eq_true,all_eq_true];refine⟨ha,λx hx=>?_⟩;obtain⟨j,hj,rfl⟩:=kK hx;simpa using hp j hj o_
    rw[this]at hQ;exact hQ
  | succ f ih=>
   intro i F hf hi hm ha hp;have hil:i<st.inos.length:=o_
   rw[Nat.succ_mul]at hm;generalize hW:f*(st.links.length+2)=W at hm ih;obtain⟨F,rfl⟩:∃G,F=G+1:=⟨F-1,o_⟩;rw[aw_.l7_eq];simp only[ad_];rw[ac_ g3,ah_];refine aa_ (λe=>?_) (m_);obtain⟨l3,e3,q1,q2,q3⟩:=h.inoG i hil;have go11:∀(g j F:Nat),g=st.links.length-j->j<=st.links.length->g+1+W+1<=F->
    aw_.l11 F (some (sp,0)) ((i:Nat):Int) ((((st.links.take j).countP λl=>decide (l.2.1=st.inos[i].1)):Nat):Int) ((j:Nat):Int) H Q:=by
    intro g;induction g with
    | zero=>
     intro j F hg hj hF;obtain⟨F,rfl⟩:∃G,F=G+1:=⟨F-1,o_⟩;rw[aw_.l11_eq];simp only[ad_];rw[ac_ g2,ah_];refine aa_ (m_) λe=>?_;have hje:j=st.links.length:=o_
     subst hje;rw[take_length];rw[ac_ g3,ah_];refine ab_ rfl (ab_ s_ ?_);subst e3;simp only[ad_,etn,kN,kQ];rw[ac_ q2,ai_];refine aa_ (λe=>?_) λe=>?_
     ·have:dG_ st=false:=by
       unfold dG_;rw[Bool.and_eq_false_iff];right;rw[all_eq_false];refine⟨_,kE hil,?_⟩;unfold fF_;simpa using e
      rw[this]at hQ;exact hQ
     .rw[ao_ o_];refine ih (i+1) F o_ hil o_ ha λj hj hji=>?_;rcases Nat.lt_or_eq_of_le (Nat.le_of_lt_succ hji) with z|z
      .exact hp j hj z
      .subst z;unfold fF_;simpa using e
    | succ g ihF=>
     intro j F hg hj hF;have hjl:j<st.links.length:=o_
     obtain⟨F,rfl⟩:∃G,F=G+1:=⟨F-1,o_⟩;rw[aw_.l11_eq];simp only[ad_];rw[ac_ g2,ah_];refine aa_ (λe=>?_) (m_);rw[ac_ g2,ah_];refine ab_ rfl (ab_ s_ ?_);obtain⟨l2,rfl,_,_,p3,_,p5⟩:=h.linkG j hjl;simp only[ad_,etn,kN,kQ];rw[ac_ p5,ai_];rw[ac_ g3,ah_];refine ab_ rfl (ab_ s_ ?_);subst e3;simp only[ad_,etn,kN,kQ];rw[ac_ q1,ai_];have w1:ae_ .i64 (((j:Nat):Int)+1)=((j+1:Nat):Int):=ao_ o_;have hc:((st.links.take (j+1)).countP λl=>decide (l.2.1=st.inos[i].1))=((st.links.take j).countP λl=>decide (l.2.1=st.inos[i].1))+(if st.links[j].2.1=st.inos[i].1 then 1 else 0):=by
      rw[take_add_one,kG hjl,countP_append];by_cases z:st.links[j].2.1=st.inos[i].1<;>simp[z]
     have hle:((st.links.take j).countP λl=>decide (l.2.1=st.inos[i].1))<=st.links.length:=Nat.le_trans countP_le_length (by rw[lC];omega);refine aa_ (λe=>?_) λe=>?_
     .have e':st.links[j].2.1=st.inos[i].1:=by simpa using e
      rw[if_pos e']at hc;have:=ihF (j+1) F o_ hjl o_;rw[hc]at this;rw[w1,show ae_ .i64 (((((st.links.take j).countP λl=>decide (l.2.1=st.inos[i].1)):Nat):Int)+1)=((((st.links.take j).countP λl=>decide (l.2.1=st.inos[i].1))+1:Nat):Int) from ao_ o_];exact this
     .have e': ¬ st.links[j].2.1=st.inos[i].1:=by simpa using e
      rw[if_neg e',kQ]at hc;have:=ihF (j+1) F o_ hjl o_;rw[hc]at this;rw[w1];exact this
   exact go11 _ 0 F rfl (kP _) o_
 have go2:∀(f i F:Nat),f=st.links.length-i->i<=st.links.length->f+(st.inos.length*(st.links.length+2)+1)+1<=F->(∀j (hj:j<st.links.length),j<i->st.inos.any (λx=>decide (x.1=st.links[j].2.1))=true)->
  aw_.l2 F (some (sp,0)) ((i:Nat):Int) H Q:=by
  intro f;induction f with
  |zero=>
   intro i F hf hi hF hp;obtain⟨F,rfl⟩:∃G,F=G+1:=⟨F-1,o_⟩;rw[aw_.l2_eq];simp only[ad_];rw[ac_ g2,ah_];refine aa_ (m_) λe=>?_;refine go7 _ 0 F rfl (kP _) (by rw[Nat.sub_zero];omega) (λl hl=>?_) λj hj h=>o_;obtain⟨j,hj,rfl⟩:=kK hl;exact hp j hj o_
  | succ f ih=>
   intro i F hf hi hF hp;have hil:i<st.links.length:=o_
   obtain⟨F,rfl⟩:∃G,F=G+1:=⟨F-1,o_⟩;rw[aw_.l2_eq];simp only[ad_];rw[ac_ g2,ah_];refine aa_ (λe=>?_) (m_);rw[ac_ g2,ah_];refine ab_ rfl (ab_ s_ ?_);obtain⟨l2,rfl,_,_,p3,_,p5⟩:=h.linkG i hil;simp only[ad_,etn,kN,kQ];rw[ac_ p5,ai_];refine eO_ h hn.2 ?_;simp only[aJ_,ai_];rw[vH_,any_map];refine aa_ (λe=>?_) λe=>?_
   ·have:dG_ st=false:=by
     unfold dG_;rw[Bool.and_eq_false_iff];left;rw[all_eq_false];refine⟨_,kE hil,?_⟩;have e':=dZ_ e;intro z;have:(st.inos.any ((λx=>decide (x=st.links[i].2.1)) ∘ λx=>x.1))=true:=z;rw[this]at e';cases e'
    rw[this]at hQ;exact hQ
   .rw[ao_ o_];refine ih (i+1) F o_ hil o_ λj hj hji=>?_;rcases Nat.lt_or_eq_of_le (Nat.le_of_lt_succ hji) with z|z
    .exact hp j hj z
    .subst z;exact eB_ e
 exact go2 _ 0 _ rfl (kP _) o_ λj hj h=>o_
end
theorem pV_:∀(fs r:List FileR),bJ_ (fs++r)=bJ_ fs++bJ_ r
 |[],_=>rfl
 |f::fs,r=>by rw[cons_append,bJ_,bJ_,pV_ fs r,kV]
def sT_(h:Own H b gl_ a (fs.length*3) (bJ_ fs)):bR_ H a fs/\∀l o,a=some (l,o)->b<=l:=by
 rcases h with⟨rfl,D,_⟩|⟨l,rfl,F,r,_⟩
 .have:fs=[]:=length_eq_zero_iff.1 o_;exact⟨.inl ⟨rfl,this⟩,λl o e=>g_⟩
 .exact⟨.inr ⟨l,rfl,r⟩,λA o e=>g_⟩
theorem v0_[DecidableEq α]{ps:List (α × β)}:(ps.any λx=>decide (x.1=k))=(look ps k).isSome:=by
 unfold look;grind
def oV_ {y:InoR} (h:look ps k=some y):∃i,∃hi:i<ps.length,ve_ (ps.map (·.1)) k=((i:Nat):Int)/\ps[i]=(k,y):=by
 unfold look at h;cases r:ps.find? λp=>decide (p.1=k) with
 |none=>rw[r]at h;cases h
 |some p=>
  rw[r]at h;rw[find?_eq_some_iff_getElem]at r;have⟨D,i,hi,e,F⟩:=r;refine⟨i,hi,vK_ g_ g_ λj G A=>?_,g_⟩;grind
section
variable{B H:Hp}{Q:Post}{sp n1 n2 n3:Nat}{a1 a2 a3:Pl}{st:StD}
def fK_ (h:dd_ B H sp a1 n1 a2 n2 a3 n3 st) (hn:st.snaps.length<=900/\st.links.length<=900/\st.inos.length<=900) (hk:∀l∈st.links,(st.inos.any λx=>decide (x.1=l.2.1))=true)
 (hQ:∀H' a,H<+:H'->bT_ H' H.length a (aA_ st)->Q (nL a (aA_ st).length 5) H'):ax_ [yQ sp] H Q:=by
 refine⟨st.snaps.length*(st.links.length+2)+1+1,?_⟩;rw[nv_];have etn:∀k:Nat,tN (k:Int)=k:=λ_=>rfl;have hl1:=h.l1;have hl2:=h.l2;have hl3:=h.l3;have hlen:(aA_ st).length=st.snaps.length:=by unfold aA_;rw[k9]
 have go3:∀(f i F:Nat)(G:Hp)(a:Pl),f=st.snaps.length-i->i<=st.snaps.length->f*(st.links.length+2)+1<=F->H<+:G->bT_ G H.length a ((aA_ st).take i)->
  ax_.l3 F (some (sp,0)) a i ((i:Nat):Int) G Q:=by
  intro f;induction f with
  |zero=>
   intro i F G a hf hi hF hG ha;obtain⟨F,rfl⟩:∃G,F=G+1:=⟨F-1,o_⟩;obtain⟨g1,g2,g3⟩:=(h.mono hG).rd;rw[ax_.l3_eq];simp only[ad_];rw[ac_ g1,ah_];refine aa_ (m_) λe=>?_;have hie:i=(aA_ st).length:=o_
   rw[hie,take_length]at ha;rw[hie];exact hQ G a hG ha
  | succ f ih=>
   intro i F G a hf hi hF hG ha;have hil:i<st.snaps.length:=o_
   rw[Nat.succ_mul]at hF;generalize hW:f*(st.links.length+2)=W at hF ih;obtain⟨F,rfl⟩:∃G,F=G+1:=⟨F-1,o_⟩;have hR:=h.mono hG;obtain⟨g1,g2,g3⟩:=hR.rd;rw[ax_.l3_eq];simp only[ad_];rw[ac_ g1,ah_];refine aa_ (λe=>?_) (m_);rw[ac_ g1,ah_];refine ab_ rfl (ab_ s_ ?_);obtain⟨l1,e1,r1,r2,r3,r4,r5⟩:=hR.snapG i hil;subst e1;simp only[ad_,etn,kN,kQ];rw[ac_ r1,aq_,ac_ r2,ai_,ac_ r3,ai_,ac_ r4,aq_,ac_ r5,aq_];generalize hx:st.snaps[i]=x;have hGs0:=hG;generalize hGs:G=Gs at hGs0 ha;have go8:∀(g j F:Nat)(G:Hp)(p:Pl)(fs:List FileR),g=st.links.length-j->j<=st.links.length->g+1+W+1<=F->Gs<+:G->Own G Gs.length gl_ p (fs.length*3) (bJ_ fs)->
    fs=((st.links.take j).filter λl=>decide (l.1.1=x.2.id)).map (bs_ st)->
    ax_.l8 F (some (sp,0)) a i ((i:Nat):Int) x.1 x.2.id x.2.kind x.2.parent x.2.label x.1 x.2.kind x.2.parent x.2.label p fs.length ((j:Nat):Int) G Q:=by
    intro g;induction g with
    | zero=>
     intro j F G p fs hg hj hF hG' ho hfs;have hG:=hGs0.trans hG';obtain⟨F,rfl⟩:∃G,F=G+1:=⟨F-1,o_⟩;have hR:=h.mono hG;obtain⟨g1,g2,g3⟩:=hR.rd;rw[ax_.l8_eq];simp only[ad_];rw[ac_ g2,ah_];refine aa_ (m_) λe=>?_;have hje:j=st.links.length:=o_
     rw[hje,take_length]at hfs;obtain⟨f1,f2⟩:=sT_ ho;have hi':i<(aA_ st).length:=o_
     have hinf:(aA_ st)[i]=⟨x.1,x.2.kind,x.2.parent,x.2.label,fs⟩:=by
      have:(aA_ st)[i]?=some ⟨x.1,x.2.kind,x.2.parent,x.2.label,fs⟩:=by
       unfold aA_;rw[getElem?_map,kG hil,hx,hfs];rfl
      rw[kG hi']at this;exact Option.some.inj this
     refine ab_ rfl ?_;have hti:((aA_ st).take i).length=i:=by rw[lC];omega
     have key:=y6_ (i:=⟨x.1,x.2.kind,x.2.parent,x.2.label,fs⟩) (K:=λa' n' G'=>ax_.l3 F (some (sp,0)) a' n' (ae_ .i64 (((i:Nat):Int)+1)) G' Q) (ha.pre hG') hG.length_le f1 (λl o e=>⟨Nat.le_trans hGs0.length_le (f2 l o e),λo' q=>by subst q;have:=ha.lt;have:=f2 l o e;omega⟩) o_ λa' G' ha' hk' hl'=>by
      rw[kI,hti,length_singleton,ao_ o_];refine ih (i+1) F G' a' o_ hil o_ (j2_ (Nat.le_trans hG.length_le hl') λl hl=>by rw[hk' l hl,a9_ hG hl]) ?_;rw[take_add_one,kG hi',hinf];exact ha'
     rw[hti]at key;exact key
    | succ g ihg=>
     intro j F G p fs hg hj hF hG' ho hfs;have hG:=hGs0.trans hG';have hjl:j<st.links.length:=o_
     obtain⟨F,rfl⟩:∃G,F=G+1:=⟨F-1,o_⟩;have hR:=h.mono hG;obtain⟨g1,g2,g3⟩:=hR.rd;rw[ax_.l8_eq];simp only[ad_];rw[ac_ g2,ah_];refine aa_ (λe=>?_) (m_);rw[ac_ g2,ah_];refine ab_ rfl (ab_ s_ ?_);obtain⟨l2,e2,q1,q2,q3,q4,_⟩:=hR.linkG j hjl;subst e2;simp only[ad_,etn,kN,kQ];rw[ac_ q1,ai_,ac_ q2,aq_,ac_ q3,ai_,ac_ q4,ak_];refine eO_ hR o_ ?_;simp only[aJ_,ai_];have hlk:=hk _ (kE hjl);rw[v0_]at hlk;obtain⟨y,hy⟩:=Option.isSome_iff_exists.1 hlk;obtain⟨m,hm,em,ey⟩:=oV_ hy;rw[em];have w1:ae_ .i64 (((j:Nat):Int)+1)=((j+1:Nat):Int):=ao_ o_;rw[w1];have hfile:bs_ st st.links[j]=(st.links[j].1.2,y.content,st.links[j].2.2):=by unfold bs_;rw[hy]
     have htk:(st.links.take (j+1)).filter (λl=>decide (l.1.1=x.2.id))=(st.links.take j).filter (λl=>decide (l.1.1=x.2.id))++(if st.links[j].1.1=x.2.id then [st.links[j]] else []):=by
      rw[take_add_one,kG hjl,filter_append];congr 1;by_cases z:st.links[j].1.1=x.2.id<;>simp[z]
     refine aa_ (λe=>?_) λe=>?_
     ·have e':st.links[j].1.1=x.2.id:=by simpa using e
      rw[if_pos e']at htk;refine aa_ (λ_=>?_) (n_);rw[ac_ g3,ah_];refine ab_ rfl (ab_ s_ ?_);obtain⟨l3,e3,_,_,z3⟩:=hR.inoG m hm;subst e3;simp only[ad_,etn,kN,kQ];rw[ac_ z3,aq_,ey];dsimp only;refine ab_ rfl ?_;have hfl:fs.length<=900:=by
       rw[hfs,k9];exact Nat.le_trans (length_filter_le _ _) (by rw[lC];omega)
      have hH0:H<+:G:=hG;refine j9_ (H0:=Gs) o_ hG' ho (m:=1) rfl (by unfold Lim;omega) λp' G' o' ex fr=>?_;have hcs:bJ_ fs++[.str st.links[j].1.2,.str y.content,.bool st.links[j].2.2]=bJ_ (fs++[bs_ st st.links[j]]):=by
       rw[pV_,hfile];rfl
      rw[hcs]at o';have hfl':(fs++[bs_ st st.links[j]]).length=fs.length+1:=t_
      rw[<-hfl']at o' ⊢;exact ihg (j+1) F G' p' _ o_ hjl o_ ex.pre o' (by rw[hfs,htk,kL];rfl)
     .have e': ¬ st.links[j].1.1=x.2.id:=by simpa using e
      rw[if_neg e',append_nil]at htk;exact ihg (j+1) F G p fs o_ hjl o_ hG' ho (by rw[htk];exact hfs)
   subst hGs;exact go8 _ 0 F G none [] rfl (kP _) o_ (k8 _) (.inl ⟨rfl,rfl,rfl⟩) rfl
 exact go3 _ 0 _ H none rfl (kP _) (by rw[Nat.sub_zero];omega) (k8 _) (.inl ⟨rfl,t_⟩)
end
def wI_:∀(l:KV)(st:StD)(x:Y_ × Y_),ij_ f st (l++[x])=match ij_ f st l with|some s=>f s x|none=>none
 |[],st,x=>by
  simp[ij_];grind
 |y::l,st,x=>by
  rw[cons_append];unfold ij_;cases f st y with
  |none=>rfl
  |some s=>exact wI_ l s x
def Ct_{ps:KV}(hi:i<ps.length):eW_ (ps.take (i+1))=match eW_ (ps.take i) with|some s=>jq_ s ps[i]|none=>none:=by
 rw[take_add_one,kG hi];exact wI_ _ _ _
theorem te_(h:eW_ (ps.take i)=none):eW_ ps=none:=by
 rw[qr_]at h ⊢;grind
def zt_{l:List Int}:l.Nodup↔∀i (hi:i<l.length),ve_ l l[i]=i:=by
 constructor
 .refine λh i hi=>vK_ hi rfl λj A r e=>?_;have:=(getElem_inj h).1 e;omega
 .unfold Nodup;rw[kS];grind
section
variable{H:Hp}{Q:Post}{x:Pl}{n:Nat}{cs:List PC}{T:List Pg}{s:Y_}
def hi_ (hT:Tr H x n cs T)
 (h1:ofD T=none->∀H' p,H<+:H'->Q (.tup [.s (.ptr p),.s (.bool false)]) H')
 (h2:∀st,ofD T=some st->∀B H' sp a1 n1 a2 n2 a3 n3,H<+:B->dd_ B H' sp a1 n1 a2 n2 a3 n3 st->Q (.tup [.s (.ptr (some (sp,0))),.s (.bool true)]) H'):
 bM_ [yA x n] H Q:=by
 refine⟨200,?_⟩;rw[CO_];refine yh_ hT λa m H1 p1 o1 l1=>?_;simp only[aH_,aD_,bD_,ah_,ai_,a8_,fv_,ed_];have etn:∀k:Nat,tN (k:Int)=k:=λ_=>rfl;have hm60:=oG_ T;have hkv:=z8_ T;refine aa_ (λe=>?_) λe=>?_
 .refine h1 ?_ _ _ (p1.trans (b4_ _ _));unfold ofD;cases hh:decide (0<aL_ T) with
  |false=>rfl
  |true=>unfold ky_ at e;rw[hh]at e;cases e
 have hh:decide (0<aL_ T)=true:=by
  cases hh:decide (0<aL_ T) with
  |true=>rfl
  |false=>unfold ky_ at e;rw[hh]at e;cases e
 have hof:ofD T=eH_ (el_ T):=by unfold ofD;rw[hh]
 have R0:dd_ H1 (H1++[.row true Kv_ [.sl none 0 5,.sl none 0 4,.sl none 0 3]]) H1.length none 0 none 0 none 0 st0:=
  ⟨⟨Kv_,by rw[getElem?_concat_length]⟩,b4_ _ _,kO _,.inl ⟨rfl,rfl,rfl⟩,.inl ⟨rfl,rfl,rfl⟩,.inl ⟨rfl,rfl,rfl⟩,rfl,rfl,rfl,(λl e=>k_ e),(λl e=>k_ e),(λl e=>k_ e),t_,t_,t_⟩
 have go11:∀(f i F:Nat)(G:Hp)(a1:Pl)(n1:Nat)(a2:Pl)(n2:Nat)(a3:Pl)(n3:Nat)(st:StD),f=st.snaps.length-i->i<=st.snaps.length->f+1<=F->eW_ (el_ T)=some st->dd_ H1 G H1.length a1 n1 a2 n2 a3 n3 st->(∀j (hj:j<st.snaps.length),j<i->ve_ (st.snaps.map (·.2.id)) st.snaps[j].2.id=j)->
  bM_.l11 F H1.length 0 ((i:Nat):Int) H1.length 0 G Q:=by
  intro f;induction f with
  | zero=>
   intro i F G a1 n1 a2 n2 a3 n3 st hf hi hF hd hR hp;obtain⟨F,rfl⟩:∃G,F=G+1:=⟨F-1,o_⟩;have hl1:=hR.l1;obtain⟨g1,g2,g3⟩:=hR.rd;obtain⟨d1,d2,d3⟩:=ix_ hd;have hasc:=iv_ (lM_ T) hd;rw[bM_.l11_eq,ac_ g1,ah_];refine aa_ (m_) λe=>?_;have hnd:(st.snaps.map λx=>x.2.id).Nodup:=zt_.2 λj hj=>by
    rw[k9]at hj;rw[getElem_map];exact hp j hj o_
   have hpre:=p1.trans hR.pre;refine sf_ hR ⟨o_,o_⟩ ?_;simp only[aJ_,ak_];refine aa_ (λe=>?_) λe=>?_
   ·have hlk:∀l∈st.links,(st.inos.any λx=>decide (x.1=l.2.1))=true:=by
     unfold dG_ at e;rw[kR,all_eq_true]at e;exact e.1
    refine fK_ hR ⟨o_,o_,o_⟩ hlk λG1 ia pG1 hia=>?_;simp only[aJ_,ah_];have sz:=(il_ hasc).sizes (oM_ hd) o_;refine d9_ hia.rd (FW_ hasc) o_ sz.2 ?_;simp only[aJ_,ak_];have hsok:jA_ st=bu_ (aA_ st) (aA_ st).length 0:=by unfold jA_;rw[e,lE hnd];rfl
    cases hf:bu_ (aA_ st) (aA_ st).length 0 with
    |false=>
     refine h1 ?_ _ _ (hpre.trans pG1);rw[hof];unfold eH_;rw[hd];dsimp only;rw[hsok,hf]
    |true=>
     exact h2 st (by rw[hof];unfold eH_;rw[hd];dsimp only;rw[hsok,hf]) H1 G1 H1.length a1 n1 a2 n2 a3 n3 p1 (hR.mono pG1)
   .refine h1 ?_ _ _ hpre;rw[hof];unfold eH_;rw[hd];dsimp only;rw[show jA_ st=false by unfold jA_;rw[e,Bool.false_and]]
  | succ f ih=>
   intro i F G a1 n1 a2 n2 a3 n3 st hf hi hF hd hR hp;have hil:i<st.snaps.length:=o_
   obtain⟨F,rfl⟩:∃G,F=G+1:=⟨F-1,o_⟩;have hl1:=hR.l1;obtain⟨g1,g2,g3⟩:=hR.rd;obtain⟨d1,d2,d3⟩:=ix_ hd;rw[bM_.l11_eq,ac_ g1,ah_];refine aa_ (λe=>?_) (m_);rw[ac_ g1,ah_];refine ab_ rfl (ab_ s_ ?_);obtain⟨l,rfl,r1,r2,_⟩:=hR.snapG i hil;simp only[ad_,etn,kN,kQ];rw[ac_ r2,ai_];refine jm_ hR o_ ?_;simp only[aJ_,ai_];refine aa_ (λe=>?_) λe=>?_
   ·refine h1 ?_ _ _ (p1.trans hR.pre);rw[hof];unfold eH_;rw[hd];dsimp only;rw[show jA_ st=false by
     unfold jA_;rw[show decide (st.snaps.map λx=>x.2.id).Nodup=false by
      rw[decide_eq_false_iff_not];intro q;have:=zt_.1 q i (u_ hil);rw[getElem_map]at this;rw[this]at e;simp at e]
     rw[Bool.false_and,Bool.and_false]]
   .rw[ao_ o_];refine ih (i+1) F G _ n1 a2 n2 a3 n3 st o_ hil o_ hd hR λj hj hji=>?_;rcases Nat.lt_or_eq_of_le (Nat.le_of_lt_succ hji) with z|z
    .exact hp j hj z
    .subst z;simpa using e
 have go6:∀(f i F:Nat)(G:Hp)(a1:Pl)(n1:Nat)(a2:Pl)(n2:Nat)(a3:Pl)(n3:Nat)(st:StD),f=m-i->i<=m->f+100<=F->eW_ ((el_ T).take i)=some st->dd_ H1 G H1.length a1 n1 a2 n2 a3 n3 st->
  bM_.l6 F a m H1.length 0 ((i:Nat):Int) H1.length 0 G Q:=by
  intro f;induction f with
  |zero=>
   intro i F G a1 n1 a2 n2 a3 n3 st hf hi hF hd hR;obtain⟨F,rfl⟩:∃G,F=G+1:=⟨F-1,o_⟩;rw[bM_.l6_eq];refine aa_ (m_) λe=>?_;rw[k7 o_]at hd;have:=ix_ hd;exact go11 _ 0 F G a1 n1 a2 n2 a3 n3 st rfl (kP _) o_ hd hR λj hj h=>o_
  |succ f ih=>
   intro i F G a1 n1 a2 n2 a3 n3 st hf hi hF hd hR;have him:i<m:=o_
   obtain⟨F,rfl⟩:∃G,F=G+1:=⟨F-1,o_⟩;rw[bM_.l6_eq];refine aa_ (λe=>?_) (m_);obtain⟨l,o,rfl,q1,q2⟩:=Kv.get (H:=G) (Kv.mono hR.pre ⟨o1.cells,l1⟩) (i:=i) o_;refine ab_ rfl (ab_ s_ ?_);simp only[ad_,etn];rw[ac_ q1,aq_,ac_ q2,aq_];have hmem:=hkv _ (kE (o_:i<(el_ T).length));have d:=ix_ hd;have ht:((el_ T).take i).length<=i:=by rw[lC];omega
   have hl1:=hR.l1;have hl2:=hR.l2;have hl3:=hR.l3;have hstep:=Ct_ (ps:=el_ T) (i:=i) o_;rw[hd]at hstep;dsimp only at hstep;refine vk_ o_ o_ hR ⟨o_,o_,o_⟩ (λhn a1 n1 a2 n2 a3 n3 st' G' hR'=>?_) λst' hs a1 n1 a2 n2 a3 n3 G' hR'=>?_
   .simp only[aJ_,ak_];rw[show jq_ st (el_ T)[i]=none from hn]at hstep;refine aa_ (λ_=>?_) (c_);refine h1 ?_ _ _ (p1.trans hR'.pre);rw[hof];unfold eH_;rw[te_ hstep]
   .simp only[aJ_,ak_];rw[show jq_ st (el_ T)[i]=some st' from hs]at hstep;refine aa_ (c_) λ_=>?_;rw[ao_ o_];exact ih (i+1) F G' a1 n1 a2 n2 a3 n3 st' o_ him o_ hstep hR'
 exact go6 _ 0 _ _ none 0 none 0 none 0 st0 rfl (kP _) o_ rfl R0
def rY_(h:jA_ st=true):∀l∈st.links,(st.inos.any λx=>decide (x.1=l.2.1))=true:=by
 unfold jA_ dG_ at h;grind
def lJ_(J:Tr H x n cs T)
 (Y:ofD T=none->∀H',H<+:H'->Q (.tup [yR none 0 5,nN 2000]) H')
 (O:∀st,ofD T=some st->∀H' b a,H<+:H'->H.length<=b->bT_ H' b a (aA_ st)->Q (.tup [yR a (aA_ st).length 5,nN 0]) H'):
 dz_ [yA x n] H Q:=by
 refine⟨1,?_⟩;rw[xi_];refine hi_ J (λe H' p D=>?_) λst e B H' U V Z a2 n2 a3 n3 F A=>?_
 .simp_all
 .have⟨_,N,r⟩:=jZ_ e;have d:=ix_ N;have I:=oG_ T;refine fK_ A ⟨o_,o_,o_⟩ (rY_ r) λG a W ha=>?_;simp[aJ_];have D:=F.trans A.pre;grind
end
section
variable{H:Hp}{Q:Post}{x:Pl}{n:Nat}{cs:List PC}{T:List Pg}{s:Y_}
def pw_ (V:fI_ H a fs) (U:fI_ H b fs) (Z:fs.length<=100000) (O:Q (gB true) H):bL_ [nL a fs.length 3,nL b fs.length 3] H Q:=by
 refine⟨fs.length+2,?_⟩;rw[rh_];have A:∀k:Nat,tN (k:Int)=k:=λ_=>rfl;refine aa_ (λe=>a_) λ_=>?_;have go:∀(f k),f=fs.length-k->k<=fs.length->bL_.l4 (f+1) a fs.length b fs.length (k) H Q:=by
  intro f;induction f with
  |zero=>
   intro k Y J;rw[bL_.l4_eq];exact aa_ (m_) λ_=>O
  |succ f ih=>
   intro k Y J;have r:k<fs.length:=o_
   rw[bL_.l4_eq];refine aa_ (λe=>?_) λe=>o_;obtain⟨l,o,rfl,N,W,I⟩:=V _ r;obtain⟨l',o',rfl,D,F,G⟩:=U _ r;refine ab_ rfl (ab_ (a_) ?_);simp only[ad_,A];rw[ac_ N,aq_,ac_ W,aq_,ac_ I,ak_];refine ab_ rfl (ab_ s_ ?_);rw[ac_ D,aq_,ac_ F,aq_,ac_ G,ak_];refine aa_ (λe=>a_) λ_=>?_;rw[ao_ o_];grind
 grind
def qw_{i:InfoR}(h1:fI_ H p i.files)(h2:fI_ H q i.files)(hn:i.files.length<=100000)(hQ:Q (gB true) H):
 fw_ [.agg [.str i.name,.int .i64 i.kind,.str i.parent,.str i.label,.sl p i.files.length 3],.agg [.str i.name,.int .i64 i.kind,.str i.parent,.str i.label,.sl q i.files.length 3]] H Q:=by
 refine⟨1,?_⟩;rw[sX_];exact aa_ (λ_=>aa_ (λ_=>aa_ (λ_=>aa_ (λ_=>pw_ h1 h2 hn hQ) (n_)) (n_)) (n_)) (n_)
def o9_ (h1:cY_ H a is) (h2:cY_ H b is) (hn:is.length<=1000) (U:∀i∈is,i.files.length<=100000) (hQ:Q (gB true) H):bN_ [nL a is.length 5,nL b is.length 5] H Q:=by
 refine⟨is.length+2,?_⟩;rw[ro_];have D:∀k:Nat,tN (k:Int)=k:=λ_=>rfl;refine aa_ (λe=>a_) λ_=>?_;have go:∀(f k),f=is.length-k->k<=is.length->bN_.l4 (f+1) a is.length b is.length (k) H Q:=by
  intro f;induction f with
  |zero=>
   intro k U Y;rw[bN_.l4_eq];exact aa_ (m_) λ_=>hQ
  |succ f ih=>
   intro k V Y;have A:k<is.length:=o_
   rw[bN_.l4_eq];refine aa_ (λe=>?_) λe=>o_;obtain⟨l,o,p,rfl,Z,W,r3,r4,r5,r6⟩:=h1 _ A;obtain⟨l',o',p',rfl,I,J,G,O,F,N⟩:=h2 _ A;refine ab_ rfl (ab_ s_ ?_);simp only[ad_,D];rw[ac_ Z,aq_,ac_ W,ai_,ac_ r3,aq_,ac_ r4,aq_,ac_ r5,ah_];refine ab_ rfl (ab_ s_ ?_);rw[ac_ I,aq_,ac_ J,ai_,ac_ G,aq_,ac_ O,aq_,ac_ F,ah_];refine qw_ r6 N (U _ (kE A)) ?_;simp only[aJ_,ak_];refine aa_ (c_) λ_=>?_;rw[ao_ o_];grind
 grind
end
def lW_(r:0<=n)(A:n<=255):((bof n).toNat:Int)=n:=by
 have:=km_ r A;rw[Cx_ r A]at this;grind
theorem JV_(a b:Y_):bs (a++b)=bs a++bs b:=by unfold bs;simp
theorem kv_(l:List UInt8):(mkS l).size=l.length:=by rfl
def Jx_(s:Y_)(j:Nat)(b:UInt8)(h:(bs s)[j]?=some b):byt s j=(b.toNat:Int):=by
 have r:j<s.size:=(kC.1 h).1;have:=tN_ s j r;grind
def Ah_(l:List UInt8)(n:Y_):sub (mkS l++n) l.length (mkS l++n).size=n:=by
 apply jc_;rw[iJ_,JV_,Hy_,drop_left' rfl]
theorem J5_(s:Y_)(l h:Nat):bs (sub s l h)=((bs s).take h).drop l:=by
 unfold sub bs;simp[drop_take]
def qi_(n:Y_):Y_:=mkS [115]++n
def ly_(x:SnapR):Y_:=(mkS [bof x.id,bof x.kind,bof (sz x.parent)]++x.parent)++x.label
def mX_(k:LKey):Y_:=mkS [102,bof k.1]++k.2
def uV_(v:LVal):Y_:=mkS [bof v.1,match v.2 with|true=>1|false=>0]
def nT_(i:Int):Y_:=mkS [105,bof i]
def sU_(x:InoR):Y_:=mkS [bof x.links]++x.content
theorem iC_(h:aZ_ n 4=true):cu_ (qi_ n)=some n:=by
 unfold cu_ qi_;have A:byt (mkS [115]++n) 0=115:=by rfl
 have D:=Ah_ [115] n;have r:leI 1 (sz (mkS [115]++n))=true:=s_
 simp_all
def ks_(I:1<=k.1)(r:k.1<=255)(h:aZ_ k.2 3=true):b1_ (mX_ k)=some k:=by
 unfold b1_ mX_;have G:byt (mkS [102,bof k.1]++k.2) 0=102:=by rfl
 have F:byt (mkS [102,bof k.1]++k.2) 1=k.1:=lW_ o_ r;have A:=Ah_ [102,bof k.1] k.2;have D:leI 2 (sz (mkS [102,bof k.1]++k.2))=true:=s_
 simp_all
def oN_(A:1<=i)(r:i<=255):c7_ (nT_ i)=some i:=by
 unfold c7_ nT_;have D:byt (mkS [105,bof i]) 0=105:=by rfl
 have F:byt (mkS [105,bof i]) 1=i:=lW_ o_ r;simp_all
def xk_(o:Bool):UInt8:=match o with|true=>1|false=>0
theorem Eg_(G:0<=v.1)(r:v.1<=255):fd_ (uV_ v)=some v:=by
 have F:byt (uV_ v) 0=v.1:=lW_ G r;have D:byt (uV_ v) 1=((xk_ v.2).toNat):=Jx_ _ 1 _ rfl;have A:eqI (sz (uV_ v)) 2=true:=rfl;unfold fd_;rw[F,D,A];have⟨i,o⟩:=v;cases o<;>rfl
theorem Ee_(h:ev_ x=true):cR_ (sU_ x)=some x:=by
 have A:=h;unfold ev_ at A;have J:1<=x.links:=a_
 have r:x.links<=255:=a_
 have F:byt (sU_ x) 0=x.links:=lW_ o_ r;have D:sub (sU_ x) 1 (sU_ x).size=x.content:=Ah_ [bof x.links] x.content;have G:uH_ (sU_ x)=x:=by unfold uH_;rw[F,D]
 have I:leI 1 (sz (sU_ x))=true:=by simp[sU_];omega
 unfold cR_;grind
def oy_(h:fG_ x=true):(1<=x.id/\x.id<=255)/\(0<=x.kind/\x.kind<=2)/\x.parent.size<=4/\x.label.size<=3:=by
 unfold fG_ at h;simp only[kR,Bool.or_eq_true]at h;have⟨⟨A,F⟩,⟨D,r⟩,h5,h6⟩:=h;refine⟨⟨u_ A,a_⟩,⟨u_ D,u_ r⟩,?_,i_ h6⟩;rcases h5 with q|q
 .simp_all
 .have:=e6_ q;omega
theorem BM_ (h:fG_ x=true):bB_ (ly_ x)=some x:=by
 have⟨⟨b1,D⟩,⟨Z,F⟩,b5,b6⟩:=oy_ h;have r:bs (ly_ x)=[bof x.id,bof x.kind,bof (sz x.parent)]++(bs x.parent++bs x.label):=by rfl
 have V:(ly_ x).size=3+(x.parent.size+x.label.size):=by unfold ly_;simp;omega
 have W:byt (ly_ x) 0=x.id:=lW_ o_ D;have I:byt (ly_ x) 1=x.kind:=lW_ o_ o_;have A:byt (ly_ x) 2=sz x.parent:=lW_ t_ s_;have G:tN (3+byt (ly_ x) 2)=3+x.parent.size:=by rw[A];show (3+(x.parent.size:Int)).toNat=_;omega
 have J:sub (ly_ x) 3 (3+x.parent.size)=x.parent:=by
  apply jc_;rw[J5_,r,drop_take];simp_all
 have N:sub (ly_ x) (3+x.parent.size) (ly_ x).size=x.label:=by
  apply jc_;rw[iJ_,r,<-kV,drop_left'];simp;omega
 have Y:oF_ (ly_ x)=x:=by
  unfold oF_;simp_all
 unfold bB_;have U:leI 3 (sz (ly_ x))=true:=s_
 have O:leI (3+sz x.parent) (sz (ly_ x))=true:=s_
 grind
def i6_(x:Y_ × SnapR):Y_ × Y_:=(qi_ x.1,ly_ x.2)
def li_(x:LKey × LVal):Y_ × Y_:=(mX_ x.1,uV_ x.2)
def tZ_(x:Int × InoR):Y_ × Y_:=(nT_ x.1,sU_ x.2)
def sR_(st:StD):KV:=st.snaps.map i6_++(st.links.map li_++st.inos.map tZ_)
section
variable{H:Hp}{Q:Post}
def qM_(h:aZ_ n 4=true)(r:Q (.tup [.s (.str (qi_ n)),nN 0]) H):fu_ [gS n] H Q:=by
 have A:=e6_ h;refine⟨1,?_⟩;rw[su_];refine b5_ o_ (aa_ (λe=>g_) λ_=>?_);exact⟨s_,r⟩
def p8_(h:fG_ x=true)(A:∀H',H<+:H'->Q (.tup [.s (.str (ly_ x)),nN 0]) H'):fs_ [.agg [.int .i64 x.id,.int .i64 x.kind,.str x.parent,.str x.label]] H Q:=by
 have⟨⟨I,r⟩,⟨G,D⟩,b5,b6⟩:=oy_ h;refine⟨1,?_⟩;rw[ta_];refine j1_ o_ (aa_ (λe=>g_) λ_=>?_);rw[km_ o_ r,km_ o_ (o_:x.kind<=255),km_ (t_:0<=sz x.parent) s_,d5_ (cs:=u8s [bof x.id,bof x.kind,bof (sz x.parent)]) (by simp[cells?,u8s]),h3_];refine⟨s_,?_⟩;refine⟨s_,?_⟩;exact A _ (b4_ _ _)
def qG_(G:1<=k.1)(r:k.1<=255)(h:aZ_ k.2 3=true)(A:∀H',H<+:H'->Q (.tup [.s (.str (mX_ k)),nN 0]) H'):fz_ [gI k.1,gS k.2] H Q:=by
 have F:=e6_ h;refine⟨1,?_⟩;rw[tC_];refine g0_ (aa_ (λe=>a_) λ_=>d1_ o_ (aa_ (λe=>g_) λ_=>?_));rw[km_ o_ r,d5_ (cs:=u8s [102,bof k.1]) (by simp[cells?,u8s]),h3_];exact⟨s_,A _ (b4_ _ _)⟩
def pA_(F:1<=i)(r:i<=255)(A:∀H',H<+:H'->Q (.tup [.s (.str (nT_ i)),nN 0]) H'):e1_ [gI i] H Q:=by
 refine⟨1,?_⟩;rw[sm_];refine g0_ (aa_ (λe=>a_) λ_=>?_);rw[km_ o_ r,d5_ (cs:=u8s [105,bof i]) (by simp[cells?,u8s]),h3_];exact A _ (b4_ _ _)
def o8_(h:ev_ x=true)(D:∀H',H<+:H'->Q (.tup [.s (.str (sU_ x)),nN 0]) H'):e3_ [.agg [.int .i64 x.links,.str x.content]] H Q:=by
 have r:=h;unfold ev_ at r;simp only[kR]at r;have I:1<=x.links:=a_
 have A:x.links<=255:=a_
 have G:x.content.size<=6:=by have:=r.2;simp at this;omega
 refine⟨1,?_⟩;rw[rz_];refine jt_ (aa_ (λe=>g_) λ_=>?_);rw[km_ o_ A,d5_ (cs:=u8s [bof x.links]) (by simp[cells?,u8s]),h3_];exact⟨s_,D _ (b4_ _ _)⟩
end
def e7_(ps es:KV):KV:=es.foldl (λps p=>insK ps p.1 p.2) ps
def eZ_(st:StD):KV:=e7_ [] (sR_ st)
structure TrK(H:Hp)(x:Pl)(n:Nat)(ps:KV):Prop where
 ex:∃cs A,Tr H x n cs A/\0<aL_ A/\el_ A=ps
theorem TrK.mono{H H':Hp}(h:TrK H x n ps)(p:H<+:H'):TrK H' x n ps:=by
 have⟨D,A,F,r⟩:=h.ex;exact⟨D,A,F.mono p,r⟩
theorem TrK.asc(h:TrK H x n ps):Asc ps:=by
 have⟨D,A,_,_,r⟩:=h.ex;rw[<-r];exact lM_ A
def ER_:el_ ng_=[]:=by decide+kernel
def Ek_(h:aZ_ n 4=true):1<=(qi_ n).size/\(qi_ n).size<=6:=by
 have:=e6_ h;unfold qi_;simp;omega
def EA_(h:fG_ x=true):(ly_ x).size<=10:=by
 have⟨_,_,A,r⟩:=oy_ h;unfold ly_;simp;omega
def Ff_(h:aZ_ k.2 3=true):1<=(mX_ k).size/\(mX_ k).size<=6:=by
 have:=e6_ h;unfold mX_;simp;omega
def ES_(h:ev_ x=true):(sU_ x).size<=10:=by
 unfold ev_ at h;simp at h;have:=h.2;unfold sU_;simp;omega
section
variable{B H:Hp}{Q:Post}{sp n1 n2 n3:Nat}{a1 a2 a3:Pl}{st:StD}
def AI_ (h:TrK H x n ps) (hn:n<=48) (Z:ps.length<60) (k1:1<=key.size) (k2:key.size<=6) (k3:v.size<=10)
 (V:∀H' x',H<+:H'->TrK H' x' 48 (insK ps key v)->(insK ps key v).length<=ps.length+1->Q (.tup [yB x' 48,nN 0]) H'):bm_ [yA x n,gS key,gS v] H Q:=by
 have r:=h.asc;have⟨cs,A,J,I,N⟩:=h.ex;have W:el_ A=cL_ A:=by unfold el_;rw[lE I]
 have U:vq_ A key v=0:=by
  unfold vq_ r2_;grind
 refine sx_ J o_ (λH' e _=>absurd U e) λ_ _ x' F O H' p D ok=>?_;have⟨G,Y⟩:=FI_ ok I;rw[N]at G;refine V H' x' p ⟨F,O,D,ok.pos,G⟩ ?_;rw[v3_ r];grind
def mO_ (h:dd_ B H sp a1 n1 a2 n2 a3 n3 st) (ok:Aj_ st) (hm:st.snaps.length+st.links.length+st.inos.length<=60)
 (hQ:∀H' x',H<+:H'->TrK H' x' 48 (eZ_ st)->Q (yA x' 48) H'):as_ [yQ sp] H Q:=by
 refine⟨st.snaps.length+2*st.links.length+st.inos.length+10,?_⟩;rw[pe_];have etn:∀k:Nat,tN (k:Int)=k:=λ_=>rfl;have hl1:=h.l1;have hl2:=h.l2;have hl3:=h.l3;refine k7_ λH1 p1 o1=>?_;simp only[ez_,bc_,ah_,bI_];have T0:TrK H1 (some (H.length,0)) 48 (e7_ [] []):=⟨t6_,ng_,o1.tr,by rw[Jq_];omega,ER_⟩;have go18:∀(f i F:Nat)(G:Hp)(x:Pl),f=st.inos.length-i->i<=st.inos.length->f+1<=F->H<+:G->TrK G x 48 (e7_ [] (st.snaps.map i6_++(st.links.map li_++(st.inos.take i).map tZ_)))->(e7_ [] (st.snaps.map i6_++(st.links.map li_++(st.inos.take i).map tZ_))).length<=st.snaps.length+st.links.length+i->
  as_.l18 F (some (sp,0)) none 0 x 48 ((i:Nat):Int) G Q:=by
  intro f;induction f with
  |zero=>
   intro i F G x hf hi hF hG hT hL;obtain⟨F,rfl⟩:∃G,F=G+1:=⟨F-1,o_⟩;obtain⟨g1,g2,g3⟩:=(h.mono hG).rd;rw[as_.l18_eq];simp only[ad_];rw[ac_ g3,ah_];refine aa_ (m_) λ_=>?_;rw[k7 o_]at hT;exact hQ G x hG hT
  | succ f ih=>
   intro i F G x hf hi hF hG hT hL;have hil:i<st.inos.length:=o_
   obtain⟨F,rfl⟩:∃G,F=G+1:=⟨F-1,o_⟩;have hR:=h.mono hG;obtain⟨g1,g2,g3⟩:=hR.rd;rw[as_.l18_eq];simp only[ad_];rw[ac_ g3,ah_];refine aa_ (λe=>?_) (m_);rw[ac_ g3,ah_];refine ab_ rfl (ab_ s_ ?_);obtain⟨l3,e3,r1,r2,r3⟩:=hR.inoG i hil;subst e3;simp only[ad_,etn,kN,kQ];rw[ac_ r1,ai_];obtain⟨⟨c1,c2⟩,c3⟩:=ok.inos _ (kE hil);refine pA_ c1 c2 λG1 pG1=>?_;simp only[aH_,aD_,bD_,aq_,ai_,a8_];obtain⟨g1',g2',g3'⟩:=(hR.mono pG1).rd;rw[ac_ g3',ah_];refine ab_ rfl (ab_ s_ ?_)
   try simp only[ad_,etn,kN,kQ]
   rw[ac_ (cn_ pG1 r2),ai_,ac_ (cn_ pG1 r3),aq_];refine o8_ c3 λG2 pG2=>?_;simp only[aH_,aD_,bD_,aq_,ai_,a8_];refine AI_ (hT.mono (pG1.trans pG2)) o_ o_ (by unfold nT_;rw[kv_];simp) (by unfold nT_;rw[kv_];simp) (ES_ c3) λG3 x' pG3 hT' hl'=>?_;simp only[aH_,aD_,eN_,bc_,ah_,bI_,bD_,ai_,a8_];rw[ao_ o_];have he:e7_ [] (st.snaps.map i6_++(st.links.map li_++(st.inos.take (i+1)).map tZ_))=insK (e7_ [] (st.snaps.map i6_++(st.links.map li_++(st.inos.take i).map tZ_))) (nT_ st.inos[i].1) (sU_ st.inos[i].2):=by
    rw[take_add_one,kG hil];unfold e7_;rw[Option.toList_some,kL,<-kV,<-kV,foldl_append];rw[kV];rfl
   refine ih (i+1) F G3 x' o_ hil o_ (hG.trans (pG1.trans (pG2.trans pG3))) (by rw[he];exact hT') (by rw[he];omega)
 have go9:∀(f i F:Nat)(G:Hp)(x:Pl),f=st.links.length-i->i<=st.links.length->2*f+(st.inos.length+2)<=F->H<+:G->TrK G x 48 (e7_ [] (st.snaps.map i6_++(st.links.take i).map li_))->(e7_ [] (st.snaps.map i6_++(st.links.take i).map li_)).length<=st.snaps.length+i->
  as_.l9 F (some (sp,0)) none 0 x 48 ((i:Nat):Int) G Q:=by
  intro f;induction f with
  | zero=>
   intro i F G x hf hi hF hG hT hL;obtain⟨F,rfl⟩:∃G,F=G+1:=⟨F-1,o_⟩;obtain⟨g1,g2,g3⟩:=(h.mono hG).rd;rw[as_.l9_eq];simp only[ad_];rw[ac_ g2,ah_];refine aa_ (m_) λ_=>?_;rw[k7 o_]at hT hL;refine go18 _ 0 F G x rfl (kP _) o_ hG ?_ ?_
   .simpa using hT
   .have:e7_ [] (st.snaps.map i6_++(st.links.map li_++(st.inos.take 0).map tZ_))=e7_ [] (st.snaps.map i6_++st.links.map li_):=by simp
    rw[this];omega
  | succ f ih=>
   intro i F G x hf hi hF hG hT hL;have hil:i<st.links.length:=o_
   obtain⟨F,rfl⟩:∃G,F=G+1+1:=⟨F-2,o_⟩;have hR:=h.mono hG;obtain⟨g1,g2,g3⟩:=hR.rd;rw[as_.l9_eq];simp only[ad_];rw[ac_ g2,ah_];refine aa_ (λe=>?_) (m_);rw[ac_ g2,ah_];refine ab_ rfl (ab_ s_ ?_);obtain⟨l2,e2,r1,r2,r3,r4,_⟩:=hR.linkG i hil;subst e2;simp only[ad_,etn,kN,kQ];rw[ac_ r1,ai_,ac_ r2,aq_,ac_ r3,ai_,ac_ r4,ak_];obtain⟨⟨c1,c2⟩,c3,c4,c5⟩:=ok.links _ (kE hil);refine qG_ c1 c2 c3 λG1 pG1=>?_;simp only[aH_,aD_,bD_,aq_,ai_,a8_];have he:e7_ [] (st.snaps.map i6_++(st.links.take (i+1)).map li_)=insK (e7_ [] (st.snaps.map i6_++(st.links.take i).map li_)) (mX_ st.links[i].1) (uV_ st.links[i].2):=by
    rw[take_add_one,kG hil];unfold e7_;rw[Option.toList_some,kL,<-kV,foldl_append];rfl
   have tail:∀(own:Int),own=((xk_ st.links[i].2.2).toNat:Int)->as_.l16 (F+1) (some (sp,0)) none 0 x 48 ((i:Nat):Int) st.links[i].1.1 st.links[i].1.2 st.links[i].2.1 st.links[i].2.2 (mX_ st.links[i].1) own G1 Q:=by
    intro own ho;rw[as_.l16_eq];simp only[fv_,ed_];rw[km_ c4 c5,ho];rw[d5_ (cs:=u8s [bof st.links[i].2.1,xk_ st.links[i].2.2]) (by simp[cells?,u8s]),h3_];have pG2:G1<+:G1++[Obj.row true 5 [.int .u8 ((bof st.links[i].2.1).toNat:Int),.int .u8 ((xk_ st.links[i].2.2).toNat:Int)]]:=b4_ _ _;have hkb:=Ff_ c3;refine AI_ (key:=mX_ st.links[i].1) (v:=uV_ st.links[i].2) (hT.mono (pG1.trans pG2)) o_ o_ hkb.1 hkb.2 (by unfold uV_;rw[kv_];simp) λG3 x' pG3 hT' hl'=>?_;simp only[aH_,aD_,eN_,bc_,ah_,bI_,bD_,ai_,a8_];rw[ao_ o_];exact ih (i+1) F G3 x' o_ hil o_ (hG.trans (pG1.trans (pG2.trans pG3))) (by rw[he];exact hT') (by rw[he];omega)
   refine aa_ (λe=>tail 1 (by rw[e];rfl)) λe=>tail 0 (by rw[e];rfl)
 have go3:∀(f i F:Nat)(G:Hp)(x:Pl),f=st.snaps.length-i->i<=st.snaps.length->f+(2*st.links.length+(st.inos.length+2))+1<=F->H<+:G->TrK G x 48 (e7_ [] ((st.snaps.take i).map i6_))->(e7_ [] ((st.snaps.take i).map i6_)).length<=i->
  as_.l3 F (some (sp,0)) none 0 x 48 ((i:Nat):Int) G Q:=by
  intro f;induction f with
  | zero=>
   intro i F G x hf hi hF hG hT hL;obtain⟨F,rfl⟩:∃G,F=G+1:=⟨F-1,o_⟩;obtain⟨g1,g2,g3⟩:=(h.mono hG).rd;rw[as_.l3_eq];simp only[ad_];rw[ac_ g1,ah_];refine aa_ (m_) λ_=>?_;rw[k7 o_]at hT hL;refine go9 _ 0 F G x rfl (kP _) o_ hG ?_ ?_
   .simpa using hT
   .have:e7_ [] (st.snaps.map i6_++(st.links.take 0).map li_)=e7_ [] (st.snaps.map i6_):=by simp
    rw[this];omega
  | succ f ih=>
   intro i F G x hf hi hF hG hT hL;have hil:i<st.snaps.length:=o_
   obtain⟨F,rfl⟩:∃G,F=G+1:=⟨F-1,o_⟩;have hR:=h.mono hG;obtain⟨g1,g2,g3⟩:=hR.rd;rw[as_.l3_eq];simp only[ad_];rw[ac_ g1,ah_];refine aa_ (λe=>?_) (m_);rw[ac_ g1,ah_];refine ab_ rfl (ab_ s_ ?_);obtain⟨l1,e1,r1,r2,r3,r4,r5⟩:=hR.snapG i hil;subst e1;simp only[ad_,etn,kN,kQ];rw[ac_ r1,aq_];obtain⟨c1,c2⟩:=ok.snaps _ (kE hil);refine qM_ c1 ?_;simp only[aH_,aD_,bD_,aq_,ai_,a8_];rw[ac_ g1,ah_];refine ab_ rfl (ab_ s_ ?_)
   try simp only[ad_,etn,kN,kQ]
   rw[ac_ r2,ai_,ac_ r3,ai_,ac_ r4,aq_,ac_ r5,aq_];refine p8_ c2 λG2 pG2=>?_;simp only[aH_,aD_,bD_,aq_,ai_,a8_];have hkb:=Ek_ c1;refine AI_ (hT.mono pG2) o_ o_ hkb.1 hkb.2 (EA_ c2) λG3 x' pG3 hT' hl'=>?_;simp only[aH_,aD_,eN_,bc_,ah_,bI_,bD_,ai_,a8_];rw[ao_ o_];have he:e7_ [] ((st.snaps.take (i+1)).map i6_)=insK (e7_ [] ((st.snaps.take i).map i6_)) (qi_ st.snaps[i].1) (ly_ st.snaps[i].2):=by
    rw[take_add_one,kG hil];unfold e7_;rw[Option.toList_some,kL,foldl_append];rfl
   refine ih (i+1) F G3 x' o_ hil o_ (hG.trans (pG2.trans pG3)) (by rw[he];exact hT') (by rw[he];omega)
 exact go3 _ 0 _ H1 _ rfl (kP _) o_ p1 T0 (kO _)
end
def iS_(used:Int->Bool):Nat->Int->Int
 |0,_=>0
 |f+1,k=>match used k with|true=>iS_ used f (k+1)|false=>k
def oa_(st:StD)(id:Int):Bool:=(st.snaps.any λx=>decide (x.2.id=id))||st.links.any λl=>decide (l.1.1=id)
def ep_(st:StD):Int:=iS_ (oa_ st) 255 1
def ex_(st:StD):Int:=iS_ (λk=>st.inos.any λx=>decide (x.1=k)) 255 1
def kS_(st:StD)(id:Int)(path:Y_):Int:=match st.links.findIdx? (λl=>decide (l.1.1=id)&&decide (l.1.2=path)) with|some i=>(i:Int)|none=> -1
def jF_(st:StD):Int:=match st.links.findIdx? (λl=> !(st.snaps.any λx=>decide (x.2.id=l.1.1))) with|some i=>(i:Int)|none=> -1
theorem GE_{α:Type}{p:α->Bool}{l:List α}(hi:i<l.length)(h:p l[i]=true)(r:∀j (A:j<l.length),j<i->p l[j]=false):l.findIdx? p=some i:=by
 rw[findIdx?_eq_some_iff_getElem];grind
theorem CC_{α:Type}{p:α->Bool}{l:List α}(h:∀j (A:j<l.length),p l[j]=false):l.findIdx? p=none:=by
 rw[findIdx?_eq_none_iff];intro x r;obtain⟨j,A,rfl⟩:=kK r;grind
section
variable{B H:Hp}{Q:Post}{sp n1 n2 n3:Nat}{a1 a2 a3:Pl}{st:StD}
def fS_ (h:dd_ B H sp a1 n1 a2 n2 a3 n3 st) (hn:st.snaps.length<=1000) (W:∀k (Z:k<st.snaps.length),st.snaps[k].1=s->(∀j (A:j<st.snaps.length),j<k->st.snaps[j].1≠s)->Q (gI ((k:Nat):Int)) H)
 (Y:(∀j (A:j<st.snaps.length),st.snaps[j].1≠s)->Q (gI (-1)) H):aQ_ [yQ sp,gS s] H Q:=by
 have ⟨I,g2,g3⟩:=h.rd;refine⟨st.snaps.length+2,?_⟩;rw[n2_];have N:∀k:Nat,tN (k:Int)=k:=λ_=>rfl;have hl:=h.l1;have go:∀(f i),f=st.snaps.length-i->i<=st.snaps.length->(∀j A,j<i->st.snaps[j].1≠s)->aQ_.l2 (f+1) (some (sp,0)) s (i) H Q:=by
  intro f;induction f with
  |zero=>
   intro i V J F;rw[aQ_.l2_eq];simp;rw[ac_ I,ah_];refine aa_ (m_) λe=>?_;exact Y λj A=>F j A o_
  | succ f O=>
   intro i V J F;have D:i<st.snaps.length:=o_
   rw[aQ_.l2_eq];simp only[ad_];rw[ac_ I,ah_];refine aa_ (λe=>?_) (m_);rw[ac_ I,ah_];refine ab_ rfl (ab_ s_ ?_);obtain⟨l,rfl,U,r2,_⟩:=h.snapG i D;simp[ad_];rw[ac_ U,aq_];refine aa_ (λe=>?_) λe=>?_
   .exact W i D (u_ e) F
   .rw[ao_ o_];refine O (i+1) o_ D λj A G=>?_;rcases Nat.lt_or_eq_of_le (Nat.le_of_lt_succ G) with q|q
    .exact F j A q
    .subst q;simpa using e
 exact go _ 0 rfl (kP _) λj A h=>o_
def u4_(h:dd_ B H sp a1 n1 a2 n2 a3 n3 st)(F:st.snaps.length<=1000/\st.links.length<=1000/\st.inos.length<=1000)(G:Q (gI ((st.snaps.length+st.links.length+st.inos.length:Nat):Int)) H):d0_ [yQ sp] H Q:=by
 have⟨D,A,r⟩:=h.rd;refine⟨1,?_⟩;rw[pr_];simp only[ad_];rw[ac_ D,ah_,ac_ A,ah_,ac_ r,ah_,h.l1,h.l2,h.l3];simp;rw[cf_ (n:=((st.snaps.length:Nat):Int)+((st.links.length:Nat):Int)) o_ o_,cf_ o_ o_];grind
theorem Il_:leI 0 (ve_ l k)=l.any λx=>decide (x=k):=by
 have:= @vH_ l k;cases h:(l.any λx=>decide (x=k)) with
 |true=>rw[h]at this;simp at this ⊢;omega
 |false=>rw[h]at this;simp at this ⊢;omega
def sk_ (h:dd_ B H sp a1 n1 a2 n2 a3 n3 st) (hn:st.snaps.length<=1000/\st.links.length<=1000) (hQ:Q (gI (ep_ st)) H):aI_ [yQ sp] H Q:=by
 obtain⟨g1,g2,g3⟩:=h.rd;have etn:∀k:Nat,tN (k:Int)=k:=λ_=>rfl;have hl2:=h.l2;have go2:∀(f k F:Nat),f+k=256->1<=k->f*(st.links.length+2)+1<=F->Q (gI (iS_ (oa_ st) f ((k:Nat):Int))) H->aI_.l2 F (some (sp,0)) ((k:Nat):Int) H Q:=by
  intro f;induction f with
  |zero=>
   intro k F hk hk1 hF hQ;obtain⟨F,rfl⟩:∃G,F=G+1:=⟨F-1,o_⟩;rw[aI_.l2_eq];exact aa_ (m_) λ_=>hQ
  | succ f ih=>
   intro k F hk hk1 hF hQ;rw[Nat.succ_mul]at hF;generalize hW:f*(st.links.length+2)=W at hF ih;obtain⟨F,rfl⟩:∃G,F=G+1:=⟨F-1,o_⟩;rw[aI_.l2_eq];refine aa_ (λ_=>?_) (m_);refine jm_ h hn.1 ?_;simp only[aJ_,ai_];rw[Il_,any_map];have go6:∀(g i F:Nat),g=st.links.length-i->i<=st.links.length->g+1+W+1<=F->
    aI_.l6 F (some (sp,0)) ((k:Nat):Int) ((st.snaps.any λx=>decide (x.2.id=((k:Nat):Int)))||(st.links.take i).any λl=>decide (l.1.1=((k:Nat):Int))) ((i:Nat):Int) H Q:=by
    intro g;induction g with
    |zero=>
     intro i F hg hi hF;obtain⟨F,rfl⟩:∃G,F=G+1:=⟨F-1,o_⟩;rw[aI_.l6_eq];simp only[ad_];rw[ac_ g2,ah_];refine aa_ (m_) λ_=>?_;rw[k7 o_];rw[iS_]at hQ;refine aa_ (λe=>?_) λe=>?_
     .rw[show oa_ st ((k:Nat):Int)=false from dZ_ e]at hQ;exact hQ
     .rw[show oa_ st ((k:Nat):Int)=true from eB_ e]at hQ;rw[ao_ o_];refine ih (k+1) F o_ o_ o_ ?_;rw[show (((k+1:Nat)):Int)=((k:Nat):Int)+1 by omega];exact hQ
    | succ g ihg=>
     intro i F hg hi hF;have hil:i<st.links.length:=o_
     obtain⟨F,rfl⟩:∃G,F=G+1:=⟨F-1,o_⟩;rw[aI_.l6_eq];simp only[ad_];rw[ac_ g2,ah_];refine aa_ (λ_=>?_) (m_);have w1:ae_ .i64 (((i:Nat):Int)+1)=((i+1:Nat):Int):=ao_ o_;have key:=ihg (i+1) F o_ hil o_;have ht:(st.links.take (i+1)).any (λl=>decide (l.1.1=((k:Nat):Int)))=((st.links.take i).any (λl=>decide (l.1.1=((k:Nat):Int)))||eqI st.links[i].1.1 ((k:Nat):Int)):=by
      rw[take_add_one,kG hil,any_append];simp
     rw[ht,<-Bool.or_assoc]at key;refine aa_ (λe=>?_) λe=>?_
     .rw[e,Bool.true_or]at key;rw[w1];exact key
     .rw[e,Bool.false_or]at key;rw[ac_ g2,ah_];refine ab_ rfl (ab_ s_ ?_);obtain⟨l2,rfl,r1,_⟩:=h.linkG i hil;simp only[ad_,etn,kN,kQ];rw[ac_ r1,ai_,w1];exact key
   have:=go6 _ 0 F rfl (kP _) o_;rw[take_zero,any_nil,Bool.or_false]at this;exact this
 refine⟨255*(st.links.length+2)+2,?_⟩;rw[nk_];exact go2 255 1 _ rfl o_ o_ hQ
def nM_ (h:dd_ B H sp a1 n1 a2 n2 a3 n3 st) (N:st.inos.length<=1000) (r:Q (gI (ex_ st)) H):a1_ [yQ sp] H Q:=by
 have A:∀(f k F),f+k=256->1<=k->f+1<=F->Q (gI (iS_ (λk=>st.inos.any λx=>decide (x.1=k)) f ((k:Nat)))) H->a1_.l2 F (some (sp,0)) (k) H Q:=by
  intro f;induction f with
  |zero=>
   intro k F O D I r;obtain⟨F,rfl⟩:∃G,F=G+1:=⟨F-1,o_⟩;rw[a1_.l2_eq];exact aa_ (λe=>a_) λ_=>r
  |succ f J=>
   intro k F O D I r;obtain⟨F,rfl⟩:∃G,F=G+1:=⟨F-1,o_⟩;rw[a1_.l2_eq];refine aa_ (λ_=>?_) (m_);refine eO_ h N ?_;simp only[aJ_,ai_];rw[vH_,any_map];rw[iS_]at r;refine aa_ (λe=>?_) λe=>?_
   .grind
   .rw[ao_ o_];refine J (k+1) F o_ o_ o_ ?_;grind
 refine⟨258,?_⟩;rw[k9_];exact A 255 1 _ rfl o_ o_ r
def hQ_ (h:dd_ B H sp a1 n1 a2 n2 a3 n3 st) (Y:st.snaps.length<=1000/\st.links.length<=1000) (D:Q (gI (jF_ st)) H):be_ [yQ sp] H Q:=by
 have ⟨g1,N,g3⟩:=h.rd;refine⟨st.links.length+2,?_⟩;rw[na_];have I:∀k:Nat,tN (k:Int)=k:=λ_=>rfl;have Z:=h.l2;have go:∀(f i),f=st.links.length-i->i<=st.links.length->(∀j F,j<i->(!(st.snaps.any λx=>decide (x.2.id=st.links[j].1.1)))=false)->be_.l2 (f+1) (some (sp,0)) (i) H Q:=by
  intro f;induction f with
  |zero=>
   intro i W O G;rw[be_.l2_eq];simp;rw[ac_ N,ah_];refine aa_ (m_) λe=>?_;unfold jF_ at D;rw[CC_ λj F=>G j F o_]at D;exact D
  | succ f U=>
   intro i W O G;have A:i<st.links.length:=o_
   rw[be_.l2_eq];simp only[ad_];rw[ac_ N,ah_];refine aa_ (λe=>?_) (m_);rw[ac_ N,ah_];refine ab_ rfl (ab_ s_ ?_);obtain⟨l,rfl,V,r2,_⟩:=h.linkG i A;simp only[ad_,I,kN,kQ];rw[ac_ V,ai_];refine jm_ h Y.1 ?_;simp only[aJ_,ai_];rw[vH_,any_map];refine aa_ (λe=>?_) λe=>?_
   .unfold jF_ at D;rw[GE_ A e G]at D;exact D
   .rw[ao_ o_];refine U (i+1) o_ A λj F J=>?_;rcases Nat.lt_or_eq_of_le (Nat.le_of_lt_succ J) with q|q
    .exact G j F q
    .subst q;exact e
 exact go _ 0 rfl (kP _) λj F h=>o_
def ib_ (h:dd_ B H sp a1 n1 a2 n2 a3 n3 st) (hn:st.snaps.length<=1000/\st.links.length<=1000) {s path:Y_} {x:SnapR} (hx:look st.snaps s=some x) (hQ:Q (gI (kS_ st x.id path)) H):aT_ [yQ sp,gS s,gS path] H Q:=by
 obtain⟨g1,g2,g3⟩:=h.rd;refine⟨st.links.length+2,?_⟩;rw[m3_];have etn:∀k:Nat,tN (k:Int)=k:=λ_=>rfl;have hl:=h.l2;have hl1:=h.l1;simp only[ad_];rw[ac_ g1,ah_];refine fS_ h hn.1 (λk hk e hmin=>?_) λq=>?_
 ·simp only[aJ_,ai_];rw[ac_ g1,ah_];refine⟨rfl,ab_ rfl (ab_ s_ ?_)⟩;have hxk:st.snaps[k].2=x:=by
   unfold look at hx;have hf:st.snaps.find? (λp=>decide (p.1=s))=some st.snaps[k]:=by
    rw[find?_eq_some_iff_getElem];exact⟨u_ e,k,hk,rfl,λj hj=>by simpa using hmin j o_ hj⟩
   rw[hf]at hx;exact Option.some.inj hx
  obtain⟨l1,rfl,r1,r2,_⟩:=h.snapG k hk;simp only[ad_,etn,kN,kQ];rw[ac_ r2,ai_,hxk];have go:∀(f i:Nat),f=st.links.length-i->i<=st.links.length->(∀j (hj:j<st.links.length),j<i->(decide (st.links[j].1.1=x.id)&&decide (st.links[j].1.2=path))=false)->aT_.l3 (f+1) (some (sp,0)) path x.id ((i:Nat):Int) H Q:=by
   intro f;induction f with
   |zero=>
    intro i hf hi hp;rw[aT_.l3_eq];simp only[ad_];rw[ac_ g2,ah_];refine aa_ (m_) λe=>?_;unfold kS_ at hQ;rw[CC_ λj hj=>hp j hj o_]at hQ;exact hQ
   | succ f ih=>
    intro i hf hi hp;have hil:i<st.links.length:=o_
    rw[aT_.l3_eq];simp only[ad_];rw[ac_ g2,ah_];refine aa_ (λe=>?_) (m_);rw[ac_ g2,ah_];refine ab_ rfl (ab_ s_ ?_);obtain⟨l,rfl,r1,r2,_⟩:=h.linkG i hil;simp only[ad_,etn,kN,kQ];rw[ac_ r1,ai_];have next:(decide (st.links[i].1.1=x.id)&&decide (st.links[i].1.2=path))=false->aT_.l3 (f+1) (some (sp,0)) path x.id (ae_ .i64 (((i:Nat):Int)+1)) H Q:=λe=>by
     rw[ao_ o_];refine ih (i+1) o_ hil λj hj hji=>?_;rcases Nat.lt_or_eq_of_le (Nat.le_of_lt_succ hji) with q|q
     .exact hp j hj q
     .subst q;exact e
    refine aa_ (λe=>?_) λe=>?_
    ·have e':st.links[i].1.1=x.id:=by simpa using e
     rw[ac_ g2,ah_];refine ab_ rfl (ab_ s_ ?_);simp only[ad_,etn,kN,kQ];rw[ac_ r2,aq_];refine aa_ (λe2=>?_) λe2=>?_
     .have e2':st.links[i].1.2=path:=by simpa using e2
      unfold kS_ at hQ;rw[GE_ hil (by rw[lE e',lE e2'];rfl) hp]at hQ;exact hQ
     .have e2': ¬ st.links[i].1.2=path:=by simpa using e2
      exact next (by rw[lH e2',Bool.and_false])
    .have e': ¬ st.links[i].1.1=x.id:=by simpa using e
     exact next (by rw[lH e',Bool.false_and])
  exact go _ 0 rfl (kP _) λj hj h=>o_
 .have hm:=cU_ hx;obtain⟨j,hj,e⟩:=kK hm;exact absurd (by rw[e]) (q j hj)
end
end Go.Am
namespace Go.Am
structure Ad_(st:StD):Prop where
 snaps:(st.snaps.map (·.1)).Nodup
 links:(st.links.map (·.1)).Nodup
 inos:(st.inos.map (·.1)).Nodup
def ei_[DecidableEq α](r:(ps.map (·.1)).Nodup){k:α}{v:β}:look ps k=some v↔(k,v)∈ps:=⟨cU_,λh=>g3_ r h⟩
theorem dX_:dG_ st=true↔(∀l∈st.links,∃y,(l.2.1,y)∈st.inos)/\∀x∈st.inos,(fF_ st x.1:Int)=x.2.links:=by
 unfold dG_;grind
structure Sto(st:StD):Prop where
 ok:Aj_ st
 nd:Ad_ st
 lk:dG_ st=true
theorem rB_ [DecidableEq α] (r:(ps.map (·.1)).Nodup) {v v0:β} (h:look ps k=some v0) (x:α × β):x∈fP_ ps k v↔x=(k,v)\/(x∈ps/\x.1≠k):=by
 unfold fP_;rw[h,lA];constructor
 .grind
 .rintro (e|⟨D,A⟩)
  .exact⟨(k,v0),cU_ h,g_⟩
  .grind
def wb_[DecidableEq α](r:(ps.map (·.1)).Nodup){k:α}{v v0:β}(h:look ps k=some v0):((fP_ ps k v).map (·.1)).Nodup:=by
 rw[oL_,h];exact r
def kW_{α β:Type}{ps:List (α × β)}(r:(ps.map (·.1)).Nodup)(p:α × β->Bool):((ps.filter p).map (·.1)).Nodup:=
 List.Nodup.sublist (List.Sublist.map _ List.filter_sublist) r
def lw_(inos:List (Int × InoR))(k:Int)(y:InoR):List (Int × InoR):=(fP_ inos k ⟨y.links-1,y.content⟩).filter λx=>decide (0<x.2.links)
def gq_ (st:StD) (i:Nat):StD:=match st.links[i]? with
 |none=>st
 |some l=>match look st.inos l.2.1 with
  |none=>st
  |some y=>⟨st.snaps,st.links.eraseIdx i,lw_ st.inos l.2.1 y⟩
theorem kd_ {α:Type}:∀{l:List α}{i:Nat}(hi:i<l.length),(l[i]::l.eraseIdx i).Perm l
 |[],i,hi=>g_
 |x::l,0,_=>List.Perm.refl _
 |x::l,i+1,hi=>by
  have r:i<l.length:=g_
  have:=kd_ r;exact (List.Perm.swap x l[i] (l.eraseIdx i)).trans (this.cons x)
def tq_(hi:i<st.links.length)(ino:List (Int × InoR))(n:Int):fF_ st n=fF_ ⟨st.snaps,st.links.eraseIdx i,ino⟩ n+(if st.links[i].2.1=n then 1 else 0):=by
 unfold fF_;rw[<-(kd_ hi).countP_eq,List.countP_cons];grind
def Sto.ino(h:Sto st)(D:l∈st.links):∃y,look st.inos l.2.1=some y/\(l.2.1,y)∈st.inos/\1<=y.links/\y.links<=255/\(fF_ st l.2.1:Int)=y.links:=by
 have⟨y,r⟩:=(dX_.1 h.lk).1 l D;have A:=(h.ok.inos _ r).2;unfold ev_ at A;simp at A;exact⟨y,(ei_ h.nd.inos).2 r,r,a_,A.1.2,(dX_.1 h.lk).2 _ r⟩
def eS_(h:Sto st)(hi:i<st.links.length):∃y,look st.inos st.links[i].2.1=some y/\gq_ st i=⟨st.snaps,st.links.eraseIdx i,lw_ st.inos st.links[i].2.1 y⟩:=by
 have⟨y,r,_⟩:=h.ino (kE hi);unfold gq_;grind
def zq_(r:(inos.map (·.1)).Nodup)(h:look inos k=some y)(x:Int × InoR):x∈lw_ inos k y↔(x=(k,⟨y.links-1,y.content⟩)/\1<y.links)\/(x∈inos/\x.1≠k/\0<x.2.links):=by
 unfold lw_;rw[List.mem_filter,rB_ r h];grind
def lL_ (h:Sto st) (hi:i<st.links.length):Sto (gq_ st i):=by
 have⟨y,J,e⟩:=eS_ h hi;have⟨Z,D,O,b1,b2,hc⟩:=h.ino (kE hi);rw[J]at D;cases D;have r:=zq_ h.nd.inos J;have⟨V,k2⟩:=dX_.1 h.lk;rw[e];refine⟨⟨h.ok.snaps,λl F=>h.ok.links l (List.mem_of_mem_eraseIdx F),λx I=>?_⟩,⟨h.nd.snaps,?_,?_⟩,?_⟩
 .rcases (r x).1 I with⟨e,G⟩|⟨G,_⟩
  .subst e;have⟨W,N⟩:=h.ok.inos _ O;refine⟨W,?_⟩;unfold ev_ at N ⊢;simp only[kR]at N ⊢;refine⟨⟨?_,?_⟩,N.2⟩<;>simp<;>omega
  .exact h.ok.inos x G
 .exact List.Nodup.sublist (List.Sublist.map _ (List.eraseIdx_sublist _ _)) h.nd.links
 .exact kW_ (wb_ h.nd.inos J) _
 ·rw[dX_];refine⟨λl F=>?_,λx I=>?_⟩
  .by_cases U:l.2.1=st.links[i].2.1
   .refine⟨⟨y.links-1,y.content⟩,(r _).2 (.inl ⟨by rw[U],?_⟩)⟩;have A:=tq_ hi (lw_ st.inos st.links[i].2.1 y) st.links[i].2.1;rw[if_pos rfl]at A;have:0<fF_ ⟨st.snaps,st.links.eraseIdx i,lw_ st.inos st.links[i].2.1 y⟩ st.links[i].2.1:=List.countP_pos_iff.2 ⟨l,F,u_ U⟩;omega
   .have⟨z,Y⟩:=V l (List.mem_of_mem_eraseIdx F);have:=(h.ok.inos _ Y).2;unfold ev_ at this;simp at this;grind
  .rcases (r x).1 I with⟨e,G⟩|⟨G,h2,_⟩
   .have A:=tq_ hi (lw_ st.inos st.links[i].2.1 y) st.links[i].2.1;grind
   .have A:=tq_ hi (lw_ st.inos st.links[i].2.1 y) x.1;grind
theorem it_(h:Sto st)(hi:i<st.links.length)(D:l∈(gq_ st i).links):bs_ (gq_ st i) l=bs_ st l:=by
 have F:=lL_ h hi;have⟨z,G,r,_⟩:=F.ino D;have⟨y,A,e⟩:=eS_ h hi;unfold bs_;rw[e]at r;rcases (zq_ h.nd.inos A _).1 r with⟨q,_⟩|⟨q,_⟩
 .grind
 .have:=(ei_ h.nd.inos).2 q;grind
def eo_(st:StD):Option Nat:=st.links.findIdx? λl=> !(st.snaps.any λx=>decide (x.2.id=l.1.1))
def og_:Nat->StD->StD
 |0,st=>st
 |f+1,st=>match eo_ st with|some i=>og_ f (gq_ st i)|none=>st
def JS_(st:StD):StD:=og_ st.links.length st
def ec_(st:StD):Nat:=st.snaps.length+st.links.length+st.inos.length
def iT_(st:StD):StD:=match decide (60<ec_ st) with|true=>JS_ st|false=>st
def rA_(h:eo_ st=some i):∃hi:i<st.links.length,∀x∈st.snaps,x.2.id≠st.links[i].1.1:=by
 unfold eo_ at h;rw[List.findIdx?_eq_some_iff_getElem]at h;grind
def lY_(h:eo_ st=none):∀l∈st.links,∃x∈st.snaps,x.2.id=l.1.1:=by
 unfold eo_ at h;grind
structure hp_(st st':StD):Prop where
 sto:Sto st'
 snaps:st'.snaps=st.snaps
 sub:∀l∈st'.links,l∈st.links
 all:∀l∈st.links,(∃x∈st.snaps,x.2.id=l.1.1)->l∈st'.links
 file:∀l∈st'.links,bs_ st' l=bs_ st l
def hp_.refl(h:Sto st):hp_ st st:=⟨h,rfl,λ_ h=>h,λ_ h _=>h,λ_ _=>rfl⟩
def zA_ (g:hp_ st st') (hi:i<st'.links.length) (G:∀x∈st'.snaps,x.2.id≠st'.links[i].1.1):hp_ st (gq_ st' i):=by
 have⟨y,J,I⟩:=eS_ g.sto hi;have F:(gq_ st' i).snaps=st'.snaps:=g_
 have A:(gq_ st' i).links=st'.links.eraseIdx i:=g_
 refine⟨lL_ g.sto hi,by rw[F,g.snaps],λl h=>?_,λl h r=>?_,λl h=>?_⟩
 .rw[A]at h;exact g.sub l (List.mem_of_mem_eraseIdx h)
 .have D:=g.all l h r;rw[A];have:=(kd_ hi).mem_iff (a:=l);rcases kU.1 (this.2 D) with q|q
  .have⟨x,r,e⟩:=r;exact absurd g_ (G x (by rw[g.snaps];exact r))
  .exact q
 .rw[it_ g.sto hi h];rw[A]at h;exact g.file l (List.mem_of_mem_eraseIdx h)
def os_:∀(f:Nat){st r:StD},hp_ st r->hp_ st (og_ f r)/\(r.links.length<=f->eo_ (og_ f r)=none)
 |0,st,r,g=>⟨g,λh=>by
  unfold og_ eo_;have:r.links=[]:=List.length_eq_zero_iff.1 o_;rw[this];rfl⟩
 | f+1,st,r,g=>by
  unfold og_;cases e:eo_ r with
  |none=>exact⟨g,λ_=>e⟩
  |some i=>
   have⟨A,D⟩:=rA_ e;have⟨I,J⟩:=os_ f (zA_ g A D);have⟨y,G,F⟩:=eS_ g.sto A;grind
def Ef_ (h:Sto st):hp_ st (iT_ st)/\(60<ec_ st->eo_ (iT_ st)=none):=by
 unfold iT_;cases D:decide (60<ec_ st) with
 |false=>exact⟨hp_.refl h,λq=>g_⟩
 |true=>
  have⟨r,A⟩:=os_ st.links.length (hp_.refl h);exact⟨r,λ_=>A (kO _)⟩
end Go.Am
namespace Go.Am
open List
theorem ja_ {α:Type} {f:α->List GV} (r:∀x,(f x).length=m) (A:j<m) {x':α}:∀(l:List α)(i:Nat)(hi:i<l.length),(f l[i]).set j v=f x'->(l.flatMap f).set (i*m+j) v=(l.set i x').flatMap f
 |[],i,hi,_=>t_
 |x::l,0,hi,h=>by
  grind
 |x::l,i+1,hi,h=>by
  rw[flatMap_cons,set_append_right _ _ g_,set_cons_succ,flatMap_cons,show (i+1)*m+j-(f x).length=i*m+j by rw[r,Nat.succ_mul];omega,ja_ r A l i g_ h]
theorem xy_[DecidableEq α](r:(ps.map (·.1)).Nodup){k:α}{v v0:β}(G:m<ps.length)(h:ps[m]=(k,v0)):fP_ ps k v=ps.set m (k,v):=by
 unfold fP_;have A:=g3_ r (x:=(k,v0)) g_;rw[A];dsimp;apply ext_getElem t_;intro j D I;rw[getElem_map,getElem_set];have F:j<ps.length:=g_
 by_cases e:m=j
 .grind
 .rw[if_neg e,if_neg];intro q;apply e;exact (getElem_inj (h₀:=g_) (h₁:=by simpa) r).1 g_
section
variable{B H:Hp}{Q:Post}{sp n1 n2 n3:Nat}{a1 a2 a3:Pl}{st:StD}
def dd_.setL (h:dd_ B H sp a1 n1 a2 n2 a3 n3 st) {G:Hp} (p:H<+:G) (o:Own G H.length zM_ a' (n'*4) (ls.flatMap Bi_)) (V:n'=ls.length)
 (N:∀D,D.length=G.length->B<+:D->dd_ B D sp a1 n1 a' n' a3 n3 { st with links:=ls }->K D):wr G sp (0+1) (.sl a' n' 4) K:=by
 have r:=h.mono p;obtain⟨t,O⟩:=r.row;have U:=h.spl;refine ce_ O t_ ?_;have low:∀l o,a'=some (l,o)->H.length<=l:=λl W e=>by
  rcases o with⟨q,_⟩|⟨Y,e',Z,_⟩
  .grind
  .grind
 have A:a'≠some (sp,0):=λe=>g_
 have F:=dI_ r.pre r.base (.row true t ([.sl a1 n1 5,.sl a2 n2 4,.sl a3 n3 3].set (0+1) (.sl a' n' 4)));refine N _ t_ F ⟨⟨t,g_⟩,F,r.base,r.snaps.set h.s1 _,?_,r.inos.set h.s3 _,h.l1,V,h.l3,?_,h.d13,?_,h.s1,A,h.s3⟩
 .exact Own.set (o.base h.pre.length_le) A _
 .intro l I J;have:=h.snaps.lt' I;grind
 .intro l I J;have:=h.inos.lt' J;grind
def dd_.setI (h:dd_ B H sp a1 n1 a2 n2 a3 n3 st) {G:Hp} (p:H<+:G) {A:Pl} {F:Nat} {ls:List (Int × InoR)} (o:Own G H.length Ib_ A (F*3) (ls.flatMap inoC)) (Z:F=ls.length)
 (V:∀I,I.length=G.length->B<+:I->dd_ B I sp a1 n1 a2 n2 A F { st with inos:=ls }->K I):wr G sp (0+2) (.sl A F 3) K:=by
 have r:=h.mono p;have⟨t,O⟩:=r.row;have Y:=h.spl;refine ce_ O t_ ?_;have U:=(kC.1 O).1;have low:∀l o,A=some (l,o)->H.length<=l:=λl o' e=>by
  rcases o with⟨q,_⟩|⟨l',e',hb,_⟩
  .grind
  .grind
 have D:A≠some (sp,0):=λe=>g_
 have N:=dI_ r.pre r.base (.row true t ([.sl a1 n1 5,.sl a2 n2 4,.sl a3 n3 3].set (0+2) (.sl A F 3)));refine V _ t_ N ⟨⟨t,g_⟩,N,r.base,r.snaps.set h.s1 _,r.links.set h.s2 _,?_,h.l1,h.l2,Z,h.d12,?_,?_,h.s1,h.s2,D⟩
 .exact Own.set (o.base h.pre.length_le) D _
 .intro l J W;have:=h.snaps.lt' J;grind
 .intro l J W;have:=h.links.lt' J;grind
def dd_.updI (h:dd_ B H sp a1 n1 a2 n2 (some (r,0)) n3 st) (O:m<st.inos.length) (v:Int)
 (V:∀F,F.length=H.length->dd_ B F sp a1 n1 a2 n2 (some (r,0)) n3 { st with inos:=st.inos.set m (st.inos[m].1,⟨v,st.inos[m].2.content⟩) }->K F):wr H r (m*3+1) (.int .i64 v) K:=by
 have⟨t,Y⟩:=h.row;have N:=h.l3;rcases h.inos with⟨q,_⟩|⟨l,e,I,A,W⟩
 .cases q
 .cases e;refine ce_ A o_ ?_;have U:r≠sp:=λe=>by have:=h.s3;exact this (by rw[e])
  have J:(st.inos.flatMap inoC).set (m*3+1) (.int .i64 v)=(st.inos.set m (st.inos[m].1,⟨v,st.inos[m].2.content⟩)).flatMap inoC:=ja_ (m:=3) (λ_=>rfl) o_ st.inos m O rfl;have D:=(kC.1 A).1;rw[J];refine V _ t_ ⟨⟨t,g_⟩,dI_ h.pre I _,h.base,h.snaps.set (λe=>h.d13 r e rfl) _,h.links.set (λe=>h.d23 r e rfl) _,.inr ⟨r,rfl,I,by rw[kH D],by rw[<-J];simp[W]⟩,h.l1,h.l2,u_ h.l3,h.d12,h.d13,h.d23,h.s1,h.s2,h.s3⟩
def x3_ {α:Type} {l:List α} (r:j<l.length):(l.take (j+1)).eraseIdx i=if j=i then (l.take j).eraseIdx i else (l.take j).eraseIdx i++[l[j]]:=by
 rw[take_add_one,kG r,Option.toList_some,eraseIdx_append];have D:(l.take j).length=j:=g_
 rw[D];by_cases h:j=i
 .subst h;grind
 .rw[if_neg h];by_cases A:i<j
  .grind
  .rw[if_neg A,eraseIdx_of_length_le (k:=i) o_,show ([l[j]]:List α).eraseIdx (i-j)=[l[j]] from by rw[(o_:i-j=(i-j-1)+1)];rfl]
def mI_ (h:dd_ B H sp a1 n1 a2 n2 a3 n3 st) (hS:Sto st) (hn:st.links.length<=1000/\st.inos.length<=1000) {i:Nat} (hi:i<st.links.length)
 (hQ:∀H' a2' n2' a3' n3',dd_ B H' sp a1 n1 a2' n2' a3' n3' (gq_ st i)->Q (.tup []) H'):aG_ [yQ sp,gI ((i:Nat):Int)] H Q:=by
 obtain⟨g1,g2,g3⟩:=h.rd;refine⟨st.links.length+st.inos.length+10,?_⟩;rw[pt_];have etn:∀k:Nat,tN (k:Int)=k:=λ_=>rfl;have hl2:=h.l2;simp only[ad_];rw[ac_ g2,ah_];refine ab_ rfl (ab_ s_ ?_);obtain⟨y,hy,eq⟩:=eS_ hS hi;obtain⟨y',hy',hm',b1,b2,hc⟩:=hS.ino (kE hi);rw[hy]at hy';cases hy';obtain⟨m,hm,em,ey⟩:=oV_ hy;obtain⟨l2,e2,_,_,_,_,r5⟩:=h.linkG i hi;subst e2;simp only[ad_,etn,kN,kQ];rw[ac_ r5,ai_];refine eO_ h hn.2 ?_;simp only[aJ_,ai_];rw[em];have hls:∀(ls:List (LKey × LVal)),ls.length<=st.links.length->ls.length*4<=4000:=λls h=>o_
 have back:∀(F:Nat)(G:Hp)(a2':Pl)(n2':Nat),st.inos.length+2<=F->dd_ B G sp a1 n1 a2' n2' a3 n3 ⟨st.snaps,st.links.eraseIdx i,fP_ st.inos st.links[i].2.1 ⟨y.links-1,y.content⟩⟩->aG_.l11 F (some (sp,0)) none 0 0 G Q:=by
  intro F G a2' n2' hF hR;generalize hp:fP_ st.inos st.links[i].2.1 ⟨y.links-1,y.content⟩=P at hR;have hPl:P.length=st.inos.length:=by rw[<-hp,xy_ hS.nd.inos hm ey];simp
  have hl3:n3=P.length:=hR.l3;have go:∀(f j F:Nat)(G':Hp)(a':Pl)(n':Nat),f=P.length-j->j<=P.length->f+1<=F->G<+:G'->Own G' G.length Ib_ a' (n'*3) (((P.take j).filter λx=>decide (0<x.2.links)).flatMap inoC)->n'=((P.take j).filter λx=>decide (0<x.2.links)).length->
   aG_.l11 F (some (sp,0)) a' n' ((j:Nat):Int) G' Q:=by
   intro f;induction f with
   |zero=>
    intro j F G' a' n' hf hj hF hG' ho hn';obtain⟨F,rfl⟩:∃G,F=G+1:=⟨F-1,o_⟩;obtain⟨g1,g2,g3⟩:=(hR.mono hG').rd;rw[aG_.l11_eq];simp only[ad_];rw[ac_ g3,ah_];refine aa_ (m_) λe=>?_;rw[k7 o_]at ho hn';refine hR.setI hG' ho hn' λG'' _ _ hR'=>hQ G'' a2' n2' a' n' ?_;rw[eq];unfold lw_;rw[hp];exact hR'
   | succ f ih=>
    intro j F G' a' n' hf hj hF hG' ho hn';have hjl:j<P.length:=o_
    obtain⟨F,rfl⟩:∃G,F=G+1:=⟨F-1,o_⟩;have hR':=hR.mono hG';obtain⟨g1,g2,g3⟩:=hR'.rd;rw[aG_.l11_eq];simp only[ad_];rw[ac_ g3,ah_];refine aa_ (λe=>?_) (m_);rw[ac_ g3,ah_];refine ab_ rfl (ab_ s_ ?_);obtain⟨l3,e3,q1,q2,q3⟩:=hR'.inoG j hjl;subst e3;simp only[ad_,etn,kN,kQ];rw[ac_ q2,ai_];have w1:ae_ .i64 (((j:Nat):Int)+1)=((j+1:Nat):Int):=ao_ o_;have ht:(P.take (j+1)).filter (λx=>decide (0<x.2.links))=(P.take j).filter (λx=>decide (0<x.2.links))++(if 0<P[j].2.links then [P[j]] else []):=by
     rw[take_add_one,kG hjl,filter_append];congr 1;by_cases z:0<P[j].2.links<;>simp[z]
    have hnl:((P.take j).filter λx=>decide (0<x.2.links)).length<=1000:=Nat.le_trans (length_filter_le _ _) (by rw[lC];omega);refine aa_ (λe=>?_) λe=>?_
    .have e':0<P[j].2.links:=by simpa using e
     rw[if_pos e']at ht;rw[ac_ g3,ah_];refine ab_ rfl (ab_ s_ ?_);simp only[ad_,etn,kN,kQ];rw[ac_ q1,ai_,ac_ q2,ai_,ac_ q3,aq_];refine ab_ rfl ?_;refine j9_ (H0:=G) o_ hG' ho (m:=1) rfl (by unfold Lim;omega) λx' G'' o' ex fr=>?_;rw[w1];refine ih (j+1) F G'' x' _ o_ hjl o_ ex.pre ?_ ?_
     .rw[ht,flatMap_append,flatMap_singleton];exact o'
     .rw[ht,kI];simp;omega
    .have e': ¬ 0<P[j].2.links:=by simpa using e
     rw[if_neg e',append_nil]at ht;rw[w1];exact ih (j+1) F G' a' n' o_ hjl o_ hG' (by rw[ht];exact ho) (by rw[ht];exact hn')
  exact go _ 0 F G none 0 rfl (kP _) o_ (k8 _) (.inl ⟨rfl,rfl,rfl⟩) rfl
 have go:∀(f j F:Nat)(G:Hp)(a':Pl)(n':Nat),f=st.links.length-j->j<=st.links.length->f+(st.inos.length+2)+1<=F->H<+:G->Own G H.length zM_ a' (n'*4) (((st.links.take j).eraseIdx i).flatMap Bi_)->n'=((st.links.take j).eraseIdx i).length->
  aG_.l3 F (some (sp,0)) ((i:Nat):Int) ((m:Nat):Int) a' n' ((j:Nat):Int) G Q:=by
  intro f;induction f with
  |zero=>
   intro j F G a' n' hf hj hF hG ho hn';obtain⟨F,rfl⟩:∃G,F=G+1:=⟨F-1,o_⟩;obtain⟨g1,g2,g3⟩:=(h.mono hG).rd;rw[aG_.l3_eq];simp only[ad_];rw[ac_ g2,ah_];refine aa_ (m_) λe=>?_;rw[k7 o_]at ho hn';refine h.setL hG ho hn' λG1 _ _ hR=>?_;obtain⟨g1',g2',g3'⟩:=hR.rd;rw[ac_ g3',ah_];have hl3:=h.l3;refine ab_ rfl (ab_ s_ ?_);obtain⟨l3,e3,q1,q2,q3⟩:=hR.inoG m hm;subst e3;simp only[ad_,etn,kN,kQ];rw[ac_ q2,ai_];refine ab_ rfl (ab_ s_ ?_);have hv:ae_ .i64 (st.inos[m].2.links-1)=y.links-1:=by rw[ey];exact cf_ (by dsimp only;omega) (by dsimp only;omega)
   rw[hv];refine hR.updI hm _ λG2 hG2 hR2=>?_;refine back F G2 a' n' o_ ?_;rw[xy_ hS.nd.inos hm ey];have:(st.inos[m].1,(⟨y.links-1,st.inos[m].2.content⟩:InoR))=(st.links[i].2.1,⟨y.links-1,y.content⟩):=by rw[ey]
   rw[this]at hR2;exact hR2
  | succ f ih=>
   intro j F G a' n' hf hj hF hG ho hn';have hjl:j<st.links.length:=o_
   obtain⟨F,rfl⟩:∃G,F=G+1:=⟨F-1,o_⟩;have hR:=h.mono hG;obtain⟨g1,g2,g3⟩:=hR.rd;rw[aG_.l3_eq];simp only[ad_];rw[ac_ g2,ah_];refine aa_ (λe=>?_) (m_);have w1:ae_ .i64 (((j:Nat):Int)+1)=((j+1:Nat):Int):=ao_ o_;have ht:=x3_ (i:=i) hjl;have hnl:((st.links.take j).eraseIdx i).length<=1000:=Nat.le_trans (length_eraseIdx_le _ _) (by rw[lC];omega);refine aa_ (λe=>?_) λe=>?_
   .have e': ¬ j=i:=by simp at e;omega
    rw[if_neg e']at ht;rw[ac_ g2,ah_];refine ab_ rfl (ab_ s_ ?_);obtain⟨l2',e2',q1,q2,q3,q4,_⟩:=hR.linkG j hjl;cases e2';simp only[ad_,etn,kN,kQ];rw[ac_ q1,ai_,ac_ q2,aq_,ac_ q3,ai_,ac_ q4,ak_];refine ab_ rfl ?_;refine j9_ (H0:=H) o_ hG ho (m:=1) rfl (by unfold Lim;omega) λx' G'' o' ex fr=>?_;rw[w1];refine ih (j+1) F G'' x' _ o_ hjl o_ ex.pre ?_ ?_
    .rw[ht,flatMap_append,flatMap_singleton];exact o'
    .rw[ht,kI];simp;omega
   .have e':j=i:=by simp at e;omega
    rw[if_pos e']at ht;rw[w1];exact ih (j+1) F G a' n' o_ hjl o_ hG (by rw[ht];exact ho) (by rw[ht];exact hn')
 exact go _ 0 _ H none 0 rfl (kP _) o_ (k8 _) (.inl ⟨rfl,rfl,rfl⟩) rfl
def s0_:∀(f:Nat){H:Hp}{J:Pl}{n2:Nat}{I:Pl}{F:Nat}{st:StD},dd_ B H sp a1 n1 J n2 I F st->Sto st->st.snaps.length<=1000->st.links.length<=1000->st.inos.length<=1000->st.links.length<=f->
 (∀H' N A O D,dd_ B H' sp a1 n1 N A O D (og_ f st)->Q (.tup []) H')->bK_.l0 (f+1) (some (sp,0)) H Q:=by
 intro f;induction f with
 | zero=>
  intro H J n2 I F st h V U G Y hf r;rw[bK_.l0_eq];refine hQ_ h ⟨U,G⟩ ?_;simp[aJ_];have:jF_ st= -1:=by
   unfold jF_;grind
  rw[this];exact r H J n2 I F h
 | succ f Z=>
  intro H J n2 I F st h V U G Y hf r;rw[bK_.l0_eq];refine hQ_ h ⟨U,G⟩ ?_;simp[aJ_];unfold og_ at r;cases e:eo_ st with
  |none=>
   rw[e]at r;have:jF_ st= -1:=by unfold jF_;unfold eo_ at e;rw[e]
   rw[this];exact r H J n2 I F h
  | some i=>
   rw[e]at r;have⟨W,_⟩:=rA_ e;have:jF_ st=(i):=by unfold jF_;unfold eo_ at e;rw[e]
   rw[this];refine hQ_ h ⟨U,G⟩ ?_;simp[aJ_];rw[this];refine mI_ h V ⟨G,Y⟩ W λH' N A O D h'=>?_;have⟨y,hy,eq⟩:=eS_ V W;refine Z h' (lL_ V W) g_ ?_ ?_ ?_ r
   .grind
   .rw[eq];refine Nat.le_trans (length_filter_le _ _) ?_;have:(fP_ st.inos st.links[i].2.1 ⟨y.links-1,y.content⟩).length=st.inos.length:=by unfold fP_;rw[hy];simp
    omega
   .grind
def jo_ (h:dd_ B H sp a1 n1 a2 n2 a3 n3 st) (J:Sto st) (k:st.snaps.length<=1000/\st.links.length<=1000/\st.inos.length<=1000) (r:ec_ (iT_ st)<=60)
 (A:∀H' x',B<+:H'->TrK H' x' 48 (eZ_ (iT_ st))->Q (yA x' 48) H'):cv_ [yQ sp] H Q:=by
 refine⟨1,?_⟩;rw[ph_];refine u4_ h k ?_;simp[aJ_];unfold iT_ at r A;refine aa_ (λe=>?_) λe=>?_
 .have I:60<ec_ st:=by unfold ec_;simp at e;omega
  rw[lE I]at r A;refine⟨st.links.length+2,s0_ st.links.length h J k.1 k.2.1 k.2.2 (kO _) λH' V O Y U N=>?_⟩;have W:=(os_ st.links.length (hp_.refl J)).1;refine mO_ N W.sto.ok r λG x' D F=>?_;simp[ez_];exact A G x' (N.pre.trans D) F
 .have I: ¬ 60<ec_ st:=by unfold ec_;simp at e;omega
  rw[lH I]at r A;refine mO_ h J.ok r λG x' D F=>?_;simp[ez_];exact A G x' (h.pre.trans D) F
end
def dD_.src (h:dD_ H b a cs is):∀i (hi:i<is.length),∃p,cs[i*5+4]?=some (.sl p is[i].files.length 3)/\bR_ H p is[i].files/\∀l o,p=some (l,o)->b<=l/\∀D,a≠some (l,D):=by
 induction h with
 |nil=>intro i hi;cases hi
 | @cons p x cs is I F _ G=>
  intro i hi;cases i with
  |zero=>exact⟨p,rfl,I,F⟩
  |succ i=>
   have⟨q,r,A⟩:=G i g_;refine⟨q,?_,A⟩;rw[getElem?_append_right (by simp[gP_];omega),show (i+1)*5+4-(gP_ p x).length=i*5+4 by simp[gP_];omega];exact r
def bT_.src(h:bT_ H b a is)(i:Nat)(hi:i<is.length):∃l p,a=some (l,0)/\b<=l/\gt H l (i*5)=some (.str is[i].name)/\gt H l (i*5+1)=some (.int .i64 is[i].kind)/\gt H l (i*5+1+1)=some (.str is[i].parent)/\gt H l (i*5+1+1+1)=some (.str is[i].label)/\
 gt H l (i*5+1+1+1+1)=some (.sl p is[i].files.length 3)/\bR_ H p is[i].files/\(∀r o,p=some (r,o)->b<=r/\r≠l)/\∃cs,H[l]?=some (.row true hb_ cs)/\cs.length=is.length*5:=by
 rcases h with⟨_,rfl⟩|⟨l,cs,rfl,N,D,A⟩
 .cases hi
 .have⟨p,U,W,V,O,I,_⟩:=A.at i hi;have⟨q,F,J,G⟩:=A.src i hi;rw[I]at F;cases F;refine⟨l,p,rfl,N,?_,?_,?_,?_,?_,J,λr o e=>⟨(G r o e).1,λz=>(G r o e).2 0 (by rw[z])⟩,cs,D,A.len⟩<;>rw[aY_ D]<;>assumption
theorem bR_.cells(h:bR_ H p fs):cells? H p (fs.length*3)=some (bJ_ fs):=by
 rcases h with⟨rfl,rfl⟩|⟨l,rfl,h⟩
 .rfl
 .have r:=e0_ fs;unfold cells?;grind
def fc_(pis:List (Pl × InfoR)):List GV:=pis.flatMap λq=>gP_ q.1 q.2
def dD_.pis (h:dD_ H b a cs is):∃ps:List (Pl × InfoR),cs=fc_ ps/\ps.map (·.2)=is/\∀q∈ps,bR_ H q.1 q.2.files/\∀l o,q.1=some (l,o)->b<=l/\∀o',a≠some (l,o'):=by
 induction h with
 |nil=>exact⟨[],rfl,rfl,t_⟩
 |@cons p i cs is h1 h2 _ ih=>
  obtain⟨ps,rfl,rfl,h⟩:=ih;exact⟨(p,i)::ps,rfl,rfl,λq hq=>by rcases kU.1 hq with rfl|hq;exact⟨h1,h2⟩;exact h q hq⟩
theorem bR_.ltAt(h:bR_ H p fs)(e:p=some (l,o)):l<H.length:=by subst e;exact h.lt
def dD_.mk:∀{ps:List (Pl × InfoR)},(∀q∈ps,bR_ H q.1 q.2.files/\∀l o,q.1=some (l,o)->b<=l/\∀o',a≠some (l,o'))->dD_ H b a (fc_ ps) (ps.map (·.2))
 |[],_=> .nil
 |q::ps,h=> .cons (h q t_).1 (h q t_).2 (dD_.mk λq hq=>h q (by simp[hq]))
def dD_.low(h:dD_ H b a cs is)(hb:b'<=b):dD_ H b' a cs is:=by
 obtain⟨ps,rfl,rfl,g⟩:=h.pis;exact dD_.mk λq hq=>⟨(g q hq).1,λl o e=>⟨by have:=((g q hq).2 l o e).1;omega,((g q hq).2 l o e).2⟩⟩
theorem md_(ps:List (Pl × InfoR)):(fc_ ps).length=ps.length*5:=by
 unfold fc_;induction ps with
 |nil=>rfl
 |cons q ps ih=>rw[flatMap_cons,kI,ih];simp[gP_];omega
theorem v7_{ps:List (Pl × InfoR)}{i:Nat}(hi:i<ps.length)(p:Pl):(fc_ ps).set (i*5+4) (.sl p ps[i].2.files.length 3)=fc_ (ps.set i (p,ps[i].2)):=
 ja_ (f:=λq:Pl × InfoR=>gP_ q.1 q.2) (λ_=>rfl) o_ ps i hi rfl
theorem xb_{ps:List (Pl × InfoR)}{i:Nat}(hi:i<ps.length)(j:Nat)(hj:j<5):(fc_ ps)[i*5+j]?=(gP_ ps[i].1 ps[i].2)[j]? :=
 c8_ (f:=λq:Pl × InfoR=>gP_ q.1 q.2) (λ_=>rfl) ps i hi j hj
structure vi_ (H:Hp) (b:Nat) (a:Pl) (is:List InfoR):Prop where
 ex:∃ps:List (Pl × InfoR),ps.map (·.2)=is/\Own H b hb_ a (ps.length*5) (fc_ ps)/\(∀q∈ps,bR_ H q.1 q.2.files/\∀r o,q.1=some (r,o)->b<=r/\∀o',a≠some (r,o'))/\
  ps.Pairwise λx y=>∀r o o',x.1=some (r,o)->y.1≠some (r,o')
theorem vi_.at(h:vi_ H b a is):bT_ H b a is:=by
 obtain⟨ps,rfl,o,hp,_⟩:=h.ex;rcases o with⟨rfl,h0,_⟩|⟨l,rfl,hb,hr,_⟩
 .have:ps=[]:=length_eq_zero_iff.1 o_;subst this;exact .inl ⟨rfl,rfl⟩
 .exact .inr ⟨l,_,rfl,hb,hr,dD_.mk hp⟩
def IT_ {B G H:Hp} {a p:Pl} {is:List InfoR} {i:InfoR} {K:Pl->Nat->Hp->Prop} (h:vi_ G B.length a is) (hB:B<+:G) (p1:G<+:H) (C:bR_ H p i.files) (F:∀l o,p=some (l,o)->G.length<=l) (hn:is.length<=1000)
 (D:∀a' H',vi_ H' B.length a' (is++[i])->B<+:H'->K a' (is.length+1) H'):ap H hb_ 5 80 a is.length (gP_ p i) 1 K:=by
 obtain⟨ps,rfl,o,hp,pw⟩:=h.ex;rw[k9] at*;have gl:=p1.length_le;have bl:=hB.length_le;refine j9_ o_ (hB.trans p1) (o.mono p1) rfl (by unfold Lim;omega) λa' H' o' e fr=>D a' H' ⟨ps++[(p,i)],t_,by simpa[fc_] using o',λq hq=>?_,?_⟩ e.pre
 ·have hla:∀l o,a=some (l,o)->l<G.length:=λl o e=>by
   rcases h.at with⟨q,_⟩|⟨m,_,q,_,hr,_⟩
   .rw[q]at e;cases e
   .rw[q]at e;cases e;exact (kC.1 hr).1
  rcases kD.1 hq with q1|q1
  .obtain⟨h1,h2⟩:=hp q q1;refine⟨h1.keep λl o q2=>?_,λr o q2=>⟨(h2 r o q2).1,λo' q3=>?_⟩⟩
   .rw[e.row l (h_ (h1.ltAt q2)) λq3=>(h2 l o q2).2 0 q3,a9_ p1 (h1.ltAt q2)]
   .have:=(fr r o' q3).1;have:=h1.ltAt q2;omega
  .have:q=(p,i):=by simpa using q1
   subst this;refine⟨C.keep λl o q2=>e.row l (C.ltAt q2) λq3=>?_,λr o q2=>⟨h_ (F r o q2),λo' q3=>?_⟩⟩
   .have:=F l o q2;have:=hla l 0 q3;omega
   .have:=(fr r o' q3).1;have:=C.ltAt q2;omega
 .rw[kZ];refine⟨pw,t_,λx hx y hy r o o' q1 q2=>?_⟩;have:y=(p,i):=by simpa using hy
  subst this;have:=F r o' q2;have:=(hp x hx).1.ltAt q1;omega
def Dk_(h:Own H b hb_ a (r.length*5) (fc_ r))(G:∀q∈r,fI_ H q.1 q.2.files):cY_ H a (r.map (·.2)):=by
 intro i A;rw[k9]at A;have⟨l,e,D⟩:=wP_ h o_;have F:∀q:Pl × InfoR,(gP_ q.1 q.2).length=5:=λ_=>rfl;refine⟨l,0,(r[i]).1,e,?_,?_,?_,?_,?_,?_⟩
 .rw[D,kN,getElem_map];exact c8_ F _ i A 0 o_
 .rw[D,kN,getElem_map];exact c8_ F _ i A 1 o_
 .rw[D,kN,getElem_map];exact c8_ F _ i A 2 o_
 .rw[D,kN,getElem_map];exact c8_ F _ i A 3 o_
 .rw[D,kN,getElem_map];exact c8_ F _ i A 4 o_
 .grind
section
variable{H:Hp}{Q:Post}
def gf_ {b:Nat} {a:Pl} {is:List InfoR} (h:bT_ H b a is) (hn:is.length<=900) (hf:∀i∈is,i.files.length<=100000) (hQ:∀H' a',H<+:H'->vi_ H' H.length a' is->Q (nL a' is.length 5) H'):bd_ [nL a is.length 5] H Q:=by
 refine⟨is.length+2,?_⟩;rw[ya_];have etn:∀k:Nat,tN (k:Int)=k:=λ_=>rfl;have go:∀(f k:Nat)(G:Hp)(a':Pl),f=is.length-k->k<=is.length->H<+:G->vi_ G H.length a' (is.take k)->bd_.l3 (f+1) a is.length a' k ((k:Nat):Int) G Q:=by
  intro f;induction f with
  |zero=>
   intro k G a' hf' hk hG ha;rw[bd_.l3_eq];refine aa_ (m_) λe=>?_;have hke:k=is.length:=o_
   rw[hke,take_length]at ha;rw[hke];exact hQ G a' hG ha
  | succ f ih=>
   intro k G a' hf' hk hG ha;have hkl:k<is.length:=o_
   rw[bd_.l3_eq];refine aa_ (λe=>?_) (m_);refine ab_ rfl (ab_ s_ ?_);obtain⟨l,p,rfl,hbl,r1,r2,r3,r4,r5,r6,_⟩:=(h.pre hG).src k hkl;simp only[ad_,etn,kN,kQ];rw[ac_ r1,aq_,ac_ r2,ai_,ac_ r3,aq_,ac_ r4,aq_,ac_ r5,ah_];refine ab_ rfl ?_;rw[d5_ r6.cells];have hfk:=hf _ (kE hkl);refine⟨⟨by unfold Lim;omega,e0_ _⟩,?_⟩;simp only[ed_];refine ab_ rfl ?_;have hti:(is.take k).length=k:=by rw[lC];omega
   have key:=IT_ (i:=is[k]) (K:=λa'' n' G'=>bd_.l3 (f+1) (some (l,0)) is.length a'' n' (ae_ .i64 (((k:Nat):Int)+1)) G' Q) (p:=some (G.length,0)) ha hG (b4_ G (.row true gl_ (bJ_ is[k].files))) (.inr ⟨G.length,rfl,t_⟩) (λl' o e=>by cases e;exact kO _) o_ λa'' G' ha' hk'=>by
    rw[hti,ao_ o_];refine ih (k+1) G' a'' o_ hkl hk' ?_;rw[take_add_one,kG hkl];exact ha'
   rw[hti]at key;exact key
 exact go _ 0 H none rfl (kP _) (k8 _) ⟨[],t_,.inl ⟨rfl,rfl,rfl⟩,t_,.nil⟩
def qB_ {a:Pl} {is:List InfoR} (h:cY_ H a is) (hn:is.length<=900) {m:Nat} (hQ:∀H' a',H<+:H'->cY_ H' a' (is.eraseIdx m)->Q (nL a' (is.eraseIdx m).length 5) H'):bY_ [nL a is.length 5,gI ((m:Nat):Int)] H Q:=by
 refine⟨is.length+2,?_⟩;rw[ty_];have etn:∀k:Nat,tN (k:Int)=k:=λ_=>rfl;have go:∀(f k:Nat)(G:Hp)(a':Pl)(n':Nat)(pis:List (Pl × InfoR)),f=is.length-k->k<=is.length->H<+:G->Own G H.length hb_ a' (n'*5) (fc_ pis)->n'=pis.length->(∀q∈pis,fI_ H q.1 q.2.files)->pis.map (·.2)=(is.take k).eraseIdx m->
  bY_.l3 (f+1) a is.length ((m:Nat):Int) a' n' ((k:Nat):Int) G Q:=by
  intro f;induction f with
  |zero=>
   intro k G a' n' pis hf' hk hG ho hn' hp he;rw[bY_.l3_eq];refine aa_ (m_) λe=>?_;rw[k7 o_]at he;subst hn';have hr:=Dk_ ho λq hq=>(hp q hq).pre hG;have:=hQ G a' hG;rw[<-he,k9]at this;exact this hr
  | succ f ih=>
   intro k G a' n' pis hf' hk hG ho hn' hp he;have hkl:k<is.length:=o_
   rw[bY_.l3_eq];refine aa_ (λe=>?_) (m_);have w1:ae_ .i64 (((k:Nat):Int)+1)=((k+1:Nat):Int):=ao_ o_;have ht:=x3_ (i:=m) hkl;have hnl:pis.length<=900:=by
    have:=congrArg length he;rw[k9]at this;rw[this];exact Nat.le_trans (length_eraseIdx_le _ _) (by rw[lC];omega)
   refine aa_ (λe=>?_) λe=>?_
   ·have e': ¬ k=m:=by simp at e;omega
    rw[if_neg e']at ht;refine ab_ rfl (ab_ s_ ?_);obtain⟨l,o,p,rfl,r1,r2,r3,r4,r5,r6⟩:=(h.pre hG) _ hkl;have r6':fI_ H p is[k].files:=by
     obtain⟨l',o',p',e1,_,_,_,_,q5,q6⟩:=h k hkl;cases e1;have:=cn_ hG q5;rw[r5]at this;cases this;exact q6
    simp only[ad_,etn];rw[ac_ r1,aq_,ac_ r2,ai_,ac_ r3,aq_,ac_ r4,aq_,ac_ r5,ah_];refine ab_ rfl ?_;refine j9_ (H0:=H) o_ hG ho (m:=1) rfl (by unfold Lim;omega) λx' G' o' ex fr=>?_;rw[w1];refine ih (k+1) G' x' _ (pis++[(p,is[k])]) o_ hkl ex.pre ?_ (by rw[kI,hn'];rfl) (λq hq=>?_) (by rw[ht,kL,he];rfl)
    .unfold fc_;rw[flatMap_append,flatMap_singleton];exact o'
    ·rcases kD.1 hq with z|z
     .exact hp q z
     .have:q=(p,is[k]):=by simpa using z
      subst this;exact r6'
   .have e':k=m:=by simp at e;omega
    rw[if_pos e']at ht;rw[w1];exact ih (k+1) G a' n' pis o_ hkl hG ho hn' hp (by rw[ht];exact he)
 exact go _ 0 H none 0 [] rfl (kP _) (k8 _) (.inl ⟨rfl,rfl,rfl⟩) rfl (λq hq=>k_ hq) t_
def mE_ {a p:Pl} {is:List InfoR} {s1 s3 s4:Y_} {k2:Int} {m:Nat} (h:cY_ H a is) (hn:is.length<=900) (hQ:∀H' a' n',H<+:H'->Q (nL a' n' 5) H'):
 a5_ [nL a is.length 5,.agg [.str s1,.int .i64 k2,.str s3,.str s4,.sl p m 3]] H Q:=by
 refine⟨2*is.length+2,?_⟩;rw[yv_];have etn:∀k:Nat,tN (k:Int)=k:=λ_=>rfl;have go:∀(f k F:Nat)(G:Hp)(a':Pl)(n':Nat)(cs:List GV)(d:Bool),f=is.length-k->k<=is.length->2*f+1<=F->H<+:G->Own G H.length hb_ a' (n'*5) cs->n'<=k+(match d with|true=>1|false=>0)->
  a5_.l4 F a is.length s1 k2 s3 s4 p m a' n' d ((k:Nat):Int) G Q:=by
  intro f;induction f with
  |zero=>
   intro k F G a' n' cs d hf' hk hF hG ho hn';have hn2:n'<=k+1:=by cases d<;>dsimp only at hn'<;>omega
   obtain⟨F,rfl⟩:∃G,F=G+1:=⟨F-1,o_⟩;rw[a5_.l4_eq];refine aa_ (m_) λe=>?_;refine aa_ (λe=>?_) λe=>hQ G a' n' hG;refine ab_ rfl ?_;exact j9_ (H0:=H) o_ hG ho (m:=1) rfl (by unfold Lim;omega) λx' G' o' ex fr=>hQ G' _ _ ex.pre
  | succ f ih=>
   intro k F G a' n' cs d hf' hk hF hG ho hn';have hkl:k<is.length:=o_
   obtain⟨F,rfl⟩:∃G,F=G+1+1:=⟨F-2,o_⟩;rw[a5_.l4_eq];refine aa_ (λe=>?_) (m_);have w1:ae_ .i64 (((k:Nat):Int)+1)=((k+1:Nat):Int):=ao_ o_;have next:∀(G:Hp)(a':Pl)(n':Nat)(cs:List GV)(d:Bool),H<+:G->Own G H.length hb_ a' (n'*5) cs->n'<=k+(match d with|true=>1|false=>0)->a5_.l9 (F+1) a is.length s1 k2 s3 s4 p m a' n' d ((k:Nat):Int) G Q:=by
    intro G a' n' cs d hG ho hn';have hn2:n'<=k+1:=by cases d<;>dsimp only at hn'<;>omega
    rw[a5_.l9_eq];refine ab_ rfl (ab_ s_ ?_);obtain⟨l,o,p',e',r1,r2,r3,r4,r5,r6⟩:=(h.pre hG) _ hkl;rw[e'];simp only[ad_,etn];rw[ac_ r1,aq_,ac_ r2,ai_,ac_ r3,aq_,ac_ r4,aq_,ac_ r5,ah_];refine ab_ rfl ?_;refine j9_ (H0:=H) o_ hG ho (m:=1) rfl (by unfold Lim;omega) λx' G' o' ex fr=>?_;rw[w1,<-e'];exact ih (k+1) F G' x' _ _ d o_ hkl o_ ex.pre o' (by cases d<;>dsimp only at hn' ⊢ <;>omega)
   refine aa_ (λed=>?_) λed=>next G a' n' cs d hG ho hn';have hd:d=false:=dZ_ ed;subst hd;dsimp only at hn';refine ab_ rfl (ab_ s_ ?_);obtain⟨l,o,p',e',r1,r2,r3,r4,r5,r6⟩:=(h.pre hG) _ hkl;rw[e'];simp only[ad_,etn,kQ];rw[ac_ r1,aq_];refine aa_ (λe=>?_) λe=>?_
   .refine ab_ rfl ?_;refine j9_ (H0:=H) o_ hG ho (m:=1) rfl (by unfold Lim;omega) λx' G' o' ex fr=>?_;rw[<-e'];exact next G' x' _ _ true ex.pre o' (by dsimp only;omega)
   .rw[<-e'];exact next G a' n' cs false hG ho (by dsimp only;omega)
 exact go _ 0 _ H none 0 [] false rfl (kP _) o_ (k8 _) (.inl ⟨rfl,rfl,rfl⟩) (by dsimp only;omega)
def kM_ (h:fI_ H p fs) (Y:fs.length<=100000)
 (V:∀k (I:k<fs.length),fs[k].1=s->Q (gI ((k:Nat):Int)) H) (U:(∀f∈fs,f.1≠s)->Q (gI (-1)) H):b7_ [nL p fs.length 3,gS s] H Q:=by
 refine⟨fs.length+2,?_⟩;rw[uN_];have W:∀k:Nat,tN (k:Int)=k:=λ_=>rfl;have go:∀(f k),f=fs.length-k->k<=fs.length->(∀j D,j<k->fs[j].1≠s)->b7_.l2 (f+1) p fs.length s (k) H Q:=by
  intro f;induction f with
  |zero=>
   intro k G I J;rw[b7_.l2_eq];refine aa_ (m_) λ_=>U λf G=>?_;obtain⟨j,D,rfl⟩:=kK G;grind
  |succ f O=>
   intro k G I J;have A:k<fs.length:=o_
   rw[b7_.l2_eq];refine aa_ (λe=>?_) (m_);refine ab_ rfl (ab_ s_ ?_);obtain⟨l,o,rfl,N,_⟩:=h _ A;simp[ad_];rw[ac_ N,aq_];refine aa_ (λe=>V k A (u_ e)) λe=>?_;rw[ao_ o_];refine O (k+1) o_ A λj D F=>?_;rcases Nat.lt_or_eq_of_le (Nat.le_of_lt_succ F) with z|z
   .exact J j D z
   .subst z;simpa using e
 grind
def c9_(is:List InfoR)(s:Y_):Int:=match cK_ is s with|none=>1903|some i=>match eqI i.kind 0 with|true=>0|false=>1905
def no_(A:hM_ is)(r:(is.any λy=>decide (y.name=s))=true):∃G:dP_ is s<is.length,cK_ is s=some is[dP_ is s]:=by
 obtain⟨D,F⟩:=qT_ A;rw[D]at r;have⟨i,I⟩:=Option.isSome_iff_exists.1 r;grind
theorem jQ_(A:hM_ is)(r:(is.any λy=>decide (y.name=s))=false):cK_ is s=none:=by
 rw[(qT_ A).1]at r;cases D:cK_ is s with
 |none=>rfl
 |some i=>rw[D]at r;cases r
def hZ_(h:cY_ H a is)(F:hM_ is)(U:is.length<=1000)
 (J:∀e,e≠0->c9_ is s=e->Q (.tup [nN 0,nN e]) H)
 (O:c9_ is s=0->∀G:dP_ is s<is.length,cK_ is s=some is[dP_ is s]->Q (.tup [nN ((dP_ is s:Nat):Int),nN 0]) H):
 dK_ [nL a is.length 5,gS s] H Q:=by
 refine⟨1,?_⟩;rw[uR_];have D:∀k:Nat,tN (k:Int)=k:=λ_=>rfl;refine gW_ h F U (λA=>?_) λA=>?_
 .simp only[aJ_,ai_];have⟨G,I⟩:=no_ F A;refine aa_ (m_) λ_=>?_;refine ab_ rfl (ab_ (a_) ?_);obtain⟨l,o,p,rfl,V,N,_⟩:=h _ G;simp only[ad_,D];rw[ac_ N,ai_];refine aa_ (λe=>J 1905 t_ (by unfold c9_;rw[I];dsimp;rw[dZ_ e])) λe=>O (by unfold c9_;rw[I];dsimp;rw[eB_ e]) G I
 .simp only[aJ_,ai_];refine aa_ (λ_=>J 1903 t_ (by unfold c9_;rw[jQ_ F A])) λe=>a_
end
def lg_(is:List InfoR)(parent:Y_):Bool:=decide (parent=mkS [])||(match cK_ is parent with|none=>false|some y=>eqI y.kind 2)
def ic_ (is:List InfoR) (name parent:Y_) (kind:Int):Int:=match aZ_ name 4 with
 |false=>1901
 | true=>match decide (parent=mkS [])||aZ_ parent 4 with
  |false=>1901
  | true=>match eqI kind 0||eqI kind 1 with
   |false=>1905
   | true=>match (cK_ is name).isSome with
    |true=>1902
    | false=>match lg_ is parent with
     |false=>1904
     |true=>match leI 6 (is.length:Int) with
      |true=>1910
      |false=>0
def v9_:∀(f k:Nat),f=is.length-k->bu_ is f k=true->∀j (A:j<is.length),k<=j->dg_ is[j]=true
 |0,k,D,h=>λj A r=>o_
 |f+1,k,D,h=>λj A r=>by
  rw[bu_]at h;have F:k<is.length:=o_
  rw[kG F]at h;simp at h;rcases Nat.lt_or_eq_of_le r with q|q
  .exact v9_ f (k+1) o_ h.2.2 j A q
  .grind
def xZ_(h:bu_ is is.length 0=true):∀i∈is,dg_ i=true:=λi r=>by
 obtain⟨j,A,rfl⟩:=kK r;exact v9_ _ 0 rfl h j A (kP _)
def Bm_(h:dg_ i=true):aZ_ i.name 4=true:=by
 unfold dg_ at h;grind
def HJ_(h:bu_ is is.length 0=true):(is.any λy=>decide (y.name=mkS []))=false:=by
 rw[any_eq_false];intro x r e;have:=e6_ (Bm_ (xZ_ h x r));simp_all
section
variable{H:Hp}{Q:Post}
def qF_ {b:Nat} {a:Pl} {is:List InfoR} {name parent:Y_} {kind:Int} (h:bT_ H b a is) (ha:hM_ is) (hf:bu_ is is.length 0=true) (hn:is.length<=900)
 (hsz:∀x∈is,x.name.size<=140737488351232/\x.files.length<=100000/\∀f∈x.files,f.1.size<=140737488351232) (hs1:name.size<=140737488351232) (hs2:parent.size<=140737488351232)
 (hQ:∀H' a' n',H<+:H'->Q (.tup [yR a' n' 5,nN (ic_ is name parent kind)]) H'):
 bg_ [nL a is.length 5,gS name,gS parent,gI kind] H Q:=by
 refine⟨100010,?_⟩;rw[tD_];have etn:∀k:Nat,tN (k:Int)=k:=λ_=>rfl;have hrd:=h.rd;have hfl:∀i∈is,i.files.length<=100000:=λi hi=>(hsz i hi).2.1;have copy:∀{m:Nat}{p:Pl}{G:Hp},ic_ is name parent kind=0->H<+:G->cl bd_ [(nL a is.length 5)] G λr24 H25=>
  rG r24 λv26=>
  dL 5 v26 λx27 n28=>
  cl a5_ [(nL x27 n28 5),(.agg [(.str name),(.int .i64 kind),(.str parent),(.str (mkS [])),(.sl p m 3)])] H25 λr29 H30=>
  rG r29 λv31=>
  dL 5 v31 λx32 n33=>
  Q (.tup [(yR x32 n33 5),(nN 0)]) H30:=λ{m p G} e hG=>by
  refine gf_ (h.pre hG) hn hfl λH1 a1 p1 h1=>?_;replace h1:=h1.at;simp only[aJ_,ah_];refine mE_ h1.rd hn λH2 a2 n2 p2=>?_;simp only[aJ_,ah_];have:=hQ H2 a2 n2 (hG.trans (p1.trans p2));rw[e]at this;exact this
 have l17:ic_ is name parent kind=0->∀hp:dP_ is parent<is.length,∀(f j F:Nat)(G:Hp)(a':Pl)(n':Nat)(cs:List GV),f=is[dP_ is parent].files.length-j->j<=is[dP_ is parent].files.length->f+1<=F->H<+:G->Own G H.length gl_ a' (n'*3) cs->n'<=j->
  bg_.l17 F a is.length ((dP_ is parent:Nat):Int) name kind parent (mkS []) a' n' ((j:Nat):Int) G Q:=by
  intro e0 hp f;obtain⟨l,o,p,e1,r1,r2,r3,r4,r5,r6⟩:=hrd _ hp;have hfk:=hfl _ (kE hp);induction f with
  |zero=>
   intro j F G a' n' cs hf' hj hF hG ho hn';obtain⟨F,rfl⟩:∃G,F=G+1:=⟨F-1,o_⟩;rw[bg_.l17_eq];refine ab_ rfl (ab_ s_ ?_);rw[e1];simp only[ad_,etn];rw[ac_ (cn_ hG r5),ah_];refine aa_ (w_) λ_=>?_;rw[<-e1];exact copy e0 hG
  |succ f ih=>
   intro j F G a' n' cs hf' hj hF hG ho hn';have hjl:j<is[dP_ is parent].files.length:=o_
   obtain⟨F,rfl⟩:∃G,F=G+1:=⟨F-1,o_⟩;rw[bg_.l17_eq];refine ab_ rfl (ab_ s_ ?_);rw[e1];simp only[ad_,etn];rw[ac_ (cn_ hG r5),ah_];refine aa_ (λe=>?_) (w_);refine ab_ rfl (ab_ s_ ?_);rw[ac_ (cn_ hG r5),ah_];refine ab_ rfl (ab_ s_ ?_);obtain⟨l2,o2,rfl,q1,q2,q3⟩:=(r6.pre hG) _ hjl;simp only[ad_,etn];rw[ac_ q1,aq_,ac_ q2,aq_,ac_ q3,ak_];refine ab_ rfl ?_;refine j9_ (H0:=H) o_ hG ho (m:=1) rfl (by unfold Lim;omega) λx' G' o' ex fr=>?_;rw[ao_ o_,<-e1];exact ih (j+1) F G' x' _ _ o_ hjl o_ ex.pre o' o_
 have rest:∀i3:Int,((i3=((dP_ is parent:Nat):Int)/\(is.any λy=>decide (y.name=parent))=true)\/(i3= -1/\(is.any λy=>decide (y.name=parent))=false))->aZ_ name 4=true->(decide (parent=mkS [])||aZ_ parent 4)=true->(eqI kind 0||eqI kind 1)=true->
  cl co_ [(nL a is.length 5),(gS name)] H λr16 H17=>
   rG r16 λv18=>
   dI .i64 v18 λi19=>
   cq_ (leI 0 i19)
   (Q (.tup [(yR none 0 5),(nN 1902)]) H17)
   (cq_ (!(er_ parent (mkS [])))
    (cq_ (ltI i3 0)
     (Q (.tup [(yR none 0 5),(nN 1904)]) H17)
     (chk true (chk ((leI 0 i3)&&(ltI i3 (nI is.length))) (pS a λn20 n21=>
      rd H17 n20 ((n21+((tN i3)*5))+1) λv22=>
      dI .i64 v22 λi23=>
      cq_ (!(eqI i23 2))
      (Q (.tup [(yR none 0 5),(nN 1904)]) H17)
      (cq_ (leI 6 (nI is.length))
       (Q (.tup [(yR none 0 5),(nN 1910)]) H17)
       (cq_ (leI 0 i3)
        (bg_.l17 100009 a is.length i3 name kind parent (mkS []) none 0 0 H17 Q)
        (cl bd_ [(nL a is.length 5)] H17 λr24 H25=>
         rG r24 λv26=>
         dL 5 v26 λx27 n28=>
         cl a5_ [(nL x27 n28 5),(.agg [(.str name),(.int .i64 kind),(.str parent),(.str (mkS [])),(.sl none 0 3)])] H25 λr29 H30=>
         rG r29 λv31=>
         dL 5 v31 λx32 n33=>
         Q (.tup [(yR x32 n33 5),(nN 0)]) H30)))))))
    (cq_ (leI 6 (nI is.length))
     (Q (.tup [(yR none 0 5),(nN 1910)]) H17)
     (cq_ (leI 0 i3)
      (bg_.l17 100009 a is.length i3 name kind parent (mkS []) none 0 0 H17 Q)
      (cl bd_ [(nL a is.length 5)] H17 λr34 H35=>
       rG r34 λv36=>
       dL 5 v36 λx37 n38=>
       cl a5_ [(nL x37 n38 5),(.agg [(.str name),(.int .i64 kind),(.str parent),(.str (mkS [])),(.sl none 0 3)])] H35 λr39 H40=>
       rG r39 λv41=>
       dL 5 v41 λx42 n43=>
       Q (.tup [(yR x42 n43 5),(nN 0)]) H40)))):=by
  intro i3 hi3 w1 w2 w3;have e0:ic_ is name parent kind=match (cK_ is name).isSome with
   |true=>1902
   | false=>match lg_ is parent with
    |false=>1904
    |true=>match leI 6 (is.length:Int) with
     |true=>1910
     |false=>0:=by unfold ic_;rw[w1,w2,w3]
  have h0:=hQ H none 0 (k8 _);refine gW_ hrd ha o_ (λhin=>?_) λhin=>?_
  .simp only[aJ_,ai_];refine aa_ (λ_=>?_) (w_);rw[(qT_ ha).1]at hin;rw[hin]at e0;rw[e0]at h0;exact h0
  ·simp only[aJ_,ai_];rw[jQ_ ha hin]at e0;dsimp only[Option.isSome_none]at e0;refine aa_ (n_) λ_=>?_;refine aa_ (λe=>?_) (λe=>?_)
   ·have hne: ¬ parent=mkS []:=by simpa using e
    have hm:lg_ is parent=match cK_ is parent with|none=>false|some y=>eqI y.kind 2:=by unfold lg_;rw[lH hne,Bool.false_or]
    rcases hi3 with⟨rfl,hin3⟩|⟨rfl,hin3⟩
    .obtain⟨hp,hfi⟩:=no_ ha hin3;rw[hfi]at hm;dsimp only at hm;refine aa_ (w_) λ_=>?_;refine ab_ rfl (ab_ s_ ?_);obtain⟨l,o,p,e1,r1,r2,_⟩:=hrd _ hp;rw[e1];simp only[ad_,etn];rw[ac_ r2,ai_];refine aa_ (λe=>?_) (λe=>?_)
     .rw[hm,dZ_ e]at e0;rw[e0]at h0;exact h0
     rw[hm,eB_ e]at e0;refine aa_ (λe=>?_) λe=>?_
     .rw[show leI 6 (is.length:Int)=true from e]at e0;rw[e0]at h0;exact h0
     rw[show leI 6 (is.length:Int)=false from e]at e0;refine aa_ (λ_=>?_) (w_);rw[<-e1];have hfk:=hfl _ (kE hp);exact l17 e0 hp _ 0 100009 H none 0 [] rfl (kP _) o_ (k8 _) (.inl ⟨rfl,rfl,rfl⟩) o_
    .rw[jQ_ ha hin3]at hm;dsimp only at hm;rw[hm]at e0;refine aa_ (λ_=>?_) (n_);rw[e0]at h0;exact h0
   .have hpe:parent=mkS []:=by simpa using e
    have hm:lg_ is parent=true:=by unfold lg_;rw[lE hpe];rfl
    rw[hm]at e0;refine aa_ (λe=>?_) λe=>?_
    .rw[show leI 6 (is.length:Int)=true from e]at e0;rw[e0]at h0;exact h0
    rw[show leI 6 (is.length:Int)=false from e]at e0;have hne:=HJ_ hf;rw[<-hpe]at hne;rcases hi3 with⟨_,hin3⟩|⟨rfl,_⟩
    .rw[hne]at hin3;cases hin3
    .refine aa_ (n_) λ_=>?_;exact copy e0 (k8 _)
 have h0:=hQ H none 0 (k8 _);have kindc:(eqI kind 0||eqI kind 1)=false->aZ_ name 4=true->(decide (parent=mkS [])||aZ_ parent 4)=true->Q (.tup [yR none 0 5,nN 1905]) H:=λk w1 w2=>by
  rw[show ic_ is name parent kind=1905 by unfold ic_;rw[w1,w2,k]]at h0;exact h0
 have named:aZ_ name 4=false->Q (.tup [yR none 0 5,nN 1901]) H:=λw1=>by
  rw[show ic_ is name parent kind=1901 by unfold ic_;rw[w1]]at h0;exact h0
 have main:∀i3:Int,((i3=((dP_ is parent:Nat):Int)/\(is.any λy=>decide (y.name=parent))=true)\/(i3= -1/\(is.any λy=>decide (y.name=parent))=false))->True:=λ_ _=>trivial;refine gW_ hrd ha o_ (λhin=>?_) λhin=>?_
 all_goals
  simp only[aJ_,ai_]
  refine d9_ hrd ha o_ hsz ?_
  simp only[aJ_,ak_]
  rw[hf]
  refine aa_ (c_) λ_=>?_
  refine b5_ hs1 ?_
  simp only[aJ_,ak_]
  refine aa_ (λe=>named (dZ_ e)) λe=>?_
  have w1:=eB_ e
  refine aa_ (λe=>?_) λe=>?_
  .have hne: ¬ parent=mkS []:=by simpa using e
   refine b5_ hs2 ?_;simp only[aJ_,ak_];refine aa_ (λe=>?_) λe=>?_
   .rw[show ic_ is name parent kind=1901 by unfold ic_;rw[w1,lH hne,dZ_ e];rfl]at h0;exact h0
   have w2:(decide (parent=mkS [])||aZ_ parent 4)=true:=by rw[eB_ e,Bool.or_true]
   refine aa_ (λe=>?_) λe=>?_
   .refine aa_ (λe2=>kindc (by rw[dZ_ e,dZ_ e2];rfl) w1 w2) λe2=>?_;exact rest _ (by first|exact .inl ⟨rfl,hin⟩|exact .inr ⟨rfl,hin⟩) w1 w2 (by rw[eB_ e2,Bool.or_true])
   .exact rest _ (by first|exact .inl ⟨rfl,hin⟩|exact .inr ⟨rfl,hin⟩) w1 w2 (by rw[eB_ e,Bool.true_or])
  .have hpe:parent=mkS []:=by simpa using e
   have w2:(decide (parent=mkS [])||aZ_ parent 4)=true:=by rw[lE hpe];rfl
   refine aa_ (λe=>?_) λe=>?_
   .refine aa_ (λe2=>kindc (by rw[dZ_ e,dZ_ e2];rfl) w1 w2) λe2=>?_;exact rest _ (by first|exact .inl ⟨rfl,hin⟩|exact .inr ⟨rfl,hin⟩) w1 w2 (by rw[eB_ e2,Bool.or_true])
   .exact rest _ (by first|exact .inl ⟨rfl,hin⟩|exact .inr ⟨rfl,hin⟩) w1 w2 (by rw[eB_ e,Bool.true_or])
end
def mr_(path content:Y_)(fs:List FileR):List FileR:=fs.filter (λf=>blt f.1 path)++(path,content,true)::fs.filter λf=>blt path f.1
def sG_(path:Y_)(fs:List FileR):List FileR:=fs.filter λf=> !decide (f.1=path)
def g9_(is:List InfoR)(name:Y_)(g:List FileR->List FileR):List InfoR:=is.map λi=>match decide (i.name=name) with|true=>⟨i.name,i.kind,i.parent,i.label,g i.files⟩|false=>i
def FTo(path:Y_)(nw:List FileR)(g:List FileR->List FileR):Prop:=∀fs,hO_ fs->hO_ (g fs)/\∀f,f∈g fs↔f∈nw\/(f∈fs/\f.1≠path)
def ED_:FTo path [(path,content,true)] (mr_ path content):=λJ h=>by
 unfold mr_ hO_;refine⟨kZ.2 ⟨h.filter _,kW.2 ⟨λy I=>(mem_filter.1 I).2,h.filter _⟩,λa F b A=>?_⟩,λf=>?_⟩;have D:=(mem_filter.1 F).2;rcases kU.1 A with rfl|A;exact D;exact dw_ D (mem_filter.1 A).2;have:=g4_ f.1 path;grind
def HV_:FTo path [] (sG_ path):=λA h=>by
 refine⟨h.filter _,λf=>?_⟩;unfold sG_;grind
theorem wD_(h:hM_ is)(F:K<is.length)(D:is[K].name=name):g9_ is name g=is.set K ⟨is[K].name,is[K].kind,is[K].parent,is[K].label,g is[K].files⟩:=by
 apply ext_getElem (by simp[g9_]);intro j I A;simp at A;simp[g9_,getElem_set];by_cases e:K=j;grind;rw[if_neg e,lH λq=>?_];have asc:=kS.1 h;rcases Nat.lt_or_gt_of_ne e with c|c;have:=asc K j F A c;rw[D,q,b0_]at this;cases this;have:=asc j K A F c;rw[D,q,b0_]at this;cases this
def La_(D:hO_ a)(A:hO_ b)(h:∀f,f∈a↔f∈b):a=b:=
 vz_ (λa q=>by rw[b0_]at q;cases q) (λa b q r=>by rw[dC_ q]at r;cases r) D A h
def Kh_{fs:List FileR}(h:hO_ fs)(hi:i<fs.length)(hj:j<fs.length)(e:fs[i].1=fs[j].1):i=j:=by
 have asc:=kS.1 h;exact Nat.le_antisymm (Nat.le_of_not_lt λc=>by have:=asc j i hj hi c;rw[e,b0_]at this;cases this) (Nat.le_of_not_lt λc=>by have:=asc i j hi hj c;rw[e,b0_]at this;cases this)
theorem H9_ {fs:List FileR} (h:hO_ fs) (hk:k<fs.length) (e:fs[k].1=path):fs.set k (path,content,true)=mr_ path content fs:=by
 obtain⟨h1,h2⟩:=ED_ (path:=path) (content:=content) _ h;refine La_ ?_ h1 λf=>?_
 ·have q:((fs.set k (path,content,true)).map (·.1))=fs.map (·.1):=by
   rw[List.map_set];exact lO_ (by rw[getElem?_map,kG hk,Option.map_some,e])
  exact (pairwise_map (f:=λx:FileR=>x.1) (R:=λa b=>blt a b=true)).1 (by rw[q];exact pairwise_map.2 h)
 ·rw[h2,mem_singleton,mem_iff_getElem,mem_iff_getElem];constructor
  .rintro⟨j,hj,rfl⟩;rw[length_set]at hj;rw[getElem_set];by_cases q:k=j
   .rw[if_pos q];exact .inl rfl
   .rw[if_neg q];exact .inr ⟨⟨j,hj,rfl⟩,λz=>q (Kh_ h hk hj (e.trans z.symm))⟩
  .rintro (rfl|⟨⟨j,hj,rfl⟩,z⟩)
   .exact⟨k,u_ hk,t_⟩
   .refine⟨j,u_ hj,?_⟩;rw[getElem_set,if_neg λq=>z (by subst q;exact e)]
theorem EB_{fs:List FileR}(h:∀f∈fs,blt f.1 path=true):mr_ path content fs=fs++[(path,content,true)]:=by
 unfold mr_;rw[filter_eq_self.2 h,filter_eq_nil_iff.2 λf hf=>by rw[dC_ (h f hf)];simp]
theorem Cm_{fs:List FileR}{f:FileR}(h:blt path f.1=true):mr_ path content (fs++[f])=mr_ path content fs++[f]:=by
 unfold mr_;rw[filter_append,filter_append];simp[h,dC_ h]
theorem Bs_(fs:List FileR)(f:FileR):sG_ path (fs++[f])=sG_ path fs++(match decide (f.1=path) with|true=>[]|false=>[f]):=by
 unfold sG_;rw[filter_append];cases h:decide (f.1=path)<;>simp[h]
theorem nH_:∀fs:List FileR,bJ_ fs=fs.flatMap wk_
 |[]=>rfl
 |f::fs=>by rw[flatMap_cons,<-nH_ fs];rfl
theorem Cc_{fs:List FileR}(hk:k<fs.length):((((bJ_ fs).set (k*3) (.str p)).set (k*3+1) (.str c)).set (k*3+1+1) (.bool o))=bJ_ (fs.set k (p,c,o)):=by
 have F:∀x:FileR,(wk_ x).length=3:=λ_=>rfl;rw[nH_,nH_,show k*3=k*3+0 from rfl,ja_ F o_ fs k hk (x':=(p,fs[k].2)) rfl];rw[show k*3+0+1=k*3+1 from rfl,ja_ F o_ (fs.set k (p,fs[k].2)) k (u_ hk) (x':=(p,c,fs[k].2.2)) (by rw[getElem_set_self];rfl)];rw[show k*3+1+1=k*3+2 from rfl,ja_ F o_ ((fs.set k (p,fs[k].2)).set k (p,c,fs[k].2.2)) k (u_ hk) (x':=(p,c,o)) (by rw[getElem_set_self];rfl),set_set,set_set]
def vS_(h:cK_ is s=some i):i∈is/\i.name=s:=by
 unfold cK_ at h;exact⟨mem_of_find?_eq_some h,by simpa using find?_some h⟩
theorem wJ_{ps:List (Pl × InfoR)}{i:Nat}(hi:i<ps.length)(q:Pl)(fs:List FileR):(fc_ ps).set (i*5+4) (.sl q fs.length 3)=fc_ (ps.set i (q,⟨ps[i].2.name,ps[i].2.kind,ps[i].2.parent,ps[i].2.label,fs⟩)):=
 ja_ (f:=λq:Pl × InfoR=>gP_ q.1 q.2) (λ_=>rfl) o_ ps i hi rfl
section
variable{G G1 H:Hp}{a q:Pl}{is:List InfoR}{fs:List FileR}{K b:Nat}
theorem vi_.put(h:vi_ G b a is)(hK:K<is.length)(p1:G<+:G1)(C:bR_ G1 q fs)(F:∀l o,q=some (l,o)->G.length<=l):
 ∃l cs,a=some (l,0)/\b<=l/\l<G.length/\G1[l]?=some (.row true hb_ cs)/\cs.length=is.length*5/\cY_ (G1.set l (.row true hb_ (cs.set (K*5+4) (.sl q fs.length 3)))) a (is.set K ⟨is[K].name,is[K].kind,is[K].parent,is[K].label,fs⟩):=by
 obtain⟨ps,rfl,o,hp,_⟩:=h.ex;rw[k9]at hK;rcases o with⟨_,h0,_⟩|⟨l,rfl,hb,hr,hl⟩
 .omega
 have lg:=(kC.1 hr).1;have hr1:G1[l]?=some (.row true hb_ (fc_ ps)):=by rw[a9_ p1 lg];exact hr
 refine⟨l,fc_ ps,rfl,hb,lg,hr1,by rw[md_,k9],?_⟩;rw[wJ_ hK,getElem_map,show (ps.map (·.2)).set K _=(ps.set K (q,⟨ps[K].2.name,ps[K].2.kind,ps[K].2.parent,ps[K].2.label,fs⟩)).map (·.2) from List.map_set.symm];have l1:=(kC.1 hr1).1;refine Dk_ (b:=b) (.inr ⟨l,rfl,hb,kH l1,md_ _⟩) λx hx=>?_;obtain⟨j,hj,rfl⟩:=kK hx;rw[length_set]at hj;rw[getElem_set];split
 .exact (C.keep λm o e=>kF λz=>h_ (F m o e)).rd
 .obtain⟨z1,z2⟩:=hp _ (kE hj);exact (z1.keep λm o e=>by rw[kF λz=>(z2 m o e).2 0 (by rw[z]),a9_ p1 (z1.ltAt e)]).rd
def vi_.over (h:vi_ G b a is) (hK:K<is.length) (hl:fs.length=is[K].files.length):
 ∃l p,a=some (l,0)/\b<=l/\gt G l (K*5+4)=some (.sl p is[K].files.length 3)/\bR_ G p is[K].files/\∀m o,p=some (m,o)->b<=m/\cY_ (G.set m (.row true gl_ (bJ_ fs))) a (is.set K ⟨is[K].name,is[K].kind,is[K].parent,is[K].label,fs⟩):=by
 obtain⟨ps,rfl,o,hp,pw⟩:=h.ex;rw[k9]at hK;simp only[getElem_map]at hl ⊢;rcases o with⟨_,h0,_⟩|⟨l,rfl,hb,hr,hl'⟩
 .omega
 obtain⟨y1,y2⟩:=hp _ (kE hK);refine⟨l,ps[K].1,rfl,hb,by rw[aY_ hr];exact xb_ hK 4 o_,y1,λm o e=>⟨(y2 m o e).1,?_⟩⟩;have lm:=y1.ltAt e;have z:fc_ (ps.set K (ps[K].1,⟨ps[K].2.name,ps[K].2.kind,ps[K].2.parent,ps[K].2.label,fs⟩))=fc_ ps:=by
  rw[<-wJ_ hK,hl,v7_ hK];congr 1;exact lO_ (by rw[kG hK])
 rw[show (ps.map (·.2)).set K _=(ps.set K (ps[K].1,⟨ps[K].2.name,ps[K].2.kind,ps[K].2.parent,ps[K].2.label,fs⟩)).map (·.2) from List.map_set.symm];refine Dk_ (b:=b) (.inr ⟨l,rfl,hb,by rw[z,kF λq=>(y2 m o e).2 0 (by rw[q]),hr],md_ _⟩) λx hx=>?_;obtain⟨j,hj,rfl⟩:=kK hx;rw[length_set]at hj;rw[getElem_set];split
 .refine bR_.rd (.inr ⟨m,?_,kH lm⟩);rcases y1 with⟨q,_⟩|⟨m',q,_⟩
  .rw[q]at e;cases e
  .dsimp only;rw[q]at e ⊢;cases e;rfl
 .rename_i ne;obtain⟨z1,z2⟩:=hp _ (kE hj);refine (z1.keep λr o' e'=>kF λq=>?_).rd;subst q;rcases Nat.lt_or_gt_of_ne ne with c|c
  .exact kS.1 pw K j hK hj c m o o' e e'
  .exact kS.1 pw j K hj hK c m o' o e' e
end
def cG_ (is:List InfoR) (name path content:Y_):Int:=match aZ_ name 4 with
 |false=>1901
 | true=>match c9_ is name==0 with
  |false=>c9_ is name
  | true=>match aZ_ path 3 with
   |false=>1907
   | true=>match leI (sz content) 6 with
    |false=>1909
    | true=>match cK_ is name with
     |none=>0
     | some i=>match i.files.any λf=>decide (f.1=path) with
      |true=>0
      |false=>match leI 4 (i.files.length:Int) with
       |true=>1910
       |false=>0
def fo_ (is:List InfoR) (name to:Y_):Int:=match aZ_ name 4&&aZ_ to 4 with
 |false=>1901
 | true=>match c9_ is name==0 with
  |false=>c9_ is name
  |true=>match (cK_ is to).isSome with
   |true=>1902
   |false=>0
section
variable{H:Hp}{Q:Post}
def lr_ {b:Nat} {a:Pl} {is:List InfoR} {name path content:Y_} (h:bT_ H b a is) (ha:hM_ is) (hf:bu_ is is.length 0=true) (hn:is.length<=900)
 (hsz:∀x∈is,x.name.size<=140737488351232/\x.files.length<=100000/\∀f∈x.files,f.1.size<=140737488351232) (hfa:∀x∈is,hO_ x.files) (hs1:name.size<=140737488351232) (hs2:path.size<=140737488351232)
 (hE:cG_ is name path content≠0->Q (.tup [yR none 0 5,nN (cG_ is name path content)]) H)
 (hQ:cG_ is name path content=0->∀H' a',H<+:H'->cY_ H' a' (g9_ is name (mr_ path content))->Q (.tup [yR a' is.length 5,nN 0]) H'):
 aU_ [nL a is.length 5,gS name,gS path,gS content] H Q:=by
 refine⟨200010,?_⟩;rw[v2_];have etn:∀k:Nat,tN (k:Int)=k:=λ_=>rfl;have hrd:=h.rd;have hfl:∀i∈is,i.files.length<=100000:=λi hi=>(hsz i hi).2.1;have h0:=hE;refine d9_ hrd ha o_ hsz ?_;simp only[aJ_,ak_];rw[hf];refine aa_ (c_) λ_=>?_;refine b5_ hs1 ?_;simp only[aJ_,ak_];refine aa_ (λe=>by rw[show cG_ is name path content=1901 by unfold cG_;rw[dZ_ e]]at h0;exact h0 d_) λe=>?_;have w1:=eB_ e;refine hZ_ hrd ha o_ (λe he hA=>?_) λhA hp hfi=>?_
 .simp only[aH_,aD_,bD_,ai_,a8_];refine aa_ (λ_=>?_) (λq=>by exact absurd (u_ q) he);rw[show cG_ is name path content=e by unfold cG_;rw[w1,hA,show (e==0)=false by simpa using he]]at h0;exact h0 he
 simp only[aH_,aD_,bD_,ai_,a8_];refine aa_ (c_) λ_=>?_;have hname:=(vS_ hfi).2;generalize hK:dP_ is name=K at hp hfi hname;rw[wD_ ha hp hname]at hQ;refine ab_ rfl (ab_ (by simp<;>omega) ?_);obtain⟨l,o,p,e1,r1,r2,r3,r4,r5,r6⟩:=hrd _ hp;have hfk:=hfl _ (kE hp);have fa:=hfa _ (kE hp);have eW:cG_ is name path content=match aZ_ path 3 with
  |false=>1907
  | true=>match leI (sz content) 6 with
   |false=>1909
   | true=>match is[K].files.any λf=>decide (f.1=path) with
    |true=>0
    |false=>match leI 4 (is[K].files.length:Int) with
     |true=>1910
     |false=>0:=by unfold cG_;rw[w1,hA,hfi];rfl
 have fin:cG_ is name path content=0->∀(F:Nat)(G0 G:Hp)(a0 q:Pl)(m:Nat),H<+:G0->vi_ G0 H.length a0 is->G0<+:G->Own G G0.length gl_ q (m*3) (bJ_ (mr_ path content is[K].files))->m=(mr_ path content is[K].files).length->
  aU_.l29 (F+1) ((K:Nat):Int) a0 is.length q m G Q:=λe0 F G0 G a0 q m p0 hi0 p1 C hm=>by
  subst hm;obtain⟨C1,C2⟩:=sT_ C;obtain⟨l,cs,e,hb,hlg,hr,hc,rd⟩:=hi0.put hp p1 C1 C2;subst e;rw[aU_.l29_eq];refine ab_ rfl (ab_ (by simp<;>omega) ?_);simp only[ad_,etn,kN];rw[pM_ hr o_];exact hQ e0 _ _ (dI_ (p0.trans p1) hb _) rd
 have l22:cG_ is name path content=0->(∀f∈is[K].files,f.1≠path)->∀(G0:Hp)(a0:Pl),H<+:G0->vi_ G0 H.length a0 is->∀(f j F:Nat)(G:Hp)(a':Pl)(n':Nat)(xs:List FileR),f=is[K].files.length-j->j<=is[K].files.length->2*f+3<=F->G0<+:G->Own G G0.length gl_ a' (n'*3) (bJ_ xs)->n'=xs.length->
  ((xs=is[K].files.take j/\∀f∈xs,blt f.1 path=true)\/(xs=mr_ path content (is[K].files.take j)/\n'=j+1/\∀i (hi:i<is[K].files.length),j<=i->blt path is[K].files[i].1=true))->
  aU_.l22 F path ((K:Nat):Int) a0 is.length path content true a' n' ((j:Nat):Int) G Q:=by
  intro e0 hno G0 a0 p0 hi0 f;obtain⟨l,p,e1,hbl,r1,r2,r3,r4,r5,r6,r7,cs0,hr0,hc0⟩:=hi0.at.src K hp;induction f with
  |zero=>
   intro j F G a' n' xs hf' hj hF hG ho hn' inv;obtain⟨F,rfl⟩:∃G,F=G+1+1:=⟨F-2,o_⟩;have hjl:j=is[K].files.length:=o_
   rw[aU_.l22_eq];refine ab_ rfl (ab_ (by simp<;>omega) ?_);rw[e1];have r5':gt G l (K*5+4)=some (.sl p is[K].files.length 3):=cn_ hG r5;simp only[ad_,etn,kN];rw[ac_ r5',ah_];refine aa_ (w_) λ_=>?_;refine ab_ rfl (ab_ (by simp<;>omega) ?_);rw[ac_ r5',ah_,<-e1];rw[hjl,take_length]at inv;rcases inv with⟨e,hlt⟩|⟨e,hm,_⟩
   .subst e;refine aa_ (λ_=>?_) (m_);refine ab_ rfl ?_;refine j9_ (H0:=G0) o_ hG ho (m:=1) rfl (by unfold Lim;omega) λx' G' o' ex fr=>?_;have pe:=EB_ (content:=content) hlt;refine fin e0 F G0 G' a0 x' _ p0 hi0 ex.pre ?_ (by rw[pe,kI];simp;omega);rw[pe,gS_];exact o'
   .subst e;exact aa_ (m_) λ_=>fin e0 F G0 G a0 a' _ p0 hi0 hG ho hn'
  | succ f ih=>
   intro j F G a' n' xs hf' hj hF hG ho hn' inv;have hjl:j<is[K].files.length:=o_
   obtain⟨F,rfl⟩:∃G,F=G+1+1:=⟨F-2,o_⟩;have tk:is[K].files.take (j+1)=is[K].files.take j++[is[K].files[j]]:=by rw[take_add_one,kG hjl];rfl
   rw[aU_.l22_eq];refine ab_ rfl (ab_ (by simp<;>omega) ?_);rw[e1];have r5':gt G l (K*5+4)=some (.sl p is[K].files.length 3):=cn_ hG r5;simp only[ad_,etn,kN];rw[ac_ r5',ah_];refine aa_ (λ_=>?_) (w_);have next:∀(G:Hp)(a':Pl)(n':Nat)(xs:List FileR),G0<+:G->Own G G0.length gl_ a' (n'*3) (bJ_ xs)->n'=xs.length->n'<=j+1->
    ((xs++[is[K].files[j]]=is[K].files.take (j+1)/\∀f∈xs++[is[K].files[j]],blt f.1 path=true)\/(xs++[is[K].files[j]]=mr_ path content (is[K].files.take (j+1))/\n'=j+1/\∀i (hi:i<is[K].files.length),j<=i->blt path is[K].files[i].1=true))->
    aU_.l26 (F+1) path ((K:Nat):Int) (some (l,0)) is.length path content true a' n' ((j:Nat):Int) G Q:=by
    intro G a' n' xs hG ho hn' hle inv;have r5':gt G l (K*5+4)=some (.sl p is[K].files.length 3):=cn_ hG r5;rw[aU_.l26_eq];refine ab_ rfl (ab_ (by simp<;>omega) ?_);simp only[ad_,etn,kN];rw[ac_ r5',ah_];refine ab_ rfl (ab_ (by simp<;>omega) ?_);obtain⟨l2,o2,e2,q1,q2,q3⟩:=(r6.rd.pre hG) _ hjl;rw[e2];simp only[ad_,etn];rw[ac_ q1,aq_,ac_ q2,aq_,ac_ q3,ak_];refine ab_ rfl ?_;refine j9_ (H0:=G0) o_ hG ho (m:=1) rfl (by unfold Lim;omega) λx' G' o' ex fr=>?_;rw[ao_ o_,<-e1];refine ih (j+1) F G' x' _ (xs++[is[K].files[j]]) o_ hjl o_ ex.pre (by rw[gS_];exact o') s_ ?_;rcases inv with q|⟨q1,q2,q3⟩
    .exact .inl q
    .exact .inr ⟨q1,o_,λi hi hj=>q3 i hi o_⟩
   rcases inv with⟨e,hlt⟩|⟨e,hm,hgt⟩
   ·have hnj:n'=j:=by rw[hn',e,lC];omega
    refine aa_ (λ_=>?_) (m_);refine ab_ rfl (ab_ (by simp<;>omega) ?_);rw[ac_ r5',ah_];refine ab_ rfl (ab_ (by simp<;>omega) ?_);obtain⟨l2,o2,e2,q1,q2,q3⟩:=(r6.rd.pre hG) _ hjl;rw[e2];simp only[ad_,etn,kQ];rw[ac_ q1,aq_];have ne:=hno _ (kE hjl);refine aa_ (λc=>?_) λc=>?_
    ·have c:blt path is[K].files[j].1=true:=by
      have c:dQ_ is[K].files[j].1 path=false:=by simp at c;exact c.1
      rcases g4_ path is[K].files[j].1 with⟨z,_⟩|⟨z,_⟩|⟨z,_⟩
      .exact z
      .exact absurd z.symm ne
      .rw[<-h2_,c]at z;cases z
     refine ab_ rfl ?_;refine j9_ (H0:=G0) o_ hG ho (m:=1) rfl (by unfold Lim;omega) λx' G' o' ex fr=>?_;refine next G' x' _ (xs++[(path,content,true)]) ex.pre (by rw[gS_];exact o') s_ o_ (.inr ⟨?_,o_,λi hi hji=>?_⟩)
     .rw[tk,Cm_ c,EB_ (by rw[<-e];exact hlt),e]
     .rcases Nat.lt_or_eq_of_le hji with z|rfl
      .exact dw_ c (kS.1 fa j i hjl hi z)
      .exact c
    ·refine next G a' n' xs hG ho hn' o_ (.inl ⟨by rw[tk,e],λf hf=>?_⟩);rcases kD.1 hf with z|z
     .exact hlt f z
     .rw[mem_singleton.1 z];have c:dQ_ is[K].files[j].1 path=true:=by simpa[ne] using c
      rw[<-h2_];exact c
   .refine aa_ (m_) λ_=>next G a' n' xs hG ho hn' o_ (.inr ⟨?_,hm,hgt⟩);rw[tk,Cm_ (hgt j hjl (kO _)),e]
 rw[e1];simp only[ad_,etn];have r5':gt H l (o+K*5+4)=some (.sl p is[K].files.length 3):=r5;rw[ac_ r5',ah_];refine kM_ r6 hfk (λk hk hkp=>?_) λhno=>?_
 all_goals
  simp only[aJ_,ai_]
  refine d1_ hs2 ?_
  simp only[aJ_,ak_]
  refine aa_ (λe=>by rw[eW,dZ_ e]at h0;exact h0 (d_:(1907:Int)≠0)) λe=>?_
  rw[eB_ e]at eW
  dsimp only at eW
  refine aa_ (λe=>by rw[eW,show leI (sz content) 6=false by simp at e ⊢;omega]at h0;exact h0 (d_:(1909:Int)≠0)) λe=>?_
  rw[show leI (sz content) 6=true by simp at e ⊢;omega]at eW
  dsimp only at eW
 ·refine aa_ (w_) λ_=>?_;have e0:cG_ is name path content=0:=by
   rw[eW,show (is[K].files.any λf=>decide (f.1=path))=true from any_eq_true.2 ⟨_,kE hk,u_ hkp⟩]
  rw[<-e1];refine gf_ h hn hfl λG a0 pG hi0=>?_;simp only[aJ_,ah_];refine aa_ (λ_=>?_) (w_);refine ab_ rfl (ab_ (by simp<;>omega) ?_);obtain⟨l9,p9,e9,hbl,q5,q6,q7⟩:=hi0.over hp (fs:=is[K].files.set k (path,content,true)) t_;subst e9;simp only[ad_,etn,kN];rw[ac_ q5,ah_];refine ab_ rfl (ab_ (by simp<;>omega) ?_);rcases q6 with⟨_,z⟩|⟨lf,rfl,hrf⟩
  .rw[z]at hk;cases hk
  obtain⟨hbf,rd⟩:=q7 lf 0 rfl;simp only[ad_,etn,kN];have hcl:=e0_ is[K].files;have hlt:=(kC.1 hrf).1;rw[pM_ hrf o_];rw[pM_ (kH hlt) (by rw[length_set];omega),set_set];rw[pM_ (kH hlt) (by rw[length_set,length_set];omega),set_set,Cc_ hk];rw[H9_ fa hk hkp]at rd ⊢;exact hQ e0 _ _ (dI_ pG hbf _) rd
 .refine aa_ (λ_=>?_) (n_);rw[show (is[K].files.any λf=>decide (f.1=path))=false by rw[any_eq_false];intro f hf;simpa using hno f hf]at eW;dsimp only at eW;refine ab_ rfl (ab_ (by simp<;>omega) ?_);rw[ac_ r5',ah_];refine aa_ (λe=>by rw[eW,show leI 4 (is[K].files.length:Int)=true from e]at h0;exact h0 d_) λe=>?_;rw[show leI 4 (is[K].files.length:Int)=false from e]at eW;rw[<-e1];refine gf_ h hn hfl λG a0 pG hi0=>?_;simp only[aJ_,ah_];refine aa_ (n_) λ_=>?_;exact l22 eW hno G a0 pG hi0 _ 0 200009 G none 0 [] rfl (kP _) o_ (k8 _) (.inl ⟨rfl,rfl,rfl⟩) rfl (.inl ⟨rfl,λf hf=>k_ hf⟩)
def rR_ (h:bT_ H b a is) (N:hM_ is) (hf:bu_ is is.length 0=true) (Y:is.length<=900)
 (I:∀x∈is,x.name.size<=140737488351232/\x.files.length<=100000/\∀f∈x.files,f.1.size<=140737488351232) (Z:name.size<=140737488351232) (V:to.size<=140737488351232)
 (hQ:∀H' a' n',H<+:H'->Q (.tup [yR a' n' 5,nN (fo_ is name to)]) H'):
 f5_ [nL a is.length 5,gS name,gS to] H Q:=by
 refine⟨1,?_⟩;rw[u2_];have U:∀k:Nat,tN (k:Int)=k:=λ_=>rfl;have hrd:=h.rd;have W:∀i∈is,i.files.length<=100000:=λi hi=>(I i hi).2.1;have F:=hQ H none 0 (k8 _);refine d9_ hrd N o_ I ?_;rw[hf];refine b5_ Z ?_;refine aa_ (λe=>by rw[show fo_ is name to=1901 by unfold fo_;rw[dZ_ e,Bool.false_and]]at F;exact F) λe=>?_;have w1:=eB_ e;refine b5_ V ?_;refine aa_ (λe=>by rw[show fo_ is name to=1901 by unfold fo_;rw[dZ_ e,Bool.and_false]]at F;exact F) λe=>?_;have w2:=eB_ e;refine hZ_ hrd N o_ (λe he hA=>?_) λhA hp hfi=>?_
 .simp only[aH_,aD_,bD_,ai_];refine aa_ (λ_=>?_) (λq=>by exact absurd (u_ q) he);rw[show fo_ is name to=e by unfold fo_;rw[w1,w2,hA,show (e==0)=false by simpa using he];rfl]at F;exact F
 .simp only[aH_,aD_,bD_,ai_];have eC:fo_ is name to=match (cK_ is to).isSome with|true=>1902|false=>0:=by unfold fo_;rw[w1,w2,hA];rfl
  refine gW_ hrd N o_ (λD=>?_) λD=>?_
  .simp only[aJ_,ai_];refine aa_ (λ_=>?_) (w_);rw[(qT_ N).1]at D;grind
  .simp only[aJ_,ai_];rw[jQ_ N D]at eC;dsimp[Option.isSome_none]at eC;refine gf_ h Y W λG a0 pG J=>?_;replace J:=J.at;simp only[aJ_,ah_];refine ab_ rfl (ab_ (by simp<;>omega) ?_);obtain⟨l,o,p,e1,r1,r2,r3,r4,r5,r6⟩:=J.rd _ hp;rw[e1];simp[ad_,U];rw[ac_ r1,aq_,ac_ r2,ai_,ac_ r3,aq_,ac_ r4,aq_,ac_ r5,ah_,<-e1];refine qB_ J.rd Y λG1 a1 pG1 O=>?_;simp[ah_];refine mE_ O (Nat.le_trans (length_eraseIdx_le _ _) Y) λG2 a2 n2 pG2=>?_;simp[aJ_];grind
end
section
variable{H:Hp}{Q:Post}{a:Pl}{b:Nat}{is:List InfoR}
def A7_ (h:bR_ H p fs) (F:fs.length<=1000) (D:fs=[]->Q (nL none 0 3) H) (A:∀cs,cs=bJ_ fs->Q (nL (some (H.length,0)) fs.length 3) (H++[.row true gl_ cs])):
 bA_ [nL p fs.length 3] H Q:=by
 refine⟨1,?_⟩;rw[ht_];cases p with
 |none=>
  rw[HT_,ay_ rfl];rcases h with⟨_,rfl⟩|⟨l,e,_⟩;grind;cases e
 |some q=>
  rw[H8_,aB_ rfl,af_,d5_ h.cells];exact⟨⟨by unfold Lim;omega,e0_ fs⟩,A _ rfl⟩
def tK_ (h:bT_ H b a is) (hn:is.length<=900) (hf:∀i∈is,i.files.length<=1000) (hQ:∀H' a',H<+:H'->bT_ H' H.length a' is->Q (nL a' is.length 5) H'):cr_ [nL a is.length 5] H Q:=by
 refine⟨is.length+2,?_⟩;rw[wt_];refine⟨1,?_⟩;rw[hr_];rcases h with⟨rfl,rfl⟩|⟨l,cs,rfl,hb,hr,hc⟩
 .rw[HT_,ay_ rfl];simp only[aJ_,ah_];rw[cr_.l3_eq,aB_ t_];exact hQ _ _ (k8 _) (.inl ⟨rfl,rfl⟩)
 rw[H8_,aB_ rfl,af_,d5_ (cs:=cs) (by simp[cells?,hr,hc.len];rw[<-hc.len,take_length])];refine⟨⟨by show _*80<=Lim;unfold Lim;omega,hc.len⟩,?_⟩;simp only[aJ_,ah_,ed_];obtain⟨ps0,rfl,hps,hp0⟩:=hc.pis;have go:∀(f k:Nat)(G:Hp)(ps:List (Pl × InfoR)),f=is.length-k->k<=is.length->H<+:G->ps.map (·.2)=is->G[H.length]?=some (.row true hb_ (fc_ ps))->(∀q∈ps,bR_ G q.1 q.2.files)->
  (∀j (hj:j<ps.length),j<k->∀l o,ps[j].1=some (l,o)->H.length<l)->(∀q∈ps,∀l o,q.1=some (l,o)->l≠H.length)->cr_.l3 (f+1) (some (H.length,0)) is.length (nI is.length) ((k:Nat):Int) G Q:=by
  intro f;induction f with
  | zero=>
   intro k G ps hf' hk hG hm hr' hp hk' hne;rw[cr_.l3_eq,aB_ s_];have hI:dD_ G H.length (some (H.length,0)) (fc_ ps) is:=by
    rw[<-hm];refine dD_.mk λq hq=>⟨hp q hq,λl o e=>?_⟩;obtain⟨j,hj,rfl⟩:=kK hq;have hl:ps.length=is.length:=by rw[<-hm,k9]
    have:=hk' j hj o_ l o e;exact⟨o_,λo' q=>by cases q;omega⟩
   exact hQ G _ hG (.inr ⟨_,_,rfl,kO _,hr',hI⟩)
  | succ f ih=>
   intro k G ps hf' hk hG hm hr' hp hk' hne;have hl:ps.length=is.length:=by rw[<-hm,k9]
   have hi:k<ps.length:=o_
   have etn:tN (k:Int)=k:=rfl;have e2:(ps[k]).2=is[k]'o_:=by simp only[<-hm,getElem_map]
   have hfl:=hf _ (kE (o_:k<is.length));rw[<-e2]at hfl;have hlt:=(kC.1 hr').1;have hg:gt G H.length (k*5+4)=some (.sl ps[k].1 ps[k].2.files.length 3):=by rw[aY_ hr',xb_ hi 4 o_];rfl
   rw[cr_.l3_eq,ay_ s_];refine ab_ rfl (ab_ s_ ?_);rw[ad_,etn,kN,ac_ hg,ah_,ao_ o_];have hmem:=kE hi;have nxt:∀(p:Pl)(G1:Hp),G<+:G1->bR_ G1 p ps[k].2.files->(∀l o,p=some (l,o)->H.length<l)->rG (nL p ps[k].2.files.length 3) λv7=>dL 3 v7 λx8 n9=>chk true (chk (leI 0 (k:Int)&&ltI (k:Int) (nI is.length)) (pS (some (H.length,0)) λn10 n11=>
    wr G1 n10 (n11+tN (k:Int)*5+4) (.sl x8 n9 3) λH12=>cr_.l3 (f+1) (some (H.length,0)) is.length (nI is.length) ((k+1:Nat):Int) H12 Q)):=λp G1 p1 hp1 hpl=>by
    have hr1:=a9_ p1 hlt;rw[hr']at hr1;simp only[aJ_,ah_];refine ab_ rfl (ab_ s_ ?_);rw[ad_,etn,kN];refine ce_ hr1 (by rw[md_];omega) ?_;rw[v7_ hi];have kp:∀l,l≠H.length->(G1.set H.length (.row true hb_ (fc_ (ps.set k (p,ps[k].2)))))[l]?=G1[l]? :=λl hl=>kF (Ne.symm hl);refine ih (k+1) _ _ o_ o_ (j2_ (by have:=p1.length_le;simp;omega) λl hl=>by rw[kp l o_,a9_ p1 o_,a9_ hG hl]) ?_ (kH (h_ p1.length_le)) (λq hq=>?_) (λj hj hjk l o e=>?_) λq hq l o e=>?_
    .rw[List.map_set];simp only;rw[<-hm];exact lO_ (by rw[getElem?_map,kG hi];rfl)
    .rcases mem_or_eq_of_mem_set hq with q1|rfl
     .exact (hp q q1).keep λl o e=>by rw[kp l (hne q q1 l o e),a9_ p1 ((hp q q1).ltAt e)]
     .exact hp1.keep λl o e=>kp l (h_ (hpl l o e))
    .rw[getElem_set]at e;split at e
     .exact hpl l o e
     .exact hk' j (u_ hj) o_ l o e
    .rcases mem_or_eq_of_mem_set hq with q1|rfl
     .exact hne q q1 l o e
     .have:=hpl l o e;omega
   refine A7_ (hp _ hmem) o_ (λe0=>?_) λcs ecs=>?_
   .have:=nxt none G (k8 _) (.inl ⟨rfl,e0⟩) λl o e=>k_ e;rw[e0]at this;exact this
   .exact nxt (some (G.length,0)) (G++[.row true gl_ cs]) (prefix_append _ _) (.inr ⟨_,rfl,by rw[ecs];exact getElem?_concat_length⟩) (λl o e=>by cases e;omega)
 have lq:∀q∈ps0,∀l o,q.1=some (l,o)->l<H.length:=λq hq l o e=>(hp0 q hq).1.ltAt e;have:=go is.length 0 (H++[.row true hb_ (fc_ ps0)]) ps0 rfl o_ (prefix_append _ _) hps getElem?_concat_length (λq hq=>(hp0 q hq).1.keep λl o e=>kM (lq q hq l o e)) (λj _ hj=>o_) λq hq l o e=>h_ (lq q hq l o e);exact this
end
structure FrK(is:List InfoR):Prop where
 asc:hM_ is
 from_:bu_ is is.length 0=true
 few:is.length<=900
 sz:∀x∈is,x.name.size<=140737488351232/\x.files.length<=100000/\∀f∈x.files,f.1.size<=140737488351232
 f4:∀x∈is,x.files.length<=4/\hO_ x.files
def Dh_(nm:List Y_):Bool:=nm.all λs=>aZ_ s 4
section
variable{H:Hp}{Q:Post}{a:Pl}{b l0 t:Nat}{is:List InfoR}{nm:List Y_}{s path:Y_}{ow:Bool}
def r6_ (h:bT_ H b a is) (k:FrK is) (I:H[l0]?=some (.row ow t (nm.map GV.str))) (hn:nm.length<=10) (N:∀s∈nm,s.size<=140737488351232)
 (Z:Dh_ nm=false->Q (.tup [yR none 0 5,nN 1901]) H) (O:Dh_ nm=true->∀H' D,H<+:H'->bT_ H' H.length D is->Q (.tup [yR D is.length 5,nN 0]) H'):
 cs_ [nL a is.length 5,nL (some (l0,0)) nm.length 1] H Q:=by
 refine⟨nm.length+2,?_⟩;rw[vt_];refine mH_ h.rd (h_ k.few) k.sz ?_;simp[aJ_];rw[k.from_,bN1];have go:∀(f j),f=nm.length-j->j<=nm.length->(nm.take j).all (λs=>aZ_ s 4)=true->cs_.l4 (f+1) a is.length (some (l0,0)) nm.length (nI nm.length) j H Q:=by
  intro f;induction f with
  |zero=>
   intro j V W F;rw[cs_.l4_eq,aB_ s_];refine tK_ h k.few (λi A=>by have:=(k.f4 i A).1;omega) λH' D p U=>?_;rw[(o_:j=nm.length),take_length]at F;simp[aJ_];exact O F H' D p U
  |succ f J=>
   intro j V W F;have A:j<nm.length:=o_
   have Y:gt H l0 (0+j*1)=some (.str nm[j]):=by rw[aY_ I];simp
   rw[cs_.l4_eq,ay_ s_];refine ab_ rfl (ab_ s_ ?_);rw[ad_,show tN (j:Int)=j from rfl,ac_ Y,aq_,ao_ o_];refine fe_ (N _ (kE A)) (aa_ (λe=>Z (all_eq_false.2 ⟨_,kE A,g_⟩)) λe=>J (j+1) o_ o_ ?_);rw[take_add_one,kG A,all_append,F];simpa using e
 exact go nm.length 0 rfl o_ rfl
def rj_ (h:bT_ H b a is) (k:FrK is) (D:H[l0]?=some (.row ow t ((s::nm).map GV.str))) (Y:nm.length<=9) (J:∀z∈s::nm,z.size<=140737488351232)
 (U:∀e,e≠0->(e=match Dh_ (s::nm) with|false=>1901|true=>match (cK_ is s).isSome with|false=>1903|true=>0)->∀H',H<+:H'->Q (.tup [.s (.sl none 0 5),.s (.int .i64 0),.s (.int .i64 e)]) H')
 (V:Dh_ (s::nm)=true->∀I:dP_ is s<is.length,cK_ is s=some is[dP_ is s]->∀H' A,H<+:H'->bT_ H' H.length (some (A,0)) is->Q (.tup [yR (some (A,0)) is.length 5,nN (dP_ is s:Int),nN 0]) H'):
 f4_ [nL a is.length 5,nL (some (l0,0)) (nm.length+1) 1] H Q:=by
 refine⟨1,?_⟩;rw[uW_];refine r6_ h k D g_ J (λe=>?_) λe H' W p F=>?_;simp only[aH_,aD_,bD_,ah_,ai_,a8_];rw[ay_ t_];grind;simp only[aH_,aD_,bD_,ah_,ai_];refine ab_ t_ ?_;have N:gt H' l0 (0+tN 0*1)=some (.str s):=cn_ p (by rw[aY_ D];rfl);rw[ad_,ac_ N];refine j6_ F.rd k.asc (h_ k.few) ?_;simp[aH_];cases q:is.any λy=>decide (y.name=s) with
 |false=>
  exact U 1903 t_ (by rw[e,jQ_ k.asc q];rfl) H' p
 |true=>
  rw[bN1];have⟨I,O⟩:=no_ k.asc q;obtain⟨A,_,Z,_⟩:=F.src _ I;grind
def h4_ (is:List InfoR) (name path:Y_):Int:=match aZ_ name 4 with
 |false=>1901
 | true=>match c9_ is name==0 with
  |false=>c9_ is name
  |true=>match aZ_ path 3 with
   |false=>1907
   |true=>0
def ls_ (h:bT_ H b a is) (k:FrK is) (hs:s.size<=140737488351232) (U:path.size<=140737488351232)
 (Y:h4_ is s path≠0->∀H',H<+:H'->Q (.tup [yR none 0 5,.s (.ptr none),nN (h4_ is s path)]) H')
 (h2:h4_ is s path=0->∀W:dP_ is s<is.length,cK_ is s=some is[dP_ is s]->∀H' J,H<+:H'->bT_ H' H.length (some (J,0)) is->Q (.tup [yR (some (J,0)) is.length 5,.s (.ptr (some (J,dP_ is s*5))),nN 0]) H'):
 fg_ [nL a is.length 5,gS s,gS path] H Q:=by
 refine⟨1,?_⟩;have N:=b4_ H (.row false 1000003 [.str s]);rw[ww_];refine rj_ (s:=s) (t:=1000003) (ow:=false) (nm:=[]) (h.pre N) k t_ t_ g_ (λe O A H' p=>?_) λe W I H' J p Z=>?_;simp only[aH_,aD_,bD_,ah_,ai_];rw[ay_ (a_)];have:h4_ is s path=e:=by
  rw[show Dh_ [s]=aZ_ s 4 by simp[Dh_]]at A;unfold h4_ c9_;cases D:aZ_ s 4 with
  |false=>rw[D]at A;exact A.symm
  |true=>
   rw[D]at A;cases hf:cK_ is s with
   |none=>rw[hf]at A;rw[A];rfl
   |some i=>rw[hf]at A;exact absurd A O
 rw[<-this]at O ⊢;exact Y O H' (N.trans p);simp only[aH_,aD_,bD_,ah_,ai_,a8_];have D:aZ_ s 4=true:=by simpa[Dh_] using e
 have q:=N.trans p;refine ab_ s_ ?_;obtain⟨_,_,e1,hb,r1,r2,_⟩:=Z.src _ W;cases e1;rw[ad_,show tN (dP_ is s:Int)=dP_ is s from rfl,kN,ac_ r2,ai_];have eA:c9_ is s=match eqI is[dP_ is s].kind 0 with|true=>0|false=>1905:=by unfold c9_;rw[I]<;>rfl
 cases V:eqI is[dP_ is s].kind 0 with
 |false=>
  have:h4_ is s path=1905:=by unfold h4_;rw[D,eA,V];rfl
  rw[this]at Y;exact Y t_ H' q
 | true=>
  refine gg_ U ?_;simp only[aJ_,ak_];cases F:aZ_ path 3 with
  |false=>
   rw[bN0];have:h4_ is s path=1907:=by unfold h4_;rw[D,eA,V,F];rfl
   grind
  |true=>
   rw[bN1,af_];refine ab_ s_ ?_;rw[ad_,kN];refine h2 (by unfold h4_;rw[D,eA,V,F];rfl) W I H' J q ?_;have hl:H.length<=(pu H (.row false 1000003 [.str s])).length:=N.length_le;rcases Z with⟨e,_⟩|⟨l,cs,e,z1,z2,z3⟩;cases e;exact .inr ⟨l,cs,e,o_,z2,z3.low hl⟩
end
def Ak_ (h:hO_ fs) (F:(fs.any λf=>decide (f.1=s))=true):∃N:gk_ fs s<fs.length,fs[gk_ fs s].1=s:=by
 have⟨f,I,e⟩:=any_eq_true.1 F;obtain⟨k,A,rfl⟩:=kK I;have e:fs[k].1=s:=g_
 have D:=h0_ h s k A;rw[e,b0_]at D;have U: ¬ gk_ fs s<k:=λq=>by
  have O:=h0_ h s _ (o_:gk_ fs s<fs.length);have J:=kS.1 h _ k (o_:gk_ fs s<fs.length) A q;grind
 grind
def Be_(h:h4_ is s path=0):aZ_ s 4=true/\c9_ is s=0/\aZ_ path 3=true:=by
 unfold h4_ at h;grind
theorem CA_ (h:h4_ is s path≠0):cG_ is s path content=h4_ is s path:=by
 unfold h4_ at h ⊢;unfold cG_;cases A:aZ_ s 4 with
 |false=>rfl
 | true=>
  cases F:c9_ is s==0 with
  |false=>rfl
  |true=>
   cases D:aZ_ path 3 with
   |false=>rfl
   |true=>rw[A,F,D]at h;exact absurd rfl h
def db_ (is:List InfoR) (name path:Y_):Int:=match h4_ is name path==0 with
 |false=>h4_ is name path
 | true=>match cK_ is name with
  |none=>0
  |some i=>match i.files.any λf=>decide (f.1=path) with
   |true=>0
   |false=>1908
theorem bR_.own(h:bR_ H p fs)(A:∀l o,p=some (l,o)->b<=l):Own H b gl_ p (fs.length*3) (bJ_ fs):=by
 rcases h with⟨rfl,rfl⟩|⟨l,rfl,F⟩;exact .inl ⟨rfl,rfl,rfl⟩;exact .inr ⟨l,rfl,A l 0 rfl,F,e0_ fs⟩
section
variable{H:Hp}{Q:Post}{a:Pl}{b:Nat}{is:List InfoR}{s path content:Y_}
def r0_ (h:bT_ H b a is) (k:FrK is) (hs:s.size<=140737488351232) (hs2:path.size<=140737488351232)
 (hQ:∀H' a' n',H<+:H'->Q (.tup [yR a' n' 5,nN (cG_ is s path content)]) H'):
 cg_ [nL a is.length 5,gS s,gS path,gS content] H Q:=by
 refine⟨2,?_⟩;rw[u8_];refine ls_ h k hs hs2 (λe H' p=>?_) λe hp hfi H1 la p i'=>?_
 .simp only[aH_,aD_,bD_,ah_,gc_,ai_,a8_];rw[ay_ (u_ e),<-CA_ e];exact hQ _ _ _ p
 simp only[aH_,aD_,bD_,ah_,gc_,ai_,a8_];rw[aB_ d_];obtain⟨w1,w2,w3⟩:=Be_ e;generalize hK:dP_ is s=K at hp hfi ⊢;obtain⟨_,q,e1,hb,_,_,_,_,r5,r6,r7,cs,hr,hc⟩:=i'.src _ hp;cases e1;have r5:gt H1 la (K*5+4)=some (.sl q is[K].files.length 3):=r5;obtain⟨h4,hfa⟩:=k.f4 _ (kE hp);have hlt:=(kC.1 hr).1;have eW:cG_ is s path content=match leI (sz content) 6 with
  |false=>1909
  | true=>match is[K].files.any λf=>decide (f.1=path) with
   |true=>0
   |false=>match leI 4 (is[K].files.length:Int) with
    |true=>1910
    |false=>0:=by unfold cG_;rw[w1,w2,w3,hfi]<;>rfl
 rw[eW]at hQ;refine hu_ ?_;simp only[aJ_,ak_];cases hc6:leI (sz content) 6 with
 |false=>
  rw[bN0];rw[hc6]at hQ;exact hQ _ _ _ p
 | true=>
  rw[hc6]at hQ;rw[bN1,ad_,ac_ r5,ah_];refine gd_ r6 hfa o_ ?_;simp only[aH_,aD_,bD_,ak_,ai_,a8_];have l11:∀(G:Hp)(lf m i:Nat)(cs:List GV),H<+:G->gt G la (K*5+4)=some (.sl (some (lf,0)) m 3)->G[lf]?=some (.row true gl_ cs)->H.length<=lf->cs.length=m*3->i<m->m<=1000->(∀H' a' n',H<+:H'->Q (.tup [yR a' n' 5,nN 0]) H')->
   cg_.l11 1 path content (some (la,0)) is.length (some (la,K*5)) (i:Int) G Q:=λG lf m i cs hG hg hr hl hc hi hm hQ=>by
   have hlf:=(kC.1 hr).1;rw[cg_.l11_eq,ad_,ac_ hg,ah_,af_];refine ab_ s_ ?_;rw[ad_,show tN (i:Int)=i from rfl,kN];refine ce_ hr o_ (ce_ (kH hlf) s_ (ce_ (kH (u_ hlf)) s_ ?_));rw[set_set,set_set];exact hQ _ _ _ (dI_ hG hl _)
  cases hany:is[K].files.any λf=>decide (f.1=path) with
  |true=>
   rw[hany]at hQ;rw[bN1,bN1];obtain⟨hpf,_⟩:=Ak_ hfa hany;rcases r6 with⟨_,e0⟩|⟨lf,rfl,hrf⟩
   .rw[e0]at hpf;cases hpf
   .exact l11 H1 lf _ _ _ p r5 hrf (r7 lf 0 rfl).1 (e0_ _) hpf o_ hQ
  | false=>
   rw[hany]at hQ;rw[bN0,ad_,ac_ r5,ah_];refine aa_ (λz=>?_) λz=>?_
   .rw[show leI 4 (is[K].files.length:Int)=true by simp at z ⊢;omega]at hQ;exact hQ _ _ _ p
   rw[show leI 4 (is[K].files.length:Int)=false by simp at z ⊢;omega]at hQ;rw[bN0,ad_,ac_ r5,ah_];have hpl:=vL_ is[K].files path;unfold cl slices_Insert__api_File_api_File;refine vA_ (by_:=40) (vs:=[.str (mkS []),.str (mkS []),.bool false]) (r6.own λl o e=>(r7 l o e).1) o_ rfl p.length_le hpl (by unfold Lim;omega) λH2 g o2=>?_;simp only[aJ_,ah_];rcases o2 with⟨e,_⟩|⟨lf,e,hbf,hrf,hlf⟩
   .cases e
   cases e;have g2:H2[la]?=some (.row true hb_ cs):=by rw[g.row la hlt λq=>(r7 _ _ q).2 rfl];exact hr
   have hgl:=g.len;have hl2:la<H2.length:=o_
   have p2:H<+:H2:=j2_ (h_ p.length_le) λl hl=>by
    rw[g.row l (h_ p.length_le) λq=>by have:=(r7 _ _ q).1;omega];exact a9_ p hl
   rw[ad_];refine ce_ g2 o_ ?_;refine l11 _ (H1.length+1) _ _ _ (dI_ p2 hb _) ?_ (by rw[kF o_];exact hrf) (h_ p.length_le) hlf o_ o_ hQ;rw[aY_ (kH hl2)];exact kH o_
def F6_(A:H[l]?=some (.row true gl_ (bJ_ fs)))(hi:i<fs.length)(F:fs.length<=1000)(D:Q (nL (some (l,0)) (fs.length-1) 3) (H.set l (.row true gl_ ((bJ_ fs).take (i*3)++((bJ_ fs).drop ((i+1)*3)++[.str (mkS []),.str (mkS []),.bool false]))))):
 bw_ [nL (some (l,0)) fs.length 3,gI (i:Int),gI ((i+1:Nat):Int)] H Q:=by
 refine⟨1,?_⟩;rw[hm_];exact JH_ A (e0_ _) rfl o_ hi (by unfold Lim;omega) o_ D
def qQ_ (h:bT_ H b a is) (k:FrK is) (hs:s.size<=140737488351232) (W:path.size<=140737488351232)
 (J:∀H' a' n',H<+:H'->Q (.tup [yR a' n' 5,nN (db_ is s path)]) H'):
 fx_ [nL a is.length 5,gS s,gS path] H Q:=by
 refine⟨1,?_⟩;rw[tG_];refine ls_ h k hs W (λe H' p=>?_) λe V I H1 la p i'=>?_;simp only[aH_,aD_,bD_,ah_,gc_,ai_,a8_];rw[ay_ (a_)];have:=J H' none 0 p;unfold db_ at this;grind;simp only[aH_,aD_,bD_,ah_,gc_,ai_];generalize hK:dP_ is s=K at V I ⊢;obtain⟨_,q,e1,hb,_,_,_,_,Y,Z,r7,cs,hr,hc⟩:=i'.src _ V;cases e1;have⟨h4,F⟩:=k.f4 _ (kE V);have eD:db_ is s path=match is[K].files.any λf=>decide (f.1=path) with|true=>0|false=>1908:=by unfold db_;rw[e,I]<;>rfl
 rw[eD]at J;rw[ad_,ac_ Y,ah_];refine gd_ Z F o_ ?_;simp only[aH_,aD_,bD_,ak_,ai_];cases A:is[K].files.any λf=>decide (f.1=path) with
 |false=>
  simp_all
 |true=>
  rw[A]at J;have⟨D,_⟩:=Ak_ F A;rw[bN1,ad_,ac_ Y,ah_,ao_ o_];rcases Z with⟨_,e0⟩|⟨lf,rfl,N⟩;rw[e0]at D;cases D;have⟨O,U⟩:=r7 lf 0 rfl;refine F6_ N D o_ ?_;simp[aJ_];refine ce_ (by rw[kF U];exact hr) o_ ?_;exact J _ _ _ (dI_ (dI_ p O _) hb _)
end
end Go.Am
