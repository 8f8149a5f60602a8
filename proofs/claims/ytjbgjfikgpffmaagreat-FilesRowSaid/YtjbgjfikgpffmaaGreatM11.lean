import Derived.Test.YtjbgjfikgpffmaaGreatM10
set_option linter.all false
set_option autoImplicit true
set_option relaxedAutoImplicit true
set_option maxRecDepth 100000
namespace Go.Am
open List
section
def bA_(st:StD)(l:LKey × LVal):FileR:=(l.1.2,(match look st.inos l.2.1 with|some x=>x.content|none=>mkS []),l.2.2)
structure ce_(st:StD)(id:Int)(fs:List FileR):Prop where
 asc:gN_ fs
 mem:∀f,f∈fs↔∃l∈st.links,l.1.1=id/\f=bA_ st l
theorem gN_.ext:∀{fs A:List FileR},gN_ fs->gN_ A->(∀f,f∈fs↔f∈A)->fs=A
 |[],[],_,_,_=>rfl
 |[],g::A,_,_,h=>absurd ((h g).2 mem_cons_self) not_mem_nil
 |f::fs,[],_,_,h=>absurd ((h f).1 mem_cons_self) not_mem_nil
 | f::fs,g::A,F,G,h=>by
  have D:=kW.1 F;have C:=kW.1 G;have e:f=g:=by
   rcases kU.1 ((h f).1 mem_cons_self) with q|q
   .exact q
   .rcases kU.1 ((h g).2 mem_cons_self) with r|r
    .grind
    .have:=dp_ (C.1 f q);grind
  subst e;congr 1;refine gN_.ext D.2 C.2 λx=>⟨λq=>?_,λq=>?_⟩
  .rcases kU.1 ((h x).1 (mem_cons_of_mem _ q)) with r|r
   .have:=D.1 x q;rw[r,bO_]at this;cases this
   .exact r
  .rcases kU.1 ((h x).2 (mem_cons_of_mem _ q)) with r|r
   .have:=C.1 x q;rw[r,bO_]at this;cases this
   .exact r
theorem ce_.unique{id:Int}(r:ce_ st id fs)(A:ce_ st id gs):fs=gs:=r.asc.ext A.asc λf=>(r.mem f).trans (A.mem f).symm
theorem F3_ (h:gN_ fs) (s:Y_):(∀x∈fs.take (f9_ fs s),blt x.1 s=true)/\(∀x∈fs.drop (f9_ fs s),blt x.1 s=false):=by
 constructor
 .intro x A;obtain⟨i,D,rfl⟩:=kK A;have C:i<f9_ fs s/\i<fs.length:=by grind
  rw[getElem_take];exact (hO_ h s i C.2).2 C.1
 .intro x A;obtain⟨i,D,rfl⟩:=kK A;have r:f9_ fs s+i<fs.length:=by grind
  rw[getElem_drop];have:=hO_ h s _ r;cases e:blt fs[f9_ fs s+i].1 s with
  |false=>rfl
  |true=>have:=this.1 e;omega
theorem gN_.put (h:gN_ fs) (f:FileR) (N:∀x∈fs,x.1≠f.1):gN_ (fs.take (f9_ fs f.1)++(f::fs.drop (f9_ fs f.1))):=by
 have⟨I,O⟩:=F3_ h f.1;have A:(fs.take (f9_ fs f.1)++fs.drop (f9_ fs f.1)).Pairwise λx y=>blt x.1 y.1=true:=by rw[lD];exact h
 have⟨C,F,U⟩:=kZ.1 A;have G:∀x∈fs.drop (f9_ fs f.1),blt f.1 x.1=true:=λx D=>by
  rcases gP_ x.1 f.1 with r|r|r
  .grind
  .grind
  .grind
 refine kZ.2 ⟨C,kW.2 ⟨G,F⟩,λx D y J=>?_⟩;grind
theorem H3_{fs:List FileR}(p:Nat):x∈fs.take p++(f::fs.drop p)↔x=f\/x∈fs:=by
 have:x∈fs↔x∈fs.take p\/x∈fs.drop p:=by rw[<-kD,lD]
 grind
end
section
variable{H:Hp}{Q:Post}{sp ms ml mi:Nat}{c0 c4:GV}{st:StD}
theorem sH_ {G:Hp} {f:FileR} {i b:Nat} {R:Post} (h:bQ_ G a fs) (O:∀l o,a=some (l,o)->b<=l) (J:b<=G.length) (hi:i<=fs.length) (U:fs.length<=1000)
 (hR:∀r a',bQ_ r a' (fs.take i++(f::fs.drop i))->(∀l o,a'=some (l,o)->b<=l)->G.length<=r.length->(∀l,l<b->r[l]?=G[l]?)->R (nL a' (fs.length+1) 3) r):
 slices_Insert__api_File_api_File [(nL a fs.length 3),(gI ((i:Nat):Int)),(nL (some (G.length,0)) 1 3)] (G++[.row false mC_ (wP_ f)]) R:=by
 have o:Own G b gl_ a (fs.length*3) (bK_ fs):=by
  rcases h with⟨rfl,rfl⟩|⟨l,rfl,F⟩
  .exact .inl ⟨rfl,rfl,rfl⟩
  .exact .inr ⟨l,rfl,O l 0 rfl,F,eP_ fs⟩
 refine vb_ o o_ rfl J hi (by unfold Lim;omega) λH' q o'=>?_;rcases o' with⟨e,_⟩|⟨l,e,hb,hr,_⟩
 .cases e
 cases e;refine hR H' _ (.inr ⟨_,rfl,?_⟩) (λl o e=>by cases e;exact hb) (by have:=q.len;omega) λl hl=>q.row l o_ λe=>by have:=O _ _ e;omega
 rw[hr,Al_ _ _ hi,BZ_ _ _ hi,hs_,bK_]
theorem sp_ (h:eZ_ H sp c0 ms ml mi c4 st) (id:Int) (hn:st.links.length<=900) (hQ:∀H' a fs,H<+:H'->bQ_ H' a fs->ce_ st id fs->(∀l o,a=some (l,o)->H.length<=l)->Q (nL a fs.length 3) H'):
 bj_ [yQ sp,gI id] H Q:=by
 refine⟨st.links.length+3,?_⟩;rw[nx_];obtain⟨_,_,g2,_⟩:=h.rd;have hml:ml<H.length:=h.links.lt;simp only[ae_,kN,dS_];rw[ad_ g2,cZ_];refine vM_ h.links λo R0=>?_;have go:∀(f:Nat)(js:List Nat)(G:Hp)(a:Pl)(fs:List FileR),st.links.length-js.length<f->H<+:G->H.length+1<=G.length->fh_ ekL evL G H.length ml st.links js->
  bQ_ G a fs->(∀l o,a=some (l,o)->H.length+1<=l)->gN_ fs->fs.length<=js.length->(∀f,f∈fs↔∃j∈js,∃hj:j<st.links.length,st.links[j].1.1=id/\f=bA_ st st.links[j])->
  bj_.l3 f (some (sp,0)) id a fs.length H.length 0 G Q:=by
  intro f;induction f with
  |zero=>intro js G a fs h;omega
  | succ f ih=>
   intro js G a fs hf hG hl R hfa hal hasc hle hmem;rw[bj_.l3_eq];refine wJ_ R o_ (λj hj hjs G1 l1 k1 R1=>?_) λhperm=>?_
   ·have hlj:=oR_ R1;rw[kI,length_singleton]at hlj;refine rW_ R1 hj ?_;simp only[ekL,evL,bI_,au_,am_,eQ_,bg_,ai_,bL_];have hG1:H<+:G1:=j3_ hG l1 λl hl=>by rw[k1 l o_]
    have hfa1:bQ_ G1 a fs:=by
     rcases hfa with q|⟨l,rfl,q⟩
     .exact .inl q
     .have:=hal l 0 rfl;exact .inr ⟨l,rfl,by rw[k1 l o_];exact q⟩
    refine aa_ (λe=>?_) λe=>?_
    ·have hid:st.links[j].1.1=id:=by simpa using e
     refine fT_ hfa1 hasc o_ ?_;simp only[aL_,aI_,bI_,ai_,am_,bf_,ae_,kN];have hS:=h.keep (H':=G1) λl hl=>aS_ hG1 hl;obtain⟨_,_,_,g3,_⟩:=hS.rd;rw[ad_ g3,cZ_];have hnew:∀x∈fs,x.1≠(bA_ st st.links[j]).1:=λx hx q=>by
      obtain⟨i,hi,hi',hid',rfl⟩:=(hmem x).1 hx;have hk:st.links[i].1=st.links[j].1:=Prod.ext (by rw[hid,hid']) q;have nd:=h.links.nodup;have:i=j:=by
       refine Classical.byContradiction λhne=>?_;have hp:=kS.1 nd;rcases Nat.lt_or_gt_of_ne hne with z|z
       .exact hp i j (by simpa using hi') (by simpa using hj) z (by simpa using hk)
       .exact hp j i (by simpa using hj) (by simpa using hi') z (by simpa using hk.symm)
      subst this;exact hjs hi
     have step:∀c,c=(bA_ st st.links[j]).2.1->slices_Insert__api_File_api_File [(nL a fs.length 3),(gI ((f9_ fs st.links[j].1.2:Nat):Int)),(nL (some (G1.length,0)) 1 3)] (G1++[.row false mC_ [.str st.links[j].1.2,.str c,.bool st.links[j].2.2]]) λr43 H44=>
      rG r43 λv45=>dL 3 v45 λx46 n47=>bj_.l3 f (some (sp,0)) id x46 n47 H.length 0 H44 Q:=λc hc=>by
      subst hc;refine sH_ (f:=bA_ st st.links[j]) (b:=H.length+1) hfa1 hal o_ (u5_ _ _) o_ λG2 a' hf2 hb2 hl2 k2=>?_;simp only[aO_];refine⟨.inr rfl,?_⟩;have e1:fs.length+1=(fs.take (f9_ fs st.links[j].1.2)++(bA_ st st.links[j]::fs.drop (f9_ fs st.links[j].1.2))).length:=by
       have:=u5_ fs st.links[j].1.2;simp;omega
      rw[e1];have hG2:H<+:G2:=by
       rw[prefix_iff_eq_take];apply ext_getElem?;intro i;rw[getElem?_take];split
       .rename_i hi;rw[k2 i o_,aS_ hG1 hi]
       .exact getElem?_eq_none o_
      refine ih (js++[j]) G2 a' _ (by rw[kI,length_singleton];omega) hG2 o_ (R1.keep (k2 _ o_) (k2 _ o_)) hf2 hb2 (hasc.put _ hnew) (by rw[<-e1,kI,length_singleton];omega) λx=>?_;rw[H3_,hmem x];constructor
      .rintro (q|⟨i,hi,r⟩)
       .exact⟨j,t_,hj,hid,q⟩
       .exact⟨i,by simp[hi],r⟩
      ·rintro⟨i,hi,hi',r⟩;rcases kD.1 hi with q|q
       .exact .inr ⟨i,q,hi',r⟩
       .have:i=j:=by simpa using q
        subst this;exact .inl r.2
     refine fv_ (ev:=evI) okI hS.inos st.links[j].2.1 (λv hlk=>?_) λhlk=>?_
     .have hc:evI v= .a [.int .i64 v.links,.str v.content]:=rfl;rw[hc];simp only[eQ_,bg_,ai_,au_,bL_];exact step _ (by simp[bA_,hlk])
     .simp only[eQ_,bg_,ai_,au_,bL_];exact step _ (by simp[bA_,hlk])
    ·have hid: ¬ st.links[j].1.1=id:=by simpa using e
     refine ih (js++[j]) G1 a fs (by rw[kI,length_singleton];omega) hG1 o_ R1 hfa1 hal hasc (by rw[kI,length_singleton];omega) λx=>?_;rw[hmem x];constructor
     .rintro⟨i,hi,r⟩;exact⟨i,by simp[hi],r⟩
     ·rintro⟨i,hi,hi',r⟩;rcases kD.1 hi with q|q
      .exact⟨i,q,hi',r⟩
      .have:i=j:=by simpa using q
       subst this;exact absurd r.1 hid
   .refine hQ G a fs hG hfa ⟨hasc,λx=>?_⟩ λl o e=>by have:=hal l o e;omega
    rw[hmem x];constructor
    .rintro⟨i,_,hi',r⟩;exact⟨_,kE hi',r⟩
    .rintro⟨l,hl',r⟩;obtain⟨i,hi,rfl⟩:=kK hl';exact⟨i,hperm.mem_iff.2 (mem_range.2 hi),hi,r⟩
 exact go _ [] _ none [] t_ (bU_ _ _) t_ R0 (.inl ⟨rfl,rfl⟩) (λl o e=>by cases e) Pairwise.nil t_ (λx=>by simp)
end
structure InfoR where
 name:Y_
 kind:Int
 parent:Y_
 label:Y_
 files:List FileR
 deriving DecidableEq
def gG_(p:Pl)(i:InfoR):List GV:=[.str i.name,.int .i64 i.kind,.str i.parent,.str i.label,.sl p i.files.length 3]
inductive dq_(H:Hp)(b:Nat)(a:Pl):List GV->List InfoR->Prop
 |nil:dq_ H b a [] []
 |cons {p:Pl} {i:InfoR} {cs:List GV} {is:List InfoR}:bQ_ H p i.files->(∀l o,p=some (l,o)->b<=l/\∀o',a≠some (l,o'))->dq_ H b a cs is->dq_ H b a (gG_ p i++cs) (i::is)
theorem bQ_.lt(h:bQ_ H (some (l,o)) fs):l<H.length:=by
 rcases h with⟨q,_⟩|⟨r,e,q⟩
 .cases q
 .grind
theorem bQ_.keep(h:bQ_ H p fs)(r:∀l o,p=some (l,o)->H'[l]?=H[l]?):bQ_ H' p fs:=by
 rcases h with q|⟨l,rfl,q⟩
 .exact .inl q
 .exact .inr ⟨l,rfl,g_⟩
theorem dq_.keep {a D:Pl} (C:∀l,b<=l->(∀o,a≠some (l,o))->l<H.length->H'[l]?=H[l]? /\∀o,D≠some (l,o)):∀{cs:List GV}{is:List InfoR},dq_ H b a cs is->dq_ H' b D cs is:=by
 intro cs is h;induction h with
 |nil=>exact .nil
 |cons A r _ F=>
  refine .cons (A.keep λl o e=>?_) (λl o e=>?_) F
  .subst e;exact (C l (r l o rfl).1 (r l o rfl).2 A.lt).1
  .subst e;exact⟨(r l o rfl).1,(C l (r l o rfl).1 (r l o rfl).2 A.lt).2⟩
theorem dq_.snoc(h:dq_ H b a cs is)(A:bQ_ H p i.files)(D:∀l o,p=some (l,o)->b<=l/\∀F,a≠some (l,F)):dq_ H b a (cs++gG_ p i) (is++[i]):=by
 induction h with
 |nil=>simpa using (dq_.cons A D .nil)
 |cons r G _ C=>exact .cons r G C
theorem dq_.len(h:dq_ H b a cs is):cs.length=is.length*5:=by
 induction h with
 |nil=>rfl
 |cons _ _ _ r=>simp[gG_];omega
def bW_(H:Hp)(b:Nat)(a:Pl)(is:List InfoR):Prop:=(a=none/\is=[])\/∃l cs,a=some (l,0)/\b<=l/\H[l]?=some (.row true g5_ cs)/\dq_ H b a cs is
theorem yJ_ (h:bW_ H b a is) (G:b<=H.length) (C:bQ_ H p i.files) (F:∀l o,p=some (l,o)->b<=l/\∀I,a≠some (l,I)) (hn:is.length<=1000)
 (D:∀N H',bW_ H' b N (is++[i])->(∀l,l<b->H'[l]?=H[l]?)->H.length<=H'.length->K N (is++[i]).length H'):ap H g5_ 5 80 a is.length (gG_ p i) 1 K:=by
 have J:(gG_ p i).length=1*5:=rfl;unfold ap app?;rw[if_pos ⟨by unfold Lim;omega,J⟩];rw[kI,length_singleton]at D;rcases h with⟨rfl,rfl⟩|⟨l,cs,rfl,Y,r,O⟩
 .simp only[length_nil,if_pos];rw[if_neg o_];refine D _ _ (.inr ⟨H.length,gG_ p i,rfl,G,t_,?_⟩) (λl J=>by rw[kM o_]) t_;have:gG_ p i=gG_ p i++[]:=by simp
  rw[this];refine .cons (C.keep λl o e=>?_) (λl o e=>?_) .nil
  .subst e;rw[kM C.lt]
  .subst e;exact⟨(F l o rfl).1,λI q=>by cases q;exact absurd C.lt (Nat.lt_irrefl _)⟩
 .have U:=(kC.1 r).1;simp only[r];rw[if_pos ⟨trivial,trivial,O.len⟩];refine D _ _ (.inr ⟨H.length,cs++gG_ p i,rfl,G,t_,?_⟩) (λV hl'=>by rw[kM s_,kF o_]) t_;refine dq_.keep (H:=H) (λV W Z A=>⟨?_,λo q=>by cases q;exact absurd A (Nat.lt_irrefl _)⟩) (O.snoc C F);grind
section
variable{H:Hp}{Q:Post}{sp ms ml mi:Nat}{c0 c4:GV}{st:StD}
structure sn_(st:StD)(i:InfoR):Prop where
 mem:∃x,look st.snaps i.name=some x/\i.kind=x.kind/\i.parent=x.parent/\i.label=x.label/\ce_ st x.id i.files
theorem ym_ {ev:β->RV} {l f t:Nat} (h:dC_ ekS ev H l ps) (hs:∀x∈ps,x.1.size<=140737488351232) (hn:ps.length<=1000) (hf:Go.Proofs.keysFn f)
 (hK:∀zs:List Y_,zs.Perm (ps.map (·.1))->zs.Pairwise (λa b=>blt a b=true)->∀H' a,H<+:H'->(∀i (hi:i<zs.length),∃l,a=some (l,0)/\gt H' l i=some (.str zs[i]))->K (nL a zs.length 1) H'):
 slices_Sorted_string [.g (.fn f [(H.length,0)])] (H++[.row true t [.map (some l)]]) K:=by
 have⟨A,c,hm,J,U,N⟩:=h.ex;have V:=h.lt;have F:A.map (λe=>kU_ e.2.1)=ps.map (·.1):=by
  have e1:A.map (λe=>kU_ e.2.1)=(A.map λe=>(e.2.1,e.2.2)).map λq=>kU_ q.1:=by simp
  rw[e1,J,map_map];rfl
 have Y:A.length=ps.length:=by have:=congrArg length J;simpa
 have D:∀e∈A,∃x∈ps,e.2.1= .s (.str x.1):=λe r=>by
  have:(e.2.1,e.2.2)∈A.map λe=>(e.2.1,e.2.2):=lA.2 ⟨e,r,rfl⟩;rw[J]at this;have⟨x,W,q⟩:=lA.1 this;have q':=congrArg Prod.fst q;exact⟨x,W,q'.symm⟩
 refine⟨f,H.length,t,[.map (some l)],some l,hf,rfl,t_,rfl,?_⟩;refine⟨A,c,by rw[kM V];exact hm,⟨λe r=>?_,U,N,by rw[F];exact h.nodup,o_⟩,λzs O I=>?_⟩
 .have⟨x,W,q⟩:=D e r;exact⟨x.1,q,hs x W⟩
 ·rw[F]at O;have nd:=O.nodup_iff.2 h.nodup;have asc:zs.Pairwise (λa b=>blt a b=true):=by
   rw[kS]at I ⊢;intro i j hi hj G;have Z:blt zs[j] zs[i]=false:=I i j hi hj G;rcases gP_ zs[i] zs[j] with q|q|q
   .exact q.1
   .exact absurd q.1 (kS.1 nd i j hi hj G)
   .rw[q.1]at Z;cases Z
  refine⟨λe=>?_,λe=>?_⟩
  .simp_all
  .refine hK zs O asc _ _ ((bU_ _ _).trans (bU_ _ _)) λi hi=>⟨_,rfl,?_⟩;simp only[e3_,dS_];rw[aY_ (by rw[getElem?_append_right (kO _),Nat.sub_self];rfl)];simp
theorem sL_(h:eZ_ H sp c0 ms ml mi c4 st)(hs:∀x∈st.snaps,x.1.size<=140737488351232)(hn:st.snaps.length<=1000){E:Nat->Sm}{K:Post}
 (hK:∀zs:List Y_,zs.Perm (st.snaps.map (·.1))->zs.Pairwise (λa b=>blt a b=true)->∀H' a,H<+:H'->(∀i (hi:i<zs.length),∃l,a=some (l,0)/\gt H' l i=some (.str zs[i]))->K (nL a zs.length 1) H'):
 cl (aW_ E) [(.g (.map (some ms)))] H λr4 H5=>rG r4 λv6=>cl slices_Sorted_string [(.g v6)] H5 K:=by
 refine⟨1,?_⟩;rw[ff_];simp only[aO_,dS_,e3_];exact ym_ h.snaps hs hn (.inl rfl) hK
end
theorem cf_{H H':Hp}(p:H<+:H')(h:gt H l o=some v):gt H' l o=some v:=by
 by_cases r:l<H.length
 .unfold gt;rw[aS_ p r];exact h
 .unfold gt at h;rw[getElem?_eq_none o_]at h;cases h
theorem bW_.pre{H H':Hp}(h:bW_ H b a is)(p:H<+:H'):bW_ H' b a is:=by
 rcases h with q|⟨l,G,rfl,F,D,I⟩
 .exact .inl q
 .exact .inr ⟨l,G,rfl,F,by rw[aS_ p (kC.1 D).1];exact D,I.keep λJ _ A r=>⟨aS_ p r,A⟩⟩
theorem bW_.lt(h:bW_ H b (some (l,o)) is):l<H.length:=by
 rcases h with⟨q,_⟩|⟨r,D,e,G,A,F⟩
 .cases q
 .grind
section
variable{H:Hp}{Q:Post}{sp ms ml mi:Nat}{c0 c4:GV}{st:StD}
theorem g1_{H G:Hp}(r:H.length<=G.length)(h:∀l,l<H.length->G[l]?=H[l]?):H<+:G:=by
 rw[prefix_iff_eq_take];apply ext_getElem?;grind
structure cy_(st:StD)(is:List InfoR):Prop where
 perm:(is.map (·.name)).Perm (st.snaps.map (·.1))
 asc:(is.map (·.name)).Pairwise λa b=>blt a b=true
 info:∀i∈is,sn_ st i
theorem s4_ (h:eZ_ H sp c0 ms ml mi c4 st) (hs:∀x∈st.snaps,x.1.size<=140737488351232) (hn:st.snaps.length<=900) (V:st.links.length<=900)
 (hQ:∀H' b a is,H<+:H'->H.length<=b->bW_ H' b a is->cy_ st is->Q (nL a is.length 5) H'):
 bu_ E [yQ sp] H Q:=by
 refine⟨st.snaps.length+2,?_⟩;rw[nA_];have⟨_,g1,_⟩:=h.rd;simp;rw[ad_ g1,cZ_];refine sL_ h hs o_ λr hp hasc H1 az J hz=>⟨.inr rfl,?_⟩;have hzl:r.length=st.snaps.length:=by rw[hp.length_eq,k9]
 have go:∀(f k) G a is,r.length-k<f->k<=r.length->H1<+:G->bW_ G H1.length a is->is.map (·.name)=r.take k->(∀i∈is,sn_ st i)->
  bu_.l3 E f (some (sp,0)) a is.length az r.length (r.length) (k) G Q:=by
  intro f;induction f with
  |zero=>omega
  | succ f ih=>
   intro k G a is hf hk O N D I;rw[bu_.l3_eq];have hil:is.length=k:=by have:=congrArg length D;rw[k9,lC]at this;omega
   refine aa_ (λe=>?_) λe=>?_
   ·have A:k<r.length:=by simpa using e
    obtain⟨lz,rfl,hgz⟩:=hz k A;refine ab_ rfl (ab_ s_ ?_);have etn:∀k:Nat,tN (k:Int)=k:=λ_=>rfl;simp[ae_];rw[ad_ (cf_ O hgz),au_];have hS:=h.keep (H':=G) λl V=>aS_ (J.trans O) V;have⟨_,g1',_⟩:=hS.rd;rw[ad_ g1',cZ_];have Y:=hp.mem_iff.1 (kE A);refine fv_ okS hS.snaps r[k] (λx U=>?_) λU=>?_
    ·have hc:evS x= .a [.int .i64 x.id,.int .i64 x.kind,.str x.parent,.str x.label]:=rfl;rw[hc];simp[eQ_];refine sp_ hS x.id V λG2 p fs F hfa hfo Z=>⟨.inr rfl,ab_ rfl (yJ_ (i:=⟨r[k],x.kind,x.parent,x.label,fs⟩) (N.pre F) (Nat.le_trans O.length_le F.length_le) hfa (λl o e=>⟨Nat.le_trans O.length_le (Z l o e),λo' q=>?_⟩) o_ λa' G3 W hk3 hl3=>?_)⟩
     .subst q;have:=N.lt;have:=Z l o e;omega
     ·rw[an_ o_];refine ih (k+1) G3 a' _ o_ A (g1_ (Nat.le_trans (O.trans F).length_le hl3) λl V=>by rw[hk3 l V,aS_ (O.trans F) V]) W ?_ λi hi=>?_
      .rw[kL,D,take_add_one,kG A];rfl
      ·rcases kD.1 hi with q|q
       .exact I i q
       .have:i=⟨r[k],x.kind,x.parent,x.label,fs⟩:=by simpa using q
        subst this;exact⟨⟨x,U,rfl,rfl,rfl,hfo⟩⟩
    .have⟨x,hx,e⟩:=lA.1 Y;exact absurd e (oy_ U x hx)
   .have A: ¬ k<r.length:=by simpa using e
    have hke:k=r.length:=by omega
    subst hke;rw[take_length]at D;exact hQ G H1.length a is (J.trans O) J.length_le N ⟨by rw[D];exact hp,by rw[D];exact hasc,I⟩
 exact go _ 0 H1 none [] o_ (kP _) (k8 _) (.inl ⟨rfl,rfl⟩) t_ (λi hi=>by cases hi)
end
def hf_(H:Hp)(a:Pl)(fs:List FileR):Prop:=∀i (hi:i<fs.length),∃l o,a=some (l,o)/\gt H l (o+i*3)=some (.str fs[i].1)/\gt H l (o+i*3+1)=some (.str fs[i].2.1)/\gt H l (o+i*3+1+1)=some (.bool fs[i].2.2)
theorem bQ_.rd(h:bQ_ H a fs):hf_ H a fs:=λi r=>by
 rcases h with⟨_,rfl⟩|⟨l,rfl,h⟩
 .cases r
 .exact⟨l,0,rfl,by simpa using bQ_.gets h i r⟩
theorem hf_.pre{H H':Hp}(h:hf_ H a fs)(p:H<+:H'):hf_ H' a fs:=λi F=>by
 have⟨l,o,e,A,D,r⟩:=h i F;exact⟨l,o,e,cf_ p A,cf_ p D,cf_ p r⟩
def dW_(H:Hp)(a:Pl)(is:List InfoR):Prop:=∀i (hi:i<is.length),∃l o p,a=some (l,o)/\gt H l (o+i*5)=some (.str is[i].name)/\gt H l (o+i*5+1)=some (.int .i64 is[i].kind)/\gt H l (o+i*5+1+1)=some (.str is[i].parent)/\gt H l (o+i*5+1+1+1)=some (.str is[i].label)/\
 gt H l (o+i*5+1+1+1+1)=some (.sl p is[i].files.length 3)/\hf_ H p is[i].files
theorem dW_.pre{H H':Hp}(h:dW_ H a is)(p:H<+:H'):dW_ H' a is:=λi J=>by
 have⟨l,o,q,e,G,I,r,F,D,A⟩:=h i J;exact⟨l,o,q,e,cf_ p G,cf_ p I,cf_ p r,cf_ p F,cf_ p D,A.pre p⟩
theorem dq_.at (h:dq_ H b a cs is):∀i (hi:i<is.length),∃p,cs[i*5]?=some (.str is[i].name)/\cs[i*5+1]?=some (.int .i64 is[i].kind)/\cs[i*5+2]?=some (.str is[i].parent)/\cs[i*5+3]?=some (.str is[i].label)/\
 cs[i*5+4]?=some (.sl p is[i].files.length 3)/\hf_ H p is[i].files:=by
 induction h with
 |nil=>intro i hi;cases hi
 | @cons p x cs is D F _ A=>
  intro i hi;cases i with
  |zero=>exact⟨p,rfl,rfl,rfl,rfl,rfl,D.rd⟩
  | succ i=>
   have⟨q,g⟩:=A i (by simp_all);have r:∀k,(gG_ p x++cs)[(i+1)*5+k]?=cs[i*5+k]? :=λk=>by
    rw[getElem?_append_right (by simp[gG_];omega)];congr 1;simp[gG_];omega
   refine⟨q,?_⟩;rw[show (i+1)*5=(i+1)*5+0 from rfl,r 0,show ∀k,(i+1)*5+0+k=(i+1)*5+k from λ_=>rfl,show ∀k,(i+1)*5+0+k=(i+1)*5+k from λ_=>rfl,r 1,r 2,r 3,r 4];exact g
theorem bW_.rd(h:bW_ H b a is):dW_ H a is:=λi r=>by
 rcases h with⟨_,rfl⟩|⟨l,N,rfl,_,A,D⟩
 .cases r
 .have⟨p,O,G,I,U,J,F⟩:=D.at i r;refine⟨l,0,p,rfl,?_,?_,?_,?_,?_,F⟩<;>rw[aY_ A,kN]<;>assumption
end Go.Am
namespace Go.Am
open List
open Go.Proofs
def hR_(fs:List InfoR):Prop:=fs.Pairwise λx y=>blt x.name y.name=true
def dF_(fs:List InfoR)(s:Y_):Nat:=fs.countP λf=>blt f.name s
theorem HV_(fs:List InfoR)(s:Y_):dF_ fs s<=fs.length:=countP_le_length
theorem iV_:∀{fs:List InfoR}(h:hR_ fs)(s:Y_)(i:Nat)(hi:i<fs.length),blt fs[i].name s=true↔i<dF_ fs s
 |[],_,_,_,hi=>by grind
 | f::fs,h,s,i,hi=>by
  have r:=kW.1 h;unfold dF_;rw[countP_cons];cases e:blt f.name s with
  | true=>
   rw[if_pos rfl];cases i with
   |zero=>simp[e]
   |succ i=>
    have:=iV_ r.2 s i g_;simp;rw[this];unfold dF_;omega
  | false=>
   have A:fs.countP (λf=>blt f.name s)=0:=by
    rw[countP_eq_zero];intro x D q;rw[dl_ (r.1 x D) q]at e;cases e
   rw[A];cases i with
   |zero=>simp[e]
   |succ i=>
    grind
section
variable{H:Hp}{Q:Post}
theorem ll_(r:Q (gI (AU_ a b)) H):cO_ [(HD_,fd_)] HD_ [.agg [.str a,.int .i64 d,.str c,.str e,.sl p m 3],gS b] H Q:=by
 refine⟨1,?_⟩;rw[v3_];refine iL_ ?_;simp_all
theorem j5_ {a:Pl} {fs:List InfoR} {s:Y_} (h:dW_ H a fs) (ha:hR_ fs) (hn:fs.length<=1000)
 (hQ:Q (.tup [nN ((dF_ fs s:Nat):Int),.s (.bool (fs.any λf=>decide (f.name=s)))]) H):
 fE_ [nL a fs.length 5,gS s] H Q:=by
 refine⟨1,?_⟩;rw[Ag_];refine⟨fs.length+2,?_⟩;rw[eq_];have go:∀(f i j:Nat),j-i<f->i<=dF_ fs s->dF_ fs s<=j->j<=fs.length->∀{R:Post},R (.tup [nN ((dF_ fs s:Nat):Int),.s (.bool (fs.any λf=>decide (f.name=s)))]) H->
  ak_.l3 (cO_ [(HD_,fd_)]) f a fs.length s HD_ [] ((fs.length:Nat):Int) ((i:Nat):Int) ((j:Nat):Int) H R:=by
  intro f;induction f with
  |zero=>intro i j h;omega
  | succ f ih=>
   intro i j hf h1 h2 h3 R hR;rw[ak_.l3_eq];refine aa_ (λe=>?_) λe=>?_
   ·have hij:i<j:=by simpa using e
    rw[Bt_ o_];have hm:(i+j) / 2<fs.length:=by omega
    refine ab_ rfl (ab_ s_ ?_);obtain⟨l,o,p,rfl,r1,r2,r3,r4,r5,_⟩:=h _ hm
    ·skip;have etn:∀ k:Nat,tN (k:Int)=k:=λ_=>rfl;simp only[ae_,etn];rw[ad_ r1,au_,ad_ r2,ai_,ad_ r3,au_,ad_ r4,au_,ad_ r5];refine⟨.inr rfl,?_⟩;refine ll_ ?_;simp only[aO_,ai_];rw[Ee_,an_ o_];have hp:=iV_ ha s _ hm;refine aa_ (λe=>?_) (λe=>?_)
     .exact ih _ _ o_ (by have:=hp.1 e;omega) h2 h3 hR
     ·exact ih _ _ (by omega) h1 (by rw[e]at hp;have: ¬ (i+j) / 2<dF_ fs s:=λq=>by cases hp.2 q
                                     omega) o_ hR
   ·have hij: ¬ i<j:=by simpa using e
    have hi:i=dF_ fs s:=by omega
    subst hi;refine aa_ (λe=>?_) λe=>?_
    ·have hm:dF_ fs s<fs.length:=by simpa using e
     refine ab_ rfl (ab_ s_ ?_);obtain⟨l,o,p,rfl,r1,r2,r3,r4,r5,_⟩:=h _ hm
     ·skip;have etn:∀k:Nat,tN (k:Int)=k:=λ_=>rfl;simp only[ae_,etn];rw[ad_ r1,au_,ad_ r2,ai_,ad_ r3,au_,ad_ r4,au_,ad_ r5];refine⟨.inr rfl,?_⟩;refine ll_ ?_;simp only[aO_,ai_];rw[Eh_];have:decide (fs[dF_ fs s].name=s)=fs.any λf=>decide (f.name=s):=by
       rw[Bool.eq_iff_iff,any_eq_true];simp only[decide_eq_true_eq];refine⟨λe=>⟨_,kE hm,e⟩,fun⟨x,hx,e⟩=>?_⟩;obtain⟨k,hk,rfl⟩:=kK hx;have hk1:=iV_ ha s k hk;rw[e,bO_]at hk1;have hle:dF_ fs s<=k:=by
        refine Nat.le_of_not_lt λq=>?_;cases hk1.2 q
       rcases Nat.lt_or_eq_of_le hle with q|q
       .have hlt:=(kS.1 ha) _ _ hm hk q;rw[e]at hlt;have:=(iV_ ha s _ hm).1 hlt;omega
       .simp only[q];exact e
      rw[this];exact hR
    ·have hm: ¬ dF_ fs s<fs.length:=by simpa using e
     have:(fs.any λf=>decide (f.name=s))=false:=by
      rw[any_eq_false];intro x hx q;obtain⟨k,hk,rfl⟩:=kK hx;have hk1:=iV_ ha s k hk;have q':fs[k].name=s:=by simpa using q
      rw[q',bO_]at hk1;have: ¬ k<dF_ fs s:=λz=>by cases hk1.2 z
      omega
     rw[this]at hR;exact hR
 refine go _ 0 fs.length o_ (kP _) (HV_ _ _) (kO _) ?_;simp only[aL_,aI_,bI_,ai_,am_,bf_];exact hQ
end
end Go.Am
namespace Go.Am
open List
def dr_ (is:List InfoR):Nat->Nat->Bool
 |0,_=>false
 | f+1,i=>match is[i]? with
  |none=>false
  |some x=>if x.parent=mkS [] then true else (is.any λy=>decide (y.name=x.parent))&&match is[dF_ is x.parent]? with
   |none=>false
   |some y=>eqI y.kind 2&&dr_ is f (dF_ is x.parent)
theorem Hq_(h:hR_ is)(A:(is.any λy=>decide (y.name=s))=true):dF_ is s<is.length:=by
 have⟨x,G,e⟩:=any_eq_true.1 A;have F:x.name=s:=by grind
 obtain⟨k,D,rfl⟩:=kK G;have r:=iV_ h s k D;rw[F,bO_]at r;grind
section
variable{H:Hp}{Q:Post}
theorem qt_ (h:dW_ H a is) (J:hR_ is) (Y:is.length<=1000) (hi:i<is.length) (A:Q (gB (dr_ is is.length i)) H):
 b6_ [nL a is.length 5,gI ((i:Nat):Int)] H Q:=by
 refine⟨is.length+2,?_⟩;rw[sR_];have I:∀k:Nat,tN (k:Int)=k:=λ_=>rfl;have go:∀(f i k),f=is.length-k->k<=is.length->i<is.length->Q (gB (dr_ is f i)) H->b6_.l2 (f+1) a is.length (i) (is.length) (k) H Q:=by
  intro f;induction f with
  |zero=>
   intro i k O V hi A;rw[b6_.l2_eq];refine aa_ (λe=>?_) λe=>A;have:k<is.length:=by simp_all
   omega
  | succ f U=>
   intro i k O V hi A;rw[b6_.l2_eq];refine aa_ (λe=>?_) λe=>?_
   ·refine ab_ rfl (ab_ s_ ?_);obtain⟨l,o,p,rfl,Z,r2,W,r4,r5,_⟩:=h _ hi;simp only[ae_,I];rw[ad_ W,au_];rw[dr_,kG hi]at A;dsimp at A;refine aa_ (λe=>?_) (λe=>?_)
    .have G:is[i].parent=mkS []:=by simpa using e
     rw[if_pos G]at A;exact A
    ·have G: ¬ is[i].parent=mkS []:=by simpa using e
     rw[if_neg G]at A;refine j5_ h J Y ?_;simp only[aL_,aI_,bI_,ai_];refine aa_ (λe=>?_) λe=>?_
     .rw[show (is.any λy=>decide (y.name=is[i].parent))=false by simpa only[Bool.not_eq_true'] using e,Bool.false_and]at A;exact A
     .have N:(is.any λy=>decide (y.name=is[i].parent))=true:=by simpa using e
      have F:=Hq_ J N;rw[N,Bool.true_and,kG F]at A;dsimp at A;refine ab_ rfl (ab_ s_ ?_);obtain⟨l',o',p',q,_,D,_⟩:=h _ F;cases q;simp;rw[ad_ D,ai_];refine aa_ (λe=>?_) λe=>?_
      .rw[show eqI is[dF_ is is[i].parent].kind 2=false by simpa using e,Bool.false_and]at A;exact A
      .rw[show eqI is[dF_ is is[i].parent].kind 2=true by simpa using e,Bool.true_and]at A;rw[an_ o_];exact U _ (k+1) o_ o_ F A
   .have: ¬ k<is.length:=by simpa using e
    omega
 exact go is.length i 0 o_ (kP _) hi A
end
def es_(cl:Bool)(f:FileR):Bool:=aX_ f.1 3&&(leI (sz f.2.1) 6&& !(cl&&f.2.2))
def Ac_{α:Type}(lt:α->α->Bool):List α->Bool
 |[]=>true
 |[_]=>true
 |x::y::l=>lt x y&&Ac_ lt (y::l)
theorem pU_:∀{l:List α},Ac_ lt l=true↔∀i (h:i+1<l.length),lt l[i] l[i+1]=true
 |[]=>⟨λ_ i h=>absurd h t_,λ_=>rfl⟩
 |[x]=>⟨λ_ i h=>absurd h t_,λ_=>rfl⟩
 | x::y::l=>by
  rw[Ac_,kR,pU_];constructor
  .rintro⟨A,r⟩ i h;cases i with
   |zero=>exact A
   |succ i=>exact r i g_
  .exact λh=>⟨h 0 t_,λi D=>h (i+1) g_⟩
theorem CV_ (h:Ac_ (λx y=>blt x.name y.name) fs=true):hR_ fs:=by
 rw[pU_]at h;unfold hR_;rw[kS];intro i j F D r;induction j with
 |zero=>omega
 |succ j A=>
  rcases Nat.lt_or_eq_of_le (Nat.le_of_lt_succ r) with q|q
  .exact dl_ (A o_ q) (h j D)
  .grind
end Go.Am
namespace Go.Am
def cG_ (cl:Bool) (fs:List FileR):Nat->Nat->Bool
 |0,_=>leI (fs.length:Int) 4
 |f+1,k=>match fs[k]? with
  |none=>false
  |some x=>es_ cl x&&((match k with|0=>true|j+1=>match fs[j]? with|none=>false|some y=>blt y.1 x.1)&&cG_ cl fs f (k+1))
section
variable{H:Hp}{Q:Post}
theorem qQ_ {a:Pl} {fs:List FileR} {c:Bool} (h:hf_ H a fs) (hn:fs.length<=100000) (hs:∀f∈fs,f.1.size<=140737488351232) (hQ:Q (gB (cG_ c fs fs.length 0)) H):
 bG_ [nL a fs.length 3,gB c] H Q:=by
 refine⟨fs.length+2,?_⟩;rw[ui_];have etn:∀k:Nat,tN (k:Int)=k:=λ_=>rfl;have go:∀(f k:Nat),f=fs.length-k->k<=fs.length->Q (gB (cG_ c fs f k)) H->bG_.l2 (f+1) a fs.length c a fs.length ((fs.length:Nat):Int) ((k:Nat):Int) H Q:=by
  intro f;induction f with
  |zero=>
   intro k hf hk hQ;rw[bG_.l2_eq];refine aa_ (λe=>?_) λe=>hQ;have:k<fs.length:=by simpa using e
   omega
  | succ f ih=>
   intro k hf hk hQ;have hkl:k<fs.length:=by omega
   rw[bG_.l2_eq];refine aa_ (λe=>?_) λe=>?_
   ·refine ab_ rfl (ab_ s_ ?_);obtain⟨l,o,rfl,r1,r2,r3⟩:=h _ hkl;rw[cG_,kG hkl]at hQ;dsimp only at hQ;simp only[ae_,etn];rw[ad_ r1,au_,ad_ r2,au_,ad_ r3,am_];refine f1_ (hs _ (kE hkl)) ?_;simp only[aO_,am_];refine aa_ (λe=>?_) (λe=>?_)
    .have e':aX_ fs[k].1 3=false:=by simpa only[Bool.not_eq_true'] using e
     rw[show es_ c fs[k]=false by unfold es_;rw[e',Bool.false_and],Bool.false_and]at hQ;exact hQ
    have e1:aX_ fs[k].1 3=true:=by simpa only[Bool.not_eq_false'] using e
    refine ho_ ?_;simp only[aO_,am_];refine aa_ (λe=>?_) λe=>?_
    .have e':leI (sz fs[k].2.1) 6=false:=by simpa only[Bool.not_eq_true'] using e
     rw[show es_ c fs[k]=false by unfold es_;rw[e',e1];rfl,Bool.false_and]at hQ;exact hQ
    have e2:leI (sz fs[k].2.1) 6=true:=by simpa only[Bool.not_eq_false'] using e
    have tail:es_ c fs[k]=true->b1_ (ltI 0 ((k:Nat):Int)) (chk true (chk ((leI 0 (ac_ .i64 (((k:Nat):Int)-1)))&&(ltI (ac_ .i64 (((k:Nat):Int)-1)) ((fs.length:Nat):Int))) (rd H l ((o+((tN (ac_ .i64 (((k:Nat):Int)-1)))*3))+0) λv18=>
     dS v18 λs19=>b1_ (!(dE_ s19 fs[k].1)) (Q (gB false) H) (bG_.l2 (f+1) (some (l,o)) fs.length c (some (l,o)) fs.length ((fs.length:Nat):Int) (ac_ .i64 (((k:Nat):Int)+1)) H Q))))
     (bG_.l2 (f+1) (some (l,o)) fs.length c (some (l,o)) fs.length ((fs.length:Nat):Int) (ac_ .i64 (((k:Nat):Int)+1)) H Q):=λhok=>by
     rw[hok,Bool.true_and]at hQ;rw[an_ o_];cases k with
     |zero=>
      refine aa_ (λe=>by simp at e) λe=>?_;dsimp only at hQ;rw[Bool.true_and]at hQ;exact ih 1 o_ o_ hQ
     |succ j=>
      refine aa_ (λe=>?_) (λe=>by simp at e);rw[d9_ o_];refine ab_ rfl (ab_ s_ ?_);have hj:j<fs.length:=by omega
      obtain⟨l',o',q,r1',_⟩:=h j hj;cases q;simp only[etn,kQ];rw[ad_ r1',au_,j7_];dsimp only at hQ;rw[kG hj]at hQ;dsimp only at hQ;refine aa_ (λe=>?_) λe=>?_
      .rw[show blt fs[j].1 fs[j+1].1=false by unfold blt;simpa only[Bool.not_eq_true'] using e,Bool.false_and]at hQ;exact hQ
      .rw[show blt fs[j].1 fs[j+1].1=true by unfold blt;simpa only[Bool.not_eq_false'] using e,Bool.true_and]at hQ;exact ih (j+1+1) o_ o_ hQ
    refine aa_ (λec=>?_) λec=>?_
    .refine aa_ (λe=>?_) (λe=>?_)
     .rw[show es_ c fs[k]=false by unfold es_;rw[e1,e2,ec,e];rfl,Bool.false_and]at hQ;exact hQ
     .exact tail (by unfold es_;rw[e1,e2,ec,e];rfl)
    .exact tail (by unfold es_;rw[e1,e2,ec];rfl)
   .have: ¬ k<fs.length:=by simpa using e
    omega
 exact go fs.length 0 o_ (kP _) hQ
end
end Go.Am
namespace Go.Am
open List
def c5_(x:InfoR):Bool:=aX_ x.name 4&&((leI 0 x.kind&&leI x.kind 2)&&(leI (sz x.label) 3&&cG_ (eqI x.kind 1) x.files x.files.length 0))
def gM_(is:List InfoR):Nat->Nat->Bool
 |0,_=>leI (is.length:Int) 6
 |f+1,k=>dr_ is is.length k&&gM_ is f (k+1)
def bz_ (is:List InfoR):Nat->Nat->Bool
 |0,_=>gM_ is is.length 0
 |f+1,k=>match is[k]? with
  |none=>false
  |some x=>c5_ x&&((match k with|0=>true|j+1=>match is[j]? with|none=>false|some y=>blt y.name x.name)&&bz_ is f (k+1))
section
variable{H:Hp}{Q:Post}
theorem qE_ (h:dW_ H a is) (A:hR_ is) (D:is.length<=1000):∀(f k:Nat),f=is.length-k->k<=is.length->Q (gB (gM_ is f k)) H->bx_.l8 (f+1) a is.length ((is.length:Nat):Int) ((k:Nat):Int) H Q:=by
 intro f;induction f with
 |zero=>
  intro k I F r;rw[bx_.l8_eq];refine aa_ (λe=>?_) λe=>r;have:k<is.length:=by simp_all
  omega
 | succ f G=>
  intro k I F r;rw[bx_.l8_eq];refine aa_ (λe=>?_) λe=>?_
  .refine qt_ h A D o_ ?_;rw[gM_]at r;refine aa_ (λe=>?_) (λe=>?_)
   .grind
   .rw[show dr_ is is.length k=true by simpa using e,Bool.true_and]at r;rw[an_ o_];exact G (k+1) o_ o_ r
  .have: ¬ k<is.length:=by simpa using e
   omega
end
section
variable{H:Hp}{Q:Post}
theorem mB_ {a:Pl} {is:List InfoR} (h:dW_ H a is) (hn:is.length<=1000) (hs:∀x∈is,x.name.size<=140737488351232/\x.files.length<=100000/\∀f∈x.files,f.1.size<=140737488351232) (hQ:Q (gB (bz_ is is.length 0)) H):
 bx_ [nL a is.length 5] H Q:=by
 refine⟨is.length*2+3,?_⟩;rw[xD_];have etn:∀k:Nat,tN (k:Int)=k:=λ_=>rfl;have mono:∀(f k:Nat),bx_.l8 (is.length+1) a is.length ((is.length:Nat):Int) ((0:Nat):Int) H Q->True:=λ_ _ _=>trivial;have go:∀(f k:Nat),f=is.length-k->k<=is.length->(∀i (hi:i+1<is.length),i+1<k->blt is[i].name is[i+1].name=true)->Q (gB (bz_ is f k)) H->
  bx_.l2 (f+(is.length+2)) a is.length a is.length ((is.length:Nat):Int) ((k:Nat):Int) H Q:=by
  intro f;induction f with
  | zero=>
   intro k hf hk hp hQ;rw[show 0+(is.length+2)=(is.length+1)+1 by omega,bx_.l2_eq];refine aa_ (λe=>?_) λe=>?_
   .have:k<is.length:=by simpa using e
    omega
   .exact qE_ h (CV_ (pU_.2 λi hi=>hp i hi o_)) hn is.length 0 o_ (kP _) hQ
  | succ f ih=>
   intro k hf hk hp hQ;have hkl:k<is.length:=by omega
   rw[show f+1+(is.length+2)=(f+(is.length+2))+1 by omega,bx_.l2_eq];refine aa_ (λe=>?_) λe=>?_
   ·refine ab_ rfl (ab_ s_ ?_);obtain⟨l,o,p,rfl,r1,r2,r3,r4,r5,r6⟩:=h _ hkl;obtain⟨s1,s2,s3⟩:=hs _ (kE hkl);rw[bz_,kG hkl]at hQ;dsimp only at hQ;simp only[ae_,etn];rw[ad_ r1,au_,ad_ r2,ai_,ad_ r3,au_,ad_ r4,au_,ad_ r5];refine⟨.inr rfl,?_⟩;refine e5_ s1 ?_;simp only[aO_,am_];refine aa_ (λe=>?_) (λe=>?_)
    .have e':aX_ is[k].name 4=false:=by simpa only[Bool.not_eq_true'] using e
     rw[show c5_ is[k]=false by unfold c5_;rw[e',Bool.false_and],Bool.false_and]at hQ;exact hQ
    have e1:aX_ is[k].name 4=true:=by simpa only[Bool.not_eq_false'] using e
    refine oe_ ?_;simp only[aO_,am_];refine aa_ (λe=>?_) λe=>?_
    .have e':(leI 0 is[k].kind&&leI is[k].kind 2)=false:=by simpa only[Bool.not_eq_true'] using e
     rw[show c5_ is[k]=false by unfold c5_;rw[e1,e',Bool.false_and,Bool.true_and],Bool.false_and]at hQ;exact hQ
    have e2:(leI 0 is[k].kind&&leI is[k].kind 2)=true:=by simpa only[Bool.not_eq_false'] using e
    refine i1_ ?_;simp only[aO_,am_];refine aa_ (λe=>?_) λe=>?_
    .have e':leI (sz is[k].label) 3=false:=by simpa only[Bool.not_eq_true'] using e
     rw[show c5_ is[k]=false by unfold c5_;rw[e1,e2,e'];rfl,Bool.false_and]at hQ;exact hQ
    have e3:leI (sz is[k].label) 3=true:=by simpa only[Bool.not_eq_false'] using e
    refine qQ_ r6 s2 s3 ?_;simp only[aO_,am_];have eq:c5_ is[k]=cG_ (eqI is[k].kind 1) is[k].files is[k].files.length 0:=by unfold c5_;rw[e1,e2,e3];rfl
    rw[eq]at hQ;refine aa_ (λe=>?_) λe=>?_
    .rw[show cG_ (eqI is[k].kind 1) is[k].files is[k].files.length 0=false by simpa only[Bool.not_eq_true'] using e,Bool.false_and]at hQ;exact hQ
    rw[show cG_ (eqI is[k].kind 1) is[k].files is[k].files.length 0=true by simpa only[Bool.not_eq_false'] using e,Bool.true_and]at hQ;rw[an_ o_];cases k with
    |zero=>
     refine aa_ (λe=>by simp at e) λe=>?_;dsimp only at hQ;rw[Bool.true_and]at hQ;exact ih 1 o_ o_ (λi hi h=>by omega) hQ
    | succ j=>
     refine aa_ (λe=>?_) (λe=>by simp at e);rw[d9_ o_];refine ab_ rfl (ab_ s_ ?_);have hj:j<is.length:=by omega
     obtain⟨l',o',p',q,r1',_⟩:=h j hj;cases q;simp only[etn,kQ];rw[ad_ r1',au_,j7_];dsimp only at hQ;rw[kG hj]at hQ;dsimp only at hQ;refine aa_ (λe=>?_) λe=>?_
     .rw[show blt is[j].name is[j+1].name=false by unfold blt;simpa only[Bool.not_eq_true'] using e,Bool.false_and]at hQ;exact hQ
     ·have hb:blt is[j].name is[j+1].name=true:=by unfold blt;simpa only[Bool.not_eq_false'] using e
      rw[hb,Bool.true_and]at hQ;refine ih (j+1+1) o_ o_ (λi hi h=>?_) hQ;by_cases c:i+1<j+1
      .exact hp i hi c
      .have:i=j:=by omega
       subst this;exact hb
   .have: ¬ k<is.length:=by simpa using e
    omega
 have:=go is.length 0 o_ (kP _) (λi hi h=>by omega) hQ;rw[show is.length+(is.length+2)=is.length*2+2 by omega]at this;exact this
end
section
variable{H:Hp}{Q:Post}
theorem xA_ (h:dW_ H a is) (Y:is.length<=1000)
 (V:∀i (hi:i<is.length),is[i].name=s->(∀j (A:j<is.length),j<i->is[j].name≠s)->Q (gI ((i:Nat):Int)) H)
 (J:(∀j (A:j<is.length),is[j].name≠s)->Q (gI (-1)) H):cg_ [nL a is.length 5,gS s] H Q:=by
 refine⟨is.length+2,?_⟩;rw[Cn_];have W:∀k:Nat,tN (k:Int)=k:=λ_=>rfl;have go:∀(f k),f=is.length-k->k<=is.length->(∀j A,j<k->is[j].name≠s)->cg_.l2 (f+1) a is.length s (k) H Q:=by
  intro f;induction f with
  |zero=>
   intro k I N F;rw[cg_.l2_eq];refine aa_ (λe=>?_) λe=>J λj A=>F j A o_;have:k<is.length:=by simpa using e
   omega
  | succ f O=>
   intro k I N F;have D:k<is.length:=by omega
   rw[cg_.l2_eq];refine aa_ (λe=>?_) λe=>?_
   ·refine ab_ rfl (ab_ s_ ?_);obtain⟨l,o,p,rfl,U,_⟩:=h _ D;simp[ae_];rw[ad_ U,au_];refine aa_ (λe=>?_) (λe=>?_)
    .exact V k D (by simpa using e) F
    .rw[an_ o_];refine O (k+1) o_ o_ λj A G=>?_;rcases Nat.lt_or_eq_of_le (Nat.le_of_lt_succ G) with q|q
     .exact F j A q
     .subst q;simpa using e
   .have: ¬ k<is.length:=by simpa using e
    omega
 grind
end
end Go.Am
namespace Go.Am
def jh_ (is:List InfoR):Nat->Y_->Bool
 |0,p=>decide (p=mkS [])
 |f+1,p=>if p=mkS [] then true else (is.any λy=>decide (y.name=p))&&match is[dF_ is p]? with
  |none=>false
  |some y=>eqI y.kind 2&&jh_ is f y.parent
theorem zm_(h:hR_ is)(hi:i<is.length):dF_ is is[i].name=i:=by
 have D:=iV_ h is[i].name i hi;rw[bO_]at D;have r:dF_ is is[i].name<=i:=Nat.le_of_not_lt λq=>by grind
 rcases Nat.lt_or_eq_of_le r with q|q
 .have A:=(kS.1 h) _ _ o_ hi q;have:=(iV_ h is[i].name _ o_).1 A;omega
 .exact q
theorem xe_(h:hR_ is)(D:(is.any λy=>decide (y.name=s))=true):∃F:dF_ is s<is.length,is[dF_ is s].name=s:=by
 have⟨x,A,e⟩:=List.any_eq_true.1 D;obtain⟨k,r,rfl⟩:=kK A;have:=zm_ h r;grind
theorem oP_:∀(f i:Nat)(hi:i<is.length),dr_ is (f+1) i=jh_ is f is[i].parent
 | 0,i,hi=>by
  rw[dr_,jh_,kG hi];by_cases e:is[i].parent=mkS []
  .grind
  .simp;cases is[dF_ is is[i].parent]? with
   |none=>simp
   |some y=>simp[dr_]
 | f+1,i,hi=>by
  rw[dr_,jh_,kG hi];dsimp;by_cases e:is[i].parent=mkS []
  .grind
  .by_cases r:dF_ is is[i].parent<is.length
   .rw[kG r,oP_ f _ r]
   .grind
theorem En_(a b:Y_):(dE_ a b||gf_ a b)= !(blt b a):=by
 rw[j7_,oH_];change (blt a b||decide (a=b))= !(blt b a);rcases gP_ a b with⟨A,r,D⟩|⟨A,r,D⟩|⟨A,r,D⟩
 .grind
 .grind
 .grind
theorem rZ_ {cl:Bool}:∀(f k:Nat),cG_ cl fs f k=true->leI (fs.length:Int) 4=true
 |0,_,h=>h
 | f+1,k,h=>by
  rw[cG_]at h;cases r:fs[k]? with
  |none=>rw[r]at h;cases h
  |some x=>
   rw[r]at h;simp at h;exact rZ_ f _ h.2.2
section
variable{H:Hp}{Q:Post}
theorem gQ_(h:dW_ H a is)(G:hR_ is)(F:is.length<=1000)
 (I:(is.any λy=>decide (y.name=s))=true->Q (gI ((dF_ is s:Nat):Int)) H)
 (D:(is.any λy=>decide (y.name=s))=false->Q (gI (-1)) H):cg_ [nL a is.length 5,gS s] H Q:=by
 refine xA_ h F (λi r e _=>?_) λq=>?_
 .have:=zm_ G r;grind
 .refine D ?_;rw[List.any_eq_false];intro x A;obtain⟨j,J,rfl⟩:=kK A;grind
theorem uQ_ (h:dW_ H a is) (G:hR_ is) (U:is.length<=1000):∀(f s:Nat)(p:Y_),s+f=7->Q (gB (jh_ is f p)) H->∀m,aV_.l11 (f+1+m) a is.length p ((s:Nat):Int) H Q:=by
 have F:∀k:Nat,tN (k:Int)=k:=λ_=>rfl;intro f;induction f with
 | zero=>
  intro s p W A m;rw[show 0+1+m=m+1 by omega,aV_.l11_eq];rw[jh_]at A;refine aa_ (λe=>?_) λe=>?_
  .have I: ¬ p=mkS []:=by simpa using e
   have e2:decide (p=mkS [])=false:=by simpa
   rw[e2]at A;refine gQ_ h G U (λD=>?_) λD=>?_
   .simp only[aO_,ai_];have⟨J,_⟩:=xe_ G D;refine aa_ (λe=>A) λe=>?_;refine ab_ rfl (ab_ s_ ?_);obtain⟨l,o,q,rfl,V,N,O,Z,Y,_⟩:=h _ J;simp only[ae_,F];rw[ad_ N,ai_];refine aa_ (λe=>A) λe=>?_;simp_all
   .simp only[aO_,ai_];refine aa_ (λe=>A) (λe=>by simp at e)
  .simp_all
 | succ f ih=>
  intro s p W A m;rw[show f+1+1+m=(f+1+m)+1 by omega,aV_.l11_eq];rw[jh_]at A;refine aa_ (λe=>?_) λe=>?_
  ·have I: ¬ p=mkS []:=by simpa using e
   rw[if_neg I]at A;refine gQ_ h G U (λD=>?_) λD=>?_
   ·simp only[aO_,ai_];obtain⟨J,_⟩:=xe_ G D;rw[D,Bool.true_and,kG J]at A;dsimp at A;refine aa_ (λe=>?_) (λe=>?_)
    .simp at e;omega
    refine ab_ rfl (ab_ s_ ?_);obtain⟨l,o,q,rfl,V,N,O,Z,Y,_⟩:=h _ J;simp only[ae_,F];rw[ad_ N,ai_];refine aa_ (λe=>?_) λe=>?_
    .grind
    rw[show eqI is[dF_ is p].kind 2=true by simpa only[Bool.not_eq_false'] using e,Bool.true_and]at A;refine aa_ (λe=>?_) λe=>?_
    .have:(6:Int)<s:=by simpa using e
     omega
    refine ab_ rfl (ab_ s_ ?_);rw[ad_ O,au_,an_ o_];exact ih (s+1) _ o_ A m
   .simp_all
  .have I:p=mkS []:=by simpa using e
   rw[if_pos I]at A;exact A
theorem p5_ {a p:Pl} {is:List InfoR} {x:InfoR} (h:dW_ H a is) (ha:hR_ is) (hn:is.length<=1000) (hf:hf_ H p x.files) (hfn:x.files.length<=100000) (hs:x.name.size<=140737488351232) (hs2:∀f∈x.files,f.1.size<=140737488351232)
 (hQ:Q (gB (c5_ x&&jh_ is 7 x.parent)) H):
 aV_ [nL a is.length 5,.agg [.str x.name,.int .i64 x.kind,.str x.parent,.str x.label,.sl p x.files.length 3]] H Q:=by
 refine⟨x.files.length+10+1,?_⟩;rw[ts_];have etn:∀k:Nat,tN (k:Int)=k:=λ_=>rfl;refine cB_ hs ?_;simp only[aO_,am_];refine aa_ (λe=>?_) λe=>?_
 .rw[show c5_ x=false by unfold c5_;rw[show aX_ x.name 4=false by simpa only[Bool.not_eq_true'] using e,Bool.false_and],Bool.false_and]at hQ;exact hQ
 have e1:aX_ x.name 4=true:=by simpa only[Bool.not_eq_false'] using e
 refine aa_ (λe=>?_) λe=>?_
 .rw[show c5_ x=false by unfold c5_;rw[show leI 0 x.kind=false by simp at e ⊢;omega];simp,Bool.false_and]at hQ;exact hQ
 have e2:leI 0 x.kind=true:=by simp at e ⊢;omega
 refine aa_ (λe=>?_) λe=>?_
 .rw[show c5_ x=false by unfold c5_;rw[show leI x.kind 2=false by simp at e ⊢;omega];simp,Bool.false_and]at hQ;exact hQ
 have e3:leI x.kind 2=true:=by simp at e ⊢;omega
 refine aa_ (λe=>?_) λe=>?_
 .rw[show c5_ x=false by unfold c5_;rw[show leI (sz x.label) 3=false by simp at e ⊢;omega];simp,Bool.false_and]at hQ;exact hQ
 have e4:leI (sz x.label) 3=true:=by simp at e ⊢;omega
 have eq:c5_ x=cG_ (eqI x.kind 1) x.files x.files.length 0:=by unfold c5_;rw[e1,e2,e3,e4];rfl
 rw[eq]at hQ;refine aa_ (λe=>?_) λe=>?_
 ·have:cG_ (eqI x.kind 1) x.files x.files.length 0=false:=by
   cases hff:cG_ (eqI x.kind 1) x.files x.files.length 0 with
   |false=>rfl
   |true=>
    have:=rZ_ _ _ hff;simp at e this;omega
  rw[this,Bool.false_and]at hQ;exact hQ
 have e5:leI (x.files.length:Int) 4=true:=by simp at e ⊢;omega
 have go:∀(f k:Nat),f=x.files.length-k->k<=x.files.length->Q (gB (cG_ (eqI x.kind 1) x.files f k&&jh_ is 7 x.parent)) H->
  aV_.l4 (f+10) a is.length x.name x.kind x.parent x.label p x.files.length ((k:Nat):Int) H Q:=by
  intro f;induction f with
  | zero=>
   intro k hf' hk hQ;rw[show 0+10=9+1 by omega,aV_.l4_eq];refine aa_ (λe=>?_) λe=>?_
   .have:k<x.files.length:=by simpa using e
    omega
   .rw[cG_,e5,Bool.true_and]at hQ;exact uQ_ h ha hn 7 0 _ rfl hQ 1
  | succ f ih=>
   intro k hf' hk hQ;have hkl:k<x.files.length:=by omega
   rw[show f+1+10=(f+10)+1 by omega,aV_.l4_eq];refine aa_ (λe=>?_) (λe=>by simp at e;omega);refine ab_ rfl (ab_ s_ ?_);obtain⟨l,o,rfl,r1,r2,r3⟩:=hf _ hkl;rw[cG_,kG hkl]at hQ;dsimp only at hQ;simp only[ae_,etn];rw[ad_ r1,au_,ad_ r2,au_,ad_ r3,am_];refine fR_ (hs2 _ (kE hkl)) ?_;simp only[aO_,am_];refine aa_ (λe=>?_) λe=>?_
   .rw[show es_ (eqI x.kind 1) x.files[k]=false by unfold es_;rw[show aX_ x.files[k].1 3=false by simpa only[Bool.not_eq_true'] using e,Bool.false_and],Bool.false_and,Bool.false_and]at hQ;exact hQ
   have e6:aX_ x.files[k].1 3=true:=by simpa only[Bool.not_eq_false'] using e
   refine aa_ (λe=>?_) λe=>?_
   .rw[show es_ (eqI x.kind 1) x.files[k]=false by unfold es_;rw[show leI (sz x.files[k].2.1) 6=false by simp at e ⊢;omega];simp,Bool.false_and,Bool.false_and]at hQ;exact hQ
   have e7:leI (sz x.files[k].2.1) 6=true:=by simp at e ⊢;omega
   have tail:es_ (eqI x.kind 1) x.files[k]=true->b1_ (ltI 0 ((k:Nat):Int)) (chk true (chk ((leI 0 (ac_ .i64 (((k:Nat):Int)-1)))&&(ltI (ac_ .i64 (((k:Nat):Int)-1)) (nI x.files.length))) (
    rd H l ((o+((tN (ac_ .i64 (((k:Nat):Int)-1)))*3))+0) λv18=>
    dS v18 λs19=>b1_ ((dE_ x.files[k].1 s19)||(gf_ x.files[k].1 s19)) (Q (gB false) H)
     (aV_.l4 (f+10) a is.length x.name x.kind x.parent x.label (some (l,o)) x.files.length (ac_ .i64 (((k:Nat):Int)+1)) H Q))))
    (aV_.l4 (f+10) a is.length x.name x.kind x.parent x.label (some (l,o)) x.files.length (ac_ .i64 (((k:Nat):Int)+1)) H Q):=λhok=>by
    rw[hok,Bool.true_and]at hQ;rw[an_ o_];cases k with
    |zero=>
     refine aa_ (λe=>by simp at e) λe=>?_;dsimp only at hQ;rw[Bool.true_and]at hQ;exact ih 1 o_ o_ hQ
    |succ j=>
     refine aa_ (λe=>?_) (λe=>by simp at e);rw[d9_ o_];refine ab_ rfl (ab_ s_ ?_);have hj:j<x.files.length:=by omega
     obtain⟨l',o',q,r1',_⟩:=hf j hj;cases q;simp only[etn,kQ];rw[ad_ r1',au_,En_];dsimp only at hQ;rw[kG hj]at hQ;dsimp only at hQ;refine aa_ (λe=>?_) λe=>?_
     .rw[show blt x.files[j].1 x.files[j+1].1=false by simpa only[Bool.not_eq_true'] using e,Bool.false_and,Bool.false_and]at hQ;exact hQ
     .rw[show blt x.files[j].1 x.files[j+1].1=true by simpa only[Bool.not_eq_false'] using e,Bool.true_and]at hQ;exact ih (j+1+1) o_ o_ hQ
   refine aa_ (λeo=>?_) λeo=>?_
   .refine aa_ (λe=>?_) (λe=>?_)
    .rw[show es_ (eqI x.kind 1) x.files[k]=false by unfold es_;rw[e6,e7,eo,e];rfl,Bool.false_and,Bool.false_and]at hQ;exact hQ
    .exact tail (by unfold es_;rw[e6,e7,eo,e];rfl)
   .exact tail (by unfold es_;rw[e6,e7,eo];simp)
 exact go _ 0 rfl (kP _) hQ
end
end Go.Am
namespace Go.Am
open List
theorem yl_ {α:Type} {p q:α->Bool}:∀{l:List α},(∀x∈l,p x=true->q x=true)->(∃x∈l,q x=true/\p x=false)->l.countP p<l.countP q
 |[],_,⟨x,h,_⟩=>by grind
 |y::l,A,G=>by
  have I:l.countP p<=l.countP q:=countP_mono_left λx r=>A x g_;have⟨x,r,D,F⟩:=G;rcases kU.1 r with rfl|r
  .grind
  .have:=yl_ (λx r=>A x g_) ⟨x,r,D,F⟩;grind
theorem sM_:∀(f i:Nat),dr_ is f i=true->dr_ is (f+1) i=true
 |0,i,h=>by cases h
 | f+1,i,h=>by
  rw[dr_]at h ⊢;cases D:is[i]? with
  |none=>rw[D]at h;cases h
  | some x=>
   rw[D]at h;dsimp at h ⊢;by_cases e:x.parent=mkS []
   .grind
   ·rw[if_neg e]at h ⊢;rw[kR]at h ⊢;refine⟨h.1,?_⟩;have r:=h.2;cases A:is[dF_ is x.parent]? with
    |none=>rw[A]at r;cases r
    |some y=>
     rw[A]at r;rw[kR]at r ⊢;exact⟨r.1,sM_ f _ r.2⟩
theorem pI_ (r:f<=g) (h:dr_ is f i=true):dr_ is g i=true:=by
 induction g with
 | zero=>have:f=0:=by omega
         grind
 |succ g A=>
  rcases Nat.lt_or_eq_of_le r with q|q
  .exact sM_ g i (A o_)
  .grind
theorem Eu_ (h:dr_ is f i=true):i<is.length:=by
 cases f with
 |zero=>cases h
 |succ f=>
  rw[dr_]at h;grind
theorem EM_ (r:dr_ is (f+2) i=true) (D:dr_ is (f+1) i=false):∃j,dr_ is (f+1) j=true/\dr_ is f j=false:=by
 rw[dr_]at r D;cases A:is[i]? with
 |none=>rw[A]at r;cases r
 |some x=>
  grind
theorem yv_:∀(f i:Nat),dr_ is (f+1) i=true->dr_ is f i=false->f+1<=(List.range is.length).countP (dr_ is (f+1))
 |0,i,r,_=>countP_pos_iff.2 ⟨i,mem_range.2 (Eu_ r),r⟩
 |f+1,i,r,A=>by
  have⟨j,G,D⟩:=EM_ r A;have I:=yv_ f j G D;have:=yl_ (q:=dr_ is (f+2)) (λx _ F=>sM_ _ _ F) ⟨i,mem_range.2 (Eu_ r),r,A⟩;grind
theorem wK_:∀(m i:Nat),dr_ is m i=true->dr_ is is.length i=true
 |0,i,h=>by cases h
 | m+1,i,h=>by
  by_cases A:m+1<=is.length
  .exact pI_ A h
  ·cases r:dr_ is m i with
   |true=>exact wK_ m i r
   |false=>
    have D:=yv_ m i h r;have F:(List.range is.length).countP (dr_ is (m+1))<=(List.range is.length).length:=countP_le_length;grind
theorem Du_ (A:is.length<=6) (i:Nat):dr_ is 8 i=dr_ is is.length i:=by
 cases h:dr_ is is.length i with
 |true=>exact pI_ o_ h
 |false=>
  cases r:dr_ is 8 i with
  |false=>rfl
  |true=>rw[wK_ 8 i r]at h;cases h
theorem jD_:∀(f k:Nat),f=is.length-k->k<=is.length->(gM_ is f k=true↔(∀j,k<=j->j<is.length->dr_ is is.length j=true)/\leI (is.length:Int) 6=true)
 |0,k,A,r=>by
  rw[gM_];grind
 |f+1,k,A,r=>by
  rw[gM_,kR,jD_ f (k+1) o_ o_];grind
theorem kG_:∀(f k:Nat),bz_ is f k=true->gM_ is is.length 0=true
 |0,_,h=>h
 | f+1,k,h=>by
  rw[bz_]at h;cases r:is[k]? with
  |none=>rw[r]at h;cases h
  |some x=>
   rw[r]at h;simp at h;exact kG_ f _ h.2.2
section
variable{H:Hp}{Q:Post}
theorem fe_ {a:Pl} {is:List InfoR} (h:dW_ H a is) (ha:hR_ is) (hn:is.length<=1000) (hs:∀x∈is,x.name.size<=140737488351232/\x.files.length<=100000/\∀f∈x.files,f.1.size<=140737488351232) (hQ:Q (gB (bz_ is is.length 0)) H):
 a5_ [nL a is.length 5] H Q:=by
 refine⟨is.length+2,?_⟩;rw[pO_];have etn:∀k:Nat,tN (k:Int)=k:=λ_=>rfl;refine aa_ (λe=>?_) λe=>?_
 ·have:bz_ is is.length 0=false:=by
   cases hi:bz_ is is.length 0 with
   |false=>rfl
   |true=>
    have:=(jD_ (is:=is) _ 0 rfl (kP _)).1 (kG_ _ _ hi);have h6:=this.2;simp at e h6;omega
  rw[this]at hQ;exact hQ
 have h6:is.length<=6:=by simp at e;omega
 have go:∀(f k:Nat),f=is.length-k->k<=is.length->(∀j,j<k->dr_ is is.length j=true)->Q (gB (bz_ is f k)) H->
  a5_.l4 (f+1) a is.length ((k:Nat):Int) H Q:=by
  intro f;induction f with
  | zero=>
   intro k hf hk hr hQ;rw[a5_.l4_eq];refine aa_ (λe=>?_) λe=>?_
   .have:k<is.length:=by simpa using e
    omega
   .have:bz_ is 0 k=true:=(jD_ (is:=is) _ 0 rfl (kP _)).2 ⟨λj _ hj=>hr j o_,s_⟩;rw[this]at hQ;exact hQ
  | succ f ih=>
   intro k hf hk hr hQ;have hkl:k<is.length:=by omega
   rw[a5_.l4_eq];refine aa_ (λe=>?_) (λe=>by simp at e;omega);refine ab_ rfl (ab_ s_ ?_);obtain⟨l,o,p,rfl,r1,r2,r3,r4,r5,r6⟩:=h _ hkl;obtain⟨s1,s2,s3⟩:=hs _ (kE hkl);simp only[ae_,etn];rw[ad_ r1,au_,ad_ r2,ai_,ad_ r3,au_,ad_ r4,au_,ad_ r5];refine⟨.inr rfl,?_⟩;refine p5_ h ha hn r6 s2 s1 s3 ?_;simp only[aO_,am_];have hw:jh_ is 7 is[k].parent=dr_ is is.length k:=by rw[<-oP_ 7 k hkl,Du_ h6]
   rw[hw];refine aa_ (λe=>?_) λe=>?_
   ·have e':(c5_ is[k]&&dr_ is is.length k)=false:=by simpa only[Bool.not_eq_true'] using e
    have:bz_ is (f+1) k=false:=by
     cases hi:bz_ is (f+1) k with
     |false=>rfl
     |true=>
      have hroot:=((jD_ (is:=is) _ 0 rfl (kP _)).1 (kG_ _ _ hi)).1 k (kP _) hkl;rw[bz_,kG hkl]at hi;dsimp only at hi;rw[kR]at hi;rw[hi.1,hroot]at e';cases e'
    rw[this]at hQ;exact hQ
   ·have e':(c5_ is[k]&&dr_ is is.length k)=true:=by simpa only[Bool.not_eq_false'] using e
    rw[kR]at e';rw[bz_,kG hkl]at hQ;dsimp only at hQ;rw[e'.1,Bool.true_and]at hQ;have hr':∀j,j<k+1->dr_ is is.length j=true:=λj hj=>by
     rcases Nat.lt_or_eq_of_le (Nat.le_of_lt_succ hj) with q|q
     .exact hr j q
     .subst q;exact e'.2
    rw[an_ o_];cases k with
    |zero=>
     refine aa_ (λe=>by simp at e) λe=>?_;dsimp only at hQ;rw[Bool.true_and]at hQ;exact ih 1 o_ o_ hr' hQ
    |succ j=>
     refine aa_ (λe=>?_) (λe=>by simp at e);refine ab_ rfl (ab_ s_ ?_);simp only[ae_,etn,kQ];rw[ad_ r1,au_,d9_ o_];refine ab_ rfl (ab_ s_ ?_);have hj:j<is.length:=by omega
     obtain⟨l',o',p',q,r1',_⟩:=h j hj;cases q;simp only[etn,kQ];rw[ad_ r1',au_,En_];dsimp only at hQ;rw[kG hj]at hQ;dsimp only at hQ;have hb:blt is[j].name is[j+1].name=true:=(kS.1 ha) _ _ hj hkl (Nat.lt_succ_self _);rw[hb,Bool.true_and]at hQ;rw[hb];exact ih (j+1+1) o_ o_ hr' hQ
 exact go _ 0 rfl (kP _) (λj hj=>by omega) hQ
end
section
variable{B H:Hp}{t:TypeId}{ps:KV}{lf lt:Nat}{lo hi:Y_}{Q:Post}
theorem rt_ (g:SJ B H t ps) (O:gt B lf 0=some (.str lo)) (F:gt B lt 0=some (.str hi)) (G:ps.length<=1000) (k v:Y_)
 (I:∀H',SJ B H' t (ps++[(k,v)].filter (inR lo hi))->Q (.tup []) H'):ex_ [.agg [.str k,.str v],yQ lf,yQ lt,yQ B.length] H Q:=by
 have D:inR lo hi (k,v)=false->Q (.tup []) H:=λe=>I H g_;have r:inR lo hi (k,v)=true->∀H',SJ B H' t (ps++[(k,v)])->Q (.tup []) H':=λe H' U=>I H' g_;rw[Ji_]at D r;refine⟨1,?_⟩;rw[ux_,ad_ (b8_ g.pre O),au_,hK_];refine aa_ (λe=>?_) λe=>D g_;rw[ad_ (b8_ g.pre F),au_];refine aa_ (λN=>?_) λN=>?_
 .have A:hi=mkS []:=by simp_all
  exact g.add k v G (r g_)
 .have A: ¬ hi=mkS []:=by simp_all
  rw[ad_ (b8_ g.pre F),au_,hK_];refine aa_ (λJ=>?_) λJ=>?_
  .exact g.add k v G (r g_)
  .grind
end
section
variable{H0 B:Hp}{x:Pl}{cs:List PC}{T:List Pg}{t:TypeId}{lp lf lt gf:Nat}{lo hi:Y_}{E:Nat->Sm}
theorem wa_ (hT:Tr H0 x 48 cs T) (h0B:H0<+:B) (hlp:gt B lp 0=some (.sl x 48 5)) (hf:gt B lf 0=some (.str lo)) (ht:gt B lt 0=some (.str hi)) (hE:E gf=ex_):
 ∀(f at_:Nat)(H:Hp)(Q:Post)(ps:KV),WfT T f at_->at_<48->SJ B H t ps->ps.length+(allD T f at_).length<=1000->(∀H',SJ B H' t (ps++(allD T f at_).filter (inR lo hi))->Q (.tup []) H')->
  bh_.at E f [yQ lp,gI (at_:Int),.g (.fn gf [(lf,0),(lt,0),(B.length,0)])] H Q:=by
 intro f;induction f with
 |zero=>intro _ _ _ _ h;exact h.elim
 | succ f ih=>
  intro at_ H Q ps hg hat g hb hQ
  obtain⟨p,hp,hm,hkids⟩:=hg;obtain⟨l,o,c,p',rfl,hc,hp',hpc,g0,g1,g2,g3,g4⟩:=hT.get hat;rw[hp]at hp';cases hp';obtain⟨hv1,hv2⟩:=A9_ hm;have hswap:p.keys.zip p.vals++(p.kids.flatMap λk=>allD T f k.toNat)=(p.kids.flatMap λk=>allD T f k.toNat)++p.keys.zip p.vals:=by
   cases hl:p.leaf with
   |true=>rw[(hm.2.leaf hl).2.1];simp
   |false=>rw[(hm.2.inner hl).2.1];simp
  rw[DX_ hp,hswap]at hb hQ;rw[kI,hv2]at hb;have hn1:=hpc.keys.len;have hn2:=hpc.vals.len;have hn3:=hpc.kids.len;have hl3:=hpc.kids.lim;have hl2:=hpc.vals.lim;have k48:∀k∈p.kids,1<=k/\k<48:=λk hk=>by
   cases hlf:p.leaf with
   |true=>rw[(hm.2.leaf hlf).2.1]at hk;simp at hk
   |false=>exact (hm.2.inner hlf).2.2.2.1 k hk
  have etN:tN (at_:Int)=at_:=rfl
  have l7:∀(F i:Nat)(H:Hp)(qs:KV),p.vals.length-i<F->i<=p.vals.length->SJ B H t qs->qs.length+(p.vals.length-i)<=1000->qs++((p.keys.zip p.vals).drop i).filter (inR lo hi)=ps++((p.kids.flatMap λk=>allD T f k.toNat)++p.keys.zip p.vals).filter (inR lo hi)->
   bh_.l7 E (bh_.at E f) F gf [(lf,0),(lt,0),(B.length,0)] l (o+at_*5) c.a2 c.n2 (nI c.n2) (i:Int) H Q:=by
   intro F;induction F with
   |zero=>intro i _ _ h;omega
   | succ F ihF=>
    intro i H qs hF hi' g hb he;have hH:=h0B.trans g.pre;rw[bh_.l7_eq];by_cases hik:i<p.vals.length
    ·rw[az_ s_,af_,(hpc.mono hH).vals.rd i rfl hik,ad_ (v:= .sl c.a1 c.n1 1) (by exact b8_ hH g2),ah_,af_,(hpc.mono hH).keys.rd i rfl o_];have e:(p.keys.zip p.vals).drop i=(p.keys[i]'o_,p.vals[i])::(p.keys.zip p.vals).drop (i+1):=by
      rw[lB o_];simp
     rw[e]at he;rw[hE];refine rt_ g hf ht o_ _ _ λH' g'=>?_;rw[an_ o_];have hfl:([(p.keys[i]'o_,p.vals[i])].filter (inR lo hi)).length<=1:=length_filter_le _ _;refine ihF (i+1) H' _ o_ o_ g' (by rw[kI];omega) ?_;rw[kV,<-filter_append];exact he
    .rw[aA_ s_];rw[drop_of_length_le o_,filter_nil,append_nil]at he;subst he;exact hQ H g
  have l2:∀(F i:Nat)(H:Hp)(qs:KV),p.kids.length-i+p.vals.length+2<F->i<=p.kids.length->SJ B H t qs->qs.length+((p.kids.drop i).flatMap λk=>allD T f k.toNat).length+p.vals.length<=1000->
   qs++(((p.kids.drop i).flatMap λk=>allD T f k.toNat)++p.keys.zip p.vals).filter (inR lo hi)=ps++((p.kids.flatMap λk=>allD T f k.toNat)++p.keys.zip p.vals).filter (inR lo hi)->
   bh_.l2 E (bh_.at E f) F (some (lp,0)) gf [(lf,0),(lt,0),(B.length,0)] l (o+at_*5) c.a3 c.n3 (nI c.n3) (i:Int) H Q:=by
   intro F;induction F with
   |zero=>intro i _ _ h;omega
   | succ F ihF=>
    intro i H qs hF hi' g hb he;have hH:=h0B.trans g.pre;rw[bh_.l2_eq];by_cases hik:i<p.kids.length
    .rw[Az_ p.kids i hik]at hb he;rw[kI]at hb;have hmem:=kE hik;have hk:=k48 _ hmem;have ek:p.kids[i]=((p.kids[i].toNat:Nat):Int):=by omega
     rw[az_ s_,af_,(hpc.mono hH).kids.rd i rfl hik];generalize hkk:p.kids[i]=kk at*;rw[ek];refine ih kk.toNat H _ qs (hkids kk hmem) o_ g o_ λH' g'=>?_;rw[an_ o_];have hfl:((allD T f kk.toNat).filter (inR lo hi)).length<=(allD T f kk.toNat).length:=length_filter_le _ _;refine ihF (i+1) H' _ o_ o_ g' (by rw[kI];omega) ?_;rw[kV,<-filter_append,<-kV (allD T f kk.toNat)];exact he
    .rw[aA_ s_,ad_ (v:= .sl c.a2 c.n2 1) (by exact b8_ hH g3),ah_];rw[drop_of_length_le o_,flatMap_nil,nil_append]at he;rw[drop_of_length_le o_]at hb;exact l7 F 0 H qs o_ o_ g (by simp at hb;omega) (by rw[drop_zero];exact he)
  have hH:=h0B.trans g.pre;refine⟨p.vals.length+p.kids.length+4,?_⟩;rw[z3_,ae_,ad_ (v:= .sl (some (l,o)) 48 5) (by exact b8_ g.pre hlp),ah_,af_];refine ab_ s_ ?_;rw[ae_,etN,ad_ (v:= .sl c.a3 c.n3 1) (by exact b8_ hH g4),ah_];exact l2 _ 0 H ps o_ o_ g (by rw[drop_zero];omega) (by rw[drop_zero])
end
section
variable{H:Hp}{Q:Post}{x:Pl}{n:Nat}{cs:List PC}{T:List Pg}{lo hi:Y_}
theorem ub_ (J:Tr H x n cs T) (G:∀a m H',H<+:H'->Own H' H.length tKV a (m*2) (bV_ (tH_ T lo hi))->(tH_ T lo hi).length=m->Q (.tup [yR a m 2,nN (kf_ 1400 T)]) H'):hr_ [yA x n,gS lo,gS hi] H Q:=by
 refine⟨1,?_⟩;rw[x3_];simp only[e3_,dS_];generalize N:(((H++[Obj.row true tTr [.sl x n 5]])++[Obj.row true tS [.str lo]])++[Obj.row true tS [.str hi]])=B0;have F:H<+:B0:=by grind
 have U:gt B0 H.length 0=some (.sl x n 5):=by rw[<-N];simp[gt]
 have gf:gt B0 (H++[Obj.row true tTr [.sl x n 5]]).length 0=some (.str lo):=by rw[<-N];simp[gt]
 have O:gt B0 ((H++[Obj.row true tTr [.sl x n 5]])++[Obj.row true tS [.str lo]]).length 0=some (.str hi):=by rw[<-N];simp[gt]
 rw[ad_ U,ah_];refine ik_ (J.mono F) λV r=>?_;simp only[aO_,am_];by_cases h:0<aK_ T
 ·have I:kf_ 1400 T=0:=by unfold kf_;rw[lE h]
  have D:d7_ T=cD_ T:=by unfold d7_;rw[lE h]
  rw[I]at G;rw[lE h,aA_ t_];have⟨st,s⟩:=SF.of h;have hn:n=48:=by have:=J.lenT;have:=s.len;omega
  subst hn;refine⟨49,wa_ (t:=Ke_) (J.mono (F.trans r)) (k8 _) (b8_ r U) (b8_ r gf) (b8_ r O) (by rw[oQ_]) 49 0 _ _ [] s.good o_
   ⟨bU_ _ _,none,0,t_,.inl ⟨rfl,rfl,rfl⟩,rfl⟩ (by have:=s.ents.2.2.2;unfold cD_ at this;simp;omega) λZ g=>?_⟩
  have⟨a,m,A,W,Y⟩:=g.out;rw[ad_ (by rw[aY_ A];rfl),ah_];refine G a m Z (F.trans (r.trans g.pre)) ?_ ?_
  .unfold tH_;rw[D];exact W.base g_
  .unfold tH_;rw[D];exact Y
 .have I:kf_ 1400 T=1400:=by unfold kf_;rw[lH h]
  have D:tH_ T lo hi=[]:=by unfold tH_ d7_;rw[lH h];rfl
  rw[I,D]at G;rw[lH h,az_ t_];exact G none 0 V (F.trans r) (.inl ⟨rfl,rfl,rfl⟩) rfl
theorem ps_(r:Tr H x n cs T)(A:∀a m H',H<+:H'->Own H' H.length tKV a (m*2) (bV_ (d7_ T))->(d7_ T).length=m->Q (.tup [yR a m 2,nN (kf_ 1400 T)]) H'):h1_ [yA x n] H Q:=by
 refine⟨1,?_⟩;rw[A6_];refine ub_ r λa m H' p o l=>?_;rw[E0_]at o l;simp_all
end
def snE(p:Y_ × Y_):Option (Y_ × SnapR):=match cq_ p.1 with|some n=>(bD_ p.2).map λx=>(n,x)|none=>none
def lnE(p:Y_ × Y_):Option (LKey × LVal):=match bZ_ p.1 with|some k=>(e2_ p.2).map λx=>(k,x)|none=>none
def inE(p:Y_ × Y_):Option (Int × InoR):=match c1_ p.1 with|some i=>(cJ_ p.2).map λx=>(i,x)|none=>none
def okE(p:Y_ × Y_):Bool:=(snE p).isSome||((lnE p).isSome||(inE p).isSome)
theorem jY_ (h:cq_ k=some n):bZ_ k=none/\c1_ k=none:=by
 have⟨_,A,_⟩:=fK_ h;constructor
 .cases r:bZ_ k with
  |none=>rfl
  |some x=>have:=(fJ_ r).2.1;rw[A]at this;cases this
 .cases r:c1_ k with
  |none=>rfl
  |some x=>have:=(gA_ r).2.1;rw[A]at this;cases this
theorem j2_ {x:LKey} (h:bZ_ k=some x):cq_ k=none/\c1_ k=none:=by
 have⟨_,A,_⟩:=fJ_ h;constructor
 .cases r:cq_ k with
  |none=>rfl
  |some x=>have:=(fK_ r).2.1;rw[A]at this;cases this
 .cases r:c1_ k with
  |none=>rfl
  |some x=>have:=(gA_ r).2.1;rw[A]at this;cases this
theorem sh_ (h:c1_ k=some x):cq_ k=none/\bZ_ k=none:=by
 have⟨_,A,_⟩:=gA_ h;constructor
 .cases r:cq_ k with
  |none=>rfl
  |some x=>have:=(fK_ r).2.1;rw[A]at this;cases this
 .cases r:bZ_ k with
  |none=>rfl
  |some x=>have:=(fJ_ r).2.1;rw[A]at this;cases this
def IY_(st:StD)(p:Y_ × Y_):StD:=⟨st.snaps++(snE p).toList,st.links++(lnE p).toList,st.inos++(inE p).toList⟩
theorem F2_ (st:StD) (p:Y_ × Y_):je_ st p=if okE p=true then some (IY_ st p) else none:=by
 unfold je_ okE IY_ snE lnE inE;cases A:cq_ p.1 with
 |some n=>
  have⟨G,r⟩:=jY_ A;grind
 | none=>
  cases D:bZ_ p.1 with
  |some k=>
   have⟨_,r⟩:=j2_ D;grind
  |none=>
   cases F:c1_ p.1 with
   |some i=>cases cJ_ p.2<;>simp
   |none=>simp
theorem Cj_:∀(ps:KV)(st:StD),h7_ je_ st ps=if (ps.all okE)=true then some ⟨st.snaps++ps.filterMap snE,st.links++ps.filterMap lnE,st.inos++ps.filterMap inE⟩ else none
 |[],st=>by simp[h7_]
 | p::ps,st=>by
  unfold h7_;rw[F2_];by_cases h:okE p=true
  ·rw[if_pos h];dsimp only;rw[Cj_ ps,all_cons,h,Bool.true_and];have r:∀{β:Type}(f:Y_ × Y_->Option β),(p::ps).filterMap f=(f p).toList++ps.filterMap f:=λf=>by
    grind
   simp[r,IY_]
  .grind
theorem p2_(ps:KV):eM_ ps=if (ps.all okE)=true then some ⟨ps.filterMap snE,ps.filterMap lnE,ps.filterMap inE⟩ else none:=by
 unfold eM_;rw[Cj_];rfl
theorem kv_(h:eM_ ps=some st):(∀p∈ps,okE p=true)/\st=⟨ps.filterMap snE,ps.filterMap lnE,ps.filterMap inE⟩:=by
 rw[p2_]at h;grind
structure y5_(st:StD):Prop where
 snaps:∀x∈st.snaps,aX_ x.1 4=true/\fu_ x.2=true
 links:∀x∈st.links,(1<=x.1.1/\x.1.1<=255)/\aX_ x.1.2 3=true/\0<=x.2.1/\x.2.1<=255
 inos:∀x∈st.inos,(1<=x.1/\x.1<=255)/\eg_ x.2=true
theorem Au_(h:bD_ s=some x):fu_ x=true:=by
 unfold bD_ at h;grind
theorem Do_(h:cJ_ s=some x):eg_ x=true:=by
 unfold cJ_ at h;grind
theorem rT_ (h:snE p=some x):cq_ p.1=some x.1/\bD_ p.2=some x.2:=by
 unfold snE at h;cases A:cq_ p.1 with
 |none=>rw[A]at h;cases h
 |some n=>
  rw[A]at h;cases r:bD_ p.2 with
  |none=>rw[r]at h;cases h
  |some y=>rw[r]at h;cases h;exact⟨rfl,rfl⟩
theorem ls_ (h:lnE p=some x):bZ_ p.1=some x.1/\e2_ p.2=some x.2:=by
 unfold lnE at h;cases A:bZ_ p.1 with
 |none=>rw[A]at h;cases h
 |some n=>
  rw[A]at h;cases r:e2_ p.2 with
  |none=>rw[r]at h;cases h
  |some y=>rw[r]at h;cases h;exact⟨rfl,rfl⟩
theorem vE_ (h:inE p=some x):c1_ p.1=some x.1/\cJ_ p.2=some x.2:=by
 unfold inE at h;cases A:c1_ p.1 with
 |none=>rw[A]at h;cases h
 |some n=>
  rw[A]at h;cases r:cJ_ p.2 with
  |none=>rw[r]at h;cases h
  |some y=>rw[r]at h;cases h;exact⟨rfl,rfl⟩
theorem Fg_(h:e2_ s=some x):0<=x.1/\x.1<=255:=by
 unfold e2_ at h;split at h
 .cases h;exact kR_ _ _
 .cases h
theorem oJ_(h:eM_ ps=some st):y5_ st:=by
 obtain⟨_,rfl⟩:=kv_ h;refine⟨λx A=>?_,λx A=>?_,λx A=>?_⟩
 .have⟨p,_,e⟩:=mem_filterMap.1 A;have⟨D,r⟩:=rT_ e;exact⟨(fK_ D).2.2.1,Au_ r⟩
 .have⟨p,_,e⟩:=mem_filterMap.1 A;have⟨D,r⟩:=ls_ e;have⟨_,_,F,G,I⟩:=fJ_ D;refine⟨?_,G,Fg_ r⟩;rw[I];exact⟨F,(kR_ _ _).2⟩
 .have⟨p,_,e⟩:=mem_filterMap.1 A;have⟨D,r⟩:=vE_ e;have⟨_,_,F,G⟩:=gA_ D;refine⟨?_,Do_ r⟩;rw[G];exact⟨F,(kR_ _ _).2⟩
theorem ii_(h:eM_ ps=some st):st.snaps.length<=ps.length/\st.links.length<=ps.length/\st.inos.length<=ps.length:=by
 obtain⟨_,rfl⟩:=kv_ h;grind
theorem Bq_ (h:eM_ ps=some st):st.snaps.length+st.links.length+st.inos.length=ps.length:=by
 obtain⟨D,rfl⟩:=kv_ h;clear h;induction ps with
 |nil=>rfl
 | cons p ps N=>
  have r:=D p t_;have one:(snE p).toList.length+(lnE p).toList.length+(inE p).toList.length=1:=by
   unfold okE at r;cases F:snE p with
   |some x=>
    have⟨J,A⟩:=jY_ (rT_ F).1;simp[lnE,inE,J,A]
   | none=>
    cases G:lnE p with
    |some x=>
     have⟨_,A⟩:=j2_ (ls_ G).1;simp[inE,A]
    |none=>
     rw[F,G]at r;cases I:inE p with
     |some x=>rfl
     |none=>rw[I]at r;cases r
  grind
theorem eO_(h:aX_ s m=true):1<=(s.size:Int)/\(s.size:Int)<=m:=by
 unfold aX_ at h;simp_all
theorem DW_ (h:1<=s.size):∃b,bs s=b::bs (sub s 1 s.size)/\((b.toNat:Nat):Int)=byt s 0:=by
 have e:=tq_ s 0 o_;cases r:bs s with
 |nil=>rw[r]at e;simp at e
 |cons b t=>
  refine⟨b,?_,g_⟩;rw[iy_,r];rfl
theorem rx_ (h:2<=s.size):∃b c,bs s=b::c::bs (sub s 2 s.size)/\((b.toNat:Nat):Int)=byt s 0/\((c.toNat:Nat):Int)=byt s 1:=by
 have e:=tq_ s 0 o_;have A:=tq_ s 1 o_;cases r:bs s with
 |nil=>rw[r]at e;simp at e
 | cons b t=>
  cases t with
  |nil=>rw[r]at A;simp at A
  |cons c t=>
   rw[r]at e A;refine⟨b,c,?_,g_,by simpa using A⟩;rw[iy_,r];rfl
theorem k2_(b c:UInt8)(s t:List UInt8):Op.bytesLess (b::s) (c::t)=(decide (b<c)||(b==c&&Op.bytesLess s t)):=rfl
theorem GK_(h:cq_ k=some n)(I:cq_ k'=some n'):blt k k'=blt n n':=by
 have⟨A,U,_,D⟩:=fK_ h;have⟨J,N,_,G⟩:=fK_ I;have⟨b,r,O⟩:=DW_ A;have⟨c,F,V⟩:=DW_ J;unfold blt;rw[r,F,k2_,D,G];have:b=c:=UInt8.toNat_inj.1 o_;grind
theorem Hs_(h:c1_ k=some n)(D:c1_ k'=some n'):blt k k'=decide (n<n'):=by
 have⟨V,Z,_,J⟩:=gA_ h;have⟨I,U,_,t3⟩:=gA_ D;have⟨b,O,r,G,N⟩:=rx_ (s:=k) o_;have⟨c,Y,A,f2,W⟩:=rx_ (s:=k') o_;have z:bs (sub k 2 k.size)=[]:=by rw[iy_];exact drop_eq_nil_of_le (by rw[hu_];omega)
 have F:bs (sub k' 2 k'.size)=[]:=by rw[iy_];exact drop_eq_nil_of_le (by rw[hu_];omega)
 unfold blt;rw[r,A,k2_,k2_,z,F];have:b=c:=UInt8.toNat_inj.1 o_;subst this;simp[Op.bytesLess,UInt8.lt_iff_toNat_lt];omega
theorem G6_{x x':LKey}(h:bZ_ k=some x)(D:bZ_ k'=some x')(e:x.1=x'.1):blt k k'=blt x.2 x'.2:=by
 have⟨s1,s2,_,_,F⟩:=fJ_ h;have⟨V,Z,_,_,O⟩:=fJ_ D;have⟨b,G,r,U,W⟩:=rx_ (s:=k) o_;obtain⟨c,N,A,f2,f3⟩:=rx_ o_;have Y:byt k 1=byt k' 1:=by grind
 have I:b=c:=UInt8.toNat_inj.1 o_;have J:G=N:=UInt8.toNat_inj.1 o_;subst I;subst J;unfold blt;rw[r,A,k2_,k2_,F,O];simp
structure BM_(st:StD):Prop where
 snaps:st.snaps.Pairwise λx y=>blt x.1 y.1=true
 links:st.links.Pairwise λx y=>x.1≠y.1/\(x.1.1=y.1.1->blt x.1.2 y.1.2=true)
 inos:st.inos.Pairwise λx y=>x.1<y.1
theorem hX_ {α β:Type} {R:α->α->Prop} {S:β->β->Prop} {f:α->Option β} (r:∀a b x y,R a b->f a=some x->f b=some y->S x y):∀{l:List α},l.Pairwise R->(l.filterMap f).Pairwise S
 |[],_=>Pairwise.nil
 | a::l,h=>by
  have A:=kW.1 h;rw[filterMap_cons];cases e:f a with
  |none=>exact hX_ r A.2
  |some x=>
   refine kW.2 ⟨λy D=>?_,hX_ r A.2⟩;grind
theorem io_ (I:Asc ps) (h:eM_ ps=some st):BM_ st:=by
 obtain⟨_,rfl⟩:=kv_ h;refine⟨hX_ (λa b x y r A D=>?_) I,hX_ (λa b x y r A D=>?_) I,hX_ (λa b x y r A D=>?_) I⟩
 .rw[<-GK_ (rT_ A).1 (rT_ D).1];exact r
 .refine⟨λq=>?_,λq=>?_⟩
  .have F:=(ls_ A).1;rw[q]at F;have:=Bu_ F (ls_ D).1;have G:=r;rw[this,bO_]at G;cases G
  .rw[<-G6_ (ls_ A).1 (ls_ D).1 q];exact r
 .have G:=r;rw[Hs_ (vE_ A).1 (vE_ D).1]at G;grind
def wu_(st:StD)(id:Int):List FileR:=(st.links.filter λl=>decide (l.1.1=id)).map (bA_ st)
def aC_(st:StD):List InfoR:=st.snaps.map λx=>⟨x.1,x.2.kind,x.2.parent,x.2.label,wu_ st x.2.id⟩
theorem hi_ [DecidableEq α] {x:α × β} (D:(ps.map (·.1)).Nodup) (r:x∈ps):look ps x.1=some x.2:=by
 cases h:look ps x.1 with
 |none=>exact absurd rfl (oy_ h x r)
 |some v=>
  have A:=cW_ h;have⟨i,F,G⟩:=kK r;have⟨j,J,I⟩:=kK A;have:i=j:=(getElem_inj (h₀:=by grind) (h₁:=by simpa) D).1 g_;grind
theorem C9_(st:StD)(id:Int)(f:FileR):f∈wu_ st id↔∃l∈st.links,l.1.1=id/\f=bA_ st l:=by
 unfold wu_;grind
theorem CW_(r:BM_ st)(id:Int):ce_ st id (wu_ st id):=by
 refine⟨?_,C9_ st id⟩;unfold wu_ gN_;rw[pairwise_map];have h:=Pairwise.filter (λl:LKey × LVal=>decide (l.1.1=id)) r.links;exact Pairwise.imp_of_mem (λ{a b} r A h=>h.2 g_) h
theorem tG_(r:BM_ st):(st.snaps.map (·.1)).Nodup:=by
 refine Pairwise.map _ (λa b h e=>?_) r.snaps;rw[e,bO_]at h;cases h
theorem iq_(r:BM_ st):cy_ st (aC_ st):=by
 have e:(aC_ st).map (·.name)=st.snaps.map (·.1):=by unfold aC_;rw[map_map];rfl
 refine⟨by rw[e],?_,λi A=>?_⟩
 .rw[e,pairwise_map];exact r.snaps
 .obtain⟨x,D,rfl⟩:=lA.1 A;exact⟨x.2,hi_ (tG_ r) D,rfl,rfl,rfl,CW_ r _⟩
theorem u4_ {α:Type} {R:α->α->Prop} (D:∀a,¬ R a a) (A:∀a b,R a b-> ¬ R b a):∀{l m:List α},l.Pairwise R->m.Pairwise R->(∀x,x∈l↔x∈m)->l=m
 |[],[],_,_,_=>rfl
 |[],g::G,_,_,h=>absurd ((h g).2 mem_cons_self) not_mem_nil
 |f::O,[],_,_,h=>absurd ((h f).1 mem_cons_self) not_mem_nil
 | f::O,g::G,F,J,h=>by
  have I:=kW.1 F;have N:=kW.1 J;have e:f=g:=by
   rcases kU.1 ((h f).1 mem_cons_self) with q|q
   .exact q
   .rcases kU.1 ((h g).2 mem_cons_self) with r|r
    .grind
    .grind
  congr 1;refine u4_ D A I.2 N.2 λx=>⟨λq=>?_,λq=>?_⟩
  .grind
  .grind
theorem cy_.unique (A:cy_ st is) (G:cy_ st js):is=js:=by
 have V:∀a:Y_,¬ blt a a=true:=λa q=>by rw[bO_]at q;cases q
 have Y:∀a b:Y_,blt a b=true-> ¬ blt b a=true:=λa b q r=>by rw[dp_ q]at r;cases r
 have J:=u4_ V Y A.asc G.asc λx=>A.perm.mem_iff.trans G.perm.mem_iff.symm;have W:is.length=js.length:=by have:=congrArg length J;simpa
 apply ext_getElem W;intro k D F;have⟨x,I,x2,x3,x4,U⟩:=(A.info _ (kE D)).mem;have⟨y,N,y2,Z,y4,O⟩:=(G.info _ (kE F)).mem;have e:is[k].name=js[k].name:=by
  have:=congrArg (λl:List Y_=>l[k]?) J;grind
 rw[e,N]at I;cases I;have hf:=U.unique O;cases hi:is[k];cases hj:js[k];grind
def jq_(st:StD):Bool:=dx_ st&&(decide (st.snaps.map λx=>x.2.id).Nodup&&bz_ (aC_ st) (aC_ st).length 0)
def eo_(ps:KV):Option StD:=match eM_ ps with|some st=>(match jq_ st with|true=>some st|false=>none)|none=>none
def ofD(T:List Pg):Option StD:=match decide (0<aK_ T) with|true=>eo_ (d7_ T)|false=>none
theorem ky_:eo_ ps=some st↔eM_ ps=some st/\jq_ st=true:=by
 unfold eo_;cases eM_ ps with
 |none=>simp
 |some s=>
  dsimp;cases h:jq_ s with
  |true=>exact⟨λe=>by grind,λe=>e.1⟩
  |false=>exact⟨λe=>g_,fun⟨r,A⟩=>g_⟩
theorem bW_.hold(h:bW_ H b a is)(J:∀l,b<=l->H'[l]?=H[l]?):bW_ H' b a is:=by
 rcases h with q|⟨l,F,rfl,I,N,D⟩
 .exact .inl q
 .exact .inr ⟨l,F,rfl,I,g_,D.keep λG A r _=>⟨J G A,r⟩⟩
theorem cy_.sizes (ok:y5_ st) (h:cy_ st is) (A:st.links.length<=1000):is.length=st.snaps.length/\∀x∈is,x.name.size<=140737488351232/\x.files.length<=100000/\∀f∈x.files,f.1.size<=140737488351232:=by
 refine⟨by have:=h.perm.length_eq;simpa using this,λx I=>?_⟩;have⟨y,J,_,_,_,G⟩:=(h.info x I).mem;refine⟨?_,?_,λf F=>?_⟩
 .have:=eO_ (ok.snaps _ (cW_ J)).1;grind
 ·have D:x.files.Nodup:=by
   refine Pairwise.imp (λ{a b} r e=>?_) G.asc;rw[e,bO_]at r;cases r
  have:=(dG_ (st.links.map (bA_ st)) x.files D λf F=>by
   have⟨l,A,_,e⟩:=(G.mem f).1 F;exact lA.2 ⟨l,A,e.symm⟩).1
  grind
 .have⟨l,A,_,e⟩:=(G.mem f).1 F;have:=eO_ (ok.links l A).2.1;rw[e];unfold bA_;dsimp;omega
section
variable{H:Hp}{Q:Post}{x:Pl}{n:Nat}{cs:List PC}{T:List Pg}{E:Nat->Sm}
theorem C8_{ps:KV}(hi:i<ps.length)(st:StD):h7_ kI_ st (ps.drop i)=match kI_ st ps[i] with|some r=>h7_ kI_ r (ps.drop (i+1))|none=>none:=by
 rw[lB hi];rfl
structure KA_(H H':Hp)(x:Pl)(n sp ms ml mi b:Nat)(a:Pl)(st:StD):Prop where
 at_:eZ_ H' sp (.sl x n 5) ms ml mi (.sl a (aC_ st).length 5) st
 row:∃t,H'[sp]?=some (.row true t [.sl x n 5,.map (some ms),.map (some ml),.map (some mi),.sl a (aC_ st).length 5])
 infos:bW_ H' b a (aC_ st)
 pre:H<+:H'
 low:H.length<=ms/\H.length<=ml/\H.length<=mi/\H.length<=sp/\H.length<=b
 lowb:sp<b/\ms<b/\ml<b/\mi<b
theorem kO_ (hT:Tr H x n cs T)
 (h1:ofD T=none->∀H' p,H<+:H'->Q (.tup [.s (.ptr p),.s (.bool false)]) H')
 (h2:∀st,ofD T=some st->∀H' sp ms ml mi b a,KA_ H H' x n sp ms ml mi b a st->Q (.tup [.s (.ptr (some (sp,0))),.s (.bool true)]) H'):
 dJ_ E [yA x n] H Q:=by
 refine⟨(d7_ T).length+3,?_⟩;rw[Ap_];refine ps_ hT λa m H1 p1 o1 l1=>?_;simp only[aL_,aI_,bI_,ah_,ai_,bf_,e3_,dS_];have etn:∀k:Nat,tN (k:Int)=k:=λ_=>rfl;have e0:(((H1++[Obj.map [] 0])++[Obj.map [] 0])++[Obj.map [] 0]).length=H1.length+3:=by simp
 have e1:((H1++[Obj.map [] 0])++[Obj.map [] 0]).length=H1.length+2:=by simp
 have e2:(H1++[Obj.map [] 0]).length=H1.length+1:=by simp
 rw[e0,e1,e2];have hl1:=p1.length_le;have hm60:=ns_ T;have hkv:=zB_ T;generalize hG:(((H1++[Obj.map [] 0])++[Obj.map [] 0])++[Obj.map [] 0])++[Obj.row true zp_ [.sl x n 5,.map (some H1.length),.map (some (H1.length+1)),.map (some (H1.length+2)),.sl none 0 5]]=G0;have pG:H1<+:G0:=by rw[<-hG];exact (((bU_ _ _).trans (bU_ _ _)).trans (bU_ _ _)).trans (bU_ _ _)
 have lG:G0.length=H1.length+4:=by rw[<-hG];simp
 have atG:∀(k:Nat),G0[H1.length+k]?=([Obj.map [] 0,Obj.map [] 0,Obj.map [] 0,Obj.row true zp_ [.sl x n 5,.map (some H1.length),.map (some (H1.length+1)),.map (some (H1.length+2)),.sl none 0 5]]:List Obj)[k]? :=λk=>by
  have:G0=H1++[Obj.map [] 0,Obj.map [] 0,Obj.map [] 0,Obj.row true zp_ [.sl x n 5,.map (some H1.length),.map (some (H1.length+1)),.map (some (H1.length+2)),.sl none 0 5]]:=by rw[<-hG];simp
  rw[this,getElem?_append_right o_];congr 1;omega
 have emp:∀{α β:Type}{ek:α->RV}{ev:β->RV}(l:Nat),G0[l]?=some (.map [] 0)->dC_ ek ev G0 l ([]:List (α × β)):=λl h=>
  ⟨⟨[],0,h,rfl,(λe h=>absurd h not_mem_nil),nodup_nil⟩,nodup_nil⟩
 have S0:eZ_ G0 (H1.length+3) (.sl x n 5) H1.length (H1.length+1) (H1.length+2) (.sl none 0 5) st0:=
  ⟨⟨zp_,by rw[atG 3];rfl⟩,emp _ (by have:=atG 0;simpa using this),emp _ (by have:=atG 1;simpa using this),emp _ (by have:=atG 2;simpa using this),o_,o_,o_⟩
 have hdec:h7_ kI_ st0 (d7_ T)=eM_ (d7_ T):=Gl_ (td_ (lp_ T));have go:∀(f i:Nat)(G:Hp)(st:StD),m-i<f->i<=m->H1<+:G->G.length=H1.length+4->eZ_ G (H1.length+3) (.sl x n 5) H1.length (H1.length+1) (H1.length+2) (.sl none 0 5) st->
  h7_ kI_ st ((d7_ T).drop i)=eM_ (d7_ T)->dJ_.l4 E (f+1) (kf_ 1400 T) (H1.length+3) 0 (H1.length+3) 0 a m (nI m) ((i:Nat):Int) G Q:=by
  intro f;induction f with
  |zero=>intro i G st h;omega
  | succ f ih=>
   intro i G st hf hi hG1 hGl hS hd;rw[dJ_.l4_eq];refine aa_ (λe=>?_) λe=>?_
   .have him:i<m:=by simpa using e
    obtain⟨l,o,rfl,q1,q2⟩:=Kv.get (H:=G) (Kv.mono hG1 ⟨o1.cells,l1⟩) (i:=i) o_;refine ab_ rfl (ab_ s_ ?_);simp only[ae_,etn];rw[ad_ q1,au_,ad_ q2,au_];have hmem:=hkv _ (kE (show i<(d7_ T).length by omega));rw[C8_ o_]at hd;refine sC_ o_ o_ hS (λhn G' hu=>?_) λst' hs G' hu hS'=>?_
    .simp only[aO_,am_];rw[show kI_ st (d7_ T)[i]=none from hn]at hd;refine aa_ (λ_=>?_) (λe=>by cases e);refine h1 ?_ G' none (p1.trans (j3_ hG1 hu.len λl hl=>hu.row l o_));unfold ofD eo_;rw[<-hd];cases decide (0<aK_ T)<;>rfl
    .simp only[aO_,am_];rw[show kI_ st (d7_ T)[i]=some st' from hs]at hd;rw[an_ o_];refine aa_ (λe=>by cases e) λ_=>?_;refine ih (i+1) G' st' o_ him (j3_ hG1 hu.len λl hl=>hu.row l o_) (by rw[hu.len,hGl]) hS' hd
   ·have him:i=m:=by have: ¬ i<m:=by simpa using e
                     omega
    subst him;rw[drop_eq_nil_of_le o_]at hd;have hd':eM_ (d7_ T)=some st:=hd.symm;have pH:H<+:G:=p1.trans hG1;refine aa_ (λe=>?_) λe=>?_
    .refine h1 ?_ G none pH;unfold ofD;cases hh:decide (0<aK_ T) with
     |false=>rfl
     |true=>unfold kf_ at e;rw[hh]at e;cases e
    have hh:decide (0<aK_ T)=true:=by
     cases hh:decide (0<aK_ T) with
     |true=>rfl
     |false=>unfold kf_ at e;rw[hh]at e;cases e
    have hof:ofD T=match jq_ st with|true=>some st|false=>none:=by
     unfold ofD eo_;rw[hh,hd']<;>rfl
    obtain⟨n1,n2,n3⟩:=ii_ hd';have ok:=oJ_ hd';have hasc:=io_ (lp_ T) hd';refine qi_ hS ⟨o_,o_⟩ (λy hy=>?_) λG1 pG1=>?_
    .have:=(ok.inos y hy).2;unfold eg_ at this;simp only[kR]at this;simpa using this.1.1
    simp only[aO_,am_];refine aa_ (λe=>?_) λe=>?_
    .refine h1 ?_ G1 none (pH.trans pG1);rw[hof,show jq_ st=false by unfold jq_;rw[eh_ e,Bool.false_and]]
    have k1:=e1_ e;have hS1:=hS.keep (H':=G1) λl hl=>aS_ pG1 hl;refine rl_ hS1 o_ λG2 pG2=>?_;simp only[aO_,am_];refine aa_ (λe=>?_) λe=>?_
    .refine h1 ?_ G2 none (pH.trans (pG1.trans pG2));rw[hof,show jq_ st=false by unfold jq_;rw[eh_ e,Bool.false_and,Bool.and_false]]
    have k2:=e1_ e;have hS2:=hS1.keep (H':=G2) λl hl=>aS_ pG2 hl;refine s4_ hS2 (λy hy=>by have:=eO_ (ok.snaps y hy).1;omega) o_ o_ λG3 b ia is pG3 hb hia hof3=>?_;have his:is=aC_ st:=hof3.unique (iq_ hasc);subst his;have hS3:=hS2.keep (H':=G3) λl hl=>aS_ pG3 hl;obtain⟨t,hr⟩:=hS3.row;simp only[aO_,ah_];have gl:=pG1.length_le;have gl2:=pG2.length_le;have gl3:=pG3.length_le;have hne:H1.length+3<b:=by omega
    refine b4_ hr t_ ?_;generalize hG4:G3.set (H1.length+3) (.row true t ([.sl x n 5,.map (some H1.length),.map (some (H1.length+1)),.map (some (H1.length+2)),.sl none 0 5].set (0+4) (.sl ia (aC_ st).length 5)))=G4;have r4:G4[H1.length+3]?=some (.row true t [.sl x n 5,.map (some H1.length),.map (some (H1.length+1)),.map (some (H1.length+2)),.sl ia (aC_ st).length 5]):=by
     rw[<-hG4,kH o_];rfl
    have k4:∀l,l≠H1.length+3->G4[l]?=G3[l]? :=λl hl=>by rw[<-hG4,kF (Ne.symm hl)]
    have l4:G4.length=G3.length:=by rw[<-hG4];simp
    have hia4:=hia.hold (H':=G4) λl hl=>k4 l o_;rw[ad_ (v:= .sl ia (aC_ st).length 5) (by rw[aY_ r4];rfl),ah_];have sz:=(iq_ hasc).sizes ok o_;refine mB_ hia4.rd o_ sz.2 ?_;simp only[aO_,am_];have p4:H<+:G4:=j3_ (pH.trans (pG1.trans (pG2.trans pG3))) l4 λl hl=>k4 l o_;cases hf:bz_ (aC_ st) (aC_ st).length 0 with
    |false=>exact h1 (by rw[hof,show jq_ st=false by unfold jq_;rw[hf,Bool.and_false,Bool.and_false]]) G4 _ p4
    | true=>
     have hS4:eZ_ G4 (H1.length+3) (.sl x n 5) H1.length (H1.length+1) (H1.length+2) (.sl ia (aC_ st).length 5) st:=
      ⟨⟨t,r4⟩,hS3.snaps.keep (k4 _ o_),hS3.links.keep (k4 _ o_),hS3.inos.keep (k4 _ o_),hS3.d1,hS3.d2,hS3.d3⟩
     exact h2 st (by rw[hof,show jq_ st=true by unfold jq_;rw[k1,k2,hf];rfl]) G4 _ _ _ _ b ia ⟨hS4,⟨t,r4⟩,hia4,p4,⟨o_,o_,o_,o_,o_⟩,⟨o_,o_,o_,o_⟩⟩
 exact go _ 0 G0 st0 o_ (kP _) pG lG S0 (by rw[drop_zero];exact hdec)
end
def ch_(is:List InfoR)(s:Y_):Option InfoR:=is.find? λi=>decide (i.name=s)
theorem j6_ (h:ofD T=some st):0<aK_ T/\eM_ (d7_ T)=some st/\jq_ st=true:=by
 unfold ofD at h;cases A:decide (0<aK_ T) with
 |false=>rw[A]at h;cases h
 |true=>
  rw[A]at h;exact⟨of_decide_eq_true A,ky_.1 h⟩
theorem Fm_(h:BM_ st):hR_ (aC_ st):=by
 have:=(iq_ h).asc;rw[pairwise_map]at this;exact this
theorem rf_(A:hR_ is):(is.any λy=>decide (y.name=s))=(ch_ is s).isSome/\∀i,ch_ is s=some i->is[dF_ is s]?=some i:=by
 constructor
 .unfold ch_;grind
 .intro i r;unfold ch_ at r;have F:=mem_of_find?_eq_some r;obtain⟨k,D,rfl⟩:=kK F;have:=zm_ A D;grind
section
variable{H:Hp}{Q:Post}{x:Pl}{n:Nat}{cs:List PC}{T:List Pg}{E:Nat->Sm}{s:Y_}
end
theorem c0_ {α:Type} {f:α->List GV} (A:∀x,(f x).length=m):∀(l:List α)(i:Nat)(hi:i<l.length)(j:Nat),j<m->(l.flatMap f)[i*m+j]?=(f l[i])[j]?
 |[],i,hi,_,_=>by grind
 |x::l,0,hi,j,r=>by
  grind
 |x::l,i+1,hi,j,r=>by
  rw[flatMap_cons,getElem?_append_right g_,show (i+1)*m+j-(f x).length=i*m+j by rw[A,Nat.succ_mul];omega,c0_ A l i g_ j r];rfl
theorem vf_(h:Own H b t a n cs)(r:0<n):∃l,a=some (l,0)/\∀j,gt H l j=cs[j]? :=by
 rcases h with⟨_,rfl,_⟩|⟨l,rfl,_,A,_⟩
 .cases r
 .exact⟨l,rfl,λj=>aY_ A⟩
section
variable{B H:Hp}{Q:Post}{sp n1 n2 n3:Nat}{a1 a2 a3:Pl}{st:StD}
theorem c7_.mono(h:c7_ B H sp a1 n1 a2 n2 a3 n3 st){H':Hp}(p:H<+:H'):c7_ B H' sp a1 n1 a2 n2 a3 n3 st:=by
 have⟨t,r⟩:=h.row;exact⟨⟨t,by rw[aS_ p (kC.1 r).1];exact r⟩,h.pre.trans p,h.base,h.snaps.keep λl e=>aS_ p (h.snaps.lt' e),h.links.keep λl e=>aS_ p (h.links.lt' e),h.inos.keep λl e=>aS_ p (h.inos.lt' e),h.l1,h.l2,h.l3,h.d12,h.d13,h.d23,h.s1,h.s2,h.s3⟩
theorem c7_.snapG(h:c7_ B H sp a1 n1 a2 n2 a3 n3 st)(i:Nat)(hi:i<st.snaps.length):∃l,a1=some (l,0)/\gt H l (i*5)=some (.str st.snaps[i].1)/\gt H l (i*5+1)=some (.int .i64 st.snaps[i].2.id)/\gt H l (i*5+1+1)=some (.int .i64 st.snaps[i].2.kind)/\
 gt H l (i*5+1+1+1)=some (.str st.snaps[i].2.parent)/\gt H l (i*5+1+1+1+1)=some (.str st.snaps[i].2.label):=by
 have⟨l,e,A⟩:=vf_ h.snaps (by have:=h.l1;omega);have r:∀x,(AS_ x).length=5:=λx=>rfl;refine⟨l,e,?_,?_,?_,?_,?_⟩<;>rw[A]
 .exact c0_ r _ i hi 0 o_
 .exact c0_ r _ i hi 1 o_
 .exact c0_ r _ i hi 2 o_
 .exact c0_ r _ i hi 3 o_
 .exact c0_ r _ i hi 4 o_
theorem c7_.linkG(h:c7_ B H sp a1 n1 a2 n2 a3 n3 st)(i:Nat)(hi:i<st.links.length):∃l,a2=some (l,0)/\gt H l (i*4)=some (.int .i64 st.links[i].1.1)/\gt H l (i*4+1)=some (.str st.links[i].1.2)/\gt H l (i*4+1+1)=some (.int .i64 st.links[i].2.1)/\
 gt H l (i*4+1+1+1)=some (.bool st.links[i].2.2)/\gt H l (i*4+2)=some (.int .i64 st.links[i].2.1):=by
 have⟨l,e,A⟩:=vf_ h.links (by have:=h.l2;omega);have r:∀x,(BQ_ x).length=4:=λx=>rfl;refine⟨l,e,?_,?_,?_,?_,?_⟩<;>rw[A]
 .exact c0_ r _ i hi 0 o_
 .exact c0_ r _ i hi 1 o_
 .exact c0_ r _ i hi 2 o_
 .exact c0_ r _ i hi 3 o_
 .exact c0_ r _ i hi 2 o_
theorem c7_.inoG(h:c7_ B H sp a1 n1 a2 n2 a3 n3 st)(i:Nat)(hi:i<st.inos.length):∃l,a3=some (l,0)/\gt H l (i*3)=some (.int .i64 st.inos[i].1)/\gt H l (i*3+1)=some (.int .i64 st.inos[i].2.links)/\gt H l (i*3+1+1)=some (.str st.inos[i].2.content):=by
 have⟨l,e,A⟩:=vf_ h.inos (by have:=h.l3;omega);have r:∀x,(inoC x).length=3:=λx=>rfl;refine⟨l,e,?_,?_,?_⟩<;>rw[A]
 .exact c0_ r _ i hi 0 o_
 .exact c0_ r _ i hi 1 o_
 .exact c0_ r _ i hi 2 o_
def uD_(l:List Int)(k:Int):Int:=match l.findIdx? (λx=>decide (x=k)) with|some i=>(i:Int)|none=> -1
theorem uX_ {i:Nat} (hi:i<l.length) (h:l[i]=k) (r:∀j (A:j<l.length),j<i->l[j]≠k):uD_ l k=i:=by
 unfold uD_;have:l.findIdx? (λx=>decide (x=k))=some i:=by
  rw[findIdx?_eq_some_iff_getElem];grind
 grind
theorem yQ_ (h:∀j (r:j<l.length),l[j]≠k):uD_ l k= -1:=by
 unfold uD_;have:l.findIdx? (λx=>decide (x=k))=none:=by
  rw[findIdx?_eq_none_iff];intro x A;obtain⟨j,r,rfl⟩:=kK A;grind
 grind
theorem i4_ (h:c7_ B H sp a1 n1 a2 n2 a3 n3 st) (Z:st.snaps.length<=1000) {k:Int} (I:Q (gI (uD_ (st.snaps.map (·.2.id)) k)) H):bb_ [yQ sp,gI k] H Q:=by
 have ⟨N,g2,g3⟩:=h.rd;refine⟨st.snaps.length+2,?_⟩;rw[ph_];have O:∀k:Nat,tN (k:Int)=k:=λ_=>rfl;have hl:=h.l1;have go:∀(f i),f=st.snaps.length-i->i<=st.snaps.length->(∀j A,j<i->st.snaps[j].2.id≠k)->bb_.l2 (f+1) (some (sp,0)) k (i) H Q:=by
  intro f;induction f with
  | zero=>
   intro i Y V G;rw[bb_.l2_eq];simp only[ae_];rw[ad_ N,ah_];refine aa_ (λe=>?_) λe=>?_
   .have:i<n1:=by simp_all
    omega
   .rw[yQ_ λj A=>by rw[getElem_map];rw[k9]at A;exact G j A o_]at I;exact I
  | succ f W=>
   intro i Y V G;have F:i<st.snaps.length:=by omega
   rw[bb_.l2_eq];simp only[ae_];rw[ad_ N,ah_];refine aa_ (λe=>?_) (λe=>by simp at e;omega);rw[ad_ N,ah_];refine ab_ rfl (ab_ s_ ?_);obtain⟨l,rfl,r1,U,_⟩:=h.snapG i F;simp[ae_];rw[ad_ U,ai_];refine aa_ (λe=>?_) λe=>?_
   .have J:st.snaps[i].2.id=k:=by simpa using e
    rw[uX_ (by simpa) (by rw[getElem_map];exact J) λj A D=>by rw[getElem_map];exact G j o_ D]at I;exact I
   .have J: ¬ st.snaps[i].2.id=k:=by simpa using e
    rw[an_ o_];refine W (i+1) o_ F λj A D=>?_;rcases Nat.lt_or_eq_of_le (Nat.le_of_lt_succ D) with q|q
    .exact G j A q
    .subst q;exact J
 exact go _ 0 rfl (kP _) (λj A h=>by omega)
theorem fA_ (h:c7_ B H sp a1 n1 a2 n2 a3 n3 st) (Z:st.inos.length<=1000) (G:Q (gI (uD_ (st.inos.map (·.1)) k)) H):aQ_ [yQ sp,gI k] H Q:=by
 have ⟨g1,g2,J⟩:=h.rd;refine⟨st.inos.length+2,?_⟩;rw[nN_];have O:∀k:Nat,tN (k:Int)=k:=λ_=>rfl;have hl:=h.l3;have go:∀(f i),f=st.inos.length-i->i<=st.inos.length->(∀j D,j<i->st.inos[j].1≠k)->aQ_.l2 (f+1) (some (sp,0)) k (i) H Q:=by
  intro f;induction f with
  | zero=>
   intro i Y V I;rw[aQ_.l2_eq];simp;rw[ad_ J,ah_];refine aa_ (λe=>?_) λe=>?_
   .have:i<n3:=by simpa using e
    omega
   .rw[yQ_ λj D=>by grind]at G;exact G
  | succ f W=>
   intro i Y V I;have F:i<st.inos.length:=by omega
   rw[aQ_.l2_eq];simp only[ae_];rw[ad_ J,ah_];refine aa_ (λe=>?_) (λe=>by simp at e;omega);rw[ad_ J,ah_];refine ab_ rfl (ab_ s_ ?_);obtain⟨l,rfl,U,r2,_⟩:=h.inoG i F;simp[ae_];rw[ad_ U,ai_];refine aa_ (λe=>?_) λe=>?_
   .have N:st.inos[i].1=k:=by simpa using e
    rw[uX_ (by simpa) (by rw[getElem_map];exact N) λj D A=>by rw[getElem_map];exact I j o_ A]at G;exact G
   .have N: ¬ st.inos[i].1=k:=by simpa using e
    rw[an_ o_];refine W (i+1) o_ F λj D A=>?_;rcases Nat.lt_or_eq_of_le (Nat.le_of_lt_succ A) with q|q
    .exact I j D q
    .subst q;exact N
 exact go _ 0 rfl (kP _) (λj D h=>by omega)
theorem u8_ {l:List Int} {k:Int}:ltI (uD_ l k) 0= !(l.any λx=>decide (x=k)):=by
 unfold uD_;cases h:l.findIdx? (λx=>decide (x=k)) with
 |none=>
  simp_all
 |some i=>
  rw[findIdx?_eq_some_iff_getElem]at h;have⟨r,e,_⟩:=h;have:(l.any λx=>decide (x=k))=true:=any_eq_true.2 ⟨_,kE r,e⟩;rw[this];simp
theorem qD_ (h:c7_ B H sp a1 n1 a2 n2 a3 n3 st) (hn:st.links.length<=1000/\st.inos.length<=1000) (hQ:Q (gB (dx_ st)) H):av_ [yQ sp] H Q:=by
 obtain⟨g1,g2,g3⟩:=h.rd;refine⟨st.links.length+(st.inos.length*(st.links.length+2)+1)+2,?_⟩;rw[m3_];have etn:∀k:Nat,tN (k:Int)=k:=λ_=>rfl;have hl2:=h.l2;have hl3:=h.l3;have go7:∀(f i F:Nat),f=st.inos.length-i->i<=st.inos.length->f*(st.links.length+2)+1<=F->(∀l∈st.links,st.inos.any (λx=>decide (x.1=l.2.1))=true)->(∀j (hj:j<st.inos.length),j<i->((ft_ st st.inos[j].1:Nat):Int)=st.inos[j].2.links)->
  av_.l7 F (some (sp,0)) ((i:Nat):Int) H Q:=by
  intro f;induction f with
  | zero=>
   intro i F hf hi hm ha hp;obtain⟨F,rfl⟩:∃G,F=G+1:=⟨F-1,o_⟩;rw[av_.l7_eq];simp only[ae_];rw[ad_ g3,ah_];refine aa_ (λe=>?_) λe=>?_
   .have:i<n3:=by simpa using e
    omega
   ·have:dx_ st=true:=by
     unfold dx_;rw[kR,all_eq_true,all_eq_true];refine⟨ha,λx hx=>?_⟩;obtain⟨j,hj,rfl⟩:=kK hx;simpa using hp j hj o_
    rw[this]at hQ;exact hQ
  | succ f ih=>
   intro i F hf hi hm ha hp;have hil:i<st.inos.length:=by omega
   rw[Nat.succ_mul]at hm;generalize hW:f*(st.links.length+2)=W at hm ih;obtain⟨F,rfl⟩:∃G,F=G+1:=⟨F-1,o_⟩;rw[av_.l7_eq];simp only[ae_];rw[ad_ g3,ah_];refine aa_ (λe=>?_) (λe=>by simp at e;omega);obtain⟨l3,e3,q1,q2,q3⟩:=h.inoG i hil;have go11:∀(g j F:Nat),g=st.links.length-j->j<=st.links.length->g+1+W+1<=F->
    av_.l11 F (some (sp,0)) ((i:Nat):Int) ((((st.links.take j).countP λl=>decide (l.2.1=st.inos[i].1)):Nat):Int) ((j:Nat):Int) H Q:=by
    intro g;induction g with
    | zero=>
     intro j F hg hj hF;obtain⟨F,rfl⟩:∃G,F=G+1:=⟨F-1,o_⟩;rw[av_.l11_eq];simp only[ae_];rw[ad_ g2,ah_];refine aa_ (λe=>by simp at e;omega) λe=>?_;have hje:j=st.links.length:=by omega
     subst hje;rw[take_length];rw[ad_ g3,ah_];refine ab_ rfl (ab_ s_ ?_);subst e3;simp only[ae_,etn,kN,kQ];rw[ad_ q2,ai_];refine aa_ (λe=>?_) λe=>?_
     ·have:dx_ st=false:=by
       unfold dx_;rw[Bool.and_eq_false_iff];right;rw[all_eq_false];refine⟨_,kE hil,?_⟩;unfold ft_;simpa using e
      rw[this]at hQ;exact hQ
     .rw[an_ o_];refine ih (i+1) F o_ hil o_ ha λj hj hji=>?_;rcases Nat.lt_or_eq_of_le (Nat.le_of_lt_succ hji) with z|z
      .exact hp j hj z
      .subst z;unfold ft_;simpa using e
    | succ g ihF=>
     intro j F hg hj hF;have hjl:j<st.links.length:=by omega
     obtain⟨F,rfl⟩:∃G,F=G+1:=⟨F-1,o_⟩;rw[av_.l11_eq];simp only[ae_];rw[ad_ g2,ah_];refine aa_ (λe=>?_) (λe=>by simp at e;omega);rw[ad_ g2,ah_];refine ab_ rfl (ab_ s_ ?_);obtain⟨l2,rfl,_,_,p3,_,p5⟩:=h.linkG j hjl;simp only[ae_,etn,kN,kQ];rw[ad_ p5,ai_];rw[ad_ g3,ah_];refine ab_ rfl (ab_ s_ ?_);subst e3;simp only[ae_,etn,kN,kQ];rw[ad_ q1,ai_];have w1:ac_ .i64 (((j:Nat):Int)+1)=((j+1:Nat):Int):=an_ o_;have hc:((st.links.take (j+1)).countP λl=>decide (l.2.1=st.inos[i].1))=((st.links.take j).countP λl=>decide (l.2.1=st.inos[i].1))+(if st.links[j].2.1=st.inos[i].1 then 1 else 0):=by
      rw[take_add_one,kG hjl,countP_append];by_cases z:st.links[j].2.1=st.inos[i].1<;>simp[z]
     have hle:((st.links.take j).countP λl=>decide (l.2.1=st.inos[i].1))<=st.links.length:=Nat.le_trans countP_le_length (by rw[lC];omega);refine aa_ (λe=>?_) λe=>?_
     .have e':st.links[j].2.1=st.inos[i].1:=by simpa using e
      rw[if_pos e']at hc;have:=ihF (j+1) F o_ hjl o_;rw[hc]at this;rw[w1,show ac_ .i64 (((((st.links.take j).countP λl=>decide (l.2.1=st.inos[i].1)):Nat):Int)+1)=((((st.links.take j).countP λl=>decide (l.2.1=st.inos[i].1))+1:Nat):Int) from an_ o_];exact this
     .have e': ¬ st.links[j].2.1=st.inos[i].1:=by simpa using e
      rw[if_neg e',kQ]at hc;have:=ihF (j+1) F o_ hjl o_;rw[hc]at this;rw[w1];exact this
   exact go11 _ 0 F rfl (kP _) o_
 have go2:∀(f i F:Nat),f=st.links.length-i->i<=st.links.length->f+(st.inos.length*(st.links.length+2)+1)+1<=F->(∀j (hj:j<st.links.length),j<i->st.inos.any (λx=>decide (x.1=st.links[j].2.1))=true)->
  av_.l2 F (some (sp,0)) ((i:Nat):Int) H Q:=by
  intro f;induction f with
  |zero=>
   intro i F hf hi hF hp;obtain⟨F,rfl⟩:∃G,F=G+1:=⟨F-1,o_⟩;rw[av_.l2_eq];simp only[ae_];rw[ad_ g2,ah_];refine aa_ (λe=>by simp at e;omega) λe=>?_;refine go7 _ 0 F rfl (kP _) (by rw[Nat.sub_zero];omega) (λl hl=>?_) (λj hj h=>by omega);obtain⟨j,hj,rfl⟩:=kK hl;exact hp j hj o_
  | succ f ih=>
   intro i F hf hi hF hp;have hil:i<st.links.length:=by omega
   obtain⟨F,rfl⟩:∃G,F=G+1:=⟨F-1,o_⟩;rw[av_.l2_eq];simp only[ae_];rw[ad_ g2,ah_];refine aa_ (λe=>?_) (λe=>by simp at e;omega);rw[ad_ g2,ah_];refine ab_ rfl (ab_ s_ ?_);obtain⟨l2,rfl,_,_,p3,_,p5⟩:=h.linkG i hil;simp only[ae_,etn,kN,kQ];rw[ad_ p5,ai_];refine fA_ h hn.2 ?_;simp only[aO_,ai_];rw[u8_,any_map];refine aa_ (λe=>?_) λe=>?_
   ·have:dx_ st=false:=by
     unfold dx_;rw[Bool.and_eq_false_iff];left;rw[all_eq_false];refine⟨_,kE hil,?_⟩;have e':=eh_ e;intro z;have:(st.inos.any ((λx=>decide (x=st.links[i].2.1)) ∘ λx=>x.1))=true:=z;rw[this]at e';cases e'
    rw[this]at hQ;exact hQ
   .rw[an_ o_];refine ih (i+1) F o_ hil o_ λj hj hji=>?_;rcases Nat.lt_or_eq_of_le (Nat.le_of_lt_succ hji) with z|z
    .exact hp j hj z
    .subst z;exact e1_ e
 exact go2 _ 0 _ rfl (kP _) o_ (λj hj h=>by omega)
end
theorem py_:∀(fs r:List FileR),bK_ (fs++r)=bK_ fs++bK_ r
 |[],_=>rfl
 |f::fs,r=>by rw[cons_append,bK_,bK_,py_ fs r,kV]
theorem yi_(h:Own H b gl_ a (fs.length*3) (bK_ fs)):bQ_ H a fs/\∀l o,a=some (l,o)->b<=l:=by
 rcases h with⟨rfl,D,_⟩|⟨l,rfl,F,r,_⟩
 .have:fs=[]:=length_eq_zero_iff.1 o_;exact⟨.inl ⟨rfl,this⟩,λl o e=>by grind⟩
 .exact⟨.inr ⟨l,rfl,r⟩,λA o e=>by grind⟩
theorem v1_[DecidableEq α]{ps:List (α × β)}:(ps.any λx=>decide (x.1=k))=(look ps k).isSome:=by
 unfold look;grind
theorem s6_ {y:InoR} (h:look ps k=some y):∃i,∃hi:i<ps.length,uD_ (ps.map (·.1)) k=((i:Nat):Int)/\ps[i]=(k,y):=by
 unfold look at h;cases r:ps.find? λp=>decide (p.1=k) with
 |none=>rw[r]at h;cases h
 |some p=>
  rw[r]at h;rw[find?_eq_some_iff_getElem]at r;have⟨D,i,hi,e,F⟩:=r;refine⟨i,hi,uX_ g_ g_ λj G A=>?_,g_⟩;grind
section
variable{B H:Hp}{Q:Post}{sp n1 n2 n3:Nat}{a1 a2 a3:Pl}{st:StD}
theorem fw_ (h:c7_ B H sp a1 n1 a2 n2 a3 n3 st) (hn:st.snaps.length<=900/\st.links.length<=900/\st.inos.length<=900) (hk:∀l∈st.links,(st.inos.any λx=>decide (x.1=l.2.1))=true)
 (hQ:∀H' a,H<+:H'->bW_ H' H.length a (aC_ st)->Q (nL a (aC_ st).length 5) H'):ax_ [yQ sp] H Q:=by
 refine⟨st.snaps.length*(st.links.length+2)+1+1,?_⟩;rw[ob_];have etn:∀k:Nat,tN (k:Int)=k:=λ_=>rfl;have hl1:=h.l1;have hl2:=h.l2;have hl3:=h.l3;have hlen:(aC_ st).length=st.snaps.length:=by unfold aC_;rw[k9]
 have go3:∀(f i F:Nat)(G:Hp)(a:Pl),f=st.snaps.length-i->i<=st.snaps.length->f*(st.links.length+2)+1<=F->H<+:G->bW_ G H.length a ((aC_ st).take i)->
  ax_.l3 F (some (sp,0)) a i ((i:Nat):Int) G Q:=by
  intro f;induction f with
  |zero=>
   intro i F G a hf hi hF hG ha;obtain⟨F,rfl⟩:∃G,F=G+1:=⟨F-1,o_⟩;obtain⟨g1,g2,g3⟩:=(h.mono hG).rd;rw[ax_.l3_eq];simp only[ae_];rw[ad_ g1,ah_];refine aa_ (λe=>by simp at e;omega) λe=>?_;have hie:i=(aC_ st).length:=by omega
   rw[hie,take_length]at ha;rw[hie];exact hQ G a hG ha
  | succ f ih=>
   intro i F G a hf hi hF hG ha;have hil:i<st.snaps.length:=by omega
   rw[Nat.succ_mul]at hF;generalize hW:f*(st.links.length+2)=W at hF ih;obtain⟨F,rfl⟩:∃G,F=G+1:=⟨F-1,o_⟩;have hR:=h.mono hG;obtain⟨g1,g2,g3⟩:=hR.rd;rw[ax_.l3_eq];simp only[ae_];rw[ad_ g1,ah_];refine aa_ (λe=>?_) (λe=>by simp at e;omega);rw[ad_ g1,ah_];refine ab_ rfl (ab_ s_ ?_);obtain⟨l1,e1,r1,r2,r3,r4,r5⟩:=hR.snapG i hil;subst e1;simp only[ae_,etn,kN,kQ];rw[ad_ r1,au_,ad_ r2,ai_,ad_ r3,ai_,ad_ r4,au_,ad_ r5,au_];generalize hx:st.snaps[i]=x;have hGs0:=hG;generalize hGs:G=Gs at hGs0 ha;have go8:∀(g j F:Nat)(G:Hp)(p:Pl)(fs:List FileR),g=st.links.length-j->j<=st.links.length->g+1+W+1<=F->Gs<+:G->Own G Gs.length gl_ p (fs.length*3) (bK_ fs)->
    fs=((st.links.take j).filter λl=>decide (l.1.1=x.2.id)).map (bA_ st)->
    ax_.l8 F (some (sp,0)) a i ((i:Nat):Int) x.1 x.2.id x.2.kind x.2.parent x.2.label x.1 x.2.kind x.2.parent x.2.label p fs.length ((j:Nat):Int) G Q:=by
    intro g;induction g with
    | zero=>
     intro j F G p fs hg hj hF hG' ho hfs;have hG:=hGs0.trans hG';obtain⟨F,rfl⟩:∃G,F=G+1:=⟨F-1,o_⟩;have hR:=h.mono hG;obtain⟨g1,g2,g3⟩:=hR.rd;rw[ax_.l8_eq];simp only[ae_];rw[ad_ g2,ah_];refine aa_ (λe=>by simp at e;omega) λe=>?_;have hje:j=st.links.length:=by omega
     rw[hje,take_length]at hfs;obtain⟨f1,f2⟩:=yi_ ho;have hi':i<(aC_ st).length:=by omega
     have hinf:(aC_ st)[i]=⟨x.1,x.2.kind,x.2.parent,x.2.label,fs⟩:=by
      have:(aC_ st)[i]?=some ⟨x.1,x.2.kind,x.2.parent,x.2.label,fs⟩:=by
       unfold aC_;rw[getElem?_map,kG hil,hx,hfs];rfl
      rw[kG hi']at this;exact Option.some.inj this
     refine ab_ rfl ?_;have hti:((aC_ st).take i).length=i:=by rw[lC];omega
     have key:=yJ_ (i:=⟨x.1,x.2.kind,x.2.parent,x.2.label,fs⟩) (K:=λa' n' G'=>ax_.l3 F (some (sp,0)) a' n' (ac_ .i64 (((i:Nat):Int)+1)) G' Q) (ha.pre hG') hG.length_le f1 (λl o e=>⟨Nat.le_trans hGs0.length_le (f2 l o e),λo' q=>by subst q;have:=ha.lt;have:=f2 l o e;omega⟩) o_ λa' G' ha' hk' hl'=>by
      rw[kI,hti,length_singleton,an_ o_];refine ih (i+1) F G' a' o_ hil o_ (g1_ (Nat.le_trans hG.length_le hl') λl hl=>by rw[hk' l hl,aS_ hG hl]) ?_;rw[take_add_one,kG hi',hinf];exact ha'
     rw[hti]at key;exact key
    | succ g ihg=>
     intro j F G p fs hg hj hF hG' ho hfs;have hG:=hGs0.trans hG';have hjl:j<st.links.length:=by omega
     obtain⟨F,rfl⟩:∃G,F=G+1:=⟨F-1,o_⟩;have hR:=h.mono hG;obtain⟨g1,g2,g3⟩:=hR.rd;rw[ax_.l8_eq];simp only[ae_];rw[ad_ g2,ah_];refine aa_ (λe=>?_) (λe=>by simp at e;omega);rw[ad_ g2,ah_];refine ab_ rfl (ab_ s_ ?_);obtain⟨l2,e2,q1,q2,q3,q4,_⟩:=hR.linkG j hjl;subst e2;simp only[ae_,etn,kN,kQ];rw[ad_ q1,ai_,ad_ q2,au_,ad_ q3,ai_,ad_ q4,am_];refine fA_ hR o_ ?_;simp only[aO_,ai_];have hlk:=hk _ (kE hjl);rw[v1_]at hlk;obtain⟨y,hy⟩:=Option.isSome_iff_exists.1 hlk;obtain⟨m,hm,em,ey⟩:=s6_ hy;rw[em];have w1:ac_ .i64 (((j:Nat):Int)+1)=((j+1:Nat):Int):=an_ o_;rw[w1];have hfile:bA_ st st.links[j]=(st.links[j].1.2,y.content,st.links[j].2.2):=by unfold bA_;rw[hy]
     have htk:(st.links.take (j+1)).filter (λl=>decide (l.1.1=x.2.id))=(st.links.take j).filter (λl=>decide (l.1.1=x.2.id))++(if st.links[j].1.1=x.2.id then [st.links[j]] else []):=by
      rw[take_add_one,kG hjl,filter_append];congr 1;by_cases z:st.links[j].1.1=x.2.id<;>simp[z]
     refine aa_ (λe=>?_) λe=>?_
     ·have e':st.links[j].1.1=x.2.id:=by simpa using e
      rw[if_pos e']at htk;refine aa_ (λ_=>?_) (λe=>by simp at e);rw[ad_ g3,ah_];refine ab_ rfl (ab_ s_ ?_);obtain⟨l3,e3,_,_,z3⟩:=hR.inoG m hm;subst e3;simp only[ae_,etn,kN,kQ];rw[ad_ z3,au_,ey];dsimp only;refine ab_ rfl ?_;have hfl:fs.length<=900:=by
       rw[hfs,k9];exact Nat.le_trans (length_filter_le _ _) (by rw[lC];omega)
      have hH0:H<+:G:=hG;refine kj_ (H0:=Gs) o_ hG' ho (m:=1) rfl (by unfold Lim;omega) λp' G' o' ex fr=>?_;have hcs:bK_ fs++[.str st.links[j].1.2,.str y.content,.bool st.links[j].2.2]=bK_ (fs++[bA_ st st.links[j]]):=by
       rw[py_,hfile];rfl
      rw[hcs]at o';have hfl':(fs++[bA_ st st.links[j]]).length=fs.length+1:=by simp
      rw[<-hfl']at o' ⊢;exact ihg (j+1) F G' p' _ o_ hjl o_ ex.pre o' (by rw[hfs,htk,kL];rfl)
     .have e': ¬ st.links[j].1.1=x.2.id:=by simpa using e
      rw[if_neg e',append_nil]at htk;exact ihg (j+1) F G p fs o_ hjl o_ hG' ho (by rw[htk];exact hfs)
   subst hGs;exact go8 _ 0 F G none [] rfl (kP _) o_ (k8 _) (.inl ⟨rfl,rfl,rfl⟩) rfl
 exact go3 _ 0 _ H none rfl (kP _) (by rw[Nat.sub_zero];omega) (k8 _) (.inl ⟨rfl,t_⟩)
end
theorem wc_:∀(l:KV)(st:StD)(x:Y_ × Y_),h7_ f st (l++[x])=match h7_ f st l with|some s=>f s x|none=>none
 |[],st,x=>by
  simp[h7_];grind
 |y::l,st,x=>by
  rw[cons_append];unfold h7_;cases f st y with
  |none=>rfl
  |some s=>exact wc_ l s x
theorem BA_{ps:KV}(hi:i<ps.length):eM_ (ps.take (i+1))=match eM_ (ps.take i) with|some s=>je_ s ps[i]|none=>none:=by
 rw[take_add_one,kG hi];exact wc_ _ _ _
theorem sz_(h:eM_ (ps.take i)=none):eM_ ps=none:=by
 rw[p2_]at h ⊢;grind
theorem yX_{l:List Int}:l.Nodup↔∀i (hi:i<l.length),uD_ l l[i]=i:=by
 constructor
 .refine λh i hi=>uX_ hi rfl λj A r e=>?_;have:=(getElem_inj h).1 e;omega
 .unfold Nodup;rw[kS];grind
section
variable{H:Hp}{Q:Post}{x:Pl}{n:Nat}{cs:List PC}{T:List Pg}{s:Y_}
theorem iA_ (hT:Tr H x n cs T)
 (h1:ofD T=none->∀H' p,H<+:H'->Q (.tup [.s (.ptr p),.s (.bool false)]) H')
 (h2:∀st,ofD T=some st->∀B H' sp a1 n1 a2 n2 a3 n3,H<+:B->c7_ B H' sp a1 n1 a2 n2 a3 n3 st->Q (.tup [.s (.ptr (some (sp,0))),.s (.bool true)]) H'):
 b0_ [yA x n] H Q:=by
 refine⟨200,?_⟩;rw[Ck_];refine xv_ hT λa m H1 p1 o1 l1=>?_;simp only[aL_,aI_,bI_,ah_,ai_,bf_,e3_,dS_];have etn:∀k:Nat,tN (k:Int)=k:=λ_=>rfl;have hm60:=ns_ T;have hkv:=zB_ T;refine aa_ (λe=>?_) λe=>?_
 .refine h1 ?_ _ _ (p1.trans (bU_ _ _));unfold ofD;cases hh:decide (0<aK_ T) with
  |false=>rfl
  |true=>unfold kf_ at e;rw[hh]at e;cases e
 have hh:decide (0<aK_ T)=true:=by
  cases hh:decide (0<aK_ T) with
  |true=>rfl
  |false=>unfold kf_ at e;rw[hh]at e;cases e
 have hof:ofD T=eo_ (d7_ T):=by unfold ofD;rw[hh]
 have R0:c7_ H1 (H1++[.row true JP_ [.sl none 0 5,.sl none 0 4,.sl none 0 3]]) H1.length none 0 none 0 none 0 st0:=
  ⟨⟨JP_,by rw[getElem?_concat_length]⟩,bU_ _ _,kO _,.inl ⟨rfl,rfl,rfl⟩,.inl ⟨rfl,rfl,rfl⟩,.inl ⟨rfl,rfl,rfl⟩,rfl,rfl,rfl,(λl e=>by cases e),(λl e=>by cases e),(λl e=>by cases e),t_,t_,t_⟩
 have go11:∀(f i F:Nat)(G:Hp)(a1:Pl)(n1:Nat)(a2:Pl)(n2:Nat)(a3:Pl)(n3:Nat)(st:StD),f=st.snaps.length-i->i<=st.snaps.length->f+1<=F->eM_ (d7_ T)=some st->c7_ H1 G H1.length a1 n1 a2 n2 a3 n3 st->(∀j (hj:j<st.snaps.length),j<i->uD_ (st.snaps.map (·.2.id)) st.snaps[j].2.id=j)->
  b0_.l11 F H1.length 0 ((i:Nat):Int) H1.length 0 G Q:=by
  intro f;induction f with
  | zero=>
   intro i F G a1 n1 a2 n2 a3 n3 st hf hi hF hd hR hp;obtain⟨F,rfl⟩:∃G,F=G+1:=⟨F-1,o_⟩;have hl1:=hR.l1;obtain⟨g1,g2,g3⟩:=hR.rd;obtain⟨d1,d2,d3⟩:=ii_ hd;have hasc:=io_ (lp_ T) hd;rw[b0_.l11_eq,ad_ g1,ah_];refine aa_ (λe=>by simp at e;omega) λe=>?_;have hnd:(st.snaps.map λx=>x.2.id).Nodup:=yX_.2 λj hj=>by
    rw[k9]at hj;rw[getElem_map];exact hp j hj o_
   have hpre:=p1.trans hR.pre;refine qD_ hR ⟨o_,o_⟩ ?_;simp only[aO_,am_];refine aa_ (λe=>?_) λe=>?_
   ·have hlk:∀l∈st.links,(st.inos.any λx=>decide (x.1=l.2.1))=true:=by
     unfold dx_ at e;rw[kR,all_eq_true]at e;exact e.1
    refine fw_ hR ⟨o_,o_,o_⟩ hlk λG1 ia pG1 hia=>?_;simp only[aO_,ah_];have sz:=(iq_ hasc).sizes (oJ_ hd) o_;refine fe_ hia.rd (Fm_ hasc) o_ sz.2 ?_;simp only[aO_,am_];have hsok:jq_ st=bz_ (aC_ st) (aC_ st).length 0:=by unfold jq_;rw[e,lE hnd];rfl
    cases hf:bz_ (aC_ st) (aC_ st).length 0 with
    |false=>
     refine h1 ?_ _ _ (hpre.trans pG1);rw[hof];unfold eo_;rw[hd];dsimp only;rw[hsok,hf]
    |true=>
     exact h2 st (by rw[hof];unfold eo_;rw[hd];dsimp only;rw[hsok,hf]) H1 G1 H1.length a1 n1 a2 n2 a3 n3 p1 (hR.mono pG1)
   .refine h1 ?_ _ _ hpre;rw[hof];unfold eo_;rw[hd];dsimp only;rw[show jq_ st=false by unfold jq_;rw[e,Bool.false_and]]
  | succ f ih=>
   intro i F G a1 n1 a2 n2 a3 n3 st hf hi hF hd hR hp;have hil:i<st.snaps.length:=by omega
   obtain⟨F,rfl⟩:∃G,F=G+1:=⟨F-1,o_⟩;have hl1:=hR.l1;obtain⟨g1,g2,g3⟩:=hR.rd;obtain⟨d1,d2,d3⟩:=ii_ hd;rw[b0_.l11_eq,ad_ g1,ah_];refine aa_ (λe=>?_) (λe=>by simp at e;omega);rw[ad_ g1,ah_];refine ab_ rfl (ab_ s_ ?_);obtain⟨l,rfl,r1,r2,_⟩:=hR.snapG i hil;simp only[ae_,etn,kN,kQ];rw[ad_ r2,ai_];refine i4_ hR o_ ?_;simp only[aO_,ai_];refine aa_ (λe=>?_) λe=>?_
   ·refine h1 ?_ _ _ (p1.trans hR.pre);rw[hof];unfold eo_;rw[hd];dsimp only;rw[show jq_ st=false by
     unfold jq_;rw[show decide (st.snaps.map λx=>x.2.id).Nodup=false by
      rw[decide_eq_false_iff_not];intro q;have:=yX_.1 q i (by simpa using hil);rw[getElem_map]at this;rw[this]at e;simp at e]
     rw[Bool.false_and,Bool.and_false]]
   .rw[an_ o_];refine ih (i+1) F G _ n1 a2 n2 a3 n3 st o_ hil o_ hd hR λj hj hji=>?_;rcases Nat.lt_or_eq_of_le (Nat.le_of_lt_succ hji) with z|z
    .exact hp j hj z
    .subst z;simpa using e
 have go6:∀(f i F:Nat)(G:Hp)(a1:Pl)(n1:Nat)(a2:Pl)(n2:Nat)(a3:Pl)(n3:Nat)(st:StD),f=m-i->i<=m->f+100<=F->eM_ ((d7_ T).take i)=some st->c7_ H1 G H1.length a1 n1 a2 n2 a3 n3 st->
  b0_.l6 F a m H1.length 0 ((i:Nat):Int) H1.length 0 G Q:=by
  intro f;induction f with
  |zero=>
   intro i F G a1 n1 a2 n2 a3 n3 st hf hi hF hd hR;obtain⟨F,rfl⟩:∃G,F=G+1:=⟨F-1,o_⟩;rw[b0_.l6_eq];refine aa_ (λe=>by simp at e;omega) λe=>?_;rw[k7 o_]at hd;have:=ii_ hd;exact go11 _ 0 F G a1 n1 a2 n2 a3 n3 st rfl (kP _) o_ hd hR (λj hj h=>by omega)
  |succ f ih=>
   intro i F G a1 n1 a2 n2 a3 n3 st hf hi hF hd hR;have him:i<m:=by omega
   obtain⟨F,rfl⟩:∃G,F=G+1:=⟨F-1,o_⟩;rw[b0_.l6_eq];refine aa_ (λe=>?_) (λe=>by simp at e;omega);obtain⟨l,o,rfl,q1,q2⟩:=Kv.get (H:=G) (Kv.mono hR.pre ⟨o1.cells,l1⟩) (i:=i) o_;refine ab_ rfl (ab_ s_ ?_);simp only[ae_,etn];rw[ad_ q1,au_,ad_ q2,au_];have hmem:=hkv _ (kE (show i<(d7_ T).length by omega));have d:=ii_ hd;have ht:((d7_ T).take i).length<=i:=by rw[lC];omega
   have hl1:=hR.l1;have hl2:=hR.l2;have hl3:=hR.l3;have hstep:=BA_ (ps:=d7_ T) (i:=i) o_;rw[hd]at hstep;dsimp only at hstep;refine uM_ o_ o_ hR ⟨o_,o_,o_⟩ (λhn a1 n1 a2 n2 a3 n3 st' G' hR'=>?_) λst' hs a1 n1 a2 n2 a3 n3 G' hR'=>?_
   .simp only[aO_,am_];rw[show je_ st (d7_ T)[i]=none from hn]at hstep;refine aa_ (λ_=>?_) (λe=>by cases e);refine h1 ?_ _ _ (p1.trans hR'.pre);rw[hof];unfold eo_;rw[sz_ hstep]
   .simp only[aO_,am_];rw[show je_ st (d7_ T)[i]=some st' from hs]at hstep;refine aa_ (λe=>by cases e) λ_=>?_;rw[an_ o_];exact ih (i+1) F G' a1 n1 a2 n2 a3 n3 st' o_ him o_ hstep hR'
 exact go6 _ 0 _ _ none 0 none 0 none 0 st0 rfl (kP _) o_ rfl R0
theorem qT_(h:jq_ st=true):∀l∈st.links,(st.inos.any λx=>decide (x.1=l.2.1))=true:=by
 unfold jq_ dx_ at h;grind
theorem sg_(J:Tr H x n cs T)
 (Y:ofD T=none->∀H',H<+:H'->Q (.tup [yR none 0 5,nN 2000]) H')
 (O:∀st,ofD T=some st->∀H' b a,H<+:H'->H.length<=b->bW_ H' b a (aC_ st)->Q (.tup [yR a (aC_ st).length 5,nN 0]) H'):
 d6_ [yA x n] H Q:=by
 refine⟨1,?_⟩;rw[wj_];refine iA_ J (λe H' p D=>?_) λst e B H' U V Z a2 n2 a3 n3 F A=>?_
 .simp_all
 .have⟨_,N,r⟩:=j6_ e;have d:=ii_ N;have I:=ns_ T;refine fw_ A ⟨o_,o_,o_⟩ (qT_ r) λG a W ha=>?_;simp[aO_];have D:=F.trans A.pre;grind
end
section
variable{H:Hp}{Q:Post}{x:Pl}{n:Nat}{cs:List PC}{T:List Pg}{s:Y_}
end
theorem l1_(r:0<=n)(A:n<=255):((bof n).toNat:Int)=n:=by
 have:=jf_ r A;rw[Cd_ r A]at this;grind
theorem Jt_(a b:Y_):bs (a++b)=bs a++bs b:=by unfold bs;simp
theorem iC_(l:List UInt8):(mkS l).size=l.length:=by rfl
theorem Jr_(s:Y_)(j:Nat)(b:UInt8)(h:(bs s)[j]?=some b):byt s j=(b.toNat:Int):=by
 have r:j<s.size:=(kC.1 h).1;have:=tq_ s j r;grind
theorem Ad_(l:List UInt8)(n:Y_):sub (mkS l++n) l.length (mkS l++n).size=n:=by
 apply i9_;rw[iy_,Jt_,GL_,drop_left' rfl]
theorem Jp_(s:Y_)(l h:Nat):bs (sub s l h)=((bs s).take h).drop l:=by
 unfold sub bs;simp[drop_take]
def qs_(n:Y_):Y_:=mkS [115]++n
def lt_(x:SnapR):Y_:=(mkS [bof x.id,bof x.kind,bof (sz x.parent)]++x.parent)++x.label
def mW_(k:LKey):Y_:=mkS [102,bof k.1]++k.2
def uz_(v:LVal):Y_:=mkS [bof v.1,match v.2 with|true=>1|false=>0]
def nF_(i:Int):Y_:=mkS [105,bof i]
def sZ_(x:InoR):Y_:=mkS [bof x.links]++x.content
theorem ib_(h:aX_ n 4=true):cq_ (qs_ n)=some n:=by
 unfold cq_ qs_;have A:byt (mkS [115]++n) 0=115:=by rfl
 have D:=Ad_ [115] n;have r:leI 1 (sz (mkS [115]++n))=true:=by simp;omega
 simp_all
theorem jV_(I:1<=k.1)(r:k.1<=255)(h:aX_ k.2 3=true):bZ_ (mW_ k)=some k:=by
 unfold bZ_ mW_;have G:byt (mkS [102,bof k.1]++k.2) 0=102:=by rfl
 have F:byt (mkS [102,bof k.1]++k.2) 1=k.1:=l1_ o_ r;have A:=Ad_ [102,bof k.1] k.2;have D:leI 2 (sz (mkS [102,bof k.1]++k.2))=true:=by simp;omega
 simp_all
theorem oL_(A:1<=i)(r:i<=255):c1_ (nF_ i)=some i:=by
 unfold c1_ nF_;have D:byt (mkS [105,bof i]) 0=105:=by rfl
 have F:byt (mkS [105,bof i]) 1=i:=l1_ o_ r;simp_all
def wR_(o:Bool):UInt8:=match o with|true=>1|false=>0
theorem Cz_(G:0<=v.1)(r:v.1<=255):e2_ (uz_ v)=some v:=by
 have F:byt (uz_ v) 0=v.1:=l1_ G r;have D:byt (uz_ v) 1=((wR_ v.2).toNat):=Jr_ _ 1 _ rfl;have A:eqI (sz (uz_ v)) 2=true:=rfl;unfold e2_;rw[F,D,A];have⟨i,o⟩:=v;cases o<;>rfl
theorem CJ_(h:eg_ x=true):cJ_ (sZ_ x)=some x:=by
 have A:=h;unfold eg_ at A;have J:1<=x.links:=by simp_all
 have r:x.links<=255:=by simp_all
 have F:byt (sZ_ x) 0=x.links:=l1_ o_ r;have D:sub (sZ_ x) 1 (sZ_ x).size=x.content:=Ad_ [bof x.links] x.content;have G:tU_ (sZ_ x)=x:=by unfold tU_;rw[F,D]
 have I:leI 1 (sz (sZ_ x))=true:=by simp[sZ_];omega
 unfold cJ_;grind
theorem nM_(h:fu_ x=true):(1<=x.id/\x.id<=255)/\(0<=x.kind/\x.kind<=2)/\x.parent.size<=4/\x.label.size<=3:=by
 unfold fu_ at h;simp only[kR,Bool.or_eq_true]at h;have⟨⟨A,F⟩,⟨D,r⟩,h5,h6⟩:=h;refine⟨⟨by simpa using A,by simp_all⟩,⟨by simpa using D,by simpa using r⟩,?_,by simp at h6;omega⟩;rcases h5 with q|q
 .simp_all
 .have:=eO_ q;omega
theorem AX_ (h:fu_ x=true):bD_ (lt_ x)=some x:=by
 have⟨⟨b1,D⟩,⟨Z,F⟩,b5,b6⟩:=nM_ h;have r:bs (lt_ x)=[bof x.id,bof x.kind,bof (sz x.parent)]++(bs x.parent++bs x.label):=by rfl
 have V:(lt_ x).size=3+(x.parent.size+x.label.size):=by unfold lt_;simp;omega
 have W:byt (lt_ x) 0=x.id:=l1_ o_ D;have I:byt (lt_ x) 1=x.kind:=l1_ o_ o_;have A:byt (lt_ x) 2=sz x.parent:=l1_ t_ s_;have G:tN (3+byt (lt_ x) 2)=3+x.parent.size:=by rw[A];show (3+(x.parent.size:Int)).toNat=_;omega
 have J:sub (lt_ x) 3 (3+x.parent.size)=x.parent:=by
  apply i9_;rw[Jp_,r,drop_take];simp_all
 have N:sub (lt_ x) (3+x.parent.size) (lt_ x).size=x.label:=by
  apply i9_;rw[iy_,r,<-kV,drop_left'];simp;omega
 have Y:nK_ (lt_ x)=x:=by
  unfold nK_;simp_all
 unfold bD_;have U:leI 3 (sz (lt_ x))=true:=by simp;omega
 have O:leI (3+sz x.parent) (sz (lt_ x))=true:=by simp;omega
 grind
def iG_(x:Y_ × SnapR):Y_ × Y_:=(qs_ x.1,lt_ x.2)
def kZ_(x:LKey × LVal):Y_ × Y_:=(mW_ x.1,uz_ x.2)
def sl_(x:Int × InoR):Y_ × Y_:=(nF_ x.1,sZ_ x.2)
def ti_(st:StD):KV:=st.snaps.map iG_++(st.links.map kZ_++st.inos.map sl_)
section
variable{H:Hp}{Q:Post}
theorem qu_(h:aX_ n 4=true)(r:Q (.tup [.s (.str (qs_ n)),nN 0]) H):fk_ [gS n] H Q:=by
 have A:=eO_ h;refine⟨1,?_⟩;rw[sB_];refine cB_ o_ (aa_ (λe=>by grind) λ_=>?_);exact⟨s_,r⟩
theorem qr_(h:fu_ x=true)(A:∀H',H<+:H'->Q (.tup [.s (.str (lt_ x)),nN 0]) H'):fp_ [.agg [.int .i64 x.id,.int .i64 x.kind,.str x.parent,.str x.label]] H Q:=by
 have⟨⟨I,r⟩,⟨G,D⟩,b5,b6⟩:=nM_ h;refine⟨1,?_⟩;rw[sK_];refine jM_ o_ (aa_ (λe=>by grind) λ_=>?_);rw[jf_ o_ r,jf_ o_ (show x.kind<=255 by omega),jf_ (show 0<=sz x.parent by simp) s_,ek_ (cs:=u8s [bof x.id,bof x.kind,bof (sz x.parent)]) (by simp[cells?,u8s]),hg_];refine⟨s_,?_⟩;refine⟨s_,?_⟩;exact A _ (bU_ _ _)
theorem qh_(G:1<=k.1)(r:k.1<=255)(h:aX_ k.2 3=true)(A:∀H',H<+:H'->Q (.tup [.s (.str (mW_ k)),nN 0]) H'):fi_ [gI k.1,gS k.2] H Q:=by
 have F:=eO_ h;refine⟨1,?_⟩;rw[tk_];refine gX_ (aa_ (λe=>by simp_all) λ_=>fR_ o_ (aa_ (λe=>by grind) λ_=>?_));rw[jf_ o_ r,ek_ (cs:=u8s [102,bof k.1]) (by simp[cells?,u8s]),hg_];exact⟨s_,A _ (bU_ _ _)⟩
theorem pf_(F:1<=i)(r:i<=255)(A:∀H',H<+:H'->Q (.tup [.s (.str (nF_ i)),nN 0]) H'):eC_ [gI i] H Q:=by
 refine⟨1,?_⟩;rw[rM_];refine gX_ (aa_ (λe=>by simp_all) λ_=>?_);rw[jf_ o_ r,ek_ (cs:=u8s [105,bof i]) (by simp[cells?,u8s]),hg_];exact A _ (bU_ _ _)
theorem o2_(h:eg_ x=true)(D:∀H',H<+:H'->Q (.tup [.s (.str (sZ_ x)),nN 0]) H'):eF_ [.agg [.int .i64 x.links,.str x.content]] H Q:=by
 have r:=h;unfold eg_ at r;simp only[kR]at r;have I:1<=x.links:=by simp_all
 have A:x.links<=255:=by simp_all
 have G:x.content.size<=6:=by have:=r.2;simp at this;omega
 refine⟨1,?_⟩;rw[rh_];refine ji_ (aa_ (λe=>by grind) λ_=>?_);rw[jf_ o_ A,ek_ (cs:=u8s [bof x.links]) (by simp[cells?,u8s]),hg_];exact⟨s_,D _ (bU_ _ _)⟩
end
def eH_(ps es:KV):KV:=es.foldl (λps p=>insK ps p.1 p.2) ps
def eN_(st:StD):KV:=eH_ [] (ti_ st)
structure TrK(H:Hp)(x:Pl)(n:Nat)(ps:KV):Prop where
 ex:∃cs A,Tr H x n cs A/\0<aK_ A/\d7_ A=ps
theorem TrK.mono{H H':Hp}(h:TrK H x n ps)(p:H<+:H'):TrK H' x n ps:=by
 have⟨D,A,F,r⟩:=h.ex;exact⟨D,A,F.mono p,r⟩
theorem TrK.asc(h:TrK H x n ps):Asc ps:=by
 have⟨D,A,_,_,r⟩:=h.ex;rw[<-r];exact lp_ A
theorem D7_:d7_ mX_=[]:=by decide+kernel
theorem Ef_(h:aX_ n 4=true):1<=(qs_ n).size/\(qs_ n).size<=6:=by
 have:=eO_ h;unfold qs_;simp;omega
theorem Et_(h:fu_ x=true):(lt_ x).size<=10:=by
 have⟨_,_,A,r⟩:=nM_ h;unfold lt_;simp;omega
theorem Eq_(h:aX_ k.2 3=true):1<=(mW_ k).size/\(mW_ k).size<=6:=by
 have:=eO_ h;unfold mW_;simp;omega
theorem D9_(h:eg_ x=true):(sZ_ x).size<=10:=by
 unfold eg_ at h;simp at h;have:=h.2;unfold sZ_;simp;omega
section
variable{B H:Hp}{Q:Post}{sp n1 n2 n3:Nat}{a1 a2 a3:Pl}{st:StD}
theorem zg_ (h:TrK H x n ps) (hn:n<=48) (Z:ps.length<60) (k1:1<=key.size) (k2:key.size<=6) (k3:v.size<=10)
 (V:∀H' x',H<+:H'->TrK H' x' 48 (insK ps key v)->(insK ps key v).length<=ps.length+1->Q (.tup [yB x' 48,nN 0]) H'):bn_ [yA x n,gS key,gS v] H Q:=by
 have r:=h.asc;have⟨cs,A,J,I,N⟩:=h.ex;have W:d7_ A=cD_ A:=by unfold d7_;rw[lE I]
 have U:up_ A key v=0:=by
  unfold up_ rG_;grind
 refine st_ J o_ (λH' e _=>absurd U e) λ_ _ x' F O H' p D ok=>?_;have⟨G,Y⟩:=ES_ ok I;rw[N]at G;refine V H' x' p ⟨F,O,D,ok.pos,G⟩ ?_;rw[vC_ r];grind
theorem mn_ (h:c7_ B H sp a1 n1 a2 n2 a3 n3 st) (ok:y5_ st) (hm:st.snaps.length+st.links.length+st.inos.length<=60)
 (hQ:∀H' x',H<+:H'->TrK H' x' 48 (eN_ st)->Q (yA x' 48) H'):aq_ [yQ sp] H Q:=by
 refine⟨st.snaps.length+2*st.links.length+st.inos.length+10,?_⟩;rw[oW_];have etn:∀k:Nat,tN (k:Int)=k:=λ_=>rfl;have hl1:=h.l1;have hl2:=h.l2;have hl3:=h.l3;refine kW_ λH1 p1 o1=>?_;simp only[eK_,bg_,ah_,bL_];have T0:TrK H1 (some (H.length,0)) 48 (eH_ [] []):=⟨s1_,mX_,o1.tr,by rw[Iz_];omega,D7_⟩;have go18:∀(f i F:Nat)(G:Hp)(x:Pl),f=st.inos.length-i->i<=st.inos.length->f+1<=F->H<+:G->TrK G x 48 (eH_ [] (st.snaps.map iG_++(st.links.map kZ_++(st.inos.take i).map sl_)))->(eH_ [] (st.snaps.map iG_++(st.links.map kZ_++(st.inos.take i).map sl_))).length<=st.snaps.length+st.links.length+i->
  aq_.l18 F (some (sp,0)) none 0 x 48 ((i:Nat):Int) G Q:=by
  intro f;induction f with
  |zero=>
   intro i F G x hf hi hF hG hT hL;obtain⟨F,rfl⟩:∃G,F=G+1:=⟨F-1,o_⟩;obtain⟨g1,g2,g3⟩:=(h.mono hG).rd;rw[aq_.l18_eq];simp only[ae_];rw[ad_ g3,ah_];refine aa_ (λe=>by simp at e;omega) λ_=>?_;rw[k7 o_]at hT;exact hQ G x hG hT
  | succ f ih=>
   intro i F G x hf hi hF hG hT hL;have hil:i<st.inos.length:=by omega
   obtain⟨F,rfl⟩:∃G,F=G+1:=⟨F-1,o_⟩;have hR:=h.mono hG;obtain⟨g1,g2,g3⟩:=hR.rd;rw[aq_.l18_eq];simp only[ae_];rw[ad_ g3,ah_];refine aa_ (λe=>?_) (λe=>by simp at e;omega);rw[ad_ g3,ah_];refine ab_ rfl (ab_ s_ ?_);obtain⟨l3,e3,r1,r2,r3⟩:=hR.inoG i hil;subst e3;simp only[ae_,etn,kN,kQ];rw[ad_ r1,ai_];obtain⟨⟨c1,c2⟩,c3⟩:=ok.inos _ (kE hil);refine pf_ c1 c2 λG1 pG1=>?_;simp only[aL_,aI_,bI_,au_,ai_,bf_];obtain⟨g1',g2',g3'⟩:=(hR.mono pG1).rd;rw[ad_ g3',ah_];refine ab_ rfl (ab_ s_ ?_)
   try simp only[ae_,etn,kN,kQ]
   rw[ad_ (cf_ pG1 r2),ai_,ad_ (cf_ pG1 r3),au_];refine o2_ c3 λG2 pG2=>?_;simp only[aL_,aI_,bI_,au_,ai_,bf_];refine zg_ (hT.mono (pG1.trans pG2)) o_ o_ (by unfold nF_;rw[iC_];simp) (by unfold nF_;rw[iC_];simp) (D9_ c3) λG3 x' pG3 hT' hl'=>?_;simp only[aL_,aI_,eQ_,bg_,ah_,bL_,bI_,ai_,bf_];rw[an_ o_];have he:eH_ [] (st.snaps.map iG_++(st.links.map kZ_++(st.inos.take (i+1)).map sl_))=insK (eH_ [] (st.snaps.map iG_++(st.links.map kZ_++(st.inos.take i).map sl_))) (nF_ st.inos[i].1) (sZ_ st.inos[i].2):=by
    rw[take_add_one,kG hil];unfold eH_;rw[Option.toList_some,kL,<-kV,<-kV,foldl_append];rw[kV];rfl
   refine ih (i+1) F G3 x' o_ hil o_ (hG.trans (pG1.trans (pG2.trans pG3))) (by rw[he];exact hT') (by rw[he];omega)
 have go9:∀(f i F:Nat)(G:Hp)(x:Pl),f=st.links.length-i->i<=st.links.length->2*f+(st.inos.length+2)<=F->H<+:G->TrK G x 48 (eH_ [] (st.snaps.map iG_++(st.links.take i).map kZ_))->(eH_ [] (st.snaps.map iG_++(st.links.take i).map kZ_)).length<=st.snaps.length+i->
  aq_.l9 F (some (sp,0)) none 0 x 48 ((i:Nat):Int) G Q:=by
  intro f;induction f with
  | zero=>
   intro i F G x hf hi hF hG hT hL;obtain⟨F,rfl⟩:∃G,F=G+1:=⟨F-1,o_⟩;obtain⟨g1,g2,g3⟩:=(h.mono hG).rd;rw[aq_.l9_eq];simp only[ae_];rw[ad_ g2,ah_];refine aa_ (λe=>by simp at e;omega) λ_=>?_;rw[k7 o_]at hT hL;refine go18 _ 0 F G x rfl (kP _) o_ hG ?_ ?_
   .simpa using hT
   .have:eH_ [] (st.snaps.map iG_++(st.links.map kZ_++(st.inos.take 0).map sl_))=eH_ [] (st.snaps.map iG_++st.links.map kZ_):=by simp
    rw[this];omega
  | succ f ih=>
   intro i F G x hf hi hF hG hT hL;have hil:i<st.links.length:=by omega
   obtain⟨F,rfl⟩:∃G,F=G+1+1:=⟨F-2,o_⟩;have hR:=h.mono hG;obtain⟨g1,g2,g3⟩:=hR.rd;rw[aq_.l9_eq];simp only[ae_];rw[ad_ g2,ah_];refine aa_ (λe=>?_) (λe=>by simp at e;omega);rw[ad_ g2,ah_];refine ab_ rfl (ab_ s_ ?_);obtain⟨l2,e2,r1,r2,r3,r4,_⟩:=hR.linkG i hil;subst e2;simp only[ae_,etn,kN,kQ];rw[ad_ r1,ai_,ad_ r2,au_,ad_ r3,ai_,ad_ r4,am_];obtain⟨⟨c1,c2⟩,c3,c4,c5⟩:=ok.links _ (kE hil);refine qh_ c1 c2 c3 λG1 pG1=>?_;simp only[aL_,aI_,bI_,au_,ai_,bf_];have he:eH_ [] (st.snaps.map iG_++(st.links.take (i+1)).map kZ_)=insK (eH_ [] (st.snaps.map iG_++(st.links.take i).map kZ_)) (mW_ st.links[i].1) (uz_ st.links[i].2):=by
    rw[take_add_one,kG hil];unfold eH_;rw[Option.toList_some,kL,<-kV,foldl_append];rfl
   have tail:∀(own:Int),own=((wR_ st.links[i].2.2).toNat:Int)->aq_.l16 (F+1) (some (sp,0)) none 0 x 48 ((i:Nat):Int) st.links[i].1.1 st.links[i].1.2 st.links[i].2.1 st.links[i].2.2 (mW_ st.links[i].1) own G1 Q:=by
    intro own ho;rw[aq_.l16_eq];simp only[e3_,dS_];rw[jf_ c4 c5,ho];rw[ek_ (cs:=u8s [bof st.links[i].2.1,wR_ st.links[i].2.2]) (by simp[cells?,u8s]),hg_];have pG2:G1<+:G1++[Obj.row true 5 [.int .u8 ((bof st.links[i].2.1).toNat:Int),.int .u8 ((wR_ st.links[i].2.2).toNat:Int)]]:=bU_ _ _;have hkb:=Eq_ c3;refine zg_ (key:=mW_ st.links[i].1) (v:=uz_ st.links[i].2) (hT.mono (pG1.trans pG2)) o_ o_ hkb.1 hkb.2 (by unfold uz_;rw[iC_];simp) λG3 x' pG3 hT' hl'=>?_;simp only[aL_,aI_,eQ_,bg_,ah_,bL_,bI_,ai_,bf_];rw[an_ o_];exact ih (i+1) F G3 x' o_ hil o_ (hG.trans (pG1.trans (pG2.trans pG3))) (by rw[he];exact hT') (by rw[he];omega)
   refine aa_ (λe=>tail 1 (by rw[e];rfl)) λe=>tail 0 (by rw[e];rfl)
 have go3:∀(f i F:Nat)(G:Hp)(x:Pl),f=st.snaps.length-i->i<=st.snaps.length->f+(2*st.links.length+(st.inos.length+2))+1<=F->H<+:G->TrK G x 48 (eH_ [] ((st.snaps.take i).map iG_))->(eH_ [] ((st.snaps.take i).map iG_)).length<=i->
  aq_.l3 F (some (sp,0)) none 0 x 48 ((i:Nat):Int) G Q:=by
  intro f;induction f with
  | zero=>
   intro i F G x hf hi hF hG hT hL;obtain⟨F,rfl⟩:∃G,F=G+1:=⟨F-1,o_⟩;obtain⟨g1,g2,g3⟩:=(h.mono hG).rd;rw[aq_.l3_eq];simp only[ae_];rw[ad_ g1,ah_];refine aa_ (λe=>by simp at e;omega) λ_=>?_;rw[k7 o_]at hT hL;refine go9 _ 0 F G x rfl (kP _) o_ hG ?_ ?_
   .simpa using hT
   .have:eH_ [] (st.snaps.map iG_++(st.links.take 0).map kZ_)=eH_ [] (st.snaps.map iG_):=by simp
    rw[this];omega
  | succ f ih=>
   intro i F G x hf hi hF hG hT hL;have hil:i<st.snaps.length:=by omega
   obtain⟨F,rfl⟩:∃G,F=G+1:=⟨F-1,o_⟩;have hR:=h.mono hG;obtain⟨g1,g2,g3⟩:=hR.rd;rw[aq_.l3_eq];simp only[ae_];rw[ad_ g1,ah_];refine aa_ (λe=>?_) (λe=>by simp at e;omega);rw[ad_ g1,ah_];refine ab_ rfl (ab_ s_ ?_);obtain⟨l1,e1,r1,r2,r3,r4,r5⟩:=hR.snapG i hil;subst e1;simp only[ae_,etn,kN,kQ];rw[ad_ r1,au_];obtain⟨c1,c2⟩:=ok.snaps _ (kE hil);refine qu_ c1 ?_;simp only[aL_,aI_,bI_,au_,ai_,bf_];rw[ad_ g1,ah_];refine ab_ rfl (ab_ s_ ?_)
   try simp only[ae_,etn,kN,kQ]
   rw[ad_ r2,ai_,ad_ r3,ai_,ad_ r4,au_,ad_ r5,au_];refine qr_ c2 λG2 pG2=>?_;simp only[aL_,aI_,bI_,au_,ai_,bf_];have hkb:=Ef_ c1;refine zg_ (hT.mono pG2) o_ o_ hkb.1 hkb.2 (Et_ c2) λG3 x' pG3 hT' hl'=>?_;simp only[aL_,aI_,eQ_,bg_,ah_,bL_,bI_,ai_,bf_];rw[an_ o_];have he:eH_ [] ((st.snaps.take (i+1)).map iG_)=insK (eH_ [] ((st.snaps.take i).map iG_)) (qs_ st.snaps[i].1) (lt_ st.snaps[i].2):=by
    rw[take_add_one,kG hil];unfold eH_;rw[Option.toList_some,kL,foldl_append];rfl
   refine ih (i+1) F G3 x' o_ hil o_ (hG.trans (pG2.trans pG3)) (by rw[he];exact hT') (by rw[he];omega)
 exact go3 _ 0 _ H1 _ rfl (kP _) o_ p1 T0 (kO _)
end
def iW_(used:Int->Bool):Nat->Int->Int
 |0,_=>0
 |f+1,k=>match used k with|true=>iW_ used f (k+1)|false=>k
def nt_(st:StD)(id:Int):Bool:=(st.snaps.any λx=>decide (x.2.id=id))||st.links.any λl=>decide (l.1.1=id)
def ec_(st:StD):Int:=iW_ (nt_ st) 255 1
def el_(st:StD):Int:=iW_ (λk=>st.inos.any λx=>decide (x.1=k)) 255 1
def l4_(st:StD)(id:Int)(path:Y_):Int:=match st.links.findIdx? (λl=>decide (l.1.1=id)&&decide (l.1.2=path)) with|some i=>(i:Int)|none=> -1
def jk_(st:StD):Int:=match st.links.findIdx? (λl=> !(st.snaps.any λx=>decide (x.2.id=l.1.1))) with|some i=>(i:Int)|none=> -1
theorem GA_{α:Type}{p:α->Bool}{l:List α}(hi:i<l.length)(h:p l[i]=true)(r:∀j (A:j<l.length),j<i->p l[j]=false):l.findIdx? p=some i:=by
 rw[findIdx?_eq_some_iff_getElem];grind
theorem AB_{α:Type}{p:α->Bool}{l:List α}(h:∀j (A:j<l.length),p l[j]=false):l.findIdx? p=none:=by
 rw[findIdx?_eq_none_iff];intro x r;obtain⟨j,A,rfl⟩:=kK r;grind
section
variable{B H:Hp}{Q:Post}{sp n1 n2 n3:Nat}{a1 a2 a3:Pl}{st:StD}
theorem gO_ (h:c7_ B H sp a1 n1 a2 n2 a3 n3 st) (hn:st.snaps.length<=1000) (W:∀k (Z:k<st.snaps.length),st.snaps[k].1=s->(∀j (A:j<st.snaps.length),j<k->st.snaps[j].1≠s)->Q (gI ((k:Nat):Int)) H)
 (Y:(∀j (A:j<st.snaps.length),st.snaps[j].1≠s)->Q (gI (-1)) H):aU_ [yQ sp,gS s] H Q:=by
 have ⟨I,g2,g3⟩:=h.rd;refine⟨st.snaps.length+2,?_⟩;rw[nG_];have N:∀k:Nat,tN (k:Int)=k:=λ_=>rfl;have hl:=h.l1;have go:∀(f i),f=st.snaps.length-i->i<=st.snaps.length->(∀j A,j<i->st.snaps[j].1≠s)->aU_.l2 (f+1) (some (sp,0)) s (i) H Q:=by
  intro f;induction f with
  |zero=>
   intro i V J F;rw[aU_.l2_eq];simp;rw[ad_ I,ah_];refine aa_ (λe=>by simp at e;omega) λe=>?_;exact Y λj A=>F j A o_
  | succ f O=>
   intro i V J F;have D:i<st.snaps.length:=by omega
   rw[aU_.l2_eq];simp only[ae_];rw[ad_ I,ah_];refine aa_ (λe=>?_) (λe=>by simp at e;omega);rw[ad_ I,ah_];refine ab_ rfl (ab_ s_ ?_);obtain⟨l,rfl,U,r2,_⟩:=h.snapG i D;simp[ae_];rw[ad_ U,au_];refine aa_ (λe=>?_) λe=>?_
   .exact W i D (by simpa using e) F
   .rw[an_ o_];refine O (i+1) o_ D λj A G=>?_;rcases Nat.lt_or_eq_of_le (Nat.le_of_lt_succ G) with q|q
    .exact F j A q
    .subst q;simpa using e
 exact go _ 0 rfl (kP _) (λj A h=>by omega)
theorem uy_(h:c7_ B H sp a1 n1 a2 n2 a3 n3 st)(F:st.snaps.length<=1000/\st.links.length<=1000/\st.inos.length<=1000)(G:Q (gI ((st.snaps.length+st.links.length+st.inos.length:Nat):Int)) H):dO_ [yQ sp] H Q:=by
 have⟨D,A,r⟩:=h.rd;refine⟨1,?_⟩;rw[pe_];simp only[ae_];rw[ad_ D,ah_,ad_ A,ah_,ad_ r,ah_,h.l1,h.l2,h.l3];simp;rw[b5_ (n:=((st.snaps.length:Nat):Int)+((st.links.length:Nat):Int)) o_ o_,b5_ o_ o_];grind
theorem HM_:leI 0 (uD_ l k)=l.any λx=>decide (x=k):=by
 have:= @u8_ l k;cases h:(l.any λx=>decide (x=k)) with
 |true=>rw[h]at this;simp at this ⊢;omega
 |false=>rw[h]at this;simp at this ⊢;omega
theorem q2_ (h:c7_ B H sp a1 n1 a2 n2 a3 n3 st) (hn:st.snaps.length<=1000/\st.links.length<=1000) (hQ:Q (gI (ec_ st)) H):aG_ [yQ sp] H Q:=by
 obtain⟨g1,g2,g3⟩:=h.rd;have etn:∀k:Nat,tN (k:Int)=k:=λ_=>rfl;have hl2:=h.l2;have go2:∀(f k F:Nat),f+k=256->1<=k->f*(st.links.length+2)+1<=F->Q (gI (iW_ (nt_ st) f ((k:Nat):Int))) H->aG_.l2 F (some (sp,0)) ((k:Nat):Int) H Q:=by
  intro f;induction f with
  |zero=>
   intro k F hk hk1 hF hQ;obtain⟨F,rfl⟩:∃G,F=G+1:=⟨F-1,o_⟩;rw[aG_.l2_eq];exact aa_ (λe=>by simp at e;omega) λ_=>hQ
  | succ f ih=>
   intro k F hk hk1 hF hQ;rw[Nat.succ_mul]at hF;generalize hW:f*(st.links.length+2)=W at hF ih;obtain⟨F,rfl⟩:∃G,F=G+1:=⟨F-1,o_⟩;rw[aG_.l2_eq];refine aa_ (λ_=>?_) (λe=>by simp at e;omega);refine i4_ h hn.1 ?_;simp only[aO_,ai_];rw[HM_,any_map];have go6:∀(g i F:Nat),g=st.links.length-i->i<=st.links.length->g+1+W+1<=F->
    aG_.l6 F (some (sp,0)) ((k:Nat):Int) ((st.snaps.any λx=>decide (x.2.id=((k:Nat):Int)))||(st.links.take i).any λl=>decide (l.1.1=((k:Nat):Int))) ((i:Nat):Int) H Q:=by
    intro g;induction g with
    |zero=>
     intro i F hg hi hF;obtain⟨F,rfl⟩:∃G,F=G+1:=⟨F-1,o_⟩;rw[aG_.l6_eq];simp only[ae_];rw[ad_ g2,ah_];refine aa_ (λe=>by simp at e;omega) λ_=>?_;rw[k7 o_];rw[iW_]at hQ;refine aa_ (λe=>?_) λe=>?_
     .rw[show nt_ st ((k:Nat):Int)=false from eh_ e]at hQ;exact hQ
     .rw[show nt_ st ((k:Nat):Int)=true from e1_ e]at hQ;rw[an_ o_];refine ih (k+1) F o_ o_ o_ ?_;rw[show (((k+1:Nat)):Int)=((k:Nat):Int)+1 by omega];exact hQ
    | succ g ihg=>
     intro i F hg hi hF;have hil:i<st.links.length:=by omega
     obtain⟨F,rfl⟩:∃G,F=G+1:=⟨F-1,o_⟩;rw[aG_.l6_eq];simp only[ae_];rw[ad_ g2,ah_];refine aa_ (λ_=>?_) (λe=>by simp at e;omega);have w1:ac_ .i64 (((i:Nat):Int)+1)=((i+1:Nat):Int):=an_ o_;have key:=ihg (i+1) F o_ hil o_;have ht:(st.links.take (i+1)).any (λl=>decide (l.1.1=((k:Nat):Int)))=((st.links.take i).any (λl=>decide (l.1.1=((k:Nat):Int)))||eqI st.links[i].1.1 ((k:Nat):Int)):=by
      rw[take_add_one,kG hil,any_append];simp
     rw[ht,<-Bool.or_assoc]at key;refine aa_ (λe=>?_) λe=>?_
     .rw[e,Bool.true_or]at key;rw[w1];exact key
     .rw[e,Bool.false_or]at key;rw[ad_ g2,ah_];refine ab_ rfl (ab_ s_ ?_);obtain⟨l2,rfl,r1,_⟩:=h.linkG i hil;simp only[ae_,etn,kN,kQ];rw[ad_ r1,ai_,w1];exact key
   have:=go6 _ 0 F rfl (kP _) o_;rw[take_zero,any_nil,Bool.or_false]at this;exact this
 refine⟨255*(st.links.length+2)+2,?_⟩;rw[m1_];exact go2 255 1 _ rfl o_ o_ hQ
theorem nj_ (h:c7_ B H sp a1 n1 a2 n2 a3 n3 st) (N:st.inos.length<=1000) (r:Q (gI (el_ st)) H):a0_ [yQ sp] H Q:=by
 have A:∀(f k F),f+k=256->1<=k->f+1<=F->Q (gI (iW_ (λk=>st.inos.any λx=>decide (x.1=k)) f ((k:Nat)))) H->a0_.l2 F (some (sp,0)) (k) H Q:=by
  intro f;induction f with
  |zero=>
   intro k F O D I r;obtain⟨F,rfl⟩:∃G,F=G+1:=⟨F-1,o_⟩;rw[a0_.l2_eq];exact aa_ (λe=>by simp_all) λ_=>r
  |succ f J=>
   intro k F O D I r;obtain⟨F,rfl⟩:∃G,F=G+1:=⟨F-1,o_⟩;rw[a0_.l2_eq];refine aa_ (λ_=>?_) (λe=>by simp at e;omega);refine fA_ h N ?_;simp only[aO_,ai_];rw[u8_,any_map];rw[iW_]at r;refine aa_ (λe=>?_) λe=>?_
   .grind
   .rw[an_ o_];refine J (k+1) F o_ o_ o_ ?_;grind
 refine⟨258,?_⟩;rw[kX_];exact A 255 1 _ rfl o_ o_ r
theorem hZ_ (h:c7_ B H sp a1 n1 a2 n2 a3 n3 st) (Y:st.snaps.length<=1000/\st.links.length<=1000) (D:Q (gI (jk_ st)) H):bc_ [yQ sp] H Q:=by
 have ⟨g1,N,g3⟩:=h.rd;refine⟨st.links.length+2,?_⟩;rw[m2_];have I:∀k:Nat,tN (k:Int)=k:=λ_=>rfl;have Z:=h.l2;have go:∀(f i),f=st.links.length-i->i<=st.links.length->(∀j F,j<i->(!(st.snaps.any λx=>decide (x.2.id=st.links[j].1.1)))=false)->bc_.l2 (f+1) (some (sp,0)) (i) H Q:=by
  intro f;induction f with
  |zero=>
   intro i W O G;rw[bc_.l2_eq];simp;rw[ad_ N,ah_];refine aa_ (λe=>by simp at e;omega) λe=>?_;unfold jk_ at D;rw[AB_ λj F=>G j F o_]at D;exact D
  | succ f U=>
   intro i W O G;have A:i<st.links.length:=by omega
   rw[bc_.l2_eq];simp only[ae_];rw[ad_ N,ah_];refine aa_ (λe=>?_) (λe=>by simp at e;omega);rw[ad_ N,ah_];refine ab_ rfl (ab_ s_ ?_);obtain⟨l,rfl,V,r2,_⟩:=h.linkG i A;simp only[ae_,I,kN,kQ];rw[ad_ V,ai_];refine i4_ h Y.1 ?_;simp only[aO_,ai_];rw[u8_,any_map];refine aa_ (λe=>?_) λe=>?_
   .unfold jk_ at D;rw[GA_ A e G]at D;exact D
   .rw[an_ o_];refine U (i+1) o_ A λj F J=>?_;rcases Nat.lt_or_eq_of_le (Nat.le_of_lt_succ J) with q|q
    .exact G j F q
    .subst q;exact e
 exact go _ 0 rfl (kP _) (λj F h=>by omega)
theorem rJ_ (h:c7_ B H sp a1 n1 a2 n2 a3 n3 st) (hn:st.snaps.length<=1000/\st.links.length<=1000) {s path:Y_} {x:SnapR} (hx:look st.snaps s=some x) (hQ:Q (gI (l4_ st x.id path)) H):a9_ [yQ sp,gS s,gS path] H Q:=by
 obtain⟨g1,g2,g3⟩:=h.rd;refine⟨st.links.length+2,?_⟩;rw[mO_];have etn:∀k:Nat,tN (k:Int)=k:=λ_=>rfl;have hl:=h.l2;have hl1:=h.l1;simp only[ae_];rw[ad_ g1,ah_];refine gO_ h hn.1 (λk hk e hmin=>?_) λq=>?_
 ·simp only[aO_,ai_];rw[ad_ g1,ah_];refine⟨rfl,ab_ rfl (ab_ s_ ?_)⟩;have hxk:st.snaps[k].2=x:=by
   unfold look at hx;have hf:st.snaps.find? (λp=>decide (p.1=s))=some st.snaps[k]:=by
    rw[find?_eq_some_iff_getElem];exact⟨by simpa using e,k,hk,rfl,λj hj=>by simpa using hmin j o_ hj⟩
   rw[hf]at hx;exact Option.some.inj hx
  obtain⟨l1,rfl,r1,r2,_⟩:=h.snapG k hk;simp only[ae_,etn,kN,kQ];rw[ad_ r2,ai_,hxk];have go:∀(f i:Nat),f=st.links.length-i->i<=st.links.length->(∀j (hj:j<st.links.length),j<i->(decide (st.links[j].1.1=x.id)&&decide (st.links[j].1.2=path))=false)->a9_.l3 (f+1) (some (sp,0)) path x.id ((i:Nat):Int) H Q:=by
   intro f;induction f with
   |zero=>
    intro i hf hi hp;rw[a9_.l3_eq];simp only[ae_];rw[ad_ g2,ah_];refine aa_ (λe=>by simp at e;omega) λe=>?_;unfold l4_ at hQ;rw[AB_ λj hj=>hp j hj o_]at hQ;exact hQ
   | succ f ih=>
    intro i hf hi hp;have hil:i<st.links.length:=by omega
    rw[a9_.l3_eq];simp only[ae_];rw[ad_ g2,ah_];refine aa_ (λe=>?_) (λe=>by simp at e;omega);rw[ad_ g2,ah_];refine ab_ rfl (ab_ s_ ?_);obtain⟨l,rfl,r1,r2,_⟩:=h.linkG i hil;simp only[ae_,etn,kN,kQ];rw[ad_ r1,ai_];have next:(decide (st.links[i].1.1=x.id)&&decide (st.links[i].1.2=path))=false->a9_.l3 (f+1) (some (sp,0)) path x.id (ac_ .i64 (((i:Nat):Int)+1)) H Q:=λe=>by
     rw[an_ o_];refine ih (i+1) o_ hil λj hj hji=>?_;rcases Nat.lt_or_eq_of_le (Nat.le_of_lt_succ hji) with q|q
     .exact hp j hj q
     .subst q;exact e
    refine aa_ (λe=>?_) λe=>?_
    ·have e':st.links[i].1.1=x.id:=by simpa using e
     rw[ad_ g2,ah_];refine ab_ rfl (ab_ s_ ?_);simp only[ae_,etn,kN,kQ];rw[ad_ r2,au_];refine aa_ (λe2=>?_) λe2=>?_
     .have e2':st.links[i].1.2=path:=by simpa using e2
      unfold l4_ at hQ;rw[GA_ hil (by rw[lE e',lE e2'];rfl) hp]at hQ;exact hQ
     .have e2': ¬ st.links[i].1.2=path:=by simpa using e2
      exact next (by rw[lH e2',Bool.and_false])
    .have e': ¬ st.links[i].1.1=x.id:=by simpa using e
     exact next (by rw[lH e',Bool.false_and])
  exact go _ 0 rfl (kP _) (λj hj h=>by omega)
 .have hm:=cW_ hx;obtain⟨j,hj,e⟩:=kK hm;exact absurd (by rw[e]) (q j hj)
end
end Go.Am
namespace Go.Am
structure zZ_(st:StD):Prop where
 snaps:(st.snaps.map (·.1)).Nodup
 links:(st.links.map (·.1)).Nodup
 inos:(st.inos.map (·.1)).Nodup
theorem d4_[DecidableEq α](r:(ps.map (·.1)).Nodup){k:α}{v:β}:look ps k=some v↔(k,v)∈ps:=⟨cW_,λh=>hi_ r h⟩
theorem dQ_:dx_ st=true↔(∀l∈st.links,∃y,(l.2.1,y)∈st.inos)/\∀x∈st.inos,(ft_ st x.1:Int)=x.2.links:=by
 unfold dx_;grind
structure Sto(st:StD):Prop where
 ok:y5_ st
 nd:zZ_ st
 lk:dx_ st=true
theorem rX_ [DecidableEq α] (r:(ps.map (·.1)).Nodup) {v v0:β} (h:look ps k=some v0) (x:α × β):x∈fz_ ps k v↔x=(k,v)\/(x∈ps/\x.1≠k):=by
 unfold fz_;rw[h,lA];constructor
 .grind
 .rintro (e|⟨D,A⟩)
  .exact⟨(k,v0),cW_ h,g_⟩
  .grind
theorem wr_[DecidableEq α](r:(ps.map (·.1)).Nodup){k:α}{v v0:β}(h:look ps k=some v0):((fz_ ps k v).map (·.1)).Nodup:=by
 rw[ow_,h];exact r
theorem kC_{α β:Type}{ps:List (α × β)}(r:(ps.map (·.1)).Nodup)(p:α × β->Bool):((ps.filter p).map (·.1)).Nodup:=
 List.Nodup.sublist (List.Sublist.map _ List.filter_sublist) r
def le_(inos:List (Int × InoR))(k:Int)(y:InoR):List (Int × InoR):=(fz_ inos k ⟨y.links-1,y.content⟩).filter λx=>decide (0<x.2.links)
def ge_ (st:StD) (i:Nat):StD:=match st.links[i]? with
 |none=>st
 |some l=>match look st.inos l.2.1 with
  |none=>st
  |some y=>⟨st.snaps,st.links.eraseIdx i,le_ st.inos l.2.1 y⟩
theorem jP_ {α:Type}:∀{l:List α}{i:Nat}(hi:i<l.length),(l[i]::l.eraseIdx i).Perm l
 |[],i,hi=>by grind
 |x::l,0,_=>List.Perm.refl _
 |x::l,i+1,hi=>by
  have r:i<l.length:=by grind
  have:=jP_ r;exact (List.Perm.swap x l[i] (l.eraseIdx i)).trans (this.cons x)
theorem sS_(hi:i<st.links.length)(ino:List (Int × InoR))(n:Int):ft_ st n=ft_ ⟨st.snaps,st.links.eraseIdx i,ino⟩ n+(if st.links[i].2.1=n then 1 else 0):=by
 unfold ft_;rw[<-(jP_ hi).countP_eq,List.countP_cons];grind
theorem Sto.ino(h:Sto st)(D:l∈st.links):∃y,look st.inos l.2.1=some y/\(l.2.1,y)∈st.inos/\1<=y.links/\y.links<=255/\(ft_ st l.2.1:Int)=y.links:=by
 have⟨y,r⟩:=(dQ_.1 h.lk).1 l D;have A:=(h.ok.inos _ r).2;unfold eg_ at A;simp at A;exact⟨y,(d4_ h.nd.inos).2 r,r,by simp_all,A.1.2,(dQ_.1 h.lk).2 _ r⟩
theorem eS_(h:Sto st)(hi:i<st.links.length):∃y,look st.inos st.links[i].2.1=some y/\ge_ st i=⟨st.snaps,st.links.eraseIdx i,le_ st.inos st.links[i].2.1 y⟩:=by
 have⟨y,r,_⟩:=h.ino (kE hi);unfold ge_;grind
theorem yx_(r:(inos.map (·.1)).Nodup)(h:look inos k=some y)(x:Int × InoR):x∈le_ inos k y↔(x=(k,⟨y.links-1,y.content⟩)/\1<y.links)\/(x∈inos/\x.1≠k/\0<x.2.links):=by
 unfold le_;rw[List.mem_filter,rX_ r h];grind
theorem k5_ (h:Sto st) (hi:i<st.links.length):Sto (ge_ st i):=by
 have⟨y,J,e⟩:=eS_ h hi;have⟨Z,D,O,b1,b2,hc⟩:=h.ino (kE hi);rw[J]at D;cases D;have r:=yx_ h.nd.inos J;have⟨V,k2⟩:=dQ_.1 h.lk;rw[e];refine⟨⟨h.ok.snaps,λl F=>h.ok.links l (List.mem_of_mem_eraseIdx F),λx I=>?_⟩,⟨h.nd.snaps,?_,?_⟩,?_⟩
 .rcases (r x).1 I with⟨e,G⟩|⟨G,_⟩
  .subst e;have⟨W,N⟩:=h.ok.inos _ O;refine⟨W,?_⟩;unfold eg_ at N ⊢;simp only[kR]at N ⊢;refine⟨⟨?_,?_⟩,N.2⟩<;>simp<;>omega
  .exact h.ok.inos x G
 .exact List.Nodup.sublist (List.Sublist.map _ (List.eraseIdx_sublist _ _)) h.nd.links
 .exact kC_ (wr_ h.nd.inos J) _
 ·rw[dQ_];refine⟨λl F=>?_,λx I=>?_⟩
  .by_cases U:l.2.1=st.links[i].2.1
   .refine⟨⟨y.links-1,y.content⟩,(r _).2 (.inl ⟨by rw[U],?_⟩)⟩;have A:=sS_ hi (le_ st.inos st.links[i].2.1 y) st.links[i].2.1;rw[if_pos rfl]at A;have:0<ft_ ⟨st.snaps,st.links.eraseIdx i,le_ st.inos st.links[i].2.1 y⟩ st.links[i].2.1:=List.countP_pos_iff.2 ⟨l,F,by simpa using U⟩;omega
   .have⟨z,Y⟩:=V l (List.mem_of_mem_eraseIdx F);have:=(h.ok.inos _ Y).2;unfold eg_ at this;simp at this;grind
  .rcases (r x).1 I with⟨e,G⟩|⟨G,h2,_⟩
   .have A:=sS_ hi (le_ st.inos st.links[i].2.1 y) st.links[i].2.1;grind
   .have A:=sS_ hi (le_ st.inos st.links[i].2.1 y) x.1;grind
theorem ih_(h:Sto st)(hi:i<st.links.length)(D:l∈(ge_ st i).links):bA_ (ge_ st i) l=bA_ st l:=by
 have F:=k5_ h hi;have⟨z,G,r,_⟩:=F.ino D;have⟨y,A,e⟩:=eS_ h hi;unfold bA_;rw[e]at r;rcases (yx_ h.nd.inos A _).1 r with⟨q,_⟩|⟨q,_⟩
 .grind
 .have:=(d4_ h.nd.inos).2 q;grind
def ed_(st:StD):Option Nat:=st.links.findIdx? λl=> !(st.snaps.any λx=>decide (x.2.id=l.1.1))
def n9_:Nat->StD->StD
 |0,st=>st
 |f+1,st=>match ed_ st with|some i=>n9_ f (ge_ st i)|none=>st
def I9_(st:StD):StD:=n9_ st.links.length st
def d8_(st:StD):Nat:=st.snaps.length+st.links.length+st.inos.length
def iO_(st:StD):StD:=match decide (60<d8_ st) with|true=>I9_ st|false=>st
theorem rg_(h:ed_ st=some i):∃hi:i<st.links.length,∀x∈st.snaps,x.2.id≠st.links[i].1.1:=by
 unfold ed_ at h;rw[List.findIdx?_eq_some_iff_getElem]at h;grind
theorem l6_(h:ed_ st=none):∀l∈st.links,∃x∈st.snaps,x.2.id=l.1.1:=by
 unfold ed_ at h;grind
structure hc_(st st':StD):Prop where
 sto:Sto st'
 snaps:st'.snaps=st.snaps
 sub:∀l∈st'.links,l∈st.links
 all:∀l∈st.links,(∃x∈st.snaps,x.2.id=l.1.1)->l∈st'.links
 file:∀l∈st'.links,bA_ st' l=bA_ st l
theorem hc_.refl(h:Sto st):hc_ st st:=⟨h,rfl,λ_ h=>h,λ_ h _=>h,λ_ _=>rfl⟩
theorem yP_ (g:hc_ st st') (hi:i<st'.links.length) (G:∀x∈st'.snaps,x.2.id≠st'.links[i].1.1):hc_ st (ge_ st' i):=by
 have⟨y,J,I⟩:=eS_ g.sto hi;have F:(ge_ st' i).snaps=st'.snaps:=by grind
 have A:(ge_ st' i).links=st'.links.eraseIdx i:=by grind
 refine⟨k5_ g.sto hi,by rw[F,g.snaps],λl h=>?_,λl h r=>?_,λl h=>?_⟩
 .rw[A]at h;exact g.sub l (List.mem_of_mem_eraseIdx h)
 .have D:=g.all l h r;rw[A];have:=(jP_ hi).mem_iff (a:=l);rcases kU.1 (this.2 D) with q|q
  .have⟨x,r,e⟩:=r;exact absurd g_ (G x (by rw[g.snaps];exact r))
  .exact q
 .rw[ih_ g.sto hi h];rw[A]at h;exact g.file l (List.mem_of_mem_eraseIdx h)
theorem nR_:∀(f:Nat){st r:StD},hc_ st r->hc_ st (n9_ f r)/\(r.links.length<=f->ed_ (n9_ f r)=none)
 |0,st,r,g=>⟨g,λh=>by
  unfold n9_ ed_;have:r.links=[]:=List.length_eq_zero_iff.1 o_;rw[this];rfl⟩
 | f+1,st,r,g=>by
  unfold n9_;cases e:ed_ r with
  |none=>exact⟨g,λ_=>e⟩
  |some i=>
   have⟨A,D⟩:=rg_ e;have⟨I,J⟩:=nR_ f (yP_ g A D);have⟨y,G,F⟩:=eS_ g.sto A;grind
theorem Dg_ (h:Sto st):hc_ st (iO_ st)/\(60<d8_ st->ed_ (iO_ st)=none):=by
 unfold iO_;cases D:decide (60<d8_ st) with
 |false=>exact⟨hc_.refl h,λq=>by grind⟩
 |true=>
  have⟨r,A⟩:=nR_ st.links.length (hc_.refl h);exact⟨r,λ_=>A (kO _)⟩
end Go.Am
namespace Go.Am
open List
theorem iS_ {α:Type} {f:α->List GV} (r:∀x,(f x).length=m) (A:j<m) {x':α}:∀(l:List α)(i:Nat)(hi:i<l.length),(f l[i]).set j v=f x'->(l.flatMap f).set (i*m+j) v=(l.set i x').flatMap f
 |[],i,hi,_=>by simp
 |x::l,0,hi,h=>by
  grind
 |x::l,i+1,hi,h=>by
  rw[flatMap_cons,set_append_right _ _ g_,set_cons_succ,flatMap_cons,show (i+1)*m+j-(f x).length=i*m+j by rw[r,Nat.succ_mul];omega,iS_ r A l i g_ h]
theorem v4_[DecidableEq α](r:(ps.map (·.1)).Nodup){k:α}{v v0:β}(G:m<ps.length)(h:ps[m]=(k,v0)):fz_ ps k v=ps.set m (k,v):=by
 unfold fz_;have A:=hi_ r (x:=(k,v0)) g_;rw[A];dsimp;apply ext_getElem t_;intro j D I;rw[getElem_map,getElem_set];have F:j<ps.length:=by grind
 by_cases e:m=j
 .grind
 .rw[if_neg e,if_neg];intro q;apply e;exact (getElem_inj (h₀:=by grind) (h₁:=by simpa) r).1 g_
section
variable{B H:Hp}{Q:Post}{sp n1 n2 n3:Nat}{a1 a2 a3:Pl}{st:StD}
theorem c7_.setL (h:c7_ B H sp a1 n1 a2 n2 a3 n3 st) {G:Hp} (p:H<+:G) (o:Own G H.length zD_ a' (n'*4) (ls.flatMap BQ_)) (V:n'=ls.length)
 (N:∀D,D.length=G.length->B<+:D->c7_ B D sp a1 n1 a' n' a3 n3 { st with links:=ls }->K D):wr G sp (0+1) (.sl a' n' 4) K:=by
 have r:=h.mono p;obtain⟨t,O⟩:=r.row;have U:=h.spl;refine b4_ O t_ ?_;have low:∀l o,a'=some (l,o)->H.length<=l:=λl W e=>by
  rcases o with⟨q,_⟩|⟨Y,e',Z,_⟩
  .grind
  .grind
 have A:a'≠some (sp,0):=λe=>by grind
 have F:=dH_ r.pre r.base (.row true t ([.sl a1 n1 5,.sl a2 n2 4,.sl a3 n3 3].set (0+1) (.sl a' n' 4)));refine N _ t_ F ⟨⟨t,g_⟩,F,r.base,r.snaps.set h.s1 _,?_,r.inos.set h.s3 _,h.l1,V,h.l3,?_,h.d13,?_,h.s1,A,h.s3⟩
 .exact Own.set (o.base h.pre.length_le) A _
 .intro l I J;have:=h.snaps.lt' I;grind
 .intro l I J;have:=h.inos.lt' J;grind
theorem c7_.setI (h:c7_ B H sp a1 n1 a2 n2 a3 n3 st) {G:Hp} (p:H<+:G) {A:Pl} {F:Nat} {ls:List (Int × InoR)} (o:Own G H.length Id_ A (F*3) (ls.flatMap inoC)) (Z:F=ls.length)
 (V:∀I,I.length=G.length->B<+:I->c7_ B I sp a1 n1 a2 n2 A F { st with inos:=ls }->K I):wr G sp (0+2) (.sl A F 3) K:=by
 have r:=h.mono p;have⟨t,O⟩:=r.row;have Y:=h.spl;refine b4_ O t_ ?_;have U:=(kC.1 O).1;have low:∀l o,A=some (l,o)->H.length<=l:=λl o' e=>by
  rcases o with⟨q,_⟩|⟨l',e',hb,_⟩
  .grind
  .grind
 have D:A≠some (sp,0):=λe=>by grind
 have N:=dH_ r.pre r.base (.row true t ([.sl a1 n1 5,.sl a2 n2 4,.sl a3 n3 3].set (0+2) (.sl A F 3)));refine V _ t_ N ⟨⟨t,g_⟩,N,r.base,r.snaps.set h.s1 _,r.links.set h.s2 _,?_,h.l1,h.l2,Z,h.d12,?_,?_,h.s1,h.s2,D⟩
 .exact Own.set (o.base h.pre.length_le) D _
 .intro l J W;have:=h.snaps.lt' J;grind
 .intro l J W;have:=h.links.lt' J;grind
theorem c7_.updI (h:c7_ B H sp a1 n1 a2 n2 (some (r,0)) n3 st) (O:m<st.inos.length) (v:Int)
 (V:∀F,F.length=H.length->c7_ B F sp a1 n1 a2 n2 (some (r,0)) n3 { st with inos:=st.inos.set m (st.inos[m].1,⟨v,st.inos[m].2.content⟩) }->K F):wr H r (m*3+1) (.int .i64 v) K:=by
 have⟨t,Y⟩:=h.row;have N:=h.l3;rcases h.inos with⟨q,_⟩|⟨l,e,I,A,W⟩
 .cases q
 .cases e;refine b4_ A o_ ?_;have U:r≠sp:=λe=>by have:=h.s3;exact this (by rw[e])
  have J:(st.inos.flatMap inoC).set (m*3+1) (.int .i64 v)=(st.inos.set m (st.inos[m].1,⟨v,st.inos[m].2.content⟩)).flatMap inoC:=iS_ (m:=3) (λ_=>rfl) o_ st.inos m O rfl;have D:=(kC.1 A).1;rw[J];refine V _ t_ ⟨⟨t,g_⟩,dH_ h.pre I _,h.base,h.snaps.set (λe=>h.d13 r e rfl) _,h.links.set (λe=>h.d23 r e rfl) _,.inr ⟨r,rfl,I,by rw[kH D],by rw[<-J];simp[W]⟩,h.l1,h.l2,by simpa using h.l3,h.d12,h.d13,h.d23,h.s1,h.s2,h.s3⟩
theorem vh_ {α:Type} {l:List α} (r:j<l.length):(l.take (j+1)).eraseIdx i=if j=i then (l.take j).eraseIdx i else (l.take j).eraseIdx i++[l[j]]:=by
 rw[take_add_one,kG r,Option.toList_some,eraseIdx_append];have D:(l.take j).length=j:=by grind
 rw[D];by_cases h:j=i
 .subst h;grind
 .rw[if_neg h];by_cases A:i<j
  .grind
  .rw[if_neg A,eraseIdx_of_length_le (k:=i) o_,show ([l[j]]:List α).eraseIdx (i-j)=[l[j]] from by rw[show i-j=(i-j-1)+1 by omega];rfl]
theorem mr_ (h:c7_ B H sp a1 n1 a2 n2 a3 n3 st) (hS:Sto st) (hn:st.links.length<=1000/\st.inos.length<=1000) {i:Nat} (hi:i<st.links.length)
 (hQ:∀H' a2' n2' a3' n3',c7_ B H' sp a1 n1 a2' n2' a3' n3' (ge_ st i)->Q (.tup []) H'):aF_ [yQ sp,gI ((i:Nat):Int)] H Q:=by
 obtain⟨g1,g2,g3⟩:=h.rd;refine⟨st.links.length+st.inos.length+10,?_⟩;rw[pc_];have etn:∀k:Nat,tN (k:Int)=k:=λ_=>rfl;have hl2:=h.l2;simp only[ae_];rw[ad_ g2,ah_];refine ab_ rfl (ab_ s_ ?_);obtain⟨y,hy,eq⟩:=eS_ hS hi;obtain⟨y',hy',hm',b1,b2,hc⟩:=hS.ino (kE hi);rw[hy]at hy';cases hy';obtain⟨m,hm,em,ey⟩:=s6_ hy;obtain⟨l2,e2,_,_,_,_,r5⟩:=h.linkG i hi;subst e2;simp only[ae_,etn,kN,kQ];rw[ad_ r5,ai_];refine fA_ h hn.2 ?_;simp only[aO_,ai_];rw[em];have hls:∀(ls:List (LKey × LVal)),ls.length<=st.links.length->ls.length*4<=4000:=λls h=>by omega
 have back:∀(F:Nat)(G:Hp)(a2':Pl)(n2':Nat),st.inos.length+2<=F->c7_ B G sp a1 n1 a2' n2' a3 n3 ⟨st.snaps,st.links.eraseIdx i,fz_ st.inos st.links[i].2.1 ⟨y.links-1,y.content⟩⟩->aF_.l11 F (some (sp,0)) none 0 0 G Q:=by
  intro F G a2' n2' hF hR;generalize hp:fz_ st.inos st.links[i].2.1 ⟨y.links-1,y.content⟩=P at hR;have hPl:P.length=st.inos.length:=by rw[<-hp,v4_ hS.nd.inos hm ey];simp
  have hl3:n3=P.length:=hR.l3;have go:∀(f j F:Nat)(G':Hp)(a':Pl)(n':Nat),f=P.length-j->j<=P.length->f+1<=F->G<+:G'->Own G' G.length Id_ a' (n'*3) (((P.take j).filter λx=>decide (0<x.2.links)).flatMap inoC)->n'=((P.take j).filter λx=>decide (0<x.2.links)).length->
   aF_.l11 F (some (sp,0)) a' n' ((j:Nat):Int) G' Q:=by
   intro f;induction f with
   |zero=>
    intro j F G' a' n' hf hj hF hG' ho hn';obtain⟨F,rfl⟩:∃G,F=G+1:=⟨F-1,o_⟩;obtain⟨g1,g2,g3⟩:=(hR.mono hG').rd;rw[aF_.l11_eq];simp only[ae_];rw[ad_ g3,ah_];refine aa_ (λe=>by simp at e;omega) λe=>?_;rw[k7 o_]at ho hn';refine hR.setI hG' ho hn' λG'' _ _ hR'=>hQ G'' a2' n2' a' n' ?_;rw[eq];unfold le_;rw[hp];exact hR'
   | succ f ih=>
    intro j F G' a' n' hf hj hF hG' ho hn';have hjl:j<P.length:=by omega
    obtain⟨F,rfl⟩:∃G,F=G+1:=⟨F-1,o_⟩;have hR':=hR.mono hG';obtain⟨g1,g2,g3⟩:=hR'.rd;rw[aF_.l11_eq];simp only[ae_];rw[ad_ g3,ah_];refine aa_ (λe=>?_) (λe=>by simp at e;omega);rw[ad_ g3,ah_];refine ab_ rfl (ab_ s_ ?_);obtain⟨l3,e3,q1,q2,q3⟩:=hR'.inoG j hjl;subst e3;simp only[ae_,etn,kN,kQ];rw[ad_ q2,ai_];have w1:ac_ .i64 (((j:Nat):Int)+1)=((j+1:Nat):Int):=an_ o_;have ht:(P.take (j+1)).filter (λx=>decide (0<x.2.links))=(P.take j).filter (λx=>decide (0<x.2.links))++(if 0<P[j].2.links then [P[j]] else []):=by
     rw[take_add_one,kG hjl,filter_append];congr 1;by_cases z:0<P[j].2.links<;>simp[z]
    have hnl:((P.take j).filter λx=>decide (0<x.2.links)).length<=1000:=Nat.le_trans (length_filter_le _ _) (by rw[lC];omega);refine aa_ (λe=>?_) λe=>?_
    .have e':0<P[j].2.links:=by simpa using e
     rw[if_pos e']at ht;rw[ad_ g3,ah_];refine ab_ rfl (ab_ s_ ?_);simp only[ae_,etn,kN,kQ];rw[ad_ q1,ai_,ad_ q2,ai_,ad_ q3,au_];refine ab_ rfl ?_;refine kj_ (H0:=G) o_ hG' ho (m:=1) rfl (by unfold Lim;omega) λx' G'' o' ex fr=>?_;rw[w1];refine ih (j+1) F G'' x' _ o_ hjl o_ ex.pre ?_ ?_
     .rw[ht,flatMap_append,flatMap_singleton];exact o'
     .rw[ht,kI];simp;omega
    .have e': ¬ 0<P[j].2.links:=by simpa using e
     rw[if_neg e',append_nil]at ht;rw[w1];exact ih (j+1) F G' a' n' o_ hjl o_ hG' (by rw[ht];exact ho) (by rw[ht];exact hn')
  exact go _ 0 F G none 0 rfl (kP _) o_ (k8 _) (.inl ⟨rfl,rfl,rfl⟩) rfl
 have go:∀(f j F:Nat)(G:Hp)(a':Pl)(n':Nat),f=st.links.length-j->j<=st.links.length->f+(st.inos.length+2)+1<=F->H<+:G->Own G H.length zD_ a' (n'*4) (((st.links.take j).eraseIdx i).flatMap BQ_)->n'=((st.links.take j).eraseIdx i).length->
  aF_.l3 F (some (sp,0)) ((i:Nat):Int) ((m:Nat):Int) a' n' ((j:Nat):Int) G Q:=by
  intro f;induction f with
  |zero=>
   intro j F G a' n' hf hj hF hG ho hn';obtain⟨F,rfl⟩:∃G,F=G+1:=⟨F-1,o_⟩;obtain⟨g1,g2,g3⟩:=(h.mono hG).rd;rw[aF_.l3_eq];simp only[ae_];rw[ad_ g2,ah_];refine aa_ (λe=>by simp at e;omega) λe=>?_;rw[k7 o_]at ho hn';refine h.setL hG ho hn' λG1 _ _ hR=>?_;obtain⟨g1',g2',g3'⟩:=hR.rd;rw[ad_ g3',ah_];have hl3:=h.l3;refine ab_ rfl (ab_ s_ ?_);obtain⟨l3,e3,q1,q2,q3⟩:=hR.inoG m hm;subst e3;simp only[ae_,etn,kN,kQ];rw[ad_ q2,ai_];refine ab_ rfl (ab_ s_ ?_);have hv:ac_ .i64 (st.inos[m].2.links-1)=y.links-1:=by rw[ey];exact b5_ (by dsimp only;omega) (by dsimp only;omega)
   rw[hv];refine hR.updI hm _ λG2 hG2 hR2=>?_;refine back F G2 a' n' o_ ?_;rw[v4_ hS.nd.inos hm ey];have:(st.inos[m].1,(⟨y.links-1,st.inos[m].2.content⟩:InoR))=(st.links[i].2.1,⟨y.links-1,y.content⟩):=by rw[ey]
   rw[this]at hR2;exact hR2
  | succ f ih=>
   intro j F G a' n' hf hj hF hG ho hn';have hjl:j<st.links.length:=by omega
   obtain⟨F,rfl⟩:∃G,F=G+1:=⟨F-1,o_⟩;have hR:=h.mono hG;obtain⟨g1,g2,g3⟩:=hR.rd;rw[aF_.l3_eq];simp only[ae_];rw[ad_ g2,ah_];refine aa_ (λe=>?_) (λe=>by simp at e;omega);have w1:ac_ .i64 (((j:Nat):Int)+1)=((j+1:Nat):Int):=an_ o_;have ht:=vh_ (i:=i) hjl;have hnl:((st.links.take j).eraseIdx i).length<=1000:=Nat.le_trans (length_eraseIdx_le _ _) (by rw[lC];omega);refine aa_ (λe=>?_) λe=>?_
   .have e': ¬ j=i:=by simp at e;omega
    rw[if_neg e']at ht;rw[ad_ g2,ah_];refine ab_ rfl (ab_ s_ ?_);obtain⟨l2',e2',q1,q2,q3,q4,_⟩:=hR.linkG j hjl;cases e2';simp only[ae_,etn,kN,kQ];rw[ad_ q1,ai_,ad_ q2,au_,ad_ q3,ai_,ad_ q4,am_];refine ab_ rfl ?_;refine kj_ (H0:=H) o_ hG ho (m:=1) rfl (by unfold Lim;omega) λx' G'' o' ex fr=>?_;rw[w1];refine ih (j+1) F G'' x' _ o_ hjl o_ ex.pre ?_ ?_
    .rw[ht,flatMap_append,flatMap_singleton];exact o'
    .rw[ht,kI];simp;omega
   .have e':j=i:=by simp at e;omega
    rw[if_pos e']at ht;rw[w1];exact ih (j+1) F G a' n' o_ hjl o_ hG (by rw[ht];exact ho) (by rw[ht];exact hn')
 exact go _ 0 _ H none 0 rfl (kP _) o_ (k8 _) (.inl ⟨rfl,rfl,rfl⟩) rfl
theorem sV_:∀(f:Nat){H:Hp}{J:Pl}{n2:Nat}{I:Pl}{F:Nat}{st:StD},c7_ B H sp a1 n1 J n2 I F st->Sto st->st.snaps.length<=1000->st.links.length<=1000->st.inos.length<=1000->st.links.length<=f->
 (∀H' N A O D,c7_ B H' sp a1 n1 N A O D (n9_ f st)->Q (.tup []) H')->bJ_.l0 (f+1) (some (sp,0)) H Q:=by
 intro f;induction f with
 | zero=>
  intro H J n2 I F st h V U G Y hf r;rw[bJ_.l0_eq];refine hZ_ h ⟨U,G⟩ ?_;simp[aO_];have:jk_ st= -1:=by
   unfold jk_;grind
  rw[this];exact r H J n2 I F h
 | succ f Z=>
  intro H J n2 I F st h V U G Y hf r;rw[bJ_.l0_eq];refine hZ_ h ⟨U,G⟩ ?_;simp[aO_];unfold n9_ at r;cases e:ed_ st with
  |none=>
   rw[e]at r;have:jk_ st= -1:=by unfold jk_;unfold ed_ at e;rw[e]
   rw[this];exact r H J n2 I F h
  | some i=>
   rw[e]at r;have⟨W,_⟩:=rg_ e;have:jk_ st=(i):=by unfold jk_;unfold ed_ at e;rw[e]
   rw[this];refine hZ_ h ⟨U,G⟩ ?_;simp[aO_];rw[this];refine mr_ h V ⟨G,Y⟩ W λH' N A O D h'=>?_;have⟨y,hy,eq⟩:=eS_ V W;refine Z h' (k5_ V W) g_ ?_ ?_ ?_ r
   .grind
   .rw[eq];refine Nat.le_trans (length_filter_le _ _) ?_;have:(fz_ st.inos st.links[i].2.1 ⟨y.links-1,y.content⟩).length=st.inos.length:=by unfold fz_;rw[hy];simp
    omega
   .grind
theorem i0_ (h:c7_ B H sp a1 n1 a2 n2 a3 n3 st) (J:Sto st) (k:st.snaps.length<=1000/\st.links.length<=1000/\st.inos.length<=1000) (r:d8_ (iO_ st)<=60)
 (A:∀H' x',B<+:H'->TrK H' x' 48 (eN_ (iO_ st))->Q (yA x' 48) H'):cp_ [yQ sp] H Q:=by
 refine⟨1,?_⟩;rw[o0_];refine uy_ h k ?_;simp[aO_];unfold iO_ at r A;refine aa_ (λe=>?_) λe=>?_
 .have I:60<d8_ st:=by unfold d8_;simp at e;omega
  rw[lE I]at r A;refine⟨st.links.length+2,sV_ st.links.length h J k.1 k.2.1 k.2.2 (kO _) λH' V O Y U N=>?_⟩;have W:=(nR_ st.links.length (hc_.refl J)).1;refine mn_ N W.sto.ok r λG x' D F=>?_;simp[eK_];exact A G x' (N.pre.trans D) F
 .have I: ¬ 60<d8_ st:=by unfold d8_;simp at e;omega
  rw[lH I]at r A;refine mn_ h J.ok r λG x' D F=>?_;simp[eK_];exact A G x' (h.pre.trans D) F
end
theorem dq_.src (h:dq_ H b a cs is):∀i (hi:i<is.length),∃p,cs[i*5+4]?=some (.sl p is[i].files.length 3)/\bQ_ H p is[i].files/\∀l o,p=some (l,o)->b<=l/\∀D,a≠some (l,D):=by
 induction h with
 |nil=>intro i hi;cases hi
 | @cons p x cs is I F _ G=>
  intro i hi;cases i with
  |zero=>exact⟨p,rfl,I,F⟩
  |succ i=>
   have⟨q,r,A⟩:=G i g_;refine⟨q,?_,A⟩;rw[getElem?_append_right (by simp[gG_];omega),show (i+1)*5+4-(gG_ p x).length=i*5+4 by simp[gG_];omega];exact r
theorem bW_.src(h:bW_ H b a is)(i:Nat)(hi:i<is.length):∃l p,a=some (l,0)/\b<=l/\gt H l (i*5)=some (.str is[i].name)/\gt H l (i*5+1)=some (.int .i64 is[i].kind)/\gt H l (i*5+1+1)=some (.str is[i].parent)/\gt H l (i*5+1+1+1)=some (.str is[i].label)/\
 gt H l (i*5+1+1+1+1)=some (.sl p is[i].files.length 3)/\bQ_ H p is[i].files/\(∀r o,p=some (r,o)->b<=r/\r≠l)/\∃cs,H[l]?=some (.row true g5_ cs)/\cs.length=is.length*5:=by
 rcases h with⟨_,rfl⟩|⟨l,cs,rfl,N,D,A⟩
 .cases hi
 .have⟨p,U,W,V,O,I,_⟩:=A.at i hi;have⟨q,F,J,G⟩:=A.src i hi;rw[I]at F;cases F;refine⟨l,p,rfl,N,?_,?_,?_,?_,?_,J,λr o e=>⟨(G r o e).1,λz=>(G r o e).2 0 (by rw[z])⟩,cs,D,A.len⟩<;>rw[aY_ D]<;>assumption
theorem bQ_.cells(h:bQ_ H p fs):cells? H p (fs.length*3)=some (bK_ fs):=by
 rcases h with⟨rfl,rfl⟩|⟨l,rfl,h⟩
 .rfl
 .have r:=eP_ fs;unfold cells?;grind
def e0_(pis:List (Pl × InfoR)):List GV:=pis.flatMap λq=>gG_ q.1 q.2
theorem dq_.pis (h:dq_ H b a cs is):∃ps:List (Pl × InfoR),cs=e0_ ps/\ps.map (·.2)=is/\∀q∈ps,bQ_ H q.1 q.2.files/\∀l o,q.1=some (l,o)->b<=l/\∀o',a≠some (l,o'):=by
 induction h with
 |nil=>exact⟨[],rfl,rfl,t_⟩
 |@cons p i cs is h1 h2 _ ih=>
  obtain⟨ps,rfl,rfl,h⟩:=ih;exact⟨(p,i)::ps,rfl,rfl,λq hq=>by rcases kU.1 hq with rfl|hq;exact⟨h1,h2⟩;exact h q hq⟩
theorem bQ_.ltAt(h:bQ_ H p fs)(e:p=some (l,o)):l<H.length:=by subst e;exact h.lt
theorem dq_.mk:∀{ps:List (Pl × InfoR)},(∀q∈ps,bQ_ H q.1 q.2.files/\∀l o,q.1=some (l,o)->b<=l/\∀o',a≠some (l,o'))->dq_ H b a (e0_ ps) (ps.map (·.2))
 |[],_=> .nil
 |q::ps,h=> .cons (h q t_).1 (h q t_).2 (dq_.mk λq hq=>h q (by simp[hq]))
theorem dq_.low(h:dq_ H b a cs is)(hb:b'<=b):dq_ H b' a cs is:=by
 obtain⟨ps,rfl,rfl,g⟩:=h.pis;exact dq_.mk λq hq=>⟨(g q hq).1,λl o e=>⟨by have:=((g q hq).2 l o e).1;omega,((g q hq).2 l o e).2⟩⟩
theorem mf_(ps:List (Pl × InfoR)):(e0_ ps).length=ps.length*5:=by
 unfold e0_;induction ps with
 |nil=>rfl
 |cons q ps ih=>rw[flatMap_cons,kI,ih];simp[gG_];omega
theorem v5_{ps:List (Pl × InfoR)}{i:Nat}(hi:i<ps.length)(p:Pl):(e0_ ps).set (i*5+4) (.sl p ps[i].2.files.length 3)=e0_ (ps.set i (p,ps[i].2)):=
 iS_ (f:=λq:Pl × InfoR=>gG_ q.1 q.2) (λ_=>rfl) o_ ps i hi rfl
theorem wz_{ps:List (Pl × InfoR)}{i:Nat}(hi:i<ps.length)(j:Nat)(hj:j<5):(e0_ ps)[i*5+j]?=(gG_ ps[i].1 ps[i].2)[j]? :=
 c0_ (f:=λq:Pl × InfoR=>gG_ q.1 q.2) (λ_=>rfl) ps i hi j hj
structure ug_ (H:Hp) (b:Nat) (a:Pl) (is:List InfoR):Prop where
 ex:∃ps:List (Pl × InfoR),ps.map (·.2)=is/\Own H b g5_ a (ps.length*5) (e0_ ps)/\(∀q∈ps,bQ_ H q.1 q.2.files/\∀r o,q.1=some (r,o)->b<=r/\∀o',a≠some (r,o'))/\
  ps.Pairwise λx y=>∀r o o',x.1=some (r,o)->y.1≠some (r,o')
theorem ug_.at(h:ug_ H b a is):bW_ H b a is:=by
 obtain⟨ps,rfl,o,hp,_⟩:=h.ex;rcases o with⟨rfl,h0,_⟩|⟨l,rfl,hb,hr,_⟩
 .have:ps=[]:=length_eq_zero_iff.1 o_;subst this;exact .inl ⟨rfl,rfl⟩
 .exact .inr ⟨l,_,rfl,hb,hr,dq_.mk hp⟩
theorem Hx_ {B G H:Hp} {a p:Pl} {is:List InfoR} {i:InfoR} {K:Pl->Nat->Hp->Prop} (h:ug_ G B.length a is) (hB:B<+:G) (p1:G<+:H) (C:bQ_ H p i.files) (F:∀l o,p=some (l,o)->G.length<=l) (hn:is.length<=1000)
 (D:∀a' H',ug_ H' B.length a' (is++[i])->B<+:H'->K a' (is.length+1) H'):ap H g5_ 5 80 a is.length (gG_ p i) 1 K:=by
 obtain⟨ps,rfl,o,hp,pw⟩:=h.ex;rw[k9] at*;have gl:=p1.length_le;have bl:=hB.length_le;refine kj_ o_ (hB.trans p1) (o.mono p1) rfl (by unfold Lim;omega) λa' H' o' e fr=>D a' H' ⟨ps++[(p,i)],t_,by simpa[e0_] using o',λq hq=>?_,?_⟩ e.pre
 ·have hla:∀l o,a=some (l,o)->l<G.length:=λl o e=>by
   rcases h.at with⟨q,_⟩|⟨m,_,q,_,hr,_⟩
   .rw[q]at e;cases e
   .rw[q]at e;cases e;exact (kC.1 hr).1
  rcases kD.1 hq with q1|q1
  .obtain⟨h1,h2⟩:=hp q q1;refine⟨h1.keep λl o q2=>?_,λr o q2=>⟨(h2 r o q2).1,λo' q3=>?_⟩⟩
   .rw[e.row l (by have:=h1.ltAt q2;omega) λq3=>(h2 l o q2).2 0 q3,aS_ p1 (h1.ltAt q2)]
   .have:=(fr r o' q3).1;have:=h1.ltAt q2;omega
  .have:q=(p,i):=by simpa using q1
   subst this;refine⟨C.keep λl o q2=>e.row l (C.ltAt q2) λq3=>?_,λr o q2=>⟨by have:=F r o q2;omega,λo' q3=>?_⟩⟩
   .have:=F l o q2;have:=hla l 0 q3;omega
   .have:=(fr r o' q3).1;have:=C.ltAt q2;omega
 .rw[kZ];refine⟨pw,t_,λx hx y hy r o o' q1 q2=>?_⟩;have:y=(p,i):=by simpa using hy
  subst this;have:=F r o' q2;have:=(hp x hx).1.ltAt q1;omega
theorem CN_(h:Own H b g5_ a (r.length*5) (e0_ r))(G:∀q∈r,hf_ H q.1 q.2.files):dW_ H a (r.map (·.2)):=by
 intro i A;rw[k9]at A;have⟨l,e,D⟩:=vf_ h o_;have F:∀q:Pl × InfoR,(gG_ q.1 q.2).length=5:=λ_=>rfl;refine⟨l,0,(r[i]).1,e,?_,?_,?_,?_,?_,?_⟩
 .rw[D,kN,getElem_map];exact c0_ F _ i A 0 o_
 .rw[D,kN,getElem_map];exact c0_ F _ i A 1 o_
 .rw[D,kN,getElem_map];exact c0_ F _ i A 2 o_
 .rw[D,kN,getElem_map];exact c0_ F _ i A 3 o_
 .rw[D,kN,getElem_map];exact c0_ F _ i A 4 o_
 .grind
section
variable{H:Hp}{Q:Post}
theorem hh_ {b:Nat} {a:Pl} {is:List InfoR} (h:bW_ H b a is) (hn:is.length<=900) (hf:∀i∈is,i.files.length<=100000) (hQ:∀H' a',H<+:H'->ug_ H' H.length a' is->Q (nL a' is.length 5) H'):bi_ [nL a is.length 5] H Q:=by
 refine⟨is.length+2,?_⟩;rw[x1_];have etn:∀k:Nat,tN (k:Int)=k:=λ_=>rfl;have go:∀(f k:Nat)(G:Hp)(a':Pl),f=is.length-k->k<=is.length->H<+:G->ug_ G H.length a' (is.take k)->bi_.l3 (f+1) a is.length a' k ((k:Nat):Int) G Q:=by
  intro f;induction f with
  |zero=>
   intro k G a' hf' hk hG ha;rw[bi_.l3_eq];refine aa_ (λe=>by simp at e;omega) λe=>?_;have hke:k=is.length:=by omega
   rw[hke,take_length]at ha;rw[hke];exact hQ G a' hG ha
  | succ f ih=>
   intro k G a' hf' hk hG ha;have hkl:k<is.length:=by omega
   rw[bi_.l3_eq];refine aa_ (λe=>?_) (λe=>by simp at e;omega);refine ab_ rfl (ab_ s_ ?_);obtain⟨l,p,rfl,hbl,r1,r2,r3,r4,r5,r6,_⟩:=(h.pre hG).src k hkl;simp only[ae_,etn,kN,kQ];rw[ad_ r1,au_,ad_ r2,ai_,ad_ r3,au_,ad_ r4,au_,ad_ r5,ah_];refine ab_ rfl ?_;rw[ek_ r6.cells];have hfk:=hf _ (kE hkl);refine⟨⟨by unfold Lim;omega,eP_ _⟩,?_⟩;simp only[dS_];refine ab_ rfl ?_;have hti:(is.take k).length=k:=by rw[lC];omega
   have key:=Hx_ (i:=is[k]) (K:=λa'' n' G'=>bi_.l3 (f+1) (some (l,0)) is.length a'' n' (ac_ .i64 (((k:Nat):Int)+1)) G' Q) (p:=some (G.length,0)) ha hG (bU_ G (.row true gl_ (bK_ is[k].files))) (.inr ⟨G.length,rfl,t_⟩) (λl' o e=>by cases e;exact kO _) o_ λa'' G' ha' hk'=>by
    rw[hti,an_ o_];refine ih (k+1) G' a'' o_ hkl hk' ?_;rw[take_add_one,kG hkl];exact ha'
   rw[hti]at key;exact key
 exact go _ 0 H none rfl (kP _) (k8 _) ⟨[],t_,.inl ⟨rfl,rfl,rfl⟩,t_,.nil⟩
theorem pQ_ {a:Pl} {is:List InfoR} (h:dW_ H a is) (hn:is.length<=900) {m:Nat} (hQ:∀H' a',H<+:H'->dW_ H' a' (is.eraseIdx m)->Q (nL a' (is.eraseIdx m).length 5) H'):bR_ [nL a is.length 5,gI ((m:Nat):Int)] H Q:=by
 refine⟨is.length+2,?_⟩;rw[sP_];have etn:∀k:Nat,tN (k:Int)=k:=λ_=>rfl;have go:∀(f k:Nat)(G:Hp)(a':Pl)(n':Nat)(pis:List (Pl × InfoR)),f=is.length-k->k<=is.length->H<+:G->Own G H.length g5_ a' (n'*5) (e0_ pis)->n'=pis.length->(∀q∈pis,hf_ H q.1 q.2.files)->pis.map (·.2)=(is.take k).eraseIdx m->
  bR_.l3 (f+1) a is.length ((m:Nat):Int) a' n' ((k:Nat):Int) G Q:=by
  intro f;induction f with
  |zero=>
   intro k G a' n' pis hf' hk hG ho hn' hp he;rw[bR_.l3_eq];refine aa_ (λe=>by simp at e;omega) λe=>?_;rw[k7 o_]at he;subst hn';have hr:=CN_ ho λq hq=>(hp q hq).pre hG;have:=hQ G a' hG;rw[<-he,k9]at this;exact this hr
  | succ f ih=>
   intro k G a' n' pis hf' hk hG ho hn' hp he;have hkl:k<is.length:=by omega
   rw[bR_.l3_eq];refine aa_ (λe=>?_) (λe=>by simp at e;omega);have w1:ac_ .i64 (((k:Nat):Int)+1)=((k+1:Nat):Int):=an_ o_;have ht:=vh_ (i:=m) hkl;have hnl:pis.length<=900:=by
    have:=congrArg length he;rw[k9]at this;rw[this];exact Nat.le_trans (length_eraseIdx_le _ _) (by rw[lC];omega)
   refine aa_ (λe=>?_) λe=>?_
   ·have e': ¬ k=m:=by simp at e;omega
    rw[if_neg e']at ht;refine ab_ rfl (ab_ s_ ?_);obtain⟨l,o,p,rfl,r1,r2,r3,r4,r5,r6⟩:=(h.pre hG) _ hkl;have r6':hf_ H p is[k].files:=by
     obtain⟨l',o',p',e1,_,_,_,_,q5,q6⟩:=h k hkl;cases e1;have:=cf_ hG q5;rw[r5]at this;cases this;exact q6
    simp only[ae_,etn];rw[ad_ r1,au_,ad_ r2,ai_,ad_ r3,au_,ad_ r4,au_,ad_ r5,ah_];refine ab_ rfl ?_;refine kj_ (H0:=H) o_ hG ho (m:=1) rfl (by unfold Lim;omega) λx' G' o' ex fr=>?_;rw[w1];refine ih (k+1) G' x' _ (pis++[(p,is[k])]) o_ hkl ex.pre ?_ (by rw[kI,hn'];rfl) (λq hq=>?_) (by rw[ht,kL,he];rfl)
    .unfold e0_;rw[flatMap_append,flatMap_singleton];exact o'
    ·rcases kD.1 hq with z|z
     .exact hp q z
     .have:q=(p,is[k]):=by simpa using z
      subst this;exact r6'
   .have e':k=m:=by simp at e;omega
    rw[if_pos e']at ht;rw[w1];exact ih (k+1) G a' n' pis o_ hkl hG ho hn' hp (by rw[ht];exact he)
 exact go _ 0 H none 0 [] rfl (kP _) (k8 _) (.inl ⟨rfl,rfl,rfl⟩) rfl (λq hq=>by cases hq) t_
theorem mj_ {a p:Pl} {is:List InfoR} {s1 s3 s4:Y_} {k2:Int} {m:Nat} (h:dW_ H a is) (hn:is.length<=900) (hQ:∀H' a' n',H<+:H'->Q (nL a' n' 5) H'):
 a6_ [nL a is.length 5,.agg [.str s1,.int .i64 k2,.str s3,.str s4,.sl p m 3]] H Q:=by
 refine⟨2*is.length+2,?_⟩;rw[xE_];have etn:∀k:Nat,tN (k:Int)=k:=λ_=>rfl;have go:∀(f k F:Nat)(G:Hp)(a':Pl)(n':Nat)(cs:List GV)(d:Bool),f=is.length-k->k<=is.length->2*f+1<=F->H<+:G->Own G H.length g5_ a' (n'*5) cs->n'<=k+(match d with|true=>1|false=>0)->
  a6_.l4 F a is.length s1 k2 s3 s4 p m a' n' d ((k:Nat):Int) G Q:=by
  intro f;induction f with
  |zero=>
   intro k F G a' n' cs d hf' hk hF hG ho hn';have hn2:n'<=k+1:=by cases d<;>dsimp only at hn'<;>omega
   obtain⟨F,rfl⟩:∃G,F=G+1:=⟨F-1,o_⟩;rw[a6_.l4_eq];refine aa_ (λe=>by simp at e;omega) λe=>?_;refine aa_ (λe=>?_) λe=>hQ G a' n' hG;refine ab_ rfl ?_;exact kj_ (H0:=H) o_ hG ho (m:=1) rfl (by unfold Lim;omega) λx' G' o' ex fr=>hQ G' _ _ ex.pre
  | succ f ih=>
   intro k F G a' n' cs d hf' hk hF hG ho hn';have hkl:k<is.length:=by omega
   obtain⟨F,rfl⟩:∃G,F=G+1+1:=⟨F-2,o_⟩;rw[a6_.l4_eq];refine aa_ (λe=>?_) (λe=>by simp at e;omega);have w1:ac_ .i64 (((k:Nat):Int)+1)=((k+1:Nat):Int):=an_ o_;have next:∀(G:Hp)(a':Pl)(n':Nat)(cs:List GV)(d:Bool),H<+:G->Own G H.length g5_ a' (n'*5) cs->n'<=k+(match d with|true=>1|false=>0)->a6_.l9 (F+1) a is.length s1 k2 s3 s4 p m a' n' d ((k:Nat):Int) G Q:=by
    intro G a' n' cs d hG ho hn';have hn2:n'<=k+1:=by cases d<;>dsimp only at hn'<;>omega
    rw[a6_.l9_eq];refine ab_ rfl (ab_ s_ ?_);obtain⟨l,o,p',e',r1,r2,r3,r4,r5,r6⟩:=(h.pre hG) _ hkl;rw[e'];simp only[ae_,etn];rw[ad_ r1,au_,ad_ r2,ai_,ad_ r3,au_,ad_ r4,au_,ad_ r5,ah_];refine ab_ rfl ?_;refine kj_ (H0:=H) o_ hG ho (m:=1) rfl (by unfold Lim;omega) λx' G' o' ex fr=>?_;rw[w1,<-e'];exact ih (k+1) F G' x' _ _ d o_ hkl o_ ex.pre o' (by cases d<;>dsimp only at hn' ⊢ <;>omega)
   refine aa_ (λed=>?_) λed=>next G a' n' cs d hG ho hn';have hd:d=false:=eh_ ed;subst hd;dsimp only at hn';refine ab_ rfl (ab_ s_ ?_);obtain⟨l,o,p',e',r1,r2,r3,r4,r5,r6⟩:=(h.pre hG) _ hkl;rw[e'];simp only[ae_,etn,kQ];rw[ad_ r1,au_];refine aa_ (λe=>?_) λe=>?_
   .refine ab_ rfl ?_;refine kj_ (H0:=H) o_ hG ho (m:=1) rfl (by unfold Lim;omega) λx' G' o' ex fr=>?_;rw[<-e'];exact next G' x' _ _ true ex.pre o' (by dsimp only;omega)
   .rw[<-e'];exact next G a' n' cs false hG ho (by dsimp only;omega)
 exact go _ 0 _ H none 0 [] false rfl (kP _) o_ (k8 _) (.inl ⟨rfl,rfl,rfl⟩) (by dsimp only;omega)
theorem ri_ (h:hf_ H p fs) (Y:fs.length<=100000)
 (V:∀k (I:k<fs.length),fs[k].1=s->Q (gI ((k:Nat):Int)) H) (U:(∀f∈fs,f.1≠s)->Q (gI (-1)) H):ck_ [nL p fs.length 3,gS s] H Q:=by
 refine⟨fs.length+2,?_⟩;rw[ut_];have W:∀k:Nat,tN (k:Int)=k:=λ_=>rfl;have go:∀(f k),f=fs.length-k->k<=fs.length->(∀j D,j<k->fs[j].1≠s)->ck_.l2 (f+1) p fs.length s (k) H Q:=by
  intro f;induction f with
  |zero=>
   intro k G I J;rw[ck_.l2_eq];refine aa_ (λe=>by simp at e;omega) λ_=>U λf G=>?_;obtain⟨j,D,rfl⟩:=kK G;grind
  |succ f O=>
   intro k G I J;have A:k<fs.length:=by omega
   rw[ck_.l2_eq];refine aa_ (λe=>?_) (λe=>by simp at e;omega);refine ab_ rfl (ab_ s_ ?_);obtain⟨l,o,rfl,N,_⟩:=h _ A;simp[ae_];rw[ad_ N,au_];refine aa_ (λe=>V k A (by simpa using e)) λe=>?_;rw[an_ o_];refine O (k+1) o_ A λj D F=>?_;rcases Nat.lt_or_eq_of_le (Nat.le_of_lt_succ F) with z|z
   .exact J j D z
   .subst z;simpa using e
 grind
def cY_(is:List InfoR)(s:Y_):Int:=match ch_ is s with|none=>1903|some i=>match eqI i.kind 0 with|true=>0|false=>1905
theorem nB_(A:hR_ is)(r:(is.any λy=>decide (y.name=s))=true):∃G:dF_ is s<is.length,ch_ is s=some is[dF_ is s]:=by
 obtain⟨D,F⟩:=rf_ A;rw[D]at r;have⟨i,I⟩:=Option.isSome_iff_exists.1 r;grind
theorem jA_(A:hR_ is)(r:(is.any λy=>decide (y.name=s))=false):ch_ is s=none:=by
 rw[(rf_ A).1]at r;cases D:ch_ is s with
 |none=>rfl
 |some i=>rw[D]at r;cases r
theorem kp_(h:dW_ H a is)(F:hR_ is)(U:is.length<=1000)
 (J:∀e,e≠0->cY_ is s=e->Q (.tup [nN 0,nN e]) H)
 (O:cY_ is s=0->∀G:dF_ is s<is.length,ch_ is s=some is[dF_ is s]->Q (.tup [nN ((dF_ is s:Nat):Int),nN 0]) H):
 ew_ [nL a is.length 5,gS s] H Q:=by
 refine⟨1,?_⟩;rw[ud_];have D:∀k:Nat,tN (k:Int)=k:=λ_=>rfl;refine gQ_ h F U (λA=>?_) λA=>?_
 .simp only[aO_,ai_];have⟨G,I⟩:=nB_ F A;refine aa_ (λe=>by simp at e;omega) λ_=>?_;refine ab_ rfl (ab_ (by simp_all) ?_);obtain⟨l,o,p,rfl,V,N,_⟩:=h _ G;simp only[ae_,D];rw[ad_ N,ai_];refine aa_ (λe=>J 1905 t_ (by unfold cY_;rw[I];dsimp;rw[eh_ e])) λe=>O (by unfold cY_;rw[I];dsimp;rw[e1_ e]) G I
 .simp only[aO_,ai_];refine aa_ (λ_=>J 1903 t_ (by unfold cY_;rw[jA_ F A])) (λe=>by simp_all)
end
def kM_(is:List InfoR)(parent:Y_):Bool:=decide (parent=mkS [])||(match ch_ is parent with|none=>false|some y=>eqI y.kind 2)
def hF_ (is:List InfoR) (name parent:Y_) (kind:Int):Int:=match aX_ name 4 with
 |false=>1901
 | true=>match decide (parent=mkS [])||aX_ parent 4 with
  |false=>1901
  | true=>match eqI kind 0||eqI kind 1 with
   |false=>1905
   | true=>match (ch_ is name).isSome with
    |true=>1902
    | false=>match kM_ is parent with
     |false=>1904
     |true=>match leI 6 (is.length:Int) with
      |true=>1910
      |false=>0
theorem xd_:∀(f k:Nat),f=is.length-k->bz_ is f k=true->∀j (A:j<is.length),k<=j->c5_ is[j]=true
 |0,k,D,h=>λj A r=>by omega
 |f+1,k,D,h=>λj A r=>by
  rw[bz_]at h;have F:k<is.length:=by omega
  rw[kG F]at h;simp at h;rcases Nat.lt_or_eq_of_le r with q|q
  .exact xd_ f (k+1) o_ h.2.2 j A q
  .grind
theorem wo_(h:bz_ is is.length 0=true):∀i∈is,c5_ i=true:=λi r=>by
 obtain⟨j,A,rfl⟩:=kK r;exact xd_ _ 0 rfl h j A (kP _)
theorem B9_(h:c5_ i=true):aX_ i.name 4=true:=by
 unfold c5_ at h;grind
theorem GH_(h:bz_ is is.length 0=true):(is.any λy=>decide (y.name=mkS []))=false:=by
 rw[any_eq_false];intro x r e;have:=eO_ (B9_ (wo_ h x r));simp_all
section
variable{H:Hp}{Q:Post}
theorem qm_ {b:Nat} {a:Pl} {is:List InfoR} {name parent:Y_} {kind:Int} (h:bW_ H b a is) (ha:hR_ is) (hf:bz_ is is.length 0=true) (hn:is.length<=900)
 (hsz:∀x∈is,x.name.size<=140737488351232/\x.files.length<=100000/\∀f∈x.files,f.1.size<=140737488351232) (hs1:name.size<=140737488351232) (hs2:parent.size<=140737488351232)
 (hQ:∀H' a' n',H<+:H'->Q (.tup [yR a' n' 5,nN (hF_ is name parent kind)]) H'):
 bd_ [nL a is.length 5,gS name,gS parent,gI kind] H Q:=by
 refine⟨100010,?_⟩;rw[r2_];have etn:∀k:Nat,tN (k:Int)=k:=λ_=>rfl;have hrd:=h.rd;have hfl:∀i∈is,i.files.length<=100000:=λi hi=>(hsz i hi).2.1;have copy:∀{m:Nat}{p:Pl}{G:Hp},hF_ is name parent kind=0->H<+:G->cl bi_ [(nL a is.length 5)] G λr24 H25=>
  rG r24 λv26=>
  dL 5 v26 λx27 n28=>
  cl a6_ [(nL x27 n28 5),(.agg [(.str name),(.int .i64 kind),(.str parent),(.str (mkS [])),(.sl p m 3)])] H25 λr29 H30=>
  rG r29 λv31=>
  dL 5 v31 λx32 n33=>
  Q (.tup [(yR x32 n33 5),(nN 0)]) H30:=λ{m p G} e hG=>by
  refine hh_ (h.pre hG) hn hfl λH1 a1 p1 h1=>?_;replace h1:=h1.at;simp only[aO_,ah_];refine mj_ h1.rd hn λH2 a2 n2 p2=>?_;simp only[aO_,ah_];have:=hQ H2 a2 n2 (hG.trans (p1.trans p2));rw[e]at this;exact this
 have l17:hF_ is name parent kind=0->∀hp:dF_ is parent<is.length,∀(f j F:Nat)(G:Hp)(a':Pl)(n':Nat)(cs:List GV),f=is[dF_ is parent].files.length-j->j<=is[dF_ is parent].files.length->f+1<=F->H<+:G->Own G H.length gl_ a' (n'*3) cs->n'<=j->
  bd_.l17 F a is.length ((dF_ is parent:Nat):Int) name kind parent (mkS []) a' n' ((j:Nat):Int) G Q:=by
  intro e0 hp f;obtain⟨l,o,p,e1,r1,r2,r3,r4,r5,r6⟩:=hrd _ hp;have hfk:=hfl _ (kE hp);induction f with
  |zero=>
   intro j F G a' n' cs hf' hj hF hG ho hn';obtain⟨F,rfl⟩:∃G,F=G+1:=⟨F-1,o_⟩;rw[bd_.l17_eq];refine ab_ rfl (ab_ s_ ?_);rw[e1];simp only[ae_,etn];rw[ad_ (cf_ hG r5),ah_];refine aa_ (λe=>by simp at e<;>omega) λ_=>?_;rw[<-e1];exact copy e0 hG
  |succ f ih=>
   intro j F G a' n' cs hf' hj hF hG ho hn';have hjl:j<is[dF_ is parent].files.length:=by omega
   obtain⟨F,rfl⟩:∃G,F=G+1:=⟨F-1,o_⟩;rw[bd_.l17_eq];refine ab_ rfl (ab_ s_ ?_);rw[e1];simp only[ae_,etn];rw[ad_ (cf_ hG r5),ah_];refine aa_ (λe=>?_) (λe=>by simp at e<;>omega);refine ab_ rfl (ab_ s_ ?_);rw[ad_ (cf_ hG r5),ah_];refine ab_ rfl (ab_ s_ ?_);obtain⟨l2,o2,rfl,q1,q2,q3⟩:=(r6.pre hG) _ hjl;simp only[ae_,etn];rw[ad_ q1,au_,ad_ q2,au_,ad_ q3,am_];refine ab_ rfl ?_;refine kj_ (H0:=H) o_ hG ho (m:=1) rfl (by unfold Lim;omega) λx' G' o' ex fr=>?_;rw[an_ o_,<-e1];exact ih (j+1) F G' x' _ _ o_ hjl o_ ex.pre o' o_
 have rest:∀i3:Int,((i3=((dF_ is parent:Nat):Int)/\(is.any λy=>decide (y.name=parent))=true)\/(i3= -1/\(is.any λy=>decide (y.name=parent))=false))->aX_ name 4=true->(decide (parent=mkS [])||aX_ parent 4)=true->(eqI kind 0||eqI kind 1)=true->
  cl cg_ [(nL a is.length 5),(gS name)] H λr16 H17=>
   rG r16 λv18=>
   dI .i64 v18 λi19=>
   b1_ (leI 0 i19)
   (Q (.tup [(yR none 0 5),(nN 1902)]) H17)
   (b1_ (!(gf_ parent (mkS [])))
    (b1_ (ltI i3 0)
     (Q (.tup [(yR none 0 5),(nN 1904)]) H17)
     (chk true (chk ((leI 0 i3)&&(ltI i3 (nI is.length))) (pS a λn20 n21=>
      rd H17 n20 ((n21+((tN i3)*5))+1) λv22=>
      dI .i64 v22 λi23=>
      b1_ (!(eqI i23 2))
      (Q (.tup [(yR none 0 5),(nN 1904)]) H17)
      (b1_ (leI 6 (nI is.length))
       (Q (.tup [(yR none 0 5),(nN 1910)]) H17)
       (b1_ (leI 0 i3)
        (bd_.l17 100009 a is.length i3 name kind parent (mkS []) none 0 0 H17 Q)
        (cl bi_ [(nL a is.length 5)] H17 λr24 H25=>
         rG r24 λv26=>
         dL 5 v26 λx27 n28=>
         cl a6_ [(nL x27 n28 5),(.agg [(.str name),(.int .i64 kind),(.str parent),(.str (mkS [])),(.sl none 0 3)])] H25 λr29 H30=>
         rG r29 λv31=>
         dL 5 v31 λx32 n33=>
         Q (.tup [(yR x32 n33 5),(nN 0)]) H30)))))))
    (b1_ (leI 6 (nI is.length))
     (Q (.tup [(yR none 0 5),(nN 1910)]) H17)
     (b1_ (leI 0 i3)
      (bd_.l17 100009 a is.length i3 name kind parent (mkS []) none 0 0 H17 Q)
      (cl bi_ [(nL a is.length 5)] H17 λr34 H35=>
       rG r34 λv36=>
       dL 5 v36 λx37 n38=>
       cl a6_ [(nL x37 n38 5),(.agg [(.str name),(.int .i64 kind),(.str parent),(.str (mkS [])),(.sl none 0 3)])] H35 λr39 H40=>
       rG r39 λv41=>
       dL 5 v41 λx42 n43=>
       Q (.tup [(yR x42 n43 5),(nN 0)]) H40)))):=by
  intro i3 hi3 w1 w2 w3;have e0:hF_ is name parent kind=match (ch_ is name).isSome with
   |true=>1902
   | false=>match kM_ is parent with
    |false=>1904
    |true=>match leI 6 (is.length:Int) with
     |true=>1910
     |false=>0:=by unfold hF_;rw[w1,w2,w3]
  have h0:=hQ H none 0 (k8 _);refine gQ_ hrd ha o_ (λhin=>?_) λhin=>?_
  .simp only[aO_,ai_];refine aa_ (λ_=>?_) (λe=>by simp at e<;>omega);rw[(rf_ ha).1]at hin;rw[hin]at e0;rw[e0]at h0;exact h0
  ·simp only[aO_,ai_];rw[jA_ ha hin]at e0;dsimp only[Option.isSome_none]at e0;refine aa_ (λe=>by simp at e) λ_=>?_;refine aa_ (λe=>?_) (λe=>?_)
   ·have hne: ¬ parent=mkS []:=by simpa using e
    have hm:kM_ is parent=match ch_ is parent with|none=>false|some y=>eqI y.kind 2:=by unfold kM_;rw[lH hne,Bool.false_or]
    rcases hi3 with⟨rfl,hin3⟩|⟨rfl,hin3⟩
    .obtain⟨hp,hfi⟩:=nB_ ha hin3;rw[hfi]at hm;dsimp only at hm;refine aa_ (λe=>by simp at e<;>omega) λ_=>?_;refine ab_ rfl (ab_ s_ ?_);obtain⟨l,o,p,e1,r1,r2,_⟩:=hrd _ hp;rw[e1];simp only[ae_,etn];rw[ad_ r2,ai_];refine aa_ (λe=>?_) (λe=>?_)
     .rw[hm,eh_ e]at e0;rw[e0]at h0;exact h0
     rw[hm,e1_ e]at e0;refine aa_ (λe=>?_) λe=>?_
     .rw[show leI 6 (is.length:Int)=true from e]at e0;rw[e0]at h0;exact h0
     rw[show leI 6 (is.length:Int)=false from e]at e0;refine aa_ (λ_=>?_) (λe=>by simp at e<;>omega);rw[<-e1];have hfk:=hfl _ (kE hp);exact l17 e0 hp _ 0 100009 H none 0 [] rfl (kP _) o_ (k8 _) (.inl ⟨rfl,rfl,rfl⟩) o_
    .rw[jA_ ha hin3]at hm;dsimp only at hm;rw[hm]at e0;refine aa_ (λ_=>?_) (λe=>by simp at e);rw[e0]at h0;exact h0
   .have hpe:parent=mkS []:=by simpa using e
    have hm:kM_ is parent=true:=by unfold kM_;rw[lE hpe];rfl
    rw[hm]at e0;refine aa_ (λe=>?_) λe=>?_
    .rw[show leI 6 (is.length:Int)=true from e]at e0;rw[e0]at h0;exact h0
    rw[show leI 6 (is.length:Int)=false from e]at e0;have hne:=GH_ hf;rw[<-hpe]at hne;rcases hi3 with⟨_,hin3⟩|⟨rfl,_⟩
    .rw[hne]at hin3;cases hin3
    .refine aa_ (λe=>by simp at e) λ_=>?_;exact copy e0 (k8 _)
 have h0:=hQ H none 0 (k8 _);have kindc:(eqI kind 0||eqI kind 1)=false->aX_ name 4=true->(decide (parent=mkS [])||aX_ parent 4)=true->Q (.tup [yR none 0 5,nN 1905]) H:=λk w1 w2=>by
  rw[show hF_ is name parent kind=1905 by unfold hF_;rw[w1,w2,k]]at h0;exact h0
 have named:aX_ name 4=false->Q (.tup [yR none 0 5,nN 1901]) H:=λw1=>by
  rw[show hF_ is name parent kind=1901 by unfold hF_;rw[w1]]at h0;exact h0
 have main:∀i3:Int,((i3=((dF_ is parent:Nat):Int)/\(is.any λy=>decide (y.name=parent))=true)\/(i3= -1/\(is.any λy=>decide (y.name=parent))=false))->True:=λ_ _=>trivial;refine gQ_ hrd ha o_ (λhin=>?_) λhin=>?_
 all_goals
  simp only[aO_,ai_]
  refine fe_ hrd ha o_ hsz ?_
  simp only[aO_,am_]
  rw[hf]
  refine aa_ (λe=>by cases e) λ_=>?_
  refine cB_ hs1 ?_
  simp only[aO_,am_]
  refine aa_ (λe=>named (eh_ e)) λe=>?_
  have w1:=e1_ e
  refine aa_ (λe=>?_) λe=>?_
  .have hne: ¬ parent=mkS []:=by simpa using e
   refine cB_ hs2 ?_;simp only[aO_,am_];refine aa_ (λe=>?_) λe=>?_
   .rw[show hF_ is name parent kind=1901 by unfold hF_;rw[w1,lH hne,eh_ e];rfl]at h0;exact h0
   have w2:(decide (parent=mkS [])||aX_ parent 4)=true:=by rw[e1_ e,Bool.or_true]
   refine aa_ (λe=>?_) λe=>?_
   .refine aa_ (λe2=>kindc (by rw[eh_ e,eh_ e2];rfl) w1 w2) λe2=>?_;exact rest _ (by first|exact .inl ⟨rfl,hin⟩|exact .inr ⟨rfl,hin⟩) w1 w2 (by rw[e1_ e2,Bool.or_true])
   .exact rest _ (by first|exact .inl ⟨rfl,hin⟩|exact .inr ⟨rfl,hin⟩) w1 w2 (by rw[e1_ e,Bool.true_or])
  .have hpe:parent=mkS []:=by simpa using e
   have w2:(decide (parent=mkS [])||aX_ parent 4)=true:=by rw[lE hpe];rfl
   refine aa_ (λe=>?_) λe=>?_
   .refine aa_ (λe2=>kindc (by rw[eh_ e,eh_ e2];rfl) w1 w2) λe2=>?_;exact rest _ (by first|exact .inl ⟨rfl,hin⟩|exact .inr ⟨rfl,hin⟩) w1 w2 (by rw[e1_ e2,Bool.or_true])
   .exact rest _ (by first|exact .inl ⟨rfl,hin⟩|exact .inr ⟨rfl,hin⟩) w1 w2 (by rw[e1_ e,Bool.true_or])
end
def l2_(path content:Y_)(fs:List FileR):List FileR:=fs.filter (λf=>blt f.1 path)++(path,content,true)::fs.filter λf=>blt path f.1
def za_(path:Y_)(fs:List FileR):List FileR:=fs.filter λf=> !decide (f.1=path)
def f4_(is:List InfoR)(name:Y_)(g:List FileR->List FileR):List InfoR:=is.map λi=>match decide (i.name=name) with|true=>⟨i.name,i.kind,i.parent,i.label,g i.files⟩|false=>i
def FTo(path:Y_)(nw:List FileR)(g:List FileR->List FileR):Prop:=∀fs,gN_ fs->gN_ (g fs)/\∀f,f∈g fs↔f∈nw\/(f∈fs/\f.1≠path)
theorem oB_:FTo path [(path,content,true)] (l2_ path content):=λJ h=>by
 unfold l2_ gN_;refine⟨kZ.2 ⟨h.filter _,kW.2 ⟨λy I=>(mem_filter.1 I).2,h.filter _⟩,λa F b A=>?_⟩,λf=>?_⟩;have D:=(mem_filter.1 F).2;rcases kU.1 A with rfl|A;exact D;exact dl_ D (mem_filter.1 A).2;have:=gP_ f.1 path;grind
theorem u1_:FTo path [] (za_ path):=λA h=>by
 refine⟨h.filter _,λf=>?_⟩;unfold za_;grind
theorem AG_(h:hR_ is)(F:K<is.length)(D:is[K].name=name):f4_ is name g=is.set K ⟨is[K].name,is[K].kind,is[K].parent,is[K].label,g is[K].files⟩:=by
 apply ext_getElem (by simp[f4_]);intro j I A;simp at A;simp[f4_,getElem_set];by_cases e:K=j;grind;rw[if_neg e,lH λq=>?_];have asc:=kS.1 h;rcases Nat.lt_or_gt_of_ne e with c|c;have:=asc K j F A c;rw[D,q,bO_]at this;cases this;have:=asc j K A F c;rw[D,q,bO_]at this;cases this
theorem Kj_(D:gN_ a)(A:gN_ b)(h:∀f,f∈a↔f∈b):a=b:=
 u4_ (λa q=>by rw[bO_]at q;cases q) (λa b q r=>by rw[dp_ q]at r;cases r) D A h
theorem Ku_{fs:List FileR}(h:gN_ fs)(hi:i<fs.length)(hj:j<fs.length)(e:fs[i].1=fs[j].1):i=j:=by
 have asc:=kS.1 h;exact Nat.le_antisymm (Nat.le_of_not_lt λc=>by have:=asc j i hj hi c;rw[e,bO_]at this;cases this) (Nat.le_of_not_lt λc=>by have:=asc i j hi hj c;rw[e,bO_]at this;cases this)
theorem HN_ {fs:List FileR} (h:gN_ fs) (hk:k<fs.length) (e:fs[k].1=path):fs.set k (path,content,true)=l2_ path content fs:=by
 obtain⟨h1,h2⟩:=oB_ (path:=path) (content:=content) _ h;refine Kj_ ?_ h1 λf=>?_
 ·have q:((fs.set k (path,content,true)).map (·.1))=fs.map (·.1):=by
   rw[List.map_set];exact lx_ (by rw[getElem?_map,kG hk,Option.map_some,e])
  exact (pairwise_map (f:=λx:FileR=>x.1) (R:=λa b=>blt a b=true)).1 (by rw[q];exact pairwise_map.2 h)
 ·rw[h2,mem_singleton,mem_iff_getElem,mem_iff_getElem];constructor
  .rintro⟨j,hj,rfl⟩;rw[length_set]at hj;rw[getElem_set];by_cases q:k=j
   .rw[if_pos q];exact .inl rfl
   .rw[if_neg q];exact .inr ⟨⟨j,hj,rfl⟩,λz=>q (Ku_ h hk hj (e.trans z.symm))⟩
  .rintro (rfl|⟨⟨j,hj,rfl⟩,z⟩)
   .exact⟨k,by simpa using hk,t_⟩
   .refine⟨j,by simpa using hj,?_⟩;rw[getElem_set,if_neg λq=>z (by subst q;exact e)]
theorem Ea_{fs:List FileR}(h:∀f∈fs,blt f.1 path=true):l2_ path content fs=fs++[(path,content,true)]:=by
 unfold l2_;rw[filter_eq_self.2 h,filter_eq_nil_iff.2 λf hf=>by rw[dp_ (h f hf)];simp]
theorem Bz_{fs:List FileR}{f:FileR}(h:blt path f.1=true):l2_ path content (fs++[f])=l2_ path content fs++[f]:=by
 unfold l2_;rw[filter_append,filter_append];simp[h,dp_ h]
theorem n1_:∀fs:List FileR,bK_ fs=fs.flatMap wP_
 |[]=>rfl
 |f::fs=>by rw[flatMap_cons,<-n1_ fs];rfl
theorem Be_{fs:List FileR}(hk:k<fs.length):((((bK_ fs).set (k*3) (.str p)).set (k*3+1) (.str c)).set (k*3+1+1) (.bool o))=bK_ (fs.set k (p,c,o)):=by
 have F:∀x:FileR,(wP_ x).length=3:=λ_=>rfl;rw[n1_,n1_,show k*3=k*3+0 from rfl,iS_ F o_ fs k hk (x':=(p,fs[k].2)) rfl];rw[show k*3+0+1=k*3+1 from rfl,iS_ F o_ (fs.set k (p,fs[k].2)) k (by simpa using hk) (x':=(p,c,fs[k].2.2)) (by rw[getElem_set_self];rfl)];rw[show k*3+1+1=k*3+2 from rfl,iS_ F o_ ((fs.set k (p,fs[k].2)).set k (p,c,fs[k].2.2)) k (by simpa using hk) (x':=(p,c,o)) (by rw[getElem_set_self];rfl),set_set,set_set]
theorem Dr_(h:ch_ is s=some i):i∈is/\i.name=s:=by
 unfold ch_ at h;exact⟨mem_of_find?_eq_some h,by simpa using find?_some h⟩
theorem wS_{ps:List (Pl × InfoR)}{i:Nat}(hi:i<ps.length)(q:Pl)(fs:List FileR):(e0_ ps).set (i*5+4) (.sl q fs.length 3)=e0_ (ps.set i (q,⟨ps[i].2.name,ps[i].2.kind,ps[i].2.parent,ps[i].2.label,fs⟩)):=
 iS_ (f:=λq:Pl × InfoR=>gG_ q.1 q.2) (λ_=>rfl) o_ ps i hi rfl
section
variable{G G1 H:Hp}{a q:Pl}{is:List InfoR}{fs:List FileR}{K b:Nat}
theorem ug_.put(h:ug_ G b a is)(hK:K<is.length)(p1:G<+:G1)(C:bQ_ G1 q fs)(F:∀l o,q=some (l,o)->G.length<=l):
 ∃l cs,a=some (l,0)/\b<=l/\l<G.length/\G1[l]?=some (.row true g5_ cs)/\cs.length=is.length*5/\dW_ (G1.set l (.row true g5_ (cs.set (K*5+4) (.sl q fs.length 3)))) a (is.set K ⟨is[K].name,is[K].kind,is[K].parent,is[K].label,fs⟩):=by
 obtain⟨ps,rfl,o,hp,_⟩:=h.ex;rw[k9]at hK;rcases o with⟨_,h0,_⟩|⟨l,rfl,hb,hr,hl⟩
 .omega
 have lg:=(kC.1 hr).1;have hr1:G1[l]?=some (.row true g5_ (e0_ ps)):=by rw[aS_ p1 lg];exact hr
 refine⟨l,e0_ ps,rfl,hb,lg,hr1,by rw[mf_,k9],?_⟩;rw[wS_ hK,getElem_map,show (ps.map (·.2)).set K _=(ps.set K (q,⟨ps[K].2.name,ps[K].2.kind,ps[K].2.parent,ps[K].2.label,fs⟩)).map (·.2) from List.map_set.symm];have l1:=(kC.1 hr1).1;refine CN_ (b:=b) (.inr ⟨l,rfl,hb,kH l1,mf_ _⟩) λx hx=>?_;obtain⟨j,hj,rfl⟩:=kK hx;rw[length_set]at hj;rw[getElem_set];split
 .exact (C.keep λm o e=>kF λz=>by have:=F m o e;omega).rd
 .obtain⟨z1,z2⟩:=hp _ (kE hj);exact (z1.keep λm o e=>by rw[kF λz=>(z2 m o e).2 0 (by rw[z]),aS_ p1 (z1.ltAt e)]).rd
theorem ug_.over (h:ug_ G b a is) (hK:K<is.length) (hl:fs.length=is[K].files.length):
 ∃l p,a=some (l,0)/\b<=l/\gt G l (K*5+4)=some (.sl p is[K].files.length 3)/\bQ_ G p is[K].files/\∀m o,p=some (m,o)->b<=m/\dW_ (G.set m (.row true gl_ (bK_ fs))) a (is.set K ⟨is[K].name,is[K].kind,is[K].parent,is[K].label,fs⟩):=by
 obtain⟨ps,rfl,o,hp,pw⟩:=h.ex;rw[k9]at hK;simp only[getElem_map]at hl ⊢;rcases o with⟨_,h0,_⟩|⟨l,rfl,hb,hr,hl'⟩
 .omega
 obtain⟨y1,y2⟩:=hp _ (kE hK);refine⟨l,ps[K].1,rfl,hb,by rw[aY_ hr];exact wz_ hK 4 o_,y1,λm o e=>⟨(y2 m o e).1,?_⟩⟩;have lm:=y1.ltAt e;have z:e0_ (ps.set K (ps[K].1,⟨ps[K].2.name,ps[K].2.kind,ps[K].2.parent,ps[K].2.label,fs⟩))=e0_ ps:=by
  rw[<-wS_ hK,hl,v5_ hK];congr 1;exact lx_ (by rw[kG hK])
 rw[show (ps.map (·.2)).set K _=(ps.set K (ps[K].1,⟨ps[K].2.name,ps[K].2.kind,ps[K].2.parent,ps[K].2.label,fs⟩)).map (·.2) from List.map_set.symm];refine CN_ (b:=b) (.inr ⟨l,rfl,hb,by rw[z,kF λq=>(y2 m o e).2 0 (by rw[q]),hr],mf_ _⟩) λx hx=>?_;obtain⟨j,hj,rfl⟩:=kK hx;rw[length_set]at hj;rw[getElem_set];split
 .refine bQ_.rd (.inr ⟨m,?_,kH lm⟩);rcases y1 with⟨q,_⟩|⟨m',q,_⟩
  .rw[q]at e;cases e
  .dsimp only;rw[q]at e ⊢;cases e;rfl
 .rename_i ne;obtain⟨z1,z2⟩:=hp _ (kE hj);refine (z1.keep λr o' e'=>kF λq=>?_).rd;subst q;rcases Nat.lt_or_gt_of_ne ne with c|c
  .exact kS.1 pw K j hK hj c m o o' e e'
  .exact kS.1 pw j K hj hK c m o' o e' e
end
def co_ (is:List InfoR) (name path content:Y_):Int:=match aX_ name 4 with
 |false=>1901
 | true=>match cY_ is name==0 with
  |false=>cY_ is name
  | true=>match aX_ path 3 with
   |false=>1907
   | true=>match leI (sz content) 6 with
    |false=>1909
    | true=>match ch_ is name with
     |none=>0
     | some i=>match i.files.any λf=>decide (f.1=path) with
      |true=>0
      |false=>match leI 4 (i.files.length:Int) with
       |true=>1910
       |false=>0
def e7_ (is:List InfoR) (name to:Y_):Int:=match aX_ name 4&&aX_ to 4 with
 |false=>1901
 | true=>match cY_ is name==0 with
  |false=>cY_ is name
  |true=>match (ch_ is to).isSome with
   |true=>1902
   |false=>0
section
variable{H:Hp}{Q:Post}
theorem sF_ {b:Nat} {a:Pl} {is:List InfoR} {name path content:Y_} (h:bW_ H b a is) (ha:hR_ is) (hf:bz_ is is.length 0=true) (hn:is.length<=900)
 (hsz:∀x∈is,x.name.size<=140737488351232/\x.files.length<=100000/\∀f∈x.files,f.1.size<=140737488351232) (hfa:∀x∈is,gN_ x.files) (hs1:name.size<=140737488351232) (hs2:path.size<=140737488351232)
 (hE:co_ is name path content≠0->Q (.tup [yR none 0 5,nN (co_ is name path content)]) H)
 (hQ:co_ is name path content=0->∀H' a',H<+:H'->dW_ H' a' (f4_ is name (l2_ path content))->Q (.tup [yR a' is.length 5,nN 0]) H'):
 a3_ [nL a is.length 5,gS name,gS path,gS content] H Q:=by
 refine⟨200010,?_⟩;rw[w5_];have etn:∀k:Nat,tN (k:Int)=k:=λ_=>rfl;have hrd:=h.rd;have hfl:∀i∈is,i.files.length<=100000:=λi hi=>(hsz i hi).2.1;have h0:=hE;refine fe_ hrd ha o_ hsz ?_;simp only[aO_,am_];rw[hf];refine aa_ (λe=>by cases e) λ_=>?_;refine cB_ hs1 ?_;simp only[aO_,am_];refine aa_ (λe=>by rw[show co_ is name path content=1901 by unfold co_;rw[eh_ e]]at h0;exact h0 d_) λe=>?_;have w1:=e1_ e;refine kp_ hrd ha o_ (λe he hA=>?_) λhA hp hfi=>?_
 .simp only[aL_,aI_,bI_,ai_,bf_];refine aa_ (λ_=>?_) (λq=>by exact absurd (by simpa using q) he);rw[show co_ is name path content=e by unfold co_;rw[w1,hA,show (e==0)=false by simpa using he]]at h0;exact h0 he
 simp only[aL_,aI_,bI_,ai_,bf_];refine aa_ (λq=>by cases q) λ_=>?_;have hname:=(Dr_ hfi).2;generalize hK:dF_ is name=K at hp hfi hname;rw[AG_ ha hp hname]at hQ;refine ab_ rfl (ab_ (by simp<;>omega) ?_);obtain⟨l,o,p,e1,r1,r2,r3,r4,r5,r6⟩:=hrd _ hp;have hfk:=hfl _ (kE hp);have fa:=hfa _ (kE hp);have eW:co_ is name path content=match aX_ path 3 with
  |false=>1907
  | true=>match leI (sz content) 6 with
   |false=>1909
   | true=>match is[K].files.any λf=>decide (f.1=path) with
    |true=>0
    |false=>match leI 4 (is[K].files.length:Int) with
     |true=>1910
     |false=>0:=by unfold co_;rw[w1,hA,hfi];rfl
 have fin:co_ is name path content=0->∀(F:Nat)(G0 G:Hp)(a0 q:Pl)(m:Nat),H<+:G0->ug_ G0 H.length a0 is->G0<+:G->Own G G0.length gl_ q (m*3) (bK_ (l2_ path content is[K].files))->m=(l2_ path content is[K].files).length->
  a3_.l29 (F+1) ((K:Nat):Int) a0 is.length q m G Q:=λe0 F G0 G a0 q m p0 hi0 p1 C hm=>by
  subst hm;obtain⟨C1,C2⟩:=yi_ C;obtain⟨l,cs,e,hb,hlg,hr,hc,rd⟩:=hi0.put hp p1 C1 C2;subst e;rw[a3_.l29_eq];refine ab_ rfl (ab_ (by simp<;>omega) ?_);simp only[ae_,etn,kN];rw[rK_ hr o_];exact hQ e0 _ _ (dH_ (p0.trans p1) hb _) rd
 have l22:co_ is name path content=0->(∀f∈is[K].files,f.1≠path)->∀(G0:Hp)(a0:Pl),H<+:G0->ug_ G0 H.length a0 is->∀(f j F:Nat)(G:Hp)(a':Pl)(n':Nat)(xs:List FileR),f=is[K].files.length-j->j<=is[K].files.length->2*f+3<=F->G0<+:G->Own G G0.length gl_ a' (n'*3) (bK_ xs)->n'=xs.length->
  ((xs=is[K].files.take j/\∀f∈xs,blt f.1 path=true)\/(xs=l2_ path content (is[K].files.take j)/\n'=j+1/\∀i (hi:i<is[K].files.length),j<=i->blt path is[K].files[i].1=true))->
  a3_.l22 F path ((K:Nat):Int) a0 is.length path content true a' n' ((j:Nat):Int) G Q:=by
  intro e0 hno G0 a0 p0 hi0 f;obtain⟨l,p,e1,hbl,r1,r2,r3,r4,r5,r6,r7,cs0,hr0,hc0⟩:=hi0.at.src K hp;induction f with
  |zero=>
   intro j F G a' n' xs hf' hj hF hG ho hn' inv;obtain⟨F,rfl⟩:∃G,F=G+1+1:=⟨F-2,o_⟩;have hjl:j=is[K].files.length:=by omega
   rw[a3_.l22_eq];refine ab_ rfl (ab_ (by simp<;>omega) ?_);rw[e1];have r5':gt G l (K*5+4)=some (.sl p is[K].files.length 3):=cf_ hG r5;simp only[ae_,etn,kN];rw[ad_ r5',ah_];refine aa_ (λe=>by simp at e<;>omega) λ_=>?_;refine ab_ rfl (ab_ (by simp<;>omega) ?_);rw[ad_ r5',ah_,<-e1];rw[hjl,take_length]at inv;rcases inv with⟨e,hlt⟩|⟨e,hm,_⟩
   .subst e;refine aa_ (λ_=>?_) (λq=>by simp at q;omega);refine ab_ rfl ?_;refine kj_ (H0:=G0) o_ hG ho (m:=1) rfl (by unfold Lim;omega) λx' G' o' ex fr=>?_;have pe:=Ea_ (content:=content) hlt;refine fin e0 F G0 G' a0 x' _ p0 hi0 ex.pre ?_ (by rw[pe,kI];simp;omega);rw[pe,hs_];exact o'
   .subst e;exact aa_ (λq=>by simp at q;omega) λ_=>fin e0 F G0 G a0 a' _ p0 hi0 hG ho hn'
  | succ f ih=>
   intro j F G a' n' xs hf' hj hF hG ho hn' inv;have hjl:j<is[K].files.length:=by omega
   obtain⟨F,rfl⟩:∃G,F=G+1+1:=⟨F-2,o_⟩;have tk:is[K].files.take (j+1)=is[K].files.take j++[is[K].files[j]]:=by rw[take_add_one,kG hjl];rfl
   rw[a3_.l22_eq];refine ab_ rfl (ab_ (by simp<;>omega) ?_);rw[e1];have r5':gt G l (K*5+4)=some (.sl p is[K].files.length 3):=cf_ hG r5;simp only[ae_,etn,kN];rw[ad_ r5',ah_];refine aa_ (λ_=>?_) (λe=>by simp at e<;>omega);have next:∀(G:Hp)(a':Pl)(n':Nat)(xs:List FileR),G0<+:G->Own G G0.length gl_ a' (n'*3) (bK_ xs)->n'=xs.length->n'<=j+1->
    ((xs++[is[K].files[j]]=is[K].files.take (j+1)/\∀f∈xs++[is[K].files[j]],blt f.1 path=true)\/(xs++[is[K].files[j]]=l2_ path content (is[K].files.take (j+1))/\n'=j+1/\∀i (hi:i<is[K].files.length),j<=i->blt path is[K].files[i].1=true))->
    a3_.l26 (F+1) path ((K:Nat):Int) (some (l,0)) is.length path content true a' n' ((j:Nat):Int) G Q:=by
    intro G a' n' xs hG ho hn' hle inv;have r5':gt G l (K*5+4)=some (.sl p is[K].files.length 3):=cf_ hG r5;rw[a3_.l26_eq];refine ab_ rfl (ab_ (by simp<;>omega) ?_);simp only[ae_,etn,kN];rw[ad_ r5',ah_];refine ab_ rfl (ab_ (by simp<;>omega) ?_);obtain⟨l2,o2,e2,q1,q2,q3⟩:=(r6.rd.pre hG) _ hjl;rw[e2];simp only[ae_,etn];rw[ad_ q1,au_,ad_ q2,au_,ad_ q3,am_];refine ab_ rfl ?_;refine kj_ (H0:=G0) o_ hG ho (m:=1) rfl (by unfold Lim;omega) λx' G' o' ex fr=>?_;rw[an_ o_,<-e1];refine ih (j+1) F G' x' _ (xs++[is[K].files[j]]) o_ hjl o_ ex.pre (by rw[hs_];exact o') s_ ?_;rcases inv with q|⟨q1,q2,q3⟩
    .exact .inl q
    .exact .inr ⟨q1,o_,λi hi hj=>q3 i hi o_⟩
   rcases inv with⟨e,hlt⟩|⟨e,hm,hgt⟩
   ·have hnj:n'=j:=by rw[hn',e,lC];omega
    refine aa_ (λ_=>?_) (λq=>by simp at q;omega);refine ab_ rfl (ab_ (by simp<;>omega) ?_);rw[ad_ r5',ah_];refine ab_ rfl (ab_ (by simp<;>omega) ?_);obtain⟨l2,o2,e2,q1,q2,q3⟩:=(r6.rd.pre hG) _ hjl;rw[e2];simp only[ae_,etn,kQ];rw[ad_ q1,au_];have ne:=hno _ (kE hjl);refine aa_ (λc=>?_) λc=>?_
    ·have c:blt path is[K].files[j].1=true:=by
      have c:dE_ is[K].files[j].1 path=false:=by simp at c;exact c.1
      rcases gP_ path is[K].files[j].1 with⟨z,_⟩|⟨z,_⟩|⟨z,_⟩
      .exact z
      .exact absurd z.symm ne
      .rw[<-hK_,c]at z;cases z
     refine ab_ rfl ?_;refine kj_ (H0:=G0) o_ hG ho (m:=1) rfl (by unfold Lim;omega) λx' G' o' ex fr=>?_;refine next G' x' _ (xs++[(path,content,true)]) ex.pre (by rw[hs_];exact o') s_ o_ (.inr ⟨?_,o_,λi hi hji=>?_⟩)
     .rw[tk,Bz_ c,Ea_ (by rw[<-e];exact hlt),e]
     .rcases Nat.lt_or_eq_of_le hji with z|rfl
      .exact dl_ c (kS.1 fa j i hjl hi z)
      .exact c
    ·refine next G a' n' xs hG ho hn' o_ (.inl ⟨by rw[tk,e],λf hf=>?_⟩);rcases kD.1 hf with z|z
     .exact hlt f z
     .rw[mem_singleton.1 z];have c:dE_ is[K].files[j].1 path=true:=by simpa[ne] using c
      rw[<-hK_];exact c
   .refine aa_ (λq=>by simp at q;omega) λ_=>next G a' n' xs hG ho hn' o_ (.inr ⟨?_,hm,hgt⟩);rw[tk,Bz_ (hgt j hjl (kO _)),e]
 rw[e1];simp only[ae_,etn];have r5':gt H l (o+K*5+4)=some (.sl p is[K].files.length 3):=r5;rw[ad_ r5',ah_];refine ri_ r6 hfk (λk hk hkp=>?_) λhno=>?_
 all_goals
  simp only[aO_,ai_]
  refine fR_ hs2 ?_
  simp only[aO_,am_]
  refine aa_ (λe=>by rw[eW,eh_ e]at h0;exact h0 (show (1907:Int)≠0 by decide)) λe=>?_
  rw[e1_ e]at eW
  dsimp only at eW
  refine aa_ (λe=>by rw[eW,show leI (sz content) 6=false by simp at e ⊢;omega]at h0;exact h0 (show (1909:Int)≠0 by decide)) λe=>?_
  rw[show leI (sz content) 6=true by simp at e ⊢;omega]at eW
  dsimp only at eW
 ·refine aa_ (λe=>by simp at e<;>omega) λ_=>?_;have e0:co_ is name path content=0:=by
   rw[eW,show (is[K].files.any λf=>decide (f.1=path))=true from any_eq_true.2 ⟨_,kE hk,by simpa using hkp⟩]
  rw[<-e1];refine hh_ h hn hfl λG a0 pG hi0=>?_;simp only[aO_,ah_];refine aa_ (λ_=>?_) (λe=>by simp at e<;>omega);refine ab_ rfl (ab_ (by simp<;>omega) ?_);obtain⟨l9,p9,e9,hbl,q5,q6,q7⟩:=hi0.over hp (fs:=is[K].files.set k (path,content,true)) t_;subst e9;simp only[ae_,etn,kN];rw[ad_ q5,ah_];refine ab_ rfl (ab_ (by simp<;>omega) ?_);rcases q6 with⟨_,z⟩|⟨lf,rfl,hrf⟩
  .rw[z]at hk;cases hk
  obtain⟨hbf,rd⟩:=q7 lf 0 rfl;simp only[ae_,etn,kN];have hcl:=eP_ is[K].files;have hlt:=(kC.1 hrf).1;rw[rK_ hrf o_];rw[rK_ (kH hlt) (by rw[length_set];omega),set_set];rw[rK_ (kH hlt) (by rw[length_set,length_set];omega),set_set,Be_ hk];rw[HN_ fa hk hkp]at rd ⊢;exact hQ e0 _ _ (dH_ pG hbf _) rd
 .refine aa_ (λ_=>?_) (λe=>by simp at e);rw[show (is[K].files.any λf=>decide (f.1=path))=false by rw[any_eq_false];intro f hf;simpa using hno f hf]at eW;dsimp only at eW;refine ab_ rfl (ab_ (by simp<;>omega) ?_);rw[ad_ r5',ah_];refine aa_ (λe=>by rw[eW,show leI 4 (is[K].files.length:Int)=true from e]at h0;exact h0 d_) λe=>?_;rw[show leI 4 (is[K].files.length:Int)=false from e]at eW;rw[<-e1];refine hh_ h hn hfl λG a0 pG hi0=>?_;simp only[aO_,ah_];refine aa_ (λe=>by simp at e) λ_=>?_;exact l22 eW hno G a0 pG hi0 _ 0 200009 G none 0 [] rfl (kP _) o_ (k8 _) (.inl ⟨rfl,rfl,rfl⟩) rfl (.inl ⟨rfl,λf hf=>by cases hf⟩)
theorem rz_ (h:bW_ H b a is) (N:hR_ is) (hf:bz_ is is.length 0=true) (Y:is.length<=900)
 (I:∀x∈is,x.name.size<=140737488351232/\x.files.length<=100000/\∀f∈x.files,f.1.size<=140737488351232) (Z:name.size<=140737488351232) (V:to.size<=140737488351232)
 (hQ:∀H' a' n',H<+:H'->Q (.tup [yR a' n' 5,nN (e7_ is name to)]) H'):
 fQ_ [nL a is.length 5,gS name,gS to] H Q:=by
 refine⟨1,?_⟩;rw[uj_];have U:∀k:Nat,tN (k:Int)=k:=λ_=>rfl;have hrd:=h.rd;have W:∀i∈is,i.files.length<=100000:=λi hi=>(I i hi).2.1;have F:=hQ H none 0 (k8 _);refine fe_ hrd N o_ I ?_;rw[hf];refine cB_ Z ?_;refine aa_ (λe=>by rw[show e7_ is name to=1901 by unfold e7_;rw[eh_ e,Bool.false_and]]at F;exact F) λe=>?_;have w1:=e1_ e;refine cB_ V ?_;refine aa_ (λe=>by rw[show e7_ is name to=1901 by unfold e7_;rw[eh_ e,Bool.and_false]]at F;exact F) λe=>?_;have w2:=e1_ e;refine kp_ hrd N o_ (λe he hA=>?_) λhA hp hfi=>?_
 .simp only[aL_,aI_,bI_,ai_];refine aa_ (λ_=>?_) (λq=>by exact absurd (by simpa using q) he);rw[show e7_ is name to=e by unfold e7_;rw[w1,w2,hA,show (e==0)=false by simpa using he];rfl]at F;exact F
 .simp only[aL_,aI_,bI_,ai_];have eC:e7_ is name to=match (ch_ is to).isSome with|true=>1902|false=>0:=by unfold e7_;rw[w1,w2,hA];rfl
  refine gQ_ hrd N o_ (λD=>?_) λD=>?_
  .simp only[aO_,ai_];refine aa_ (λ_=>?_) (λe=>by simp at e<;>omega);rw[(rf_ N).1]at D;grind
  .simp only[aO_,ai_];rw[jA_ N D]at eC;dsimp[Option.isSome_none]at eC;refine hh_ h Y W λG a0 pG J=>?_;replace J:=J.at;simp only[aO_,ah_];refine ab_ rfl (ab_ (by simp<;>omega) ?_);obtain⟨l,o,p,e1,r1,r2,r3,r4,r5,r6⟩:=J.rd _ hp;rw[e1];simp[ae_,U];rw[ad_ r1,au_,ad_ r2,ai_,ad_ r3,au_,ad_ r4,au_,ad_ r5,ah_,<-e1];refine pQ_ J.rd Y λG1 a1 pG1 O=>?_;simp[ah_];refine mj_ O (Nat.le_trans (length_eraseIdx_le _ _) Y) λG2 a2 n2 pG2=>?_;simp[aO_];grind
end
section
variable{H:Hp}{Q:Post}{a:Pl}{b:Nat}{is:List InfoR}
theorem AQ_ (h:bQ_ H p fs) (F:fs.length<=1000) (D:fs=[]->Q (nL none 0 3) H) (A:∀cs,cs=bK_ fs->Q (nL (some (H.length,0)) fs.length 3) (H++[.row true gl_ cs])):
 bB_ [nL p fs.length 3] H Q:=by
 refine⟨1,?_⟩;rw[hq_];cases p with
 |none=>
  rw[Ip_,az_ rfl];rcases h with⟨_,rfl⟩|⟨l,e,_⟩;grind;cases e
 |some q=>
  rw[Hd_,aA_ rfl,af_,ek_ h.cells];exact⟨⟨by unfold Lim;omega,eP_ fs⟩,A _ rfl⟩
theorem te_ (h:bW_ H b a is) (hn:is.length<=900) (hf:∀i∈is,i.files.length<=1000) (hQ:∀H' a',H<+:H'->bW_ H' H.length a' is->Q (nL a' is.length 5) H'):cj_ [nL a is.length 5] H Q:=by
 refine⟨is.length+2,?_⟩;rw[v6_];refine⟨1,?_⟩;rw[ht_];rcases h with⟨rfl,rfl⟩|⟨l,cs,rfl,hb,hr,hc⟩
 .rw[Ip_,az_ rfl];simp only[aO_,ah_];rw[cj_.l3_eq,aA_ t_];exact hQ _ _ (k8 _) (.inl ⟨rfl,rfl⟩)
 rw[Hd_,aA_ rfl,af_,ek_ (cs:=cs) (by simp[cells?,hr,hc.len];rw[<-hc.len,take_length])];refine⟨⟨by show _*80<=Lim;unfold Lim;omega,hc.len⟩,?_⟩;simp only[aO_,ah_,dS_];obtain⟨ps0,rfl,hps,hp0⟩:=hc.pis;have go:∀(f k:Nat)(G:Hp)(ps:List (Pl × InfoR)),f=is.length-k->k<=is.length->H<+:G->ps.map (·.2)=is->G[H.length]?=some (.row true g5_ (e0_ ps))->(∀q∈ps,bQ_ G q.1 q.2.files)->
  (∀j (hj:j<ps.length),j<k->∀l o,ps[j].1=some (l,o)->H.length<l)->(∀q∈ps,∀l o,q.1=some (l,o)->l≠H.length)->cj_.l3 (f+1) (some (H.length,0)) is.length (nI is.length) ((k:Nat):Int) G Q:=by
  intro f;induction f with
  | zero=>
   intro k G ps hf' hk hG hm hr' hp hk' hne;rw[cj_.l3_eq,aA_ s_];have hI:dq_ G H.length (some (H.length,0)) (e0_ ps) is:=by
    rw[<-hm];refine dq_.mk λq hq=>⟨hp q hq,λl o e=>?_⟩;obtain⟨j,hj,rfl⟩:=kK hq;have hl:ps.length=is.length:=by rw[<-hm,k9]
    have:=hk' j hj o_ l o e;exact⟨o_,λo' q=>by cases q;omega⟩
   exact hQ G _ hG (.inr ⟨_,_,rfl,kO _,hr',hI⟩)
  | succ f ih=>
   intro k G ps hf' hk hG hm hr' hp hk' hne;have hl:ps.length=is.length:=by rw[<-hm,k9]
   have hi:k<ps.length:=by omega
   have etn:tN (k:Int)=k:=rfl;have e2:(ps[k]).2=is[k]'o_:=by simp only[<-hm,getElem_map]
   have hfl:=hf _ (kE (show k<is.length by omega));rw[<-e2]at hfl;have hlt:=(kC.1 hr').1;have hg:gt G H.length (k*5+4)=some (.sl ps[k].1 ps[k].2.files.length 3):=by rw[aY_ hr',wz_ hi 4 o_];rfl
   rw[cj_.l3_eq,az_ s_];refine ab_ rfl (ab_ s_ ?_);rw[ae_,etn,kN,ad_ hg,ah_,an_ o_];have hmem:=kE hi;have nxt:∀(p:Pl)(G1:Hp),G<+:G1->bQ_ G1 p ps[k].2.files->(∀l o,p=some (l,o)->H.length<l)->rG (nL p ps[k].2.files.length 3) λv7=>dL 3 v7 λx8 n9=>chk true (chk (leI 0 (k:Int)&&ltI (k:Int) (nI is.length)) (pS (some (H.length,0)) λn10 n11=>
    wr G1 n10 (n11+tN (k:Int)*5+4) (.sl x8 n9 3) λH12=>cj_.l3 (f+1) (some (H.length,0)) is.length (nI is.length) ((k+1:Nat):Int) H12 Q)):=λp G1 p1 hp1 hpl=>by
    have hr1:=aS_ p1 hlt;rw[hr']at hr1;simp only[aO_,ah_];refine ab_ rfl (ab_ s_ ?_);rw[ae_,etn,kN];refine b4_ hr1 (by rw[mf_];omega) ?_;rw[v5_ hi];have kp:∀l,l≠H.length->(G1.set H.length (.row true g5_ (e0_ (ps.set k (p,ps[k].2)))))[l]?=G1[l]? :=λl hl=>kF (Ne.symm hl);refine ih (k+1) _ _ o_ o_ (g1_ (by have:=p1.length_le;simp;omega) λl hl=>by rw[kp l o_,aS_ p1 o_,aS_ hG hl]) ?_ (kH (by have:=p1.length_le;omega)) (λq hq=>?_) (λj hj hjk l o e=>?_) λq hq l o e=>?_
    .rw[List.map_set];simp only;rw[<-hm];exact lx_ (by rw[getElem?_map,kG hi];rfl)
    .rcases mem_or_eq_of_mem_set hq with q1|rfl
     .exact (hp q q1).keep λl o e=>by rw[kp l (hne q q1 l o e),aS_ p1 ((hp q q1).ltAt e)]
     .exact hp1.keep λl o e=>kp l (by have:=hpl l o e;omega)
    .rw[getElem_set]at e;split at e
     .exact hpl l o e
     .exact hk' j (by simpa using hj) o_ l o e
    .rcases mem_or_eq_of_mem_set hq with q1|rfl
     .exact hne q q1 l o e
     .have:=hpl l o e;omega
   refine AQ_ (hp _ hmem) o_ (λe0=>?_) λcs ecs=>?_
   .have:=nxt none G (k8 _) (.inl ⟨rfl,e0⟩) (λl o e=>by cases e);rw[e0]at this;exact this
   .exact nxt (some (G.length,0)) (G++[.row true gl_ cs]) (prefix_append _ _) (.inr ⟨_,rfl,by rw[ecs];exact getElem?_concat_length⟩) (λl o e=>by cases e;omega)
 have lq:∀q∈ps0,∀l o,q.1=some (l,o)->l<H.length:=λq hq l o e=>(hp0 q hq).1.ltAt e;have:=go is.length 0 (H++[.row true g5_ (e0_ ps0)]) ps0 rfl o_ (prefix_append _ _) hps getElem?_concat_length (λq hq=>(hp0 q hq).1.keep λl o e=>kM (lq q hq l o e)) (λj _ hj=>by omega) (λq hq l o e=>by have:=lq q hq l o e;omega);exact this
end
structure FrK(is:List InfoR):Prop where
 asc:hR_ is
 from_:bz_ is is.length 0=true
 few:is.length<=900
 sz:∀x∈is,x.name.size<=140737488351232/\x.files.length<=100000/\∀f∈x.files,f.1.size<=140737488351232
 f4:∀x∈is,x.files.length<=4/\gN_ x.files
def CM_(nm:List Y_):Bool:=nm.all λs=>aX_ s 4
section
variable{H:Hp}{Q:Post}{a:Pl}{b l0 t:Nat}{is:List InfoR}{nm:List Y_}{s path:Y_}{ow:Bool}
theorem q7_ (h:bW_ H b a is) (k:FrK is) (I:H[l0]?=some (.row ow t (nm.map GV.str))) (hn:nm.length<=10) (N:∀s∈nm,s.size<=140737488351232)
 (Z:CM_ nm=false->Q (.tup [yR none 0 5,nN 1901]) H) (O:CM_ nm=true->∀H' D,H<+:H'->bW_ H' H.length D is->Q (.tup [yR D is.length 5,nN 0]) H'):
 cl_ [nL a is.length 5,nL (some (l0,0)) nm.length 1] H Q:=by
 refine⟨nm.length+2,?_⟩;rw[us_];refine mB_ h.rd (by have:=k.few;omega) k.sz ?_;simp[aO_];rw[k.from_,bN1];have go:∀(f j),f=nm.length-j->j<=nm.length->(nm.take j).all (λs=>aX_ s 4)=true->cl_.l4 (f+1) a is.length (some (l0,0)) nm.length (nI nm.length) j H Q:=by
  intro f;induction f with
  |zero=>
   intro j V W F;rw[cl_.l4_eq,aA_ s_];refine te_ h k.few (λi A=>by have:=(k.f4 i A).1;omega) λH' D p U=>?_;rw[show j=nm.length by omega,take_length]at F;simp[aO_];exact O F H' D p U
  |succ f J=>
   intro j V W F;have A:j<nm.length:=by omega
   have Y:gt H l0 (0+j*1)=some (.str nm[j]):=by rw[aY_ I];simp
   rw[cl_.l4_eq,az_ s_];refine ab_ rfl (ab_ s_ ?_);rw[ae_,show tN (j:Int)=j from rfl,ad_ Y,au_,an_ o_];refine e5_ (N _ (kE A)) (aa_ (λe=>Z (all_eq_false.2 ⟨_,kE A,g_⟩)) λe=>J (j+1) o_ o_ ?_);rw[take_add_one,kG A,all_append,F];simpa using e
 exact go nm.length 0 rfl o_ rfl
theorem rQ_ (h:bW_ H b a is) (k:FrK is) (D:H[l0]?=some (.row ow t ((s::nm).map GV.str))) (Y:nm.length<=9) (J:∀z∈s::nm,z.size<=140737488351232)
 (U:∀e,e≠0->(e=match CM_ (s::nm) with|false=>1901|true=>match (ch_ is s).isSome with|false=>1903|true=>0)->∀H',H<+:H'->Q (.tup [.s (.sl none 0 5),.s (.int .i64 0),.s (.int .i64 e)]) H')
 (V:CM_ (s::nm)=true->∀I:dF_ is s<is.length,ch_ is s=some is[dF_ is s]->∀H' A,H<+:H'->bW_ H' H.length (some (A,0)) is->Q (.tup [yR (some (A,0)) is.length 5,nN (dF_ is s:Int),nN 0]) H'):
 fU_ [nL a is.length 5,nL (some (l0,0)) (nm.length+1) 1] H Q:=by
 refine⟨1,?_⟩;rw[uR_];refine q7_ h k D g_ J (λe=>?_) λe H' W p F=>?_;simp only[aL_,aI_,bI_,ah_,ai_,bf_];rw[az_ t_];grind;simp only[aL_,aI_,bI_,ah_,ai_];refine ab_ t_ ?_;have N:gt H' l0 (0+tN 0*1)=some (.str s):=cf_ p (by rw[aY_ D];rfl);rw[ae_,ad_ N];refine j5_ F.rd k.asc (by have:=k.few;omega) ?_;simp[aL_];cases q:is.any λy=>decide (y.name=s) with
 |false=>
  exact U 1903 t_ (by rw[e,jA_ k.asc q];rfl) H' p
 |true=>
  rw[bN1];have⟨I,O⟩:=nB_ k.asc q;obtain⟨A,_,Z,_⟩:=F.src _ I;grind
def hJ_ (is:List InfoR) (name path:Y_):Int:=match aX_ name 4 with
 |false=>1901
 | true=>match cY_ is name==0 with
  |false=>cY_ is name
  |true=>match aX_ path 3 with
   |false=>1907
   |true=>0
theorem li_ (h:bW_ H b a is) (k:FrK is) (hs:s.size<=140737488351232) (U:path.size<=140737488351232)
 (Y:hJ_ is s path≠0->∀H',H<+:H'->Q (.tup [yR none 0 5,.s (.ptr none),nN (hJ_ is s path)]) H')
 (h2:hJ_ is s path=0->∀W:dF_ is s<is.length,ch_ is s=some is[dF_ is s]->∀H' J,H<+:H'->bW_ H' H.length (some (J,0)) is->Q (.tup [yR (some (J,0)) is.length 5,.s (.ptr (some (J,dF_ is s*5))),nN 0]) H'):
 fc_ [nL a is.length 5,gS s,gS path] H Q:=by
 refine⟨1,?_⟩;have N:=bU_ H (.row false 1000003 [.str s]);rw[vT_];refine rQ_ (s:=s) (t:=1000003) (ow:=false) (nm:=[]) (h.pre N) k t_ t_ g_ (λe O A H' p=>?_) λe W I H' J p Z=>?_;simp only[aL_,aI_,bI_,ah_,ai_];rw[az_ (by simp_all)];have:hJ_ is s path=e:=by
  rw[show CM_ [s]=aX_ s 4 by simp[CM_]]at A;unfold hJ_ cY_;cases D:aX_ s 4 with
  |false=>rw[D]at A;exact A.symm
  |true=>
   rw[D]at A;cases hf:ch_ is s with
   |none=>rw[hf]at A;rw[A];rfl
   |some i=>rw[hf]at A;exact absurd A O
 rw[<-this]at O ⊢;exact Y O H' (N.trans p);simp only[aL_,aI_,bI_,ah_,ai_,bf_];have D:aX_ s 4=true:=by simpa[CM_] using e
 have q:=N.trans p;refine ab_ s_ ?_;obtain⟨_,_,e1,hb,r1,r2,_⟩:=Z.src _ W;cases e1;rw[ae_,show tN (dF_ is s:Int)=dF_ is s from rfl,kN,ad_ r2,ai_];have eA:cY_ is s=match eqI is[dF_ is s].kind 0 with|true=>0|false=>1905:=by unfold cY_;rw[I]<;>rfl
 cases V:eqI is[dF_ is s].kind 0 with
 |false=>
  have:hJ_ is s path=1905:=by unfold hJ_;rw[D,eA,V];rfl
  rw[this]at Y;exact Y t_ H' q
 | true=>
  refine f1_ U ?_;simp only[aO_,am_];cases F:aX_ path 3 with
  |false=>
   rw[bN0];have:hJ_ is s path=1907:=by unfold hJ_;rw[D,eA,V,F];rfl
   grind
  |true=>
   rw[bN1,af_];refine ab_ s_ ?_;rw[ae_,kN];refine h2 (by unfold hJ_;rw[D,eA,V,F];rfl) W I H' J q ?_;have hl:H.length<=(pu H (.row false 1000003 [.str s])).length:=N.length_le;rcases Z with⟨e,_⟩|⟨l,cs,e,z1,z2,z3⟩;cases e;exact .inr ⟨l,cs,e,o_,z2,z3.low hl⟩
end
theorem zW_ (h:gN_ fs) (F:(fs.any λf=>decide (f.1=s))=true):∃N:f9_ fs s<fs.length,fs[f9_ fs s].1=s:=by
 have⟨f,I,e⟩:=any_eq_true.1 F;obtain⟨k,A,rfl⟩:=kK I;have e:fs[k].1=s:=by grind
 have D:=hO_ h s k A;rw[e,bO_]at D;have U: ¬ f9_ fs s<k:=λq=>by
  have O:=hO_ h s _ (show f9_ fs s<fs.length by omega);have J:=kS.1 h _ k (show f9_ fs s<fs.length by omega) A q;grind
 grind
theorem BK_(h:hJ_ is s path=0):aX_ s 4=true/\cY_ is s=0/\aX_ path 3=true:=by
 unfold hJ_ at h;grind
theorem Cl_ (h:hJ_ is s path≠0):co_ is s path content=hJ_ is s path:=by
 unfold hJ_ at h ⊢;unfold co_;cases A:aX_ s 4 with
 |false=>rfl
 | true=>
  cases F:cY_ is s==0 with
  |false=>rfl
  |true=>
   cases D:aX_ path 3 with
   |false=>rfl
   |true=>rw[A,F,D]at h;exact absurd rfl h
def eU_ (is:List InfoR) (name path:Y_):Int:=match hJ_ is name path==0 with
 |false=>hJ_ is name path
 | true=>match ch_ is name with
  |none=>0
  |some i=>match i.files.any λf=>decide (f.1=path) with
   |true=>0
   |false=>1908
theorem bQ_.own(h:bQ_ H p fs)(A:∀l o,p=some (l,o)->b<=l):Own H b gl_ p (fs.length*3) (bK_ fs):=by
 rcases h with⟨rfl,rfl⟩|⟨l,rfl,F⟩;exact .inl ⟨rfl,rfl,rfl⟩;exact .inr ⟨l,rfl,A l 0 rfl,F,eP_ fs⟩
section
variable{H:Hp}{Q:Post}{a:Pl}{b:Nat}{is:List InfoR}{s path content:Y_}
theorem rp_ (h:bW_ H b a is) (k:FrK is) (hs:s.size<=140737488351232) (hs2:path.size<=140737488351232)
 (hQ:∀H' a' n',H<+:H'->Q (.tup [yR a' n' 5,nN (co_ is s path content)]) H'):
 b9_ [nL a is.length 5,gS s,gS path,gS content] H Q:=by
 refine⟨2,?_⟩;rw[ue_];refine li_ h k hs hs2 (λe H' p=>?_) λe hp hfi H1 la p i'=>?_
 .simp only[aL_,aI_,bI_,ah_,gs_,ai_,bf_];rw[az_ (by simpa using e),<-Cl_ e];exact hQ _ _ _ p
 simp only[aL_,aI_,bI_,ah_,gs_,ai_,bf_];rw[aA_ d_];obtain⟨w1,w2,w3⟩:=BK_ e;generalize hK:dF_ is s=K at hp hfi ⊢;obtain⟨_,q,e1,hb,_,_,_,_,r5,r6,r7,cs,hr,hc⟩:=i'.src _ hp;cases e1;have r5:gt H1 la (K*5+4)=some (.sl q is[K].files.length 3):=r5;obtain⟨h4,hfa⟩:=k.f4 _ (kE hp);have hlt:=(kC.1 hr).1;have eW:co_ is s path content=match leI (sz content) 6 with
  |false=>1909
  | true=>match is[K].files.any λf=>decide (f.1=path) with
   |true=>0
   |false=>match leI 4 (is[K].files.length:Int) with
    |true=>1910
    |false=>0:=by unfold co_;rw[w1,w2,w3,hfi]<;>rfl
 rw[eW]at hQ;refine ho_ ?_;simp only[aO_,am_];cases hc6:leI (sz content) 6 with
 |false=>
  rw[bN0];rw[hc6]at hQ;exact hQ _ _ _ p
 | true=>
  rw[hc6]at hQ;rw[bN1,ae_,ad_ r5,ah_];refine fT_ r6 hfa o_ ?_;simp only[aL_,aI_,bI_,am_,ai_,bf_];have l11:∀(G:Hp)(lf m i:Nat)(cs:List GV),H<+:G->gt G la (K*5+4)=some (.sl (some (lf,0)) m 3)->G[lf]?=some (.row true gl_ cs)->H.length<=lf->cs.length=m*3->i<m->m<=1000->(∀H' a' n',H<+:H'->Q (.tup [yR a' n' 5,nN 0]) H')->
   b9_.l11 1 path content (some (la,0)) is.length (some (la,K*5)) (i:Int) G Q:=λG lf m i cs hG hg hr hl hc hi hm hQ=>by
   have hlf:=(kC.1 hr).1;rw[b9_.l11_eq,ae_,ad_ hg,ah_,af_];refine ab_ s_ ?_;rw[ae_,show tN (i:Int)=i from rfl,kN];refine b4_ hr o_ (b4_ (kH hlf) s_ (b4_ (kH (by simpa using hlf)) s_ ?_));rw[set_set,set_set];exact hQ _ _ _ (dH_ hG hl _)
  cases hany:is[K].files.any λf=>decide (f.1=path) with
  |true=>
   rw[hany]at hQ;rw[bN1,bN1];obtain⟨hpf,_⟩:=zW_ hfa hany;rcases r6 with⟨_,e0⟩|⟨lf,rfl,hrf⟩
   .rw[e0]at hpf;cases hpf
   .exact l11 H1 lf _ _ _ p r5 hrf (r7 lf 0 rfl).1 (eP_ _) hpf o_ hQ
  | false=>
   rw[hany]at hQ;rw[bN0,ae_,ad_ r5,ah_];refine aa_ (λz=>?_) λz=>?_
   .rw[show leI 4 (is[K].files.length:Int)=true by simp at z ⊢;omega]at hQ;exact hQ _ _ _ p
   rw[show leI 4 (is[K].files.length:Int)=false by simp at z ⊢;omega]at hQ;rw[bN0,ae_,ad_ r5,ah_];have hpl:=u5_ is[K].files path;unfold cl slices_Insert__api_File_api_File;refine vb_ (by_:=40) (vs:=[.str (mkS []),.str (mkS []),.bool false]) (r6.own λl o e=>(r7 l o e).1) o_ rfl p.length_le hpl (by unfold Lim;omega) λH2 g o2=>?_;simp only[aO_,ah_];rcases o2 with⟨e,_⟩|⟨lf,e,hbf,hrf,hlf⟩
   .cases e
   cases e;have g2:H2[la]?=some (.row true g5_ cs):=by rw[g.row la hlt λq=>(r7 _ _ q).2 rfl];exact hr
   have hgl:=g.len;have hl2:la<H2.length:=by omega
   have p2:H<+:H2:=g1_ (by have:=p.length_le;omega) λl hl=>by
    rw[g.row l (by have:=p.length_le;omega) λq=>by have:=(r7 _ _ q).1;omega];exact aS_ p hl
   rw[ae_];refine b4_ g2 o_ ?_;refine l11 _ (H1.length+1) _ _ _ (dH_ p2 hb _) ?_ (by rw[kF o_];exact hrf) (by have:=p.length_le;omega) hlf o_ o_ hQ;rw[aY_ (kH hl2)];exact kH o_
theorem EC_(A:H[l]?=some (.row true gl_ (bK_ fs)))(hi:i<fs.length)(F:fs.length<=1000)(D:Q (nL (some (l,0)) (fs.length-1) 3) (H.set l (.row true gl_ ((bK_ fs).take (i*3)++((bK_ fs).drop ((i+1)*3)++[.str (mkS []),.str (mkS []),.bool false]))))):
 bv_ [nL (some (l,0)) fs.length 3,gI (i:Int),gI ((i+1:Nat):Int)] H Q:=by
 refine⟨1,?_⟩;rw[ha_];exact IQ_ A (eP_ _) rfl o_ hi (by unfold Lim;omega) o_ D
theorem p8_ (h:bW_ H b a is) (k:FrK is) (hs:s.size<=140737488351232) (W:path.size<=140737488351232)
 (J:∀H' a' n',H<+:H'->Q (.tup [yR a' n' 5,nN (eU_ is s path)]) H'):
 fo_ [nL a is.length 5,gS s,gS path] H Q:=by
 refine⟨1,?_⟩;rw[sf_];refine li_ h k hs W (λe H' p=>?_) λe V I H1 la p i'=>?_;simp only[aL_,aI_,bI_,ah_,gs_,ai_,bf_];rw[az_ (by simp_all)];have:=J H' none 0 p;unfold eU_ at this;grind;simp only[aL_,aI_,bI_,ah_,gs_,ai_];generalize hK:dF_ is s=K at V I ⊢;obtain⟨_,q,e1,hb,_,_,_,_,Y,Z,r7,cs,hr,hc⟩:=i'.src _ V;cases e1;have⟨h4,F⟩:=k.f4 _ (kE V);have eD:eU_ is s path=match is[K].files.any λf=>decide (f.1=path) with|true=>0|false=>1908:=by unfold eU_;rw[e,I]<;>rfl
 rw[eD]at J;rw[ae_,ad_ Y,ah_];refine fT_ Z F o_ ?_;simp only[aL_,aI_,bI_,am_,ai_];cases A:is[K].files.any λf=>decide (f.1=path) with
 |false=>
  simp_all
 |true=>
  rw[A]at J;have⟨D,_⟩:=zW_ F A;rw[bN1,ae_,ad_ Y,ah_,an_ o_];rcases Z with⟨_,e0⟩|⟨lf,rfl,N⟩;rw[e0]at D;cases D;have⟨O,U⟩:=r7 lf 0 rfl;refine EC_ N D o_ ?_;simp[aO_];refine b4_ (by rw[kF U];exact hr) o_ ?_;exact J _ _ _ (dH_ (dH_ p O _) hb _)
end
end Go.Am
