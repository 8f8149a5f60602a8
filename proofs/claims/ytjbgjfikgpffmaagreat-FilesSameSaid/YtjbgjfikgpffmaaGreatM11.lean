import Derived.Test.YtjbgjfikgpffmaaGreatM10
set_option linter.all false
set_option autoImplicit true
set_option relaxedAutoImplicit true
set_option maxRecDepth 100000
namespace Go.Am
open List
section
def bz_(st:StD)(l:LKey × LVal):FileR:=(l.1.2,(match look st.inos l.2.1 with|some x=>x.content|none=>mkS []),l.2.2)
structure ch_(st:StD)(id:Int)(fs:List FileR):Prop where
 asc:ht_ fs
 mem:∀f,f∈fs↔∃l∈st.links,l.1.1=id/\f=bz_ st l
theorem ht_.ext:∀{fs A:List FileR},ht_ fs->ht_ A->(∀f,f∈fs↔f∈A)->fs=A
 |[],[],_,_,_=>rfl
 |[],g::A,_,_,h=>absurd ((h g).2 mem_cons_self) not_mem_nil
 |f::fs,[],_,_,h=>absurd ((h f).1 mem_cons_self) not_mem_nil
 | f::fs,g::A,F,G,h=>by
  have D:=kW.1 F;have C:=kW.1 G;have e:f=g:=by
   rcases kU.1 ((h f).1 mem_cons_self) with q|q
   .exact q
   .rcases kU.1 ((h g).2 mem_cons_self) with r|r
    .grind
    .have:=dv_ (C.1 f q);grind
  subst e;congr 1;refine ht_.ext D.2 C.2 λx=>⟨λq=>?_,λq=>?_⟩
  .rcases kU.1 ((h x).1 (mem_cons_of_mem _ q)) with r|r
   .have:=D.1 x q;rw[r,bX_]at this;cases this
   .exact r
  .rcases kU.1 ((h x).2 (mem_cons_of_mem _ q)) with r|r
   .have:=C.1 x q;rw[r,bX_]at this;cases this
   .exact r
theorem ch_.unique{id:Int}(r:ch_ st id fs)(A:ch_ st id gs):fs=gs:=r.asc.ext A.asc λf=>(r.mem f).trans (A.mem f).symm
theorem G0_ (h:ht_ fs) (s:Y_):(∀x∈fs.take (gg_ fs s),blt x.1 s=true)/\(∀x∈fs.drop (gg_ fs s),blt x.1 s=false):=by
 constructor
 .intro x A;obtain⟨i,D,rfl⟩:=kK A;have C:i<gg_ fs s/\i<fs.length:=by grind
  rw[getElem_take];exact (hK_ h s i C.2).2 C.1
 .intro x A;obtain⟨i,D,rfl⟩:=kK A;have r:gg_ fs s+i<fs.length:=by grind
  rw[getElem_drop];have:=hK_ h s _ r;cases e:blt fs[gg_ fs s+i].1 s with
  |false=>rfl
  |true=>have:=this.1 e;omega
theorem ht_.put (h:ht_ fs) (f:FileR) (N:∀x∈fs,x.1≠f.1):ht_ (fs.take (gg_ fs f.1)++(f::fs.drop (gg_ fs f.1))):=by
 have⟨I,O⟩:=G0_ h f.1;have A:(fs.take (gg_ fs f.1)++fs.drop (gg_ fs f.1)).Pairwise λx y=>blt x.1 y.1=true:=by rw[lD];exact h
 have⟨C,F,U⟩:=kZ.1 A;have G:∀x∈fs.drop (gg_ fs f.1),blt f.1 x.1=true:=λx D=>by
  rcases gQ_ x.1 f.1 with r|r|r
  .grind
  .grind
  .grind
 refine kZ.2 ⟨C,kW.2 ⟨G,F⟩,λx D y J=>?_⟩;grind
theorem Iu_{fs:List FileR}(p:Nat):x∈fs.take p++(f::fs.drop p)↔x=f\/x∈fs:=by
 have:x∈fs↔x∈fs.take p\/x∈fs.drop p:=by rw[<-kD,lD]
 grind
end
section
variable{H:Hp}{Q:Post}{sp ms ml mi:Nat}{c0 c4:GV}{st:StD}
theorem st_ {G:Hp} {f:FileR} {i b:Nat} {R:Post} (h:bR_ G a fs) (O:∀l o,a=some (l,o)->b<=l) (J:b<=G.length) (hi:i<=fs.length) (U:fs.length<=1000)
 (hR:∀r a',bR_ r a' (fs.take i++(f::fs.drop i))->(∀l o,a'=some (l,o)->b<=l)->G.length<=r.length->(∀l,l<b->r[l]?=G[l]?)->R (nL a' (fs.length+1) 3) r):
 slices_Insert__api_File_api_File [(nL a fs.length 3),(gI ((i:Nat):Int)),(nL (some (G.length,0)) 1 3)] (G++[.row false my_ (xx_ f)]) R:=by
 have o:Own G b gL_ a (fs.length*3) (bL_ fs):=by
  rcases h with⟨rfl,rfl⟩|⟨l,rfl,F⟩
  .exact .inl ⟨rfl,rfl,rfl⟩
  .exact .inr ⟨l,rfl,O l 0 rfl,F,eG_ fs⟩
 refine vt_ o o_ rfl J hi (by unfold Lim;omega) λH' q o'=>?_;rcases o' with⟨e,_⟩|⟨l,e,hb,hr,_⟩
 .cases e
 cases e;refine hR H' _ (.inr ⟨_,rfl,?_⟩) (λl o e=>by cases e;exact hb) (by have:=q.len;omega) λl hl=>q.row l o_ λe=>by have:=O _ _ e;omega
 rw[hr,Bk_ _ _ hi,Bc_ _ _ hi,ho_,bL_]
theorem tH_ (h:e1_ H sp c0 ms ml mi c4 st) (id:Int) (hn:st.links.length<=900) (hQ:∀H' a fs,H<+:H'->bR_ H' a fs->ch_ st id fs->(∀l o,a=some (l,o)->H.length<=l)->Q (nL a fs.length 3) H'):
 bi_ [yQ sp,gI id] H Q:=by
 refine⟨st.links.length+3,?_⟩;rw[nv_];obtain⟨_,_,g2,_⟩:=h.rd;have hml:ml<H.length:=h.links.lt;simp only[ae_,kN,d4_];rw[ad_ g2,c3_];refine wo_ h.links λo R0=>?_;have go:∀(f:Nat)(js:List Nat)(G:Hp)(a:Pl)(fs:List FileR),st.links.length-js.length<f->H<+:G->H.length+1<=G.length->fc_ ekL evL G H.length ml st.links js->
  bR_ G a fs->(∀l o,a=some (l,o)->H.length+1<=l)->ht_ fs->fs.length<=js.length->(∀f,f∈fs↔∃j∈js,∃hj:j<st.links.length,st.links[j].1.1=id/\f=bz_ st st.links[j])->
  bi_.l3 f (some (sp,0)) id a fs.length H.length 0 G Q:=by
  intro f;induction f with
  |zero=>intro js G a fs h;omega
  | succ f ih=>
   intro js G a fs hf hG hl R hfa hal hasc hle hmem;rw[bi_.l3_eq];refine vM_ R o_ (λj hj hjs G1 l1 k1 R1=>?_) λhperm=>?_
   ·have hlj:=oF_ R1;rw[kI,length_singleton]at hlj;refine rm_ R1 hj ?_;simp only[ekL,evL,bG_,aq_,am_,eb_,a9_,ai_,bD_];have hG1:H<+:G1:=jL_ hG l1 λl hl=>by rw[k1 l o_]
    have hfa1:bR_ G1 a fs:=by
     rcases hfa with q|⟨l,rfl,q⟩
     .exact .inl q
     .have:=hal l 0 rfl;exact .inr ⟨l,rfl,by rw[k1 l o_];exact q⟩
    refine aa_ (λe=>?_) λe=>?_
    ·have hid:st.links[j].1.1=id:=by simpa using e
     refine fS_ hfa1 hasc o_ ?_;simp only[aI_,aC_,bG_,ai_,am_,ba_,ae_,kN];have hS:=h.keep (H':=G1) λl hl=>a8_ hG1 hl;obtain⟨_,_,_,g3,_⟩:=hS.rd;rw[ad_ g3,c3_];have hnew:∀x∈fs,x.1≠(bz_ st st.links[j]).1:=λx hx q=>by
      obtain⟨i,hi,hi',hid',rfl⟩:=(hmem x).1 hx;have hk:st.links[i].1=st.links[j].1:=Prod.ext (by rw[hid,hid']) q;have nd:=h.links.nodup;have:i=j:=by
       refine Classical.byContradiction λhne=>?_;have hp:=kS.1 nd;rcases Nat.lt_or_gt_of_ne hne with z|z
       .exact hp i j (by simpa using hi') (by simpa using hj) z (by simpa using hk)
       .exact hp j i (by simpa using hj) (by simpa using hi') z (by simpa using hk.symm)
      subst this;exact hjs hi
     have step:∀c,c=(bz_ st st.links[j]).2.1->slices_Insert__api_File_api_File [(nL a fs.length 3),(gI ((gg_ fs st.links[j].1.2:Nat):Int)),(nL (some (G1.length,0)) 1 3)] (G1++[.row false my_ [.str st.links[j].1.2,.str c,.bool st.links[j].2.2]]) λr43 H44=>
      rG r43 λv45=>dL 3 v45 λx46 n47=>bi_.l3 f (some (sp,0)) id x46 n47 H.length 0 H44 Q:=λc hc=>by
      subst hc;refine st_ (f:=bz_ st st.links[j]) (b:=H.length+1) hfa1 hal o_ (vp_ _ _) o_ λG2 a' hf2 hb2 hl2 k2=>?_;simp only[aN_];refine⟨.inr rfl,?_⟩;have e1:fs.length+1=(fs.take (gg_ fs st.links[j].1.2)++(bz_ st st.links[j]::fs.drop (gg_ fs st.links[j].1.2))).length:=by
       have:=vp_ fs st.links[j].1.2;simp;omega
      rw[e1];have hG2:H<+:G2:=by
       rw[prefix_iff_eq_take];apply ext_getElem?;intro i;rw[getElem?_take];split
       .rename_i hi;rw[k2 i o_,a8_ hG1 hi]
       .exact getElem?_eq_none o_
      refine ih (js++[j]) G2 a' _ (by rw[kI,length_singleton];omega) hG2 o_ (R1.keep (k2 _ o_) (k2 _ o_)) hf2 hb2 (hasc.put _ hnew) (by rw[<-e1,kI,length_singleton];omega) λx=>?_;rw[Iu_,hmem x];constructor
      .rintro (q|⟨i,hi,r⟩)
       .exact⟨j,t_,hj,hid,q⟩
       .exact⟨i,by simp[hi],r⟩
      ·rintro⟨i,hi,hi',r⟩;rcases kD.1 hi with q|q
       .exact .inr ⟨i,q,hi',r⟩
       .have:i=j:=by simpa using q
        subst this;exact .inl r.2
     refine fz_ (ev:=evI) okI hS.inos st.links[j].2.1 (λv hlk=>?_) λhlk=>?_
     .have hc:evI v= .a [.int .i64 v.links,.str v.content]:=rfl;rw[hc];simp only[eb_,a9_,ai_,aq_,bD_];exact step _ (by simp[bz_,hlk])
     .simp only[eb_,a9_,ai_,aq_,bD_];exact step _ (by simp[bz_,hlk])
    ·have hid: ¬ st.links[j].1.1=id:=by simpa using e
     refine ih (js++[j]) G1 a fs (by rw[kI,length_singleton];omega) hG1 o_ R1 hfa1 hal hasc (by rw[kI,length_singleton];omega) λx=>?_;rw[hmem x];constructor
     .rintro⟨i,hi,r⟩;exact⟨i,by simp[hi],r⟩
     ·rintro⟨i,hi,hi',r⟩;rcases kD.1 hi with q|q
      .exact⟨i,q,hi',r⟩
      .have:i=j:=by simpa using q
       subst this;exact absurd r.1 hid
   .refine hQ G a fs hG hfa ⟨hasc,λx=>?_⟩ λl o e=>by have:=hal l o e;omega
    rw[hmem x];constructor
    .rintro⟨i,_,hi',r⟩;exact⟨_,kE hi',r⟩
    .rintro⟨l,hl',r⟩;obtain⟨i,hi,rfl⟩:=kK hl';exact⟨i,hperm.mem_iff.2 (mem_range.2 hi),hi,r⟩
 exact go _ [] _ none [] t_ (b8_ _ _) t_ R0 (.inl ⟨rfl,rfl⟩) (λl o e=>by cases e) Pairwise.nil t_ (λx=>by simp)
end
structure InfoR where
 name:Y_
 kind:Int
 parent:Y_
 label:Y_
 files:List FileR
 deriving DecidableEq
def gy_(p:Pl)(i:InfoR):List GV:=[.str i.name,.int .i64 i.kind,.str i.parent,.str i.label,.sl p i.files.length 3]
inductive dw_(H:Hp)(b:Nat)(a:Pl):List GV->List InfoR->Prop
 |nil:dw_ H b a [] []
 |cons {p:Pl} {i:InfoR} {cs:List GV} {is:List InfoR}:bR_ H p i.files->(∀l o,p=some (l,o)->b<=l/\∀o',a≠some (l,o'))->dw_ H b a cs is->dw_ H b a (gy_ p i++cs) (i::is)
theorem bR_.lt(h:bR_ H (some (l,o)) fs):l<H.length:=by
 rcases h with⟨q,_⟩|⟨r,e,q⟩
 .cases q
 .grind
theorem bR_.keep(h:bR_ H p fs)(r:∀l o,p=some (l,o)->H'[l]?=H[l]?):bR_ H' p fs:=by
 rcases h with q|⟨l,rfl,q⟩
 .exact .inl q
 .exact .inr ⟨l,rfl,g_⟩
theorem dw_.keep {a D:Pl} (C:∀l,b<=l->(∀o,a≠some (l,o))->l<H.length->H'[l]?=H[l]? /\∀o,D≠some (l,o)):∀{cs:List GV}{is:List InfoR},dw_ H b a cs is->dw_ H' b D cs is:=by
 intro cs is h;induction h with
 |nil=>exact .nil
 |cons A r _ F=>
  refine .cons (A.keep λl o e=>?_) (λl o e=>?_) F
  .subst e;exact (C l (r l o rfl).1 (r l o rfl).2 A.lt).1
  .subst e;exact⟨(r l o rfl).1,(C l (r l o rfl).1 (r l o rfl).2 A.lt).2⟩
theorem dw_.snoc(h:dw_ H b a cs is)(A:bR_ H p i.files)(D:∀l o,p=some (l,o)->b<=l/\∀F,a≠some (l,F)):dw_ H b a (cs++gy_ p i) (is++[i]):=by
 induction h with
 |nil=>simpa using (dw_.cons A D .nil)
 |cons r G _ C=>exact .cons r G C
theorem dw_.len(h:dw_ H b a cs is):cs.length=is.length*5:=by
 induction h with
 |nil=>rfl
 |cons _ _ _ r=>simp[gy_];omega
def bV_(H:Hp)(b:Nat)(a:Pl)(is:List InfoR):Prop:=(a=none/\is=[])\/∃l cs,a=some (l,0)/\b<=l/\H[l]?=some (.row true g8_ cs)/\dw_ H b a cs is
theorem yy_ (h:bV_ H b a is) (G:b<=H.length) (C:bR_ H p i.files) (F:∀l o,p=some (l,o)->b<=l/\∀I,a≠some (l,I)) (hn:is.length<=1000)
 (D:∀N H',bV_ H' b N (is++[i])->(∀l,l<b->H'[l]?=H[l]?)->H.length<=H'.length->K N (is++[i]).length H'):ap H g8_ 5 80 a is.length (gy_ p i) 1 K:=by
 have J:(gy_ p i).length=1*5:=rfl;unfold ap app?;rw[if_pos ⟨by unfold Lim;omega,J⟩];rw[kI,length_singleton]at D;rcases h with⟨rfl,rfl⟩|⟨l,cs,rfl,Y,r,O⟩
 .simp only[length_nil,if_pos];rw[if_neg o_];refine D _ _ (.inr ⟨H.length,gy_ p i,rfl,G,t_,?_⟩) (λl J=>by rw[kM o_]) t_;have:gy_ p i=gy_ p i++[]:=by simp
  rw[this];refine .cons (C.keep λl o e=>?_) (λl o e=>?_) .nil
  .subst e;rw[kM C.lt]
  .subst e;exact⟨(F l o rfl).1,λI q=>by cases q;exact absurd C.lt (Nat.lt_irrefl _)⟩
 .have U:=(kC.1 r).1;simp only[r];rw[if_pos ⟨trivial,trivial,O.len⟩];refine D _ _ (.inr ⟨H.length,cs++gy_ p i,rfl,G,t_,?_⟩) (λV hl'=>by rw[kM s_,kF o_]) t_;refine dw_.keep (H:=H) (λV W Z A=>⟨?_,λo q=>by cases q;exact absurd A (Nat.lt_irrefl _)⟩) (O.snoc C F);grind
section
variable{H:Hp}{Q:Post}{sp ms ml mi:Nat}{c0 c4:GV}{st:StD}
structure tc_(st:StD)(i:InfoR):Prop where
 mem:∃x,look st.snaps i.name=some x/\i.kind=x.kind/\i.parent=x.parent/\i.label=x.label/\ch_ st x.id i.files
theorem y5_ {ev:β->RV} {l f t:Nat} (h:dJ_ ekS ev H l ps) (hs:∀x∈ps,x.1.size<=140737488351232) (hn:ps.length<=1000) (hf:Go.Proofs.keysFn f)
 (hK:∀zs:List Y_,zs.Perm (ps.map (·.1))->zs.Pairwise (λa b=>blt a b=true)->∀H' a,H<+:H'->(∀i (hi:i<zs.length),∃l,a=some (l,0)/\gt H' l i=some (.str zs[i]))->K (nL a zs.length 1) H'):
 slices_Sorted_string [.g (.fn f [(H.length,0)])] (H++[.row true t [.map (some l)]]) K:=by
 have⟨A,c,hm,J,U,N⟩:=h.ex;have V:=h.lt;have F:A.map (λe=>kU_ e.2.1)=ps.map (·.1):=by
  have e1:A.map (λe=>kU_ e.2.1)=(A.map λe=>(e.2.1,e.2.2)).map λq=>kU_ q.1:=by simp
  rw[e1,J,map_map];rfl
 have Y:A.length=ps.length:=by have:=congrArg length J;simpa
 have D:∀e∈A,∃x∈ps,e.2.1= .s (.str x.1):=λe r=>by
  have:(e.2.1,e.2.2)∈A.map λe=>(e.2.1,e.2.2):=lA.2 ⟨e,r,rfl⟩;rw[J]at this;have⟨x,W,q⟩:=lA.1 this;have q':=congrArg Prod.fst q;exact⟨x,W,q'.symm⟩
 refine⟨f,H.length,t,[.map (some l)],some l,hf,rfl,t_,rfl,?_⟩;refine⟨A,c,by rw[kM V];exact hm,⟨λe r=>?_,U,N,by rw[F];exact h.nodup,o_⟩,λzs O I=>?_⟩
 .have⟨x,W,q⟩:=D e r;exact⟨x.1,q,hs x W⟩
 ·rw[F]at O;have nd:=O.nodup_iff.2 h.nodup;have asc:zs.Pairwise (λa b=>blt a b=true):=by
   rw[kS]at I ⊢;intro i j hi hj G;have Z:blt zs[j] zs[i]=false:=I i j hi hj G;rcases gQ_ zs[i] zs[j] with q|q|q
   .exact q.1
   .exact absurd q.1 (kS.1 nd i j hi hj G)
   .rw[q.1]at Z;cases Z
  refine⟨λe=>?_,λe=>?_⟩
  .simp_all
  .refine hK zs O asc _ _ ((b8_ _ _).trans (b8_ _ _)) λi hi=>⟨_,rfl,?_⟩;simp only[fk_,d4_];rw[aV_ (by rw[getElem?_append_right (kO _),Nat.sub_self];rfl)];simp
theorem tF_(h:e1_ H sp c0 ms ml mi c4 st)(hs:∀x∈st.snaps,x.1.size<=140737488351232)(hn:st.snaps.length<=1000){E:Nat->Sm}{K:Post}
 (hK:∀zs:List Y_,zs.Perm (st.snaps.map (·.1))->zs.Pairwise (λa b=>blt a b=true)->∀H' a,H<+:H'->(∀i (hi:i<zs.length),∃l,a=some (l,0)/\gt H' l i=some (.str zs[i]))->K (nL a zs.length 1) H'):
 cl (aU_ E) [(.g (.map (some ms)))] H λr4 H5=>rG r4 λv6=>cl slices_Sorted_string [(.g v6)] H5 K:=by
 refine⟨1,?_⟩;rw[fe_];simp only[aN_,d4_,fk_];exact y5_ h.snaps hs hn (.inl rfl) hK
end
theorem cB_{H H':Hp}(p:H<+:H')(h:gt H l o=some v):gt H' l o=some v:=by
 by_cases r:l<H.length
 .unfold gt;rw[a8_ p r];exact h
 .unfold gt at h;rw[getElem?_eq_none o_]at h;cases h
theorem bV_.pre{H H':Hp}(h:bV_ H b a is)(p:H<+:H'):bV_ H' b a is:=by
 rcases h with q|⟨l,G,rfl,F,D,I⟩
 .exact .inl q
 .exact .inr ⟨l,G,rfl,F,by rw[a8_ p (kC.1 D).1];exact D,I.keep λJ _ A r=>⟨a8_ p r,A⟩⟩
theorem bV_.lt(h:bV_ H b (some (l,o)) is):l<H.length:=by
 rcases h with⟨q,_⟩|⟨r,D,e,G,A,F⟩
 .cases q
 .grind
section
variable{H:Hp}{Q:Post}{sp ms ml mi:Nat}{c0 c4:GV}{st:StD}
theorem j7_{H G:Hp}(r:H.length<=G.length)(h:∀l,l<H.length->G[l]?=H[l]?):H<+:G:=by
 rw[prefix_iff_eq_take];apply ext_getElem?;grind
structure cC_(st:StD)(is:List InfoR):Prop where
 perm:(is.map (·.name)).Perm (st.snaps.map (·.1))
 asc:(is.map (·.name)).Pairwise λa b=>blt a b=true
 info:∀i∈is,tc_ st i
theorem tq_ (h:e1_ H sp c0 ms ml mi c4 st) (hs:∀x∈st.snaps,x.1.size<=140737488351232) (hn:st.snaps.length<=900) (V:st.links.length<=900)
 (hQ:∀H' b a is,H<+:H'->H.length<=b->bV_ H' b a is->cC_ st is->Q (nL a is.length 5) H'):
 bv_ E [yQ sp] H Q:=by
 refine⟨st.snaps.length+2,?_⟩;rw[nj_];have⟨_,g1,_⟩:=h.rd;simp;rw[ad_ g1,c3_];refine tF_ h hs o_ λr hp hasc H1 az J hz=>⟨.inr rfl,?_⟩;have hzl:r.length=st.snaps.length:=by rw[hp.length_eq,k9]
 have go:∀(f k) G a is,r.length-k<f->k<=r.length->H1<+:G->bV_ G H1.length a is->is.map (·.name)=r.take k->(∀i∈is,tc_ st i)->
  bv_.l3 E f (some (sp,0)) a is.length az r.length (r.length) (k) G Q:=by
  intro f;induction f with
  |zero=>omega
  | succ f ih=>
   intro k G a is hf hk O N D I;rw[bv_.l3_eq];have hil:is.length=k:=by have:=congrArg length D;rw[k9,lC]at this;omega
   refine aa_ (λe=>?_) λe=>?_
   ·have A:k<r.length:=by simpa using e
    obtain⟨lz,rfl,hgz⟩:=hz k A;refine ab_ rfl (ab_ s_ ?_);have etn:∀k:Nat,tN (k:Int)=k:=λ_=>rfl;simp[ae_];rw[ad_ (cB_ O hgz),aq_];have hS:=h.keep (H':=G) λl V=>a8_ (J.trans O) V;have⟨_,g1',_⟩:=hS.rd;rw[ad_ g1',c3_];have Y:=hp.mem_iff.1 (kE A);refine fz_ okS hS.snaps r[k] (λx U=>?_) λU=>?_
    ·have hc:evS x= .a [.int .i64 x.id,.int .i64 x.kind,.str x.parent,.str x.label]:=rfl;rw[hc];simp[eb_];refine tH_ hS x.id V λG2 p fs F hfa hfo Z=>⟨.inr rfl,ab_ rfl (yy_ (i:=⟨r[k],x.kind,x.parent,x.label,fs⟩) (N.pre F) (Nat.le_trans O.length_le F.length_le) hfa (λl o e=>⟨Nat.le_trans O.length_le (Z l o e),λo' q=>?_⟩) o_ λa' G3 W hk3 hl3=>?_)⟩
     .subst q;have:=N.lt;have:=Z l o e;omega
     ·rw[ao_ o_];refine ih (k+1) G3 a' _ o_ A (j7_ (Nat.le_trans (O.trans F).length_le hl3) λl V=>by rw[hk3 l V,a8_ (O.trans F) V]) W ?_ λi hi=>?_
      .rw[kL,D,take_add_one,kG A];rfl
      ·rcases kD.1 hi with q|q
       .exact I i q
       .have:i=⟨r[k],x.kind,x.parent,x.label,fs⟩:=by simpa using q
        subst this;exact⟨⟨x,U,rfl,rfl,rfl,hfo⟩⟩
    .have⟨x,hx,e⟩:=lA.1 Y;exact absurd e (oR_ U x hx)
   .have A: ¬ k<r.length:=by simpa using e
    have hke:k=r.length:=by omega
    subst hke;rw[take_length]at D;exact hQ G H1.length a is (J.trans O) J.length_le N ⟨by rw[D];exact hp,by rw[D];exact hasc,I⟩
 exact go _ 0 H1 none [] o_ (kP _) (k8 _) (.inl ⟨rfl,rfl⟩) t_ (λi hi=>by cases hi)
end
def fA_(H:Hp)(a:Pl)(fs:List FileR):Prop:=∀i (hi:i<fs.length),∃l o,a=some (l,o)/\gt H l (o+i*3)=some (.str fs[i].1)/\gt H l (o+i*3+1)=some (.str fs[i].2.1)/\gt H l (o+i*3+1+1)=some (.bool fs[i].2.2)
theorem bR_.rd(h:bR_ H a fs):fA_ H a fs:=λi r=>by
 rcases h with⟨_,rfl⟩|⟨l,rfl,h⟩
 .cases r
 .exact⟨l,0,rfl,by simpa using bR_.gets h i r⟩
theorem fA_.pre{H H':Hp}(h:fA_ H a fs)(p:H<+:H'):fA_ H' a fs:=λi F=>by
 have⟨l,o,e,A,D,r⟩:=h i F;exact⟨l,o,e,cB_ p A,cB_ p D,cB_ p r⟩
def dD_(H:Hp)(a:Pl)(is:List InfoR):Prop:=∀i (hi:i<is.length),∃l o p,a=some (l,o)/\gt H l (o+i*5)=some (.str is[i].name)/\gt H l (o+i*5+1)=some (.int .i64 is[i].kind)/\gt H l (o+i*5+1+1)=some (.str is[i].parent)/\gt H l (o+i*5+1+1+1)=some (.str is[i].label)/\
 gt H l (o+i*5+1+1+1+1)=some (.sl p is[i].files.length 3)/\fA_ H p is[i].files
theorem dD_.pre{H H':Hp}(h:dD_ H a is)(p:H<+:H'):dD_ H' a is:=λi J=>by
 have⟨l,o,q,e,G,I,r,F,D,A⟩:=h i J;exact⟨l,o,q,e,cB_ p G,cB_ p I,cB_ p r,cB_ p F,cB_ p D,A.pre p⟩
theorem dw_.at (h:dw_ H b a cs is):∀i (hi:i<is.length),∃p,cs[i*5]?=some (.str is[i].name)/\cs[i*5+1]?=some (.int .i64 is[i].kind)/\cs[i*5+2]?=some (.str is[i].parent)/\cs[i*5+3]?=some (.str is[i].label)/\
 cs[i*5+4]?=some (.sl p is[i].files.length 3)/\fA_ H p is[i].files:=by
 induction h with
 |nil=>intro i hi;cases hi
 | @cons p x cs is D F _ A=>
  intro i hi;cases i with
  |zero=>exact⟨p,rfl,rfl,rfl,rfl,rfl,D.rd⟩
  | succ i=>
   have⟨q,g⟩:=A i (by simp_all);have r:∀k,(gy_ p x++cs)[(i+1)*5+k]?=cs[i*5+k]? :=λk=>by
    rw[getElem?_append_right (by simp[gy_];omega)];congr 1;simp[gy_];omega
   refine⟨q,?_⟩;rw[show (i+1)*5=(i+1)*5+0 from rfl,r 0,show ∀k,(i+1)*5+0+k=(i+1)*5+k from λ_=>rfl,show ∀k,(i+1)*5+0+k=(i+1)*5+k from λ_=>rfl,r 1,r 2,r 3,r 4];exact g
theorem bV_.rd(h:bV_ H b a is):dD_ H a is:=λi r=>by
 rcases h with⟨_,rfl⟩|⟨l,N,rfl,_,A,D⟩
 .cases r
 .have⟨p,O,G,I,U,J,F⟩:=D.at i r;refine⟨l,0,p,rfl,?_,?_,?_,?_,?_,F⟩<;>rw[aV_ A,kN]<;>assumption
end Go.Am
namespace Go.Am
open List
open Go.Proofs
def hU_(fs:List InfoR):Prop:=fs.Pairwise λx y=>blt x.name y.name=true
def dL_(fs:List InfoR)(s:Y_):Nat:=fs.countP λf=>blt f.name s
theorem Ic_(fs:List InfoR)(s:Y_):dL_ fs s<=fs.length:=countP_le_length
theorem iO_:∀{fs:List InfoR}(h:hU_ fs)(s:Y_)(i:Nat)(hi:i<fs.length),blt fs[i].name s=true↔i<dL_ fs s
 |[],_,_,_,hi=>by grind
 | f::fs,h,s,i,hi=>by
  have r:=kW.1 h;unfold dL_;rw[countP_cons];cases e:blt f.name s with
  | true=>
   rw[if_pos rfl];cases i with
   |zero=>simp[e]
   |succ i=>
    have:=iO_ r.2 s i g_;simp;rw[this];unfold dL_;omega
  | false=>
   have A:fs.countP (λf=>blt f.name s)=0:=by
    rw[countP_eq_zero];intro x D q;rw[du_ (r.1 x D) q]at e;cases e
   rw[A];cases i with
   |zero=>simp[e]
   |succ i=>
    grind
section
variable{H:Hp}{Q:Post}
theorem lh_(r:Q (gI (Ci_ a b)) H):cT_ [(Iy_,fa_)] Iy_ [.agg [.str a,.int .i64 d,.str c,.str e,.sl p m 3],gS b] H Q:=by
 refine⟨1,?_⟩;rw[vA_];refine iK_ ?_;simp_all
theorem jN_ {a:Pl} {fs:List InfoR} {s:Y_} (h:dD_ H a fs) (ha:hU_ fs) (hn:fs.length<=1000)
 (hQ:Q (.tup [nN ((dL_ fs s:Nat):Int),.s (.bool (fs.any λf=>decide (f.name=s)))]) H):
 fI_ [nL a fs.length 5,gS s] H Q:=by
 refine⟨1,?_⟩;rw[zV_];refine⟨fs.length+2,?_⟩;rw[ey_];have go:∀(f i j:Nat),j-i<f->i<=dL_ fs s->dL_ fs s<=j->j<=fs.length->∀{R:Post},R (.tup [nN ((dL_ fs s:Nat):Int),.s (.bool (fs.any λf=>decide (f.name=s)))]) H->
  al_.l3 (cT_ [(Iy_,fa_)]) f a fs.length s Iy_ [] ((fs.length:Nat):Int) ((i:Nat):Int) ((j:Nat):Int) H R:=by
  intro f;induction f with
  |zero=>intro i j h;omega
  | succ f ih=>
   intro i j hf h1 h2 h3 R hR;rw[al_.l3_eq];refine aa_ (λe=>?_) λe=>?_
   ·have hij:i<j:=by simpa using e
    rw[Cr_ o_];have hm:(i+j) / 2<fs.length:=by omega
    refine ab_ rfl (ab_ s_ ?_);obtain⟨l,o,p,rfl,r1,r2,r3,r4,r5,_⟩:=h _ hm
    ·skip;have etn:∀ k:Nat,tN (k:Int)=k:=λ_=>rfl;simp only[ae_,etn];rw[ad_ r1,aq_,ad_ r2,ai_,ad_ r3,aq_,ad_ r4,aq_,ad_ r5];refine⟨.inr rfl,?_⟩;refine lh_ ?_;simp only[aN_,ai_];rw[D2_,ao_ o_];have hp:=iO_ ha s _ hm;refine aa_ (λe=>?_) (λe=>?_)
     .exact ih _ _ o_ (by have:=hp.1 e;omega) h2 h3 hR
     ·exact ih _ _ (by omega) h1 (by rw[e]at hp;have: ¬ (i+j) / 2<dL_ fs s:=λq=>by cases hp.2 q
                                     omega) o_ hR
   ·have hij: ¬ i<j:=by simpa using e
    have hi:i=dL_ fs s:=by omega
    subst hi;refine aa_ (λe=>?_) λe=>?_
    ·have hm:dL_ fs s<fs.length:=by simpa using e
     refine ab_ rfl (ab_ s_ ?_);obtain⟨l,o,p,rfl,r1,r2,r3,r4,r5,_⟩:=h _ hm
     ·skip;have etn:∀k:Nat,tN (k:Int)=k:=λ_=>rfl;simp only[ae_,etn];rw[ad_ r1,aq_,ad_ r2,ai_,ad_ r3,aq_,ad_ r4,aq_,ad_ r5];refine⟨.inr rfl,?_⟩;refine lh_ ?_;simp only[aN_,ai_];rw[EO_];have:decide (fs[dL_ fs s].name=s)=fs.any λf=>decide (f.name=s):=by
       rw[Bool.eq_iff_iff,any_eq_true];simp only[decide_eq_true_eq];refine⟨λe=>⟨_,kE hm,e⟩,fun⟨x,hx,e⟩=>?_⟩;obtain⟨k,hk,rfl⟩:=kK hx;have hk1:=iO_ ha s k hk;rw[e,bX_]at hk1;have hle:dL_ fs s<=k:=by
        refine Nat.le_of_not_lt λq=>?_;cases hk1.2 q
       rcases Nat.lt_or_eq_of_le hle with q|q
       .have hlt:=(kS.1 ha) _ _ hm hk q;rw[e]at hlt;have:=(iO_ ha s _ hm).1 hlt;omega
       .simp only[q];exact e
      rw[this];exact hR
    ·have hm: ¬ dL_ fs s<fs.length:=by simpa using e
     have:(fs.any λf=>decide (f.name=s))=false:=by
      rw[any_eq_false];intro x hx q;obtain⟨k,hk,rfl⟩:=kK hx;have hk1:=iO_ ha s k hk;have q':fs[k].name=s:=by simpa using q
      rw[q',bX_]at hk1;have: ¬ k<dL_ fs s:=λz=>by cases hk1.2 z
      omega
     rw[this]at hR;exact hR
 refine go _ 0 fs.length o_ (kP _) (Ic_ _ _) (kO _) ?_;simp only[aI_,aC_,bG_,ai_,am_,ba_];exact hQ
end
end Go.Am
namespace Go.Am
open List
def dx_ (is:List InfoR):Nat->Nat->Bool
 |0,_=>false
 | f+1,i=>match is[i]? with
  |none=>false
  |some x=>if x.parent=mkS [] then true else (is.any λy=>decide (y.name=x.parent))&&match is[dL_ is x.parent]? with
   |none=>false
   |some y=>eqI y.kind 2&&dx_ is f (dL_ is x.parent)
theorem Ix_(h:hU_ is)(A:(is.any λy=>decide (y.name=s))=true):dL_ is s<is.length:=by
 have⟨x,G,e⟩:=any_eq_true.1 A;have F:x.name=s:=by grind
 obtain⟨k,D,rfl⟩:=kK G;have r:=iO_ h s k D;rw[F,bX_]at r;grind
section
variable{H:Hp}{Q:Post}
theorem qf_ (h:dD_ H a is) (J:hU_ is) (Y:is.length<=1000) (hi:i<is.length) (A:Q (gB (dx_ is is.length i)) H):
 b4_ [nL a is.length 5,gI ((i:Nat):Int)] H Q:=by
 refine⟨is.length+2,?_⟩;rw[sm_];have I:∀k:Nat,tN (k:Int)=k:=λ_=>rfl;have go:∀(f i k),f=is.length-k->k<=is.length->i<is.length->Q (gB (dx_ is f i)) H->b4_.l2 (f+1) a is.length (i) (is.length) (k) H Q:=by
  intro f;induction f with
  |zero=>
   intro i k O V hi A;rw[b4_.l2_eq];refine aa_ (λe=>?_) λe=>A;have:k<is.length:=by simp_all
   omega
  | succ f U=>
   intro i k O V hi A;rw[b4_.l2_eq];refine aa_ (λe=>?_) λe=>?_
   ·refine ab_ rfl (ab_ s_ ?_);obtain⟨l,o,p,rfl,Z,r2,W,r4,r5,_⟩:=h _ hi;simp only[ae_,I];rw[ad_ W,aq_];rw[dx_,kG hi]at A;dsimp at A;refine aa_ (λe=>?_) (λe=>?_)
    .have G:is[i].parent=mkS []:=by simpa using e
     rw[if_pos G]at A;exact A
    ·have G: ¬ is[i].parent=mkS []:=by simpa using e
     rw[if_neg G]at A;refine jN_ h J Y ?_;simp only[aI_,aC_,bG_,ai_];refine aa_ (λe=>?_) λe=>?_
     .rw[show (is.any λy=>decide (y.name=is[i].parent))=false by simpa only[Bool.not_eq_true'] using e,Bool.false_and]at A;exact A
     .have N:(is.any λy=>decide (y.name=is[i].parent))=true:=by simpa using e
      have F:=Ix_ J N;rw[N,Bool.true_and,kG F]at A;dsimp at A;refine ab_ rfl (ab_ s_ ?_);obtain⟨l',o',p',q,_,D,_⟩:=h _ F;cases q;simp;rw[ad_ D,ai_];refine aa_ (λe=>?_) λe=>?_
      .rw[show eqI is[dL_ is is[i].parent].kind 2=false by simpa using e,Bool.false_and]at A;exact A
      .rw[show eqI is[dL_ is is[i].parent].kind 2=true by simpa using e,Bool.true_and]at A;rw[ao_ o_];exact U _ (k+1) o_ o_ F A
   .have: ¬ k<is.length:=by simpa using e
    omega
 exact go is.length i 0 o_ (kP _) hi A
end
def eA_(cl:Bool)(f:FileR):Bool:=a2_ f.1 3&&(leI (sz f.2.1) 6&& !(cl&&f.2.2))
def zL_{α:Type}(lt:α->α->Bool):List α->Bool
 |[]=>true
 |[_]=>true
 |x::y::l=>lt x y&&zL_ lt (y::l)
theorem pO_:∀{l:List α},zL_ lt l=true↔∀i (h:i+1<l.length),lt l[i] l[i+1]=true
 |[]=>⟨λ_ i h=>absurd h t_,λ_=>rfl⟩
 |[x]=>⟨λ_ i h=>absurd h t_,λ_=>rfl⟩
 | x::y::l=>by
  rw[zL_,kR,pO_];constructor
  .rintro⟨A,r⟩ i h;cases i with
   |zero=>exact A
   |succ i=>exact r i g_
  .exact λh=>⟨h 0 t_,λi D=>h (i+1) g_⟩
theorem DS_ (h:zL_ (λx y=>blt x.name y.name) fs=true):hU_ fs:=by
 rw[pO_]at h;unfold hU_;rw[kS];intro i j F D r;induction j with
 |zero=>omega
 |succ j A=>
  rcases Nat.lt_or_eq_of_le (Nat.le_of_lt_succ r) with q|q
  .exact du_ (A o_ q) (h j D)
  .grind
end Go.Am
namespace Go.Am
def cJ_ (cl:Bool) (fs:List FileR):Nat->Nat->Bool
 |0,_=>leI (fs.length:Int) 4
 |f+1,k=>match fs[k]? with
  |none=>false
  |some x=>eA_ cl x&&((match k with|0=>true|j+1=>match fs[j]? with|none=>false|some y=>blt y.1 x.1)&&cJ_ cl fs f (k+1))
section
variable{H:Hp}{Q:Post}
theorem rU_ {a:Pl} {fs:List FileR} {c:Bool} (h:fA_ H a fs) (hn:fs.length<=100000) (hs:∀f∈fs,f.1.size<=140737488351232) (hQ:Q (gB (cJ_ c fs fs.length 0)) H):
 bH_ [nL a fs.length 3,gB c] H Q:=by
 refine⟨fs.length+2,?_⟩;rw[u9_];have etn:∀k:Nat,tN (k:Int)=k:=λ_=>rfl;have go:∀(f k:Nat),f=fs.length-k->k<=fs.length->Q (gB (cJ_ c fs f k)) H->bH_.l2 (f+1) a fs.length c a fs.length ((fs.length:Nat):Int) ((k:Nat):Int) H Q:=by
  intro f;induction f with
  |zero=>
   intro k hf hk hQ;rw[bH_.l2_eq];refine aa_ (λe=>?_) λe=>hQ;have:k<fs.length:=by simpa using e
   omega
  | succ f ih=>
   intro k hf hk hQ;have hkl:k<fs.length:=by omega
   rw[bH_.l2_eq];refine aa_ (λe=>?_) λe=>?_
   ·refine ab_ rfl (ab_ s_ ?_);obtain⟨l,o,rfl,r1,r2,r3⟩:=h _ hkl;rw[cJ_,kG hkl]at hQ;dsimp only at hQ;simp only[ae_,etn];rw[ad_ r1,aq_,ad_ r2,aq_,ad_ r3,am_];refine f8_ (hs _ (kE hkl)) ?_;simp only[aN_,am_];refine aa_ (λe=>?_) (λe=>?_)
    .have e':a2_ fs[k].1 3=false:=by simpa only[Bool.not_eq_true'] using e
     rw[show eA_ c fs[k]=false by unfold eA_;rw[e',Bool.false_and],Bool.false_and]at hQ;exact hQ
    have e1:a2_ fs[k].1 3=true:=by simpa only[Bool.not_eq_false'] using e
    refine hq_ ?_;simp only[aN_,am_];refine aa_ (λe=>?_) λe=>?_
    .have e':leI (sz fs[k].2.1) 6=false:=by simpa only[Bool.not_eq_true'] using e
     rw[show eA_ c fs[k]=false by unfold eA_;rw[e',e1];rfl,Bool.false_and]at hQ;exact hQ
    have e2:leI (sz fs[k].2.1) 6=true:=by simpa only[Bool.not_eq_false'] using e
    have tail:eA_ c fs[k]=true->ck_ (ltI 0 ((k:Nat):Int)) (chk true (chk ((leI 0 (ac_ .i64 (((k:Nat):Int)-1)))&&(ltI (ac_ .i64 (((k:Nat):Int)-1)) ((fs.length:Nat):Int))) (rd H l ((o+((tN (ac_ .i64 (((k:Nat):Int)-1)))*3))+0) λv18=>
     dS v18 λs19=>ck_ (!(dI_ s19 fs[k].1)) (Q (gB false) H) (bH_.l2 (f+1) (some (l,o)) fs.length c (some (l,o)) fs.length ((fs.length:Nat):Int) (ac_ .i64 (((k:Nat):Int)+1)) H Q))))
     (bH_.l2 (f+1) (some (l,o)) fs.length c (some (l,o)) fs.length ((fs.length:Nat):Int) (ac_ .i64 (((k:Nat):Int)+1)) H Q):=λhok=>by
     rw[hok,Bool.true_and]at hQ;rw[ao_ o_];cases k with
     |zero=>
      refine aa_ (λe=>by simp at e) λe=>?_;dsimp only at hQ;rw[Bool.true_and]at hQ;exact ih 1 o_ o_ hQ
     |succ j=>
      refine aa_ (λe=>?_) (λe=>by simp at e);rw[eh_ o_];refine ab_ rfl (ab_ s_ ?_);have hj:j<fs.length:=by omega
      obtain⟨l',o',q,r1',_⟩:=h j hj;cases q;simp only[etn,kQ];rw[ad_ r1',aq_,kf_];dsimp only at hQ;rw[kG hj]at hQ;dsimp only at hQ;refine aa_ (λe=>?_) λe=>?_
      .rw[show blt fs[j].1 fs[j+1].1=false by unfold blt;simpa only[Bool.not_eq_true'] using e,Bool.false_and]at hQ;exact hQ
      .rw[show blt fs[j].1 fs[j+1].1=true by unfold blt;simpa only[Bool.not_eq_false'] using e,Bool.true_and]at hQ;exact ih (j+1+1) o_ o_ hQ
    refine aa_ (λec=>?_) λec=>?_
    .refine aa_ (λe=>?_) (λe=>?_)
     .rw[show eA_ c fs[k]=false by unfold eA_;rw[e1,e2,ec,e];rfl,Bool.false_and]at hQ;exact hQ
     .exact tail (by unfold eA_;rw[e1,e2,ec,e];rfl)
    .exact tail (by unfold eA_;rw[e1,e2,ec];rfl)
   .have: ¬ k<fs.length:=by simpa using e
    omega
 exact go fs.length 0 o_ (kP _) hQ
end
end Go.Am
namespace Go.Am
open List
def dc_(x:InfoR):Bool:=a2_ x.name 4&&((leI 0 x.kind&&leI x.kind 2)&&(leI (sz x.label) 3&&cJ_ (eqI x.kind 1) x.files x.files.length 0))
def gX_(is:List InfoR):Nat->Nat->Bool
 |0,_=>leI (is.length:Int) 6
 |f+1,k=>dx_ is is.length k&&gX_ is f (k+1)
def bx_ (is:List InfoR):Nat->Nat->Bool
 |0,_=>gX_ is is.length 0
 |f+1,k=>match is[k]? with
  |none=>false
  |some x=>dc_ x&&((match k with|0=>true|j+1=>match is[j]? with|none=>false|some y=>blt y.name x.name)&&bx_ is f (k+1))
section
variable{H:Hp}{Q:Post}
theorem rT_ (h:dD_ H a is) (A:hU_ is) (D:is.length<=1000):∀(f k:Nat),f=is.length-k->k<=is.length->Q (gB (gX_ is f k)) H->bu_.l8 (f+1) a is.length ((is.length:Nat):Int) ((k:Nat):Int) H Q:=by
 intro f;induction f with
 |zero=>
  intro k I F r;rw[bu_.l8_eq];refine aa_ (λe=>?_) λe=>r;have:k<is.length:=by simp_all
  omega
 | succ f G=>
  intro k I F r;rw[bu_.l8_eq];refine aa_ (λe=>?_) λe=>?_
  .refine qf_ h A D o_ ?_;rw[gX_]at r;refine aa_ (λe=>?_) (λe=>?_)
   .grind
   .rw[show dx_ is is.length k=true by simpa using e,Bool.true_and]at r;rw[ao_ o_];exact G (k+1) o_ o_ r
  .have: ¬ k<is.length:=by simpa using e
   omega
end
section
variable{H:Hp}{Q:Post}
theorem mG_ {a:Pl} {is:List InfoR} (h:dD_ H a is) (hn:is.length<=1000) (hs:∀x∈is,x.name.size<=140737488351232/\x.files.length<=100000/\∀f∈x.files,f.1.size<=140737488351232) (hQ:Q (gB (bx_ is is.length 0)) H):
 bu_ [nL a is.length 5] H Q:=by
 refine⟨is.length*2+3,?_⟩;rw[xK_];have etn:∀k:Nat,tN (k:Int)=k:=λ_=>rfl;have mono:∀(f k:Nat),bu_.l8 (is.length+1) a is.length ((is.length:Nat):Int) ((0:Nat):Int) H Q->True:=λ_ _ _=>trivial;have go:∀(f k:Nat),f=is.length-k->k<=is.length->(∀i (hi:i+1<is.length),i+1<k->blt is[i].name is[i+1].name=true)->Q (gB (bx_ is f k)) H->
  bu_.l2 (f+(is.length+2)) a is.length a is.length ((is.length:Nat):Int) ((k:Nat):Int) H Q:=by
  intro f;induction f with
  | zero=>
   intro k hf hk hp hQ;rw[show 0+(is.length+2)=(is.length+1)+1 by omega,bu_.l2_eq];refine aa_ (λe=>?_) λe=>?_
   .have:k<is.length:=by simpa using e
    omega
   .exact rT_ h (DS_ (pO_.2 λi hi=>hp i hi o_)) hn is.length 0 o_ (kP _) hQ
  | succ f ih=>
   intro k hf hk hp hQ;have hkl:k<is.length:=by omega
   rw[show f+1+(is.length+2)=(f+(is.length+2))+1 by omega,bu_.l2_eq];refine aa_ (λe=>?_) λe=>?_
   ·refine ab_ rfl (ab_ s_ ?_);obtain⟨l,o,p,rfl,r1,r2,r3,r4,r5,r6⟩:=h _ hkl;obtain⟨s1,s2,s3⟩:=hs _ (kE hkl);rw[bx_,kG hkl]at hQ;dsimp only at hQ;simp only[ae_,etn];rw[ad_ r1,aq_,ad_ r2,ai_,ad_ r3,aq_,ad_ r4,aq_,ad_ r5];refine⟨.inr rfl,?_⟩;refine e5_ s1 ?_;simp only[aN_,am_];refine aa_ (λe=>?_) (λe=>?_)
    .have e':a2_ is[k].name 4=false:=by simpa only[Bool.not_eq_true'] using e
     rw[show dc_ is[k]=false by unfold dc_;rw[e',Bool.false_and],Bool.false_and]at hQ;exact hQ
    have e1:a2_ is[k].name 4=true:=by simpa only[Bool.not_eq_false'] using e
    refine oy_ ?_;simp only[aN_,am_];refine aa_ (λe=>?_) λe=>?_
    .have e':(leI 0 is[k].kind&&leI is[k].kind 2)=false:=by simpa only[Bool.not_eq_true'] using e
     rw[show dc_ is[k]=false by unfold dc_;rw[e1,e',Bool.false_and,Bool.true_and],Bool.false_and]at hQ;exact hQ
    have e2:(leI 0 is[k].kind&&leI is[k].kind 2)=true:=by simpa only[Bool.not_eq_false'] using e
    refine i2_ ?_;simp only[aN_,am_];refine aa_ (λe=>?_) λe=>?_
    .have e':leI (sz is[k].label) 3=false:=by simpa only[Bool.not_eq_true'] using e
     rw[show dc_ is[k]=false by unfold dc_;rw[e1,e2,e'];rfl,Bool.false_and]at hQ;exact hQ
    have e3:leI (sz is[k].label) 3=true:=by simpa only[Bool.not_eq_false'] using e
    refine rU_ r6 s2 s3 ?_;simp only[aN_,am_];have eq:dc_ is[k]=cJ_ (eqI is[k].kind 1) is[k].files is[k].files.length 0:=by unfold dc_;rw[e1,e2,e3];rfl
    rw[eq]at hQ;refine aa_ (λe=>?_) λe=>?_
    .rw[show cJ_ (eqI is[k].kind 1) is[k].files is[k].files.length 0=false by simpa only[Bool.not_eq_true'] using e,Bool.false_and]at hQ;exact hQ
    rw[show cJ_ (eqI is[k].kind 1) is[k].files is[k].files.length 0=true by simpa only[Bool.not_eq_false'] using e,Bool.true_and]at hQ;rw[ao_ o_];cases k with
    |zero=>
     refine aa_ (λe=>by simp at e) λe=>?_;dsimp only at hQ;rw[Bool.true_and]at hQ;exact ih 1 o_ o_ (λi hi h=>by omega) hQ
    | succ j=>
     refine aa_ (λe=>?_) (λe=>by simp at e);rw[eh_ o_];refine ab_ rfl (ab_ s_ ?_);have hj:j<is.length:=by omega
     obtain⟨l',o',p',q,r1',_⟩:=h j hj;cases q;simp only[etn,kQ];rw[ad_ r1',aq_,kf_];dsimp only at hQ;rw[kG hj]at hQ;dsimp only at hQ;refine aa_ (λe=>?_) λe=>?_
     .rw[show blt is[j].name is[j+1].name=false by unfold blt;simpa only[Bool.not_eq_true'] using e,Bool.false_and]at hQ;exact hQ
     ·have hb:blt is[j].name is[j+1].name=true:=by unfold blt;simpa only[Bool.not_eq_false'] using e
      rw[hb,Bool.true_and]at hQ;refine ih (j+1+1) o_ o_ (λi hi h=>?_) hQ;by_cases c:i+1<j+1
      .exact hp i hi c
      .have:i=j:=by omega
       subst this;exact hb
   .have: ¬ k<is.length:=by simpa using e
    omega
 have:=go is.length 0 o_ (kP _) (λi hi h=>by omega) hQ;rw[show is.length+(is.length+2)=is.length*2+2 by omega]at this;exact this
end
section
variable{H:Hp}{Q:Post}
theorem xU_ (h:dD_ H a is) (Y:is.length<=1000)
 (V:∀i (hi:i<is.length),is[i].name=s->(∀j (A:j<is.length),j<i->is[j].name≠s)->Q (gI ((i:Nat):Int)) H)
 (J:(∀j (A:j<is.length),is[j].name≠s)->Q (gI (-1)) H):ci_ [nL a is.length 5,gS s] H Q:=by
 refine⟨is.length+2,?_⟩;rw[BG_];have W:∀k:Nat,tN (k:Int)=k:=λ_=>rfl;have go:∀(f k),f=is.length-k->k<=is.length->(∀j A,j<k->is[j].name≠s)->ci_.l2 (f+1) a is.length s (k) H Q:=by
  intro f;induction f with
  |zero=>
   intro k I N F;rw[ci_.l2_eq];refine aa_ (λe=>?_) λe=>J λj A=>F j A o_;have:k<is.length:=by simpa using e
   omega
  | succ f O=>
   intro k I N F;have D:k<is.length:=by omega
   rw[ci_.l2_eq];refine aa_ (λe=>?_) λe=>?_
   ·refine ab_ rfl (ab_ s_ ?_);obtain⟨l,o,p,rfl,U,_⟩:=h _ D;simp[ae_];rw[ad_ U,aq_];refine aa_ (λe=>?_) (λe=>?_)
    .exact V k D (by simpa using e) F
    .rw[ao_ o_];refine O (k+1) o_ o_ λj A G=>?_;rcases Nat.lt_or_eq_of_le (Nat.le_of_lt_succ G) with q|q
     .exact F j A q
     .subst q;simpa using e
   .have: ¬ k<is.length:=by simpa using e
    omega
 grind
end
end Go.Am
namespace Go.Am
def jo_ (is:List InfoR):Nat->Y_->Bool
 |0,p=>decide (p=mkS [])
 |f+1,p=>if p=mkS [] then true else (is.any λy=>decide (y.name=p))&&match is[dL_ is p]? with
  |none=>false
  |some y=>eqI y.kind 2&&jo_ is f y.parent
theorem z7_(h:hU_ is)(hi:i<is.length):dL_ is is[i].name=i:=by
 have D:=iO_ h is[i].name i hi;rw[bX_]at D;have r:dL_ is is[i].name<=i:=Nat.le_of_not_lt λq=>by grind
 rcases Nat.lt_or_eq_of_le r with q|q
 .have A:=(kS.1 h) _ _ o_ hi q;have:=(iO_ h is[i].name _ o_).1 A;omega
 .exact q
theorem wT_(h:hU_ is)(D:(is.any λy=>decide (y.name=s))=true):∃F:dL_ is s<is.length,is[dL_ is s].name=s:=by
 have⟨x,A,e⟩:=List.any_eq_true.1 D;obtain⟨k,r,rfl⟩:=kK A;have:=z7_ h r;grind
theorem oU_:∀(f i:Nat)(hi:i<is.length),dx_ is (f+1) i=jo_ is f is[i].parent
 | 0,i,hi=>by
  rw[dx_,jo_,kG hi];by_cases e:is[i].parent=mkS []
  .grind
  .simp;cases is[dL_ is is[i].parent]? with
   |none=>simp
   |some y=>simp[dx_]
 | f+1,i,hi=>by
  rw[dx_,jo_,kG hi];dsimp;by_cases e:is[i].parent=mkS []
  .grind
  .by_cases r:dL_ is is[i].parent<is.length
   .rw[kG r,oU_ f _ r]
   .grind
theorem D3_(a b:Y_):(dI_ a b||eq_ a b)= !(blt b a):=by
 rw[kf_,oA_];change (blt a b||decide (a=b))= !(blt b a);rcases gQ_ a b with⟨A,r,D⟩|⟨A,r,D⟩|⟨A,r,D⟩
 .grind
 .grind
 .grind
theorem sD_ {cl:Bool}:∀(f k:Nat),cJ_ cl fs f k=true->leI (fs.length:Int) 4=true
 |0,_,h=>h
 | f+1,k,h=>by
  rw[cJ_]at h;cases r:fs[k]? with
  |none=>rw[r]at h;cases h
  |some x=>
   rw[r]at h;simp at h;exact sD_ f _ h.2.2
section
variable{H:Hp}{Q:Post}
theorem g3_(h:dD_ H a is)(G:hU_ is)(F:is.length<=1000)
 (I:(is.any λy=>decide (y.name=s))=true->Q (gI ((dL_ is s:Nat):Int)) H)
 (D:(is.any λy=>decide (y.name=s))=false->Q (gI (-1)) H):ci_ [nL a is.length 5,gS s] H Q:=by
 refine xU_ h F (λi r e _=>?_) λq=>?_
 .have:=z7_ G r;grind
 .refine D ?_;rw[List.any_eq_false];intro x A;obtain⟨j,J,rfl⟩:=kK A;grind
theorem ux_ (h:dD_ H a is) (G:hU_ is) (U:is.length<=1000):∀(f s:Nat)(p:Y_),s+f=7->Q (gB (jo_ is f p)) H->∀m,aT_.l11 (f+1+m) a is.length p ((s:Nat):Int) H Q:=by
 have F:∀k:Nat,tN (k:Int)=k:=λ_=>rfl;intro f;induction f with
 | zero=>
  intro s p W A m;rw[show 0+1+m=m+1 by omega,aT_.l11_eq];rw[jo_]at A;refine aa_ (λe=>?_) λe=>?_
  .have I: ¬ p=mkS []:=by simpa using e
   have e2:decide (p=mkS [])=false:=by simpa
   rw[e2]at A;refine g3_ h G U (λD=>?_) λD=>?_
   .simp only[aN_,ai_];have⟨J,_⟩:=wT_ G D;refine aa_ (λe=>A) λe=>?_;refine ab_ rfl (ab_ s_ ?_);obtain⟨l,o,q,rfl,V,N,O,Z,Y,_⟩:=h _ J;simp only[ae_,F];rw[ad_ N,ai_];refine aa_ (λe=>A) λe=>?_;simp_all
   .simp only[aN_,ai_];refine aa_ (λe=>A) (λe=>by simp at e)
  .simp_all
 | succ f ih=>
  intro s p W A m;rw[show f+1+1+m=(f+1+m)+1 by omega,aT_.l11_eq];rw[jo_]at A;refine aa_ (λe=>?_) λe=>?_
  ·have I: ¬ p=mkS []:=by simpa using e
   rw[if_neg I]at A;refine g3_ h G U (λD=>?_) λD=>?_
   ·simp only[aN_,ai_];obtain⟨J,_⟩:=wT_ G D;rw[D,Bool.true_and,kG J]at A;dsimp at A;refine aa_ (λe=>?_) (λe=>?_)
    .simp at e;omega
    refine ab_ rfl (ab_ s_ ?_);obtain⟨l,o,q,rfl,V,N,O,Z,Y,_⟩:=h _ J;simp only[ae_,F];rw[ad_ N,ai_];refine aa_ (λe=>?_) λe=>?_
    .grind
    rw[show eqI is[dL_ is p].kind 2=true by simpa only[Bool.not_eq_false'] using e,Bool.true_and]at A;refine aa_ (λe=>?_) λe=>?_
    .have:(6:Int)<s:=by simpa using e
     omega
    refine ab_ rfl (ab_ s_ ?_);rw[ad_ O,aq_,ao_ o_];exact ih (s+1) _ o_ A m
   .simp_all
  .have I:p=mkS []:=by simpa using e
   rw[if_pos I]at A;exact A
theorem qk_ {a p:Pl} {is:List InfoR} {x:InfoR} (h:dD_ H a is) (ha:hU_ is) (hn:is.length<=1000) (hf:fA_ H p x.files) (hfn:x.files.length<=100000) (hs:x.name.size<=140737488351232) (hs2:∀f∈x.files,f.1.size<=140737488351232)
 (hQ:Q (gB (dc_ x&&jo_ is 7 x.parent)) H):
 aT_ [nL a is.length 5,.agg [.str x.name,.int .i64 x.kind,.str x.parent,.str x.label,.sl p x.files.length 3]] H Q:=by
 refine⟨x.files.length+10+1,?_⟩;rw[sf_];have etn:∀k:Nat,tN (k:Int)=k:=λ_=>rfl;refine cF_ hs ?_;simp only[aN_,am_];refine aa_ (λe=>?_) λe=>?_
 .rw[show dc_ x=false by unfold dc_;rw[show a2_ x.name 4=false by simpa only[Bool.not_eq_true'] using e,Bool.false_and],Bool.false_and]at hQ;exact hQ
 have e1:a2_ x.name 4=true:=by simpa only[Bool.not_eq_false'] using e
 refine aa_ (λe=>?_) λe=>?_
 .rw[show dc_ x=false by unfold dc_;rw[show leI 0 x.kind=false by simp at e ⊢;omega];simp,Bool.false_and]at hQ;exact hQ
 have e2:leI 0 x.kind=true:=by simp at e ⊢;omega
 refine aa_ (λe=>?_) λe=>?_
 .rw[show dc_ x=false by unfold dc_;rw[show leI x.kind 2=false by simp at e ⊢;omega];simp,Bool.false_and]at hQ;exact hQ
 have e3:leI x.kind 2=true:=by simp at e ⊢;omega
 refine aa_ (λe=>?_) λe=>?_
 .rw[show dc_ x=false by unfold dc_;rw[show leI (sz x.label) 3=false by simp at e ⊢;omega];simp,Bool.false_and]at hQ;exact hQ
 have e4:leI (sz x.label) 3=true:=by simp at e ⊢;omega
 have eq:dc_ x=cJ_ (eqI x.kind 1) x.files x.files.length 0:=by unfold dc_;rw[e1,e2,e3,e4];rfl
 rw[eq]at hQ;refine aa_ (λe=>?_) λe=>?_
 ·have:cJ_ (eqI x.kind 1) x.files x.files.length 0=false:=by
   cases hff:cJ_ (eqI x.kind 1) x.files x.files.length 0 with
   |false=>rfl
   |true=>
    have:=sD_ _ _ hff;simp at e this;omega
  rw[this,Bool.false_and]at hQ;exact hQ
 have e5:leI (x.files.length:Int) 4=true:=by simp at e ⊢;omega
 have go:∀(f k:Nat),f=x.files.length-k->k<=x.files.length->Q (gB (cJ_ (eqI x.kind 1) x.files f k&&jo_ is 7 x.parent)) H->
  aT_.l4 (f+10) a is.length x.name x.kind x.parent x.label p x.files.length ((k:Nat):Int) H Q:=by
  intro f;induction f with
  | zero=>
   intro k hf' hk hQ;rw[show 0+10=9+1 by omega,aT_.l4_eq];refine aa_ (λe=>?_) λe=>?_
   .have:k<x.files.length:=by simpa using e
    omega
   .rw[cJ_,e5,Bool.true_and]at hQ;exact ux_ h ha hn 7 0 _ rfl hQ 1
  | succ f ih=>
   intro k hf' hk hQ;have hkl:k<x.files.length:=by omega
   rw[show f+1+10=(f+10)+1 by omega,aT_.l4_eq];refine aa_ (λe=>?_) (λe=>by simp at e;omega);refine ab_ rfl (ab_ s_ ?_);obtain⟨l,o,rfl,r1,r2,r3⟩:=hf _ hkl;rw[cJ_,kG hkl]at hQ;dsimp only at hQ;simp only[ae_,etn];rw[ad_ r1,aq_,ad_ r2,aq_,ad_ r3,am_];refine fR_ (hs2 _ (kE hkl)) ?_;simp only[aN_,am_];refine aa_ (λe=>?_) λe=>?_
   .rw[show eA_ (eqI x.kind 1) x.files[k]=false by unfold eA_;rw[show a2_ x.files[k].1 3=false by simpa only[Bool.not_eq_true'] using e,Bool.false_and],Bool.false_and,Bool.false_and]at hQ;exact hQ
   have e6:a2_ x.files[k].1 3=true:=by simpa only[Bool.not_eq_false'] using e
   refine aa_ (λe=>?_) λe=>?_
   .rw[show eA_ (eqI x.kind 1) x.files[k]=false by unfold eA_;rw[show leI (sz x.files[k].2.1) 6=false by simp at e ⊢;omega];simp,Bool.false_and,Bool.false_and]at hQ;exact hQ
   have e7:leI (sz x.files[k].2.1) 6=true:=by simp at e ⊢;omega
   have tail:eA_ (eqI x.kind 1) x.files[k]=true->ck_ (ltI 0 ((k:Nat):Int)) (chk true (chk ((leI 0 (ac_ .i64 (((k:Nat):Int)-1)))&&(ltI (ac_ .i64 (((k:Nat):Int)-1)) (nI x.files.length))) (
    rd H l ((o+((tN (ac_ .i64 (((k:Nat):Int)-1)))*3))+0) λv18=>
    dS v18 λs19=>ck_ ((dI_ x.files[k].1 s19)||(eq_ x.files[k].1 s19)) (Q (gB false) H)
     (aT_.l4 (f+10) a is.length x.name x.kind x.parent x.label (some (l,o)) x.files.length (ac_ .i64 (((k:Nat):Int)+1)) H Q))))
    (aT_.l4 (f+10) a is.length x.name x.kind x.parent x.label (some (l,o)) x.files.length (ac_ .i64 (((k:Nat):Int)+1)) H Q):=λhok=>by
    rw[hok,Bool.true_and]at hQ;rw[ao_ o_];cases k with
    |zero=>
     refine aa_ (λe=>by simp at e) λe=>?_;dsimp only at hQ;rw[Bool.true_and]at hQ;exact ih 1 o_ o_ hQ
    |succ j=>
     refine aa_ (λe=>?_) (λe=>by simp at e);rw[eh_ o_];refine ab_ rfl (ab_ s_ ?_);have hj:j<x.files.length:=by omega
     obtain⟨l',o',q,r1',_⟩:=hf j hj;cases q;simp only[etn,kQ];rw[ad_ r1',aq_,D3_];dsimp only at hQ;rw[kG hj]at hQ;dsimp only at hQ;refine aa_ (λe=>?_) λe=>?_
     .rw[show blt x.files[j].1 x.files[j+1].1=false by simpa only[Bool.not_eq_true'] using e,Bool.false_and,Bool.false_and]at hQ;exact hQ
     .rw[show blt x.files[j].1 x.files[j+1].1=true by simpa only[Bool.not_eq_false'] using e,Bool.true_and]at hQ;exact ih (j+1+1) o_ o_ hQ
   refine aa_ (λeo=>?_) λeo=>?_
   .refine aa_ (λe=>?_) (λe=>?_)
    .rw[show eA_ (eqI x.kind 1) x.files[k]=false by unfold eA_;rw[e6,e7,eo,e];rfl,Bool.false_and,Bool.false_and]at hQ;exact hQ
    .exact tail (by unfold eA_;rw[e6,e7,eo,e];rfl)
   .exact tail (by unfold eA_;rw[e6,e7,eo];simp)
 exact go _ 0 rfl (kP _) hQ
end
end Go.Am
namespace Go.Am
open List
theorem yN_ {α:Type} {p q:α->Bool}:∀{l:List α},(∀x∈l,p x=true->q x=true)->(∃x∈l,q x=true/\p x=false)->l.countP p<l.countP q
 |[],_,⟨x,h,_⟩=>by grind
 |y::l,A,G=>by
  have I:l.countP p<=l.countP q:=countP_mono_left λx r=>A x g_;have⟨x,r,D,F⟩:=G;rcases kU.1 r with rfl|r
  .grind
  .have:=yN_ (λx r=>A x g_) ⟨x,r,D,F⟩;grind
theorem tw_:∀(f i:Nat),dx_ is f i=true->dx_ is (f+1) i=true
 |0,i,h=>by cases h
 | f+1,i,h=>by
  rw[dx_]at h ⊢;cases D:is[i]? with
  |none=>rw[D]at h;cases h
  | some x=>
   rw[D]at h;dsimp at h ⊢;by_cases e:x.parent=mkS []
   .grind
   ·rw[if_neg e]at h ⊢;rw[kR]at h ⊢;refine⟨h.1,?_⟩;have r:=h.2;cases A:is[dL_ is x.parent]? with
    |none=>rw[A]at r;cases r
    |some y=>
     rw[A]at r;rw[kR]at r ⊢;exact⟨r.1,tw_ f _ r.2⟩
theorem qB_ (r:f<=g) (h:dx_ is f i=true):dx_ is g i=true:=by
 induction g with
 | zero=>have:f=0:=by omega
         grind
 |succ g A=>
  rcases Nat.lt_or_eq_of_le r with q|q
  .exact tw_ g i (A o_)
  .grind
theorem D1_ (h:dx_ is f i=true):i<is.length:=by
 cases f with
 |zero=>cases h
 |succ f=>
  rw[dx_]at h;grind
theorem FE_ (r:dx_ is (f+2) i=true) (D:dx_ is (f+1) i=false):∃j,dx_ is (f+1) j=true/\dx_ is f j=false:=by
 rw[dx_]at r D;cases A:is[i]? with
 |none=>rw[A]at r;cases r
 |some x=>
  grind
theorem yV_:∀(f i:Nat),dx_ is (f+1) i=true->dx_ is f i=false->f+1<=(List.range is.length).countP (dx_ is (f+1))
 |0,i,r,_=>countP_pos_iff.2 ⟨i,mem_range.2 (D1_ r),r⟩
 |f+1,i,r,A=>by
  have⟨j,G,D⟩:=FE_ r A;have I:=yV_ f j G D;have:=yN_ (q:=dx_ is (f+2)) (λx _ F=>tw_ _ _ F) ⟨i,mem_range.2 (D1_ r),r,A⟩;grind
theorem w8_:∀(m i:Nat),dx_ is m i=true->dx_ is is.length i=true
 |0,i,h=>by cases h
 | m+1,i,h=>by
  by_cases A:m+1<=is.length
  .exact qB_ A h
  ·cases r:dx_ is m i with
   |true=>exact w8_ m i r
   |false=>
    have D:=yV_ m i h r;have F:(List.range is.length).countP (dx_ is (m+1))<=(List.range is.length).length:=countP_le_length;grind
theorem Dx_ (A:is.length<=6) (i:Nat):dx_ is 8 i=dx_ is is.length i:=by
 cases h:dx_ is is.length i with
 |true=>exact qB_ o_ h
 |false=>
  cases r:dx_ is 8 i with
  |false=>rfl
  |true=>rw[w8_ 8 i r]at h;cases h
theorem jG_:∀(f k:Nat),f=is.length-k->k<=is.length->(gX_ is f k=true↔(∀j,k<=j->j<is.length->dx_ is is.length j=true)/\leI (is.length:Int) 6=true)
 |0,k,A,r=>by
  rw[gX_];grind
 |f+1,k,A,r=>by
  rw[gX_,kR,jG_ f (k+1) o_ o_];grind
theorem kP_:∀(f k:Nat),bx_ is f k=true->gX_ is is.length 0=true
 |0,_,h=>h
 | f+1,k,h=>by
  rw[bx_]at h;cases r:is[k]? with
  |none=>rw[r]at h;cases h
  |some x=>
   rw[r]at h;simp at h;exact kP_ f _ h.2.2
section
variable{H:Hp}{Q:Post}
theorem ff_ {a:Pl} {is:List InfoR} (h:dD_ H a is) (ha:hU_ is) (hn:is.length<=1000) (hs:∀x∈is,x.name.size<=140737488351232/\x.files.length<=100000/\∀f∈x.files,f.1.size<=140737488351232) (hQ:Q (gB (bx_ is is.length 0)) H):
 a3_ [nL a is.length 5] H Q:=by
 refine⟨is.length+2,?_⟩;rw[pN_];have etn:∀k:Nat,tN (k:Int)=k:=λ_=>rfl;refine aa_ (λe=>?_) λe=>?_
 ·have:bx_ is is.length 0=false:=by
   cases hi:bx_ is is.length 0 with
   |false=>rfl
   |true=>
    have:=(jG_ (is:=is) _ 0 rfl (kP _)).1 (kP_ _ _ hi);have h6:=this.2;simp at e h6;omega
  rw[this]at hQ;exact hQ
 have h6:is.length<=6:=by simp at e;omega
 have go:∀(f k:Nat),f=is.length-k->k<=is.length->(∀j,j<k->dx_ is is.length j=true)->Q (gB (bx_ is f k)) H->
  a3_.l4 (f+1) a is.length ((k:Nat):Int) H Q:=by
  intro f;induction f with
  | zero=>
   intro k hf hk hr hQ;rw[a3_.l4_eq];refine aa_ (λe=>?_) λe=>?_
   .have:k<is.length:=by simpa using e
    omega
   .have:bx_ is 0 k=true:=(jG_ (is:=is) _ 0 rfl (kP _)).2 ⟨λj _ hj=>hr j o_,s_⟩;rw[this]at hQ;exact hQ
  | succ f ih=>
   intro k hf hk hr hQ;have hkl:k<is.length:=by omega
   rw[a3_.l4_eq];refine aa_ (λe=>?_) (λe=>by simp at e;omega);refine ab_ rfl (ab_ s_ ?_);obtain⟨l,o,p,rfl,r1,r2,r3,r4,r5,r6⟩:=h _ hkl;obtain⟨s1,s2,s3⟩:=hs _ (kE hkl);simp only[ae_,etn];rw[ad_ r1,aq_,ad_ r2,ai_,ad_ r3,aq_,ad_ r4,aq_,ad_ r5];refine⟨.inr rfl,?_⟩;refine qk_ h ha hn r6 s2 s1 s3 ?_;simp only[aN_,am_];have hw:jo_ is 7 is[k].parent=dx_ is is.length k:=by rw[<-oU_ 7 k hkl,Dx_ h6]
   rw[hw];refine aa_ (λe=>?_) λe=>?_
   ·have e':(dc_ is[k]&&dx_ is is.length k)=false:=by simpa only[Bool.not_eq_true'] using e
    have:bx_ is (f+1) k=false:=by
     cases hi:bx_ is (f+1) k with
     |false=>rfl
     |true=>
      have hroot:=((jG_ (is:=is) _ 0 rfl (kP _)).1 (kP_ _ _ hi)).1 k (kP _) hkl;rw[bx_,kG hkl]at hi;dsimp only at hi;rw[kR]at hi;rw[hi.1,hroot]at e';cases e'
    rw[this]at hQ;exact hQ
   ·have e':(dc_ is[k]&&dx_ is is.length k)=true:=by simpa only[Bool.not_eq_false'] using e
    rw[kR]at e';rw[bx_,kG hkl]at hQ;dsimp only at hQ;rw[e'.1,Bool.true_and]at hQ;have hr':∀j,j<k+1->dx_ is is.length j=true:=λj hj=>by
     rcases Nat.lt_or_eq_of_le (Nat.le_of_lt_succ hj) with q|q
     .exact hr j q
     .subst q;exact e'.2
    rw[ao_ o_];cases k with
    |zero=>
     refine aa_ (λe=>by simp at e) λe=>?_;dsimp only at hQ;rw[Bool.true_and]at hQ;exact ih 1 o_ o_ hr' hQ
    |succ j=>
     refine aa_ (λe=>?_) (λe=>by simp at e);refine ab_ rfl (ab_ s_ ?_);simp only[ae_,etn,kQ];rw[ad_ r1,aq_,eh_ o_];refine ab_ rfl (ab_ s_ ?_);have hj:j<is.length:=by omega
     obtain⟨l',o',p',q,r1',_⟩:=h j hj;cases q;simp only[etn,kQ];rw[ad_ r1',aq_,D3_];dsimp only at hQ;rw[kG hj]at hQ;dsimp only at hQ;have hb:blt is[j].name is[j+1].name=true:=(kS.1 ha) _ _ hj hkl (Nat.lt_succ_self _);rw[hb,Bool.true_and]at hQ;rw[hb];exact ih (j+1+1) o_ o_ hr' hQ
 exact go _ 0 rfl (kP _) (λj hj=>by omega) hQ
end
section
variable{B H:Hp}{t:TypeId}{ps:KV}{lf lt:Nat}{lo hi:Y_}{Q:Post}
theorem qZ_ (g:SJ B H t ps) (O:gt B lf 0=some (.str lo)) (F:gt B lt 0=some (.str hi)) (G:ps.length<=1000) (k v:Y_)
 (I:∀H',SJ B H' t (ps++[(k,v)].filter (inR lo hi))->Q (.tup []) H'):ev_ [.agg [.str k,.str v],yQ lf,yQ lt,yQ B.length] H Q:=by
 have D:inR lo hi (k,v)=false->Q (.tup []) H:=λe=>I H g_;have r:inR lo hi (k,v)=true->∀H',SJ B H' t (ps++[(k,v)])->Q (.tup []) H':=λe H' U=>I H' g_;rw[Jd_]at D r;refine⟨1,?_⟩;rw[uN_,ad_ (b9_ g.pre O),aq_,hP_];refine aa_ (λe=>?_) λe=>D g_;rw[ad_ (b9_ g.pre F),aq_];refine aa_ (λN=>?_) λN=>?_
 .have A:hi=mkS []:=by simp_all
  exact g.add k v G (r g_)
 .have A: ¬ hi=mkS []:=by simp_all
  rw[ad_ (b9_ g.pre F),aq_,hP_];refine aa_ (λJ=>?_) λJ=>?_
  .exact g.add k v G (r g_)
  .grind
end
section
variable{H0 B:Hp}{x:Pl}{cs:List PC}{T:List Pg}{t:TypeId}{lp lf lt gf:Nat}{lo hi:Y_}{E:Nat->Sm}
theorem w0_ (hT:Tr H0 x 48 cs T) (h0B:H0<+:B) (hlp:gt B lp 0=some (.sl x 48 5)) (hf:gt B lf 0=some (.str lo)) (ht:gt B lt 0=some (.str hi)) (hE:E gf=ev_):
 ∀(f at_:Nat)(H:Hp)(Q:Post)(ps:KV),WfT T f at_->at_<48->SJ B H t ps->ps.length+(allD T f at_).length<=1000->(∀H',SJ B H' t (ps++(allD T f at_).filter (inR lo hi))->Q (.tup []) H')->
  bg_.at E f [yQ lp,gI (at_:Int),.g (.fn gf [(lf,0),(lt,0),(B.length,0)])] H Q:=by
 intro f;induction f with
 |zero=>intro _ _ _ _ h;exact h.elim
 | succ f ih=>
  intro at_ H Q ps hg hat g hb hQ
  obtain⟨p,hp,hm,hkids⟩:=hg;obtain⟨l,o,c,p',rfl,hc,hp',hpc,g0,g1,g2,g3,g4⟩:=hT.get hat;rw[hp]at hp';cases hp';obtain⟨hv1,hv2⟩:=Bs_ hm;have hswap:p.keys.zip p.vals++(p.kids.flatMap λk=>allD T f k.toNat)=(p.kids.flatMap λk=>allD T f k.toNat)++p.keys.zip p.vals:=by
   cases hl:p.leaf with
   |true=>rw[(hm.2.leaf hl).2.1];simp
   |false=>rw[(hm.2.inner hl).2.1];simp
  rw[Ek_ hp,hswap]at hb hQ;rw[kI,hv2]at hb;have hn1:=hpc.keys.len;have hn2:=hpc.vals.len;have hn3:=hpc.kids.len;have hl3:=hpc.kids.lim;have hl2:=hpc.vals.lim;have k48:∀k∈p.kids,1<=k/\k<48:=λk hk=>by
   cases hlf:p.leaf with
   |true=>rw[(hm.2.leaf hlf).2.1]at hk;simp at hk
   |false=>exact (hm.2.inner hlf).2.2.2.1 k hk
  have etN:tN (at_:Int)=at_:=rfl
  have l7:∀(F i:Nat)(H:Hp)(qs:KV),p.vals.length-i<F->i<=p.vals.length->SJ B H t qs->qs.length+(p.vals.length-i)<=1000->qs++((p.keys.zip p.vals).drop i).filter (inR lo hi)=ps++((p.kids.flatMap λk=>allD T f k.toNat)++p.keys.zip p.vals).filter (inR lo hi)->
   bg_.l7 E (bg_.at E f) F gf [(lf,0),(lt,0),(B.length,0)] l (o+at_*5) c.a2 c.n2 (nI c.n2) (i:Int) H Q:=by
   intro F;induction F with
   |zero=>intro i _ _ h;omega
   | succ F ihF=>
    intro i H qs hF hi' g hb he;have hH:=h0B.trans g.pre;rw[bg_.l7_eq];by_cases hik:i<p.vals.length
    ·rw[ay_ s_,af_,(hpc.mono hH).vals.rd i rfl hik,ad_ (v:= .sl c.a1 c.n1 1) (by exact b9_ hH g2),ah_,af_,(hpc.mono hH).keys.rd i rfl o_];have e:(p.keys.zip p.vals).drop i=(p.keys[i]'o_,p.vals[i])::(p.keys.zip p.vals).drop (i+1):=by
      rw[lB o_];simp
     rw[e]at he;rw[hE];refine qZ_ g hf ht o_ _ _ λH' g'=>?_;rw[ao_ o_];have hfl:([(p.keys[i]'o_,p.vals[i])].filter (inR lo hi)).length<=1:=length_filter_le _ _;refine ihF (i+1) H' _ o_ o_ g' (by rw[kI];omega) ?_;rw[kV,<-filter_append];exact he
    .rw[aA_ s_];rw[drop_of_length_le o_,filter_nil,append_nil]at he;subst he;exact hQ H g
  have l2:∀(F i:Nat)(H:Hp)(qs:KV),p.kids.length-i+p.vals.length+2<F->i<=p.kids.length->SJ B H t qs->qs.length+((p.kids.drop i).flatMap λk=>allD T f k.toNat).length+p.vals.length<=1000->
   qs++(((p.kids.drop i).flatMap λk=>allD T f k.toNat)++p.keys.zip p.vals).filter (inR lo hi)=ps++((p.kids.flatMap λk=>allD T f k.toNat)++p.keys.zip p.vals).filter (inR lo hi)->
   bg_.l2 E (bg_.at E f) F (some (lp,0)) gf [(lf,0),(lt,0),(B.length,0)] l (o+at_*5) c.a3 c.n3 (nI c.n3) (i:Int) H Q:=by
   intro F;induction F with
   |zero=>intro i _ _ h;omega
   | succ F ihF=>
    intro i H qs hF hi' g hb he;have hH:=h0B.trans g.pre;rw[bg_.l2_eq];by_cases hik:i<p.kids.length
    .rw[B8_ p.kids i hik]at hb he;rw[kI]at hb;have hmem:=kE hik;have hk:=k48 _ hmem;have ek:p.kids[i]=((p.kids[i].toNat:Nat):Int):=by omega
     rw[ay_ s_,af_,(hpc.mono hH).kids.rd i rfl hik];generalize hkk:p.kids[i]=kk at*;rw[ek];refine ih kk.toNat H _ qs (hkids kk hmem) o_ g o_ λH' g'=>?_;rw[ao_ o_];have hfl:((allD T f kk.toNat).filter (inR lo hi)).length<=(allD T f kk.toNat).length:=length_filter_le _ _;refine ihF (i+1) H' _ o_ o_ g' (by rw[kI];omega) ?_;rw[kV,<-filter_append,<-kV (allD T f kk.toNat)];exact he
    .rw[aA_ s_,ad_ (v:= .sl c.a2 c.n2 1) (by exact b9_ hH g3),ah_];rw[drop_of_length_le o_,flatMap_nil,nil_append]at he;rw[drop_of_length_le o_]at hb;exact l7 F 0 H qs o_ o_ g (by simp at hb;omega) (by rw[drop_zero];exact he)
  have hH:=h0B.trans g.pre;refine⟨p.vals.length+p.kids.length+4,?_⟩;rw[zN_,ae_,ad_ (v:= .sl (some (l,o)) 48 5) (by exact b9_ g.pre hlp),ah_,af_];refine ab_ s_ ?_;rw[ae_,etN,ad_ (v:= .sl c.a3 c.n3 1) (by exact b9_ hH g4),ah_];exact l2 _ 0 H ps o_ o_ g (by rw[drop_zero];omega) (by rw[drop_zero])
end
section
variable{H:Hp}{Q:Post}{x:Pl}{n:Nat}{cs:List PC}{T:List Pg}{lo hi:Y_}
theorem uC_ (J:Tr H x n cs T) (G:∀a m H',H<+:H'->Own H' H.length tKV a (m*2) (bW_ (um_ T lo hi))->(um_ T lo hi).length=m->Q (.tup [yR a m 2,nN (ko_ 1400 T)]) H'):hp_ [yA x n,gS lo,gS hi] H Q:=by
 refine⟨1,?_⟩;rw[x7_];simp only[fk_,d4_];generalize N:(((H++[Obj.row true tTr [.sl x n 5]])++[Obj.row true tS [.str lo]])++[Obj.row true tS [.str hi]])=B0;have F:H<+:B0:=by grind
 have U:gt B0 H.length 0=some (.sl x n 5):=by rw[<-N];simp[gt]
 have gf:gt B0 (H++[Obj.row true tTr [.sl x n 5]]).length 0=some (.str lo):=by rw[<-N];simp[gt]
 have O:gt B0 ((H++[Obj.row true tTr [.sl x n 5]])++[Obj.row true tS [.str lo]]).length 0=some (.str hi):=by rw[<-N];simp[gt]
 rw[ad_ U,ah_];refine io_ (J.mono F) λV r=>?_;simp only[aN_,am_];by_cases h:0<aK_ T
 ·have I:ko_ 1400 T=0:=by unfold ko_;rw[lE h]
  have D:ea_ T=cI_ T:=by unfold ea_;rw[lE h]
  rw[I]at G;rw[lE h,aA_ t_];have⟨st,s⟩:=SF.of h;have hn:n=48:=by have:=J.lenT;have:=s.len;omega
  subst hn;refine⟨49,w0_ (t:=KI_) (J.mono (F.trans r)) (k8 _) (b9_ r U) (b9_ r gf) (b9_ r O) (by rw[oJ_]) 49 0 _ _ [] s.good o_
   ⟨b8_ _ _,none,0,t_,.inl ⟨rfl,rfl,rfl⟩,rfl⟩ (by have:=s.ents.2.2.2;unfold cI_ at this;simp;omega) λZ g=>?_⟩
  have⟨a,m,A,W,Y⟩:=g.out;rw[ad_ (by rw[aV_ A];rfl),ah_];refine G a m Z (F.trans (r.trans g.pre)) ?_ ?_
  .unfold um_;rw[D];exact W.base g_
  .unfold um_;rw[D];exact Y
 .have I:ko_ 1400 T=1400:=by unfold ko_;rw[lH h]
  have D:um_ T lo hi=[]:=by unfold um_ ea_;rw[lH h];rfl
  rw[I,D]at G;rw[lH h,ay_ t_];exact G none 0 V (F.trans r) (.inl ⟨rfl,rfl,rfl⟩) rfl
theorem pu_(r:Tr H x n cs T)(A:∀a m H',H<+:H'->Own H' H.length tKV a (m*2) (bW_ (ea_ T))->(ea_ T).length=m->Q (.tup [yR a m 2,nN (ko_ 1400 T)]) H'):hM_ [yA x n] H Q:=by
 refine⟨1,?_⟩;rw[CI_];refine uC_ r λa m H' p o l=>?_;rw[FM_]at o l;simp_all
end
def snE(p:Y_ × Y_):Option (Y_ × SnapR):=match co_ p.1 with|some n=>(bC_ p.2).map λx=>(n,x)|none=>none
def lnE(p:Y_ × Y_):Option (LKey × LVal):=match bY_ p.1 with|some k=>(e3_ p.2).map λx=>(k,x)|none=>none
def inE(p:Y_ × Y_):Option (Int × InoR):=match c6_ p.1 with|some i=>(cP_ p.2).map λx=>(i,x)|none=>none
def okE(p:Y_ × Y_):Bool:=(snE p).isSome||((lnE p).isSome||(inE p).isSome)
theorem jQ_ (h:co_ k=some n):bY_ k=none/\c6_ k=none:=by
 have⟨_,A,_⟩:=fP_ h;constructor
 .cases r:bY_ k with
  |none=>rfl
  |some x=>have:=(fO_ r).2.1;rw[A]at this;cases this
 .cases r:c6_ k with
  |none=>rfl
  |some x=>have:=(gH_ r).2.1;rw[A]at this;cases this
theorem jX_ {x:LKey} (h:bY_ k=some x):co_ k=none/\c6_ k=none:=by
 have⟨_,A,_⟩:=fO_ h;constructor
 .cases r:co_ k with
  |none=>rfl
  |some x=>have:=(fP_ r).2.1;rw[A]at this;cases this
 .cases r:c6_ k with
  |none=>rfl
  |some x=>have:=(gH_ r).2.1;rw[A]at this;cases this
theorem tu_ (h:c6_ k=some x):co_ k=none/\bY_ k=none:=by
 have⟨_,A,_⟩:=gH_ h;constructor
 .cases r:co_ k with
  |none=>rfl
  |some x=>have:=(fP_ r).2.1;rw[A]at this;cases this
 .cases r:bY_ k with
  |none=>rfl
  |some x=>have:=(fO_ r).2.1;rw[A]at this;cases this
def Jw_(st:StD)(p:Y_ × Y_):StD:=⟨st.snaps++(snE p).toList,st.links++(lnE p).toList,st.inos++(inE p).toList⟩
theorem Hs_ (st:StD) (p:Y_ × Y_):ji_ st p=if okE p=true then some (Jw_ st p) else none:=by
 unfold ji_ okE Jw_ snE lnE inE;cases A:co_ p.1 with
 |some n=>
  have⟨G,r⟩:=jQ_ A;grind
 | none=>
  cases D:bY_ p.1 with
  |some k=>
   have⟨_,r⟩:=jX_ D;grind
  |none=>
   cases F:c6_ p.1 with
   |some i=>cases cP_ p.2<;>simp
   |none=>simp
theorem Ca_:∀(ps:KV)(st:StD),ia_ ji_ st ps=if (ps.all okE)=true then some ⟨st.snaps++ps.filterMap snE,st.links++ps.filterMap lnE,st.inos++ps.filterMap inE⟩ else none
 |[],st=>by simp[ia_]
 | p::ps,st=>by
  unfold ia_;rw[Hs_];by_cases h:okE p=true
  ·rw[if_pos h];dsimp only;rw[Ca_ ps,all_cons,h,Bool.true_and];have r:∀{β:Type}(f:Y_ × Y_->Option β),(p::ps).filterMap f=(f p).toList++ps.filterMap f:=λf=>by
    grind
   simp[r,Jw_]
  .grind
theorem qj_(ps:KV):eS_ ps=if (ps.all okE)=true then some ⟨ps.filterMap snE,ps.filterMap lnE,ps.filterMap inE⟩ else none:=by
 unfold eS_;rw[Ca_];rfl
theorem kL_(h:eS_ ps=some st):(∀p∈ps,okE p=true)/\st=⟨ps.filterMap snE,ps.filterMap lnE,ps.filterMap inE⟩:=by
 rw[qj_]at h;grind
structure zS_(st:StD):Prop where
 snaps:∀x∈st.snaps,a2_ x.1 4=true/\fy_ x.2=true
 links:∀x∈st.links,(1<=x.1.1/\x.1.1<=255)/\a2_ x.1.2 3=true/\0<=x.2.1/\x.2.1<=255
 inos:∀x∈st.inos,(1<=x.1/\x.1<=255)/\ek_ x.2=true
theorem Ba_(h:bC_ s=some x):fy_ x=true:=by
 unfold bC_ at h;grind
theorem Dc_(h:cP_ s=some x):ek_ x=true:=by
 unfold cP_ at h;grind
theorem qO_ (h:snE p=some x):co_ p.1=some x.1/\bC_ p.2=some x.2:=by
 unfold snE at h;cases A:co_ p.1 with
 |none=>rw[A]at h;cases h
 |some n=>
  rw[A]at h;cases r:bC_ p.2 with
  |none=>rw[r]at h;cases h
  |some y=>rw[r]at h;cases h;exact⟨rfl,rfl⟩
theorem lq_ (h:lnE p=some x):bY_ p.1=some x.1/\e3_ p.2=some x.2:=by
 unfold lnE at h;cases A:bY_ p.1 with
 |none=>rw[A]at h;cases h
 |some n=>
  rw[A]at h;cases r:e3_ p.2 with
  |none=>rw[r]at h;cases h
  |some y=>rw[r]at h;cases h;exact⟨rfl,rfl⟩
theorem vT_ (h:inE p=some x):c6_ p.1=some x.1/\cP_ p.2=some x.2:=by
 unfold inE at h;cases A:c6_ p.1 with
 |none=>rw[A]at h;cases h
 |some n=>
  rw[A]at h;cases r:cP_ p.2 with
  |none=>rw[r]at h;cases h
  |some y=>rw[r]at h;cases h;exact⟨rfl,rfl⟩
theorem FA_(h:e3_ s=some x):0<=x.1/\x.1<=255:=by
 unfold e3_ at h;split at h
 .cases h;exact k7_ _ _
 .cases h
theorem oC_(h:eS_ ps=some st):zS_ st:=by
 obtain⟨_,rfl⟩:=kL_ h;refine⟨λx A=>?_,λx A=>?_,λx A=>?_⟩
 .have⟨p,_,e⟩:=mem_filterMap.1 A;have⟨D,r⟩:=qO_ e;exact⟨(fP_ D).2.2.1,Ba_ r⟩
 .have⟨p,_,e⟩:=mem_filterMap.1 A;have⟨D,r⟩:=lq_ e;have⟨_,_,F,G,I⟩:=fO_ D;refine⟨?_,G,FA_ r⟩;rw[I];exact⟨F,(k7_ _ _).2⟩
 .have⟨p,_,e⟩:=mem_filterMap.1 A;have⟨D,r⟩:=vT_ e;have⟨_,_,F,G⟩:=gH_ D;refine⟨?_,Dc_ r⟩;rw[G];exact⟨F,(k7_ _ _).2⟩
theorem ir_(h:eS_ ps=some st):st.snaps.length<=ps.length/\st.links.length<=ps.length/\st.inos.length<=ps.length:=by
 obtain⟨_,rfl⟩:=kL_ h;grind
theorem Bv_ (h:eS_ ps=some st):st.snaps.length+st.links.length+st.inos.length=ps.length:=by
 obtain⟨D,rfl⟩:=kL_ h;clear h;induction ps with
 |nil=>rfl
 | cons p ps N=>
  have r:=D p t_;have one:(snE p).toList.length+(lnE p).toList.length+(inE p).toList.length=1:=by
   unfold okE at r;cases F:snE p with
   |some x=>
    have⟨J,A⟩:=jQ_ (qO_ F).1;simp[lnE,inE,J,A]
   | none=>
    cases G:lnE p with
    |some x=>
     have⟨_,A⟩:=jX_ (lq_ G).1;simp[inE,A]
    |none=>
     rw[F,G]at r;cases I:inE p with
     |some x=>rfl
     |none=>rw[I]at r;cases r
  grind
theorem eM_(h:a2_ s m=true):1<=(s.size:Int)/\(s.size:Int)<=m:=by
 unfold a2_ at h;simp_all
theorem EU_ (h:1<=s.size):∃b,bs s=b::bs (sub s 1 s.size)/\((b.toNat:Nat):Int)=byt s 0:=by
 have e:=sU_ s 0 o_;cases r:bs s with
 |nil=>rw[r]at e;simp at e
 |cons b t=>
  refine⟨b,?_,g_⟩;rw[iE_,r];rfl
theorem rQ_ (h:2<=s.size):∃b c,bs s=b::c::bs (sub s 2 s.size)/\((b.toNat:Nat):Int)=byt s 0/\((c.toNat:Nat):Int)=byt s 1:=by
 have e:=sU_ s 0 o_;have A:=sU_ s 1 o_;cases r:bs s with
 |nil=>rw[r]at e;simp at e
 | cons b t=>
  cases t with
  |nil=>rw[r]at A;simp at A
  |cons c t=>
   rw[r]at e A;refine⟨b,c,?_,g_,by simpa using A⟩;rw[iE_,r];rfl
theorem lo_(b c:UInt8)(s t:List UInt8):Op.bytesLess (b::s) (c::t)=(decide (b<c)||(b==c&&Op.bytesLess s t)):=rfl
theorem Gh_(h:co_ k=some n)(I:co_ k'=some n'):blt k k'=blt n n':=by
 have⟨A,U,_,D⟩:=fP_ h;have⟨J,N,_,G⟩:=fP_ I;have⟨b,r,O⟩:=EU_ A;have⟨c,F,V⟩:=EU_ J;unfold blt;rw[r,F,lo_,D,G];have:b=c:=UInt8.toNat_inj.1 o_;grind
theorem ID_(h:c6_ k=some n)(D:c6_ k'=some n'):blt k k'=decide (n<n'):=by
 have⟨V,Z,_,J⟩:=gH_ h;have⟨I,U,_,t3⟩:=gH_ D;have⟨b,O,r,G,N⟩:=rQ_ (s:=k) o_;have⟨c,Y,A,f2,W⟩:=rQ_ (s:=k') o_;have z:bs (sub k 2 k.size)=[]:=by rw[iE_];exact drop_eq_nil_of_le (by rw[hB_];omega)
 have F:bs (sub k' 2 k'.size)=[]:=by rw[iE_];exact drop_eq_nil_of_le (by rw[hB_];omega)
 unfold blt;rw[r,A,lo_,lo_,z,F];have:b=c:=UInt8.toNat_inj.1 o_;subst this;simp[Op.bytesLess,UInt8.lt_iff_toNat_lt];omega
theorem Hy_{x x':LKey}(h:bY_ k=some x)(D:bY_ k'=some x')(e:x.1=x'.1):blt k k'=blt x.2 x'.2:=by
 have⟨s1,s2,_,_,F⟩:=fO_ h;have⟨V,Z,_,_,O⟩:=fO_ D;have⟨b,G,r,U,W⟩:=rQ_ (s:=k) o_;obtain⟨c,N,A,f2,f3⟩:=rQ_ o_;have Y:byt k 1=byt k' 1:=by grind
 have I:b=c:=UInt8.toNat_inj.1 o_;have J:G=N:=UInt8.toNat_inj.1 o_;subst I;subst J;unfold blt;rw[r,A,lo_,lo_,F,O];simp
structure BJ_(st:StD):Prop where
 snaps:st.snaps.Pairwise λx y=>blt x.1 y.1=true
 links:st.links.Pairwise λx y=>x.1≠y.1/\(x.1.1=y.1.1->blt x.1.2 y.1.2=true)
 inos:st.inos.Pairwise λx y=>x.1<y.1
theorem hV_ {α β:Type} {R:α->α->Prop} {S:β->β->Prop} {f:α->Option β} (r:∀a b x y,R a b->f a=some x->f b=some y->S x y):∀{l:List α},l.Pairwise R->(l.filterMap f).Pairwise S
 |[],_=>Pairwise.nil
 | a::l,h=>by
  have A:=kW.1 h;rw[filterMap_cons];cases e:f a with
  |none=>exact hV_ r A.2
  |some x=>
   refine kW.2 ⟨λy D=>?_,hV_ r A.2⟩;grind
theorem ij_ (I:Asc ps) (h:eS_ ps=some st):BJ_ st:=by
 obtain⟨_,rfl⟩:=kL_ h;refine⟨hV_ (λa b x y r A D=>?_) I,hV_ (λa b x y r A D=>?_) I,hV_ (λa b x y r A D=>?_) I⟩
 .rw[<-Gh_ (qO_ A).1 (qO_ D).1];exact r
 .refine⟨λq=>?_,λq=>?_⟩
  .have F:=(lq_ A).1;rw[q]at F;have:=BP_ F (lq_ D).1;have G:=r;rw[this,bX_]at G;cases G
  .rw[<-Hy_ (lq_ A).1 (lq_ D).1 q];exact r
 .have G:=r;rw[ID_ (vT_ A).1 (vT_ D).1]at G;grind
def wX_(st:StD)(id:Int):List FileR:=(st.links.filter λl=>decide (l.1.1=id)).map (bz_ st)
def aH_(st:StD):List InfoR:=st.snaps.map λx=>⟨x.1,x.2.kind,x.2.parent,x.2.label,wX_ st x.2.id⟩
theorem hk_ [DecidableEq α] {x:α × β} (D:(ps.map (·.1)).Nodup) (r:x∈ps):look ps x.1=some x.2:=by
 cases h:look ps x.1 with
 |none=>exact absurd rfl (oR_ h x r)
 |some v=>
  have A:=cW_ h;have⟨i,F,G⟩:=kK r;have⟨j,J,I⟩:=kK A;have:i=j:=(getElem_inj (h₀:=by grind) (h₁:=by simpa) D).1 g_;grind
theorem Dg_(st:StD)(id:Int)(f:FileR):f∈wX_ st id↔∃l∈st.links,l.1.1=id/\f=bz_ st l:=by
 unfold wX_;grind
theorem Dl_(r:BJ_ st)(id:Int):ch_ st id (wX_ st id):=by
 refine⟨?_,Dg_ st id⟩;unfold wX_ ht_;rw[pairwise_map];have h:=Pairwise.filter (λl:LKey × LVal=>decide (l.1.1=id)) r.links;exact Pairwise.imp_of_mem (λ{a b} r A h=>h.2 g_) h
theorem ui_(r:BJ_ st):(st.snaps.map (·.1)).Nodup:=by
 refine Pairwise.map _ (λa b h e=>?_) r.snaps;rw[e,bX_]at h;cases h
theorem ie_(r:BJ_ st):cC_ st (aH_ st):=by
 have e:(aH_ st).map (·.name)=st.snaps.map (·.1):=by unfold aH_;rw[map_map];rfl
 refine⟨by rw[e],?_,λi A=>?_⟩
 .rw[e,pairwise_map];exact r.snaps
 .obtain⟨x,D,rfl⟩:=lA.1 A;exact⟨x.2,hk_ (ui_ r) D,rfl,rfl,rfl,Dl_ r _⟩
theorem vf_ {α:Type} {R:α->α->Prop} (D:∀a,¬ R a a) (A:∀a b,R a b-> ¬ R b a):∀{l m:List α},l.Pairwise R->m.Pairwise R->(∀x,x∈l↔x∈m)->l=m
 |[],[],_,_,_=>rfl
 |[],g::G,_,_,h=>absurd ((h g).2 mem_cons_self) not_mem_nil
 |f::O,[],_,_,h=>absurd ((h f).1 mem_cons_self) not_mem_nil
 | f::O,g::G,F,J,h=>by
  have I:=kW.1 F;have N:=kW.1 J;have e:f=g:=by
   rcases kU.1 ((h f).1 mem_cons_self) with q|q
   .exact q
   .rcases kU.1 ((h g).2 mem_cons_self) with r|r
    .grind
    .grind
  congr 1;refine vf_ D A I.2 N.2 λx=>⟨λq=>?_,λq=>?_⟩
  .grind
  .grind
theorem cC_.unique (A:cC_ st is) (G:cC_ st js):is=js:=by
 have V:∀a:Y_,¬ blt a a=true:=λa q=>by rw[bX_]at q;cases q
 have Y:∀a b:Y_,blt a b=true-> ¬ blt b a=true:=λa b q r=>by rw[dv_ q]at r;cases r
 have J:=vf_ V Y A.asc G.asc λx=>A.perm.mem_iff.trans G.perm.mem_iff.symm;have W:is.length=js.length:=by have:=congrArg length J;simpa
 apply ext_getElem W;intro k D F;have⟨x,I,x2,x3,x4,U⟩:=(A.info _ (kE D)).mem;have⟨y,N,y2,Z,y4,O⟩:=(G.info _ (kE F)).mem;have e:is[k].name=js[k].name:=by
  have:=congrArg (λl:List Y_=>l[k]?) J;grind
 rw[e,N]at I;cases I;have hf:=U.unique O;cases hi:is[k];cases hj:js[k];grind
def jy_(st:StD):Bool:=dz_ st&&(decide (st.snaps.map λx=>x.2.id).Nodup&&bx_ (aH_ st) (aH_ st).length 0)
def es_(ps:KV):Option StD:=match eS_ ps with|some st=>(match jy_ st with|true=>some st|false=>none)|none=>none
def ofD(T:List Pg):Option StD:=match decide (0<aK_ T) with|true=>es_ (ea_ T)|false=>none
theorem kB_:es_ ps=some st↔eS_ ps=some st/\jy_ st=true:=by
 unfold es_;cases eS_ ps with
 |none=>simp
 |some s=>
  dsimp;cases h:jy_ s with
  |true=>exact⟨λe=>by grind,λe=>e.1⟩
  |false=>exact⟨λe=>g_,fun⟨r,A⟩=>g_⟩
theorem bV_.hold(h:bV_ H b a is)(J:∀l,b<=l->H'[l]?=H[l]?):bV_ H' b a is:=by
 rcases h with q|⟨l,F,rfl,I,N,D⟩
 .exact .inl q
 .exact .inr ⟨l,F,rfl,I,g_,D.keep λG A r _=>⟨J G A,r⟩⟩
theorem cC_.sizes (ok:zS_ st) (h:cC_ st is) (A:st.links.length<=1000):is.length=st.snaps.length/\∀x∈is,x.name.size<=140737488351232/\x.files.length<=100000/\∀f∈x.files,f.1.size<=140737488351232:=by
 refine⟨by have:=h.perm.length_eq;simpa using this,λx I=>?_⟩;have⟨y,J,_,_,_,G⟩:=(h.info x I).mem;refine⟨?_,?_,λf F=>?_⟩
 .have:=eM_ (ok.snaps _ (cW_ J)).1;grind
 ·have D:x.files.Nodup:=by
   refine Pairwise.imp (λ{a b} r e=>?_) G.asc;rw[e,bX_]at r;cases r
  have:=(d0_ (st.links.map (bz_ st)) x.files D λf F=>by
   have⟨l,A,_,e⟩:=(G.mem f).1 F;exact lA.2 ⟨l,A,e.symm⟩).1
  grind
 .have⟨l,A,_,e⟩:=(G.mem f).1 F;have:=eM_ (ok.links l A).2.1;rw[e];unfold bz_;dsimp;omega
section
variable{H:Hp}{Q:Post}{x:Pl}{n:Nat}{cs:List PC}{T:List Pg}{E:Nat->Sm}
theorem DI_{ps:KV}(hi:i<ps.length)(st:StD):ia_ kE_ st (ps.drop i)=match kE_ st ps[i] with|some r=>ia_ kE_ r (ps.drop (i+1))|none=>none:=by
 rw[lB hi];rfl
structure KX_(H H':Hp)(x:Pl)(n sp ms ml mi b:Nat)(a:Pl)(st:StD):Prop where
 at_:e1_ H' sp (.sl x n 5) ms ml mi (.sl a (aH_ st).length 5) st
 row:∃t,H'[sp]?=some (.row true t [.sl x n 5,.map (some ms),.map (some ml),.map (some mi),.sl a (aH_ st).length 5])
 infos:bV_ H' b a (aH_ st)
 pre:H<+:H'
 low:H.length<=ms/\H.length<=ml/\H.length<=mi/\H.length<=sp/\H.length<=b
 lowb:sp<b/\ms<b/\ml<b/\mi<b
theorem kY_ (hT:Tr H x n cs T)
 (h1:ofD T=none->∀H' p,H<+:H'->Q (.tup [.s (.ptr p),.s (.bool false)]) H')
 (h2:∀st,ofD T=some st->∀H' sp ms ml mi b a,KX_ H H' x n sp ms ml mi b a st->Q (.tup [.s (.ptr (some (sp,0))),.s (.bool true)]) H'):
 dP_ E [yA x n] H Q:=by
 refine⟨(ea_ T).length+3,?_⟩;rw[CM_];refine pu_ hT λa m H1 p1 o1 l1=>?_;simp only[aI_,aC_,bG_,ah_,ai_,ba_,fk_,d4_];have etn:∀k:Nat,tN (k:Int)=k:=λ_=>rfl;have e0:(((H1++[Obj.map [] 0])++[Obj.map [] 0])++[Obj.map [] 0]).length=H1.length+3:=by simp
 have e1:((H1++[Obj.map [] 0])++[Obj.map [] 0]).length=H1.length+2:=by simp
 have e2:(H1++[Obj.map [] 0]).length=H1.length+1:=by simp
 rw[e0,e1,e2];have hl1:=p1.length_le;have hm60:=nd_ T;have hkv:=zT_ T;generalize hG:(((H1++[Obj.map [] 0])++[Obj.map [] 0])++[Obj.map [] 0])++[Obj.row true zz_ [.sl x n 5,.map (some H1.length),.map (some (H1.length+1)),.map (some (H1.length+2)),.sl none 0 5]]=G0;have pG:H1<+:G0:=by rw[<-hG];exact (((b8_ _ _).trans (b8_ _ _)).trans (b8_ _ _)).trans (b8_ _ _)
 have lG:G0.length=H1.length+4:=by rw[<-hG];simp
 have atG:∀(k:Nat),G0[H1.length+k]?=([Obj.map [] 0,Obj.map [] 0,Obj.map [] 0,Obj.row true zz_ [.sl x n 5,.map (some H1.length),.map (some (H1.length+1)),.map (some (H1.length+2)),.sl none 0 5]]:List Obj)[k]? :=λk=>by
  have:G0=H1++[Obj.map [] 0,Obj.map [] 0,Obj.map [] 0,Obj.row true zz_ [.sl x n 5,.map (some H1.length),.map (some (H1.length+1)),.map (some (H1.length+2)),.sl none 0 5]]:=by rw[<-hG];simp
  rw[this,getElem?_append_right o_];congr 1;omega
 have emp:∀{α β:Type}{ek:α->RV}{ev:β->RV}(l:Nat),G0[l]?=some (.map [] 0)->dJ_ ek ev G0 l ([]:List (α × β)):=λl h=>
  ⟨⟨[],0,h,rfl,(λe h=>absurd h not_mem_nil),nodup_nil⟩,nodup_nil⟩
 have S0:e1_ G0 (H1.length+3) (.sl x n 5) H1.length (H1.length+1) (H1.length+2) (.sl none 0 5) st0:=
  ⟨⟨zz_,by rw[atG 3];rfl⟩,emp _ (by have:=atG 0;simpa using this),emp _ (by have:=atG 1;simpa using this),emp _ (by have:=atG 2;simpa using this),o_,o_,o_⟩
 have hdec:ia_ kE_ st0 (ea_ T)=eS_ (ea_ T):=Gx_ (tl_ (lp_ T));have go:∀(f i:Nat)(G:Hp)(st:StD),m-i<f->i<=m->H1<+:G->G.length=H1.length+4->e1_ G (H1.length+3) (.sl x n 5) H1.length (H1.length+1) (H1.length+2) (.sl none 0 5) st->
  ia_ kE_ st ((ea_ T).drop i)=eS_ (ea_ T)->dP_.l4 E (f+1) (ko_ 1400 T) (H1.length+3) 0 (H1.length+3) 0 a m (nI m) ((i:Nat):Int) G Q:=by
  intro f;induction f with
  |zero=>intro i G st h;omega
  | succ f ih=>
   intro i G st hf hi hG1 hGl hS hd;rw[dP_.l4_eq];refine aa_ (λe=>?_) λe=>?_
   .have him:i<m:=by simpa using e
    obtain⟨l,o,rfl,q1,q2⟩:=Kv.get (H:=G) (Kv.mono hG1 ⟨o1.cells,l1⟩) (i:=i) o_;refine ab_ rfl (ab_ s_ ?_);simp only[ae_,etn];rw[ad_ q1,aq_,ad_ q2,aq_];have hmem:=hkv _ (kE (show i<(ea_ T).length by omega));rw[DI_ o_]at hd;refine tO_ o_ o_ hS (λhn G' hu=>?_) λst' hs G' hu hS'=>?_
    .simp only[aN_,am_];rw[show kE_ st (ea_ T)[i]=none from hn]at hd;refine aa_ (λ_=>?_) (λe=>by cases e);refine h1 ?_ G' none (p1.trans (jL_ hG1 hu.len λl hl=>hu.row l o_));unfold ofD es_;rw[<-hd];cases decide (0<aK_ T)<;>rfl
    .simp only[aN_,am_];rw[show kE_ st (ea_ T)[i]=some st' from hs]at hd;rw[ao_ o_];refine aa_ (λe=>by cases e) λ_=>?_;refine ih (i+1) G' st' o_ him (jL_ hG1 hu.len λl hl=>hu.row l o_) (by rw[hu.len,hGl]) hS' hd
   ·have him:i=m:=by have: ¬ i<m:=by simpa using e
                     omega
    subst him;rw[drop_eq_nil_of_le o_]at hd;have hd':eS_ (ea_ T)=some st:=hd.symm;have pH:H<+:G:=p1.trans hG1;refine aa_ (λe=>?_) λe=>?_
    .refine h1 ?_ G none pH;unfold ofD;cases hh:decide (0<aK_ T) with
     |false=>rfl
     |true=>unfold ko_ at e;rw[hh]at e;cases e
    have hh:decide (0<aK_ T)=true:=by
     cases hh:decide (0<aK_ T) with
     |true=>rfl
     |false=>unfold ko_ at e;rw[hh]at e;cases e
    have hof:ofD T=match jy_ st with|true=>some st|false=>none:=by
     unfold ofD es_;rw[hh,hd']<;>rfl
    obtain⟨n1,n2,n3⟩:=ir_ hd';have ok:=oC_ hd';have hasc:=ij_ (lp_ T) hd';refine pV_ hS ⟨o_,o_⟩ (λy hy=>?_) λG1 pG1=>?_
    .have:=(ok.inos y hy).2;unfold ek_ at this;simp only[kR]at this;simpa using this.1.1
    simp only[aN_,am_];refine aa_ (λe=>?_) λe=>?_
    .refine h1 ?_ G1 none (pH.trans pG1);rw[hof,show jy_ st=false by unfold jy_;rw[el_ e,Bool.false_and]]
    have k1:=e0_ e;have hS1:=hS.keep (H':=G1) λl hl=>a8_ pG1 hl;refine rC_ hS1 o_ λG2 pG2=>?_;simp only[aN_,am_];refine aa_ (λe=>?_) λe=>?_
    .refine h1 ?_ G2 none (pH.trans (pG1.trans pG2));rw[hof,show jy_ st=false by unfold jy_;rw[el_ e,Bool.false_and,Bool.and_false]]
    have k2:=e0_ e;have hS2:=hS1.keep (H':=G2) λl hl=>a8_ pG2 hl;refine tq_ hS2 (λy hy=>by have:=eM_ (ok.snaps y hy).1;omega) o_ o_ λG3 b ia is pG3 hb hia hof3=>?_;have his:is=aH_ st:=hof3.unique (ie_ hasc);subst his;have hS3:=hS2.keep (H':=G3) λl hl=>a8_ pG3 hl;obtain⟨t,hr⟩:=hS3.row;simp only[aN_,ah_];have gl:=pG1.length_le;have gl2:=pG2.length_le;have gl3:=pG3.length_le;have hne:H1.length+3<b:=by omega
    refine b7_ hr t_ ?_;generalize hG4:G3.set (H1.length+3) (.row true t ([.sl x n 5,.map (some H1.length),.map (some (H1.length+1)),.map (some (H1.length+2)),.sl none 0 5].set (0+4) (.sl ia (aH_ st).length 5)))=G4;have r4:G4[H1.length+3]?=some (.row true t [.sl x n 5,.map (some H1.length),.map (some (H1.length+1)),.map (some (H1.length+2)),.sl ia (aH_ st).length 5]):=by
     rw[<-hG4,kH o_];rfl
    have k4:∀l,l≠H1.length+3->G4[l]?=G3[l]? :=λl hl=>by rw[<-hG4,kF (Ne.symm hl)]
    have l4:G4.length=G3.length:=by rw[<-hG4];simp
    have hia4:=hia.hold (H':=G4) λl hl=>k4 l o_;rw[ad_ (v:= .sl ia (aH_ st).length 5) (by rw[aV_ r4];rfl),ah_];have sz:=(ie_ hasc).sizes ok o_;refine mG_ hia4.rd o_ sz.2 ?_;simp only[aN_,am_];have p4:H<+:G4:=jL_ (pH.trans (pG1.trans (pG2.trans pG3))) l4 λl hl=>k4 l o_;cases hf:bx_ (aH_ st) (aH_ st).length 0 with
    |false=>exact h1 (by rw[hof,show jy_ st=false by unfold jy_;rw[hf,Bool.and_false,Bool.and_false]]) G4 _ p4
    | true=>
     have hS4:e1_ G4 (H1.length+3) (.sl x n 5) H1.length (H1.length+1) (H1.length+2) (.sl ia (aH_ st).length 5) st:=
      ⟨⟨t,r4⟩,hS3.snaps.keep (k4 _ o_),hS3.links.keep (k4 _ o_),hS3.inos.keep (k4 _ o_),hS3.d1,hS3.d2,hS3.d3⟩
     exact h2 st (by rw[hof,show jy_ st=true by unfold jy_;rw[k1,k2,hf];rfl]) G4 _ _ _ _ b ia ⟨hS4,⟨t,r4⟩,hia4,p4,⟨o_,o_,o_,o_,o_⟩,⟨o_,o_,o_,o_⟩⟩
 exact go _ 0 G0 st0 o_ (kP _) pG lG S0 (by rw[drop_zero];exact hdec)
end
def cs_(is:List InfoR)(s:Y_):Option InfoR:=is.find? λi=>decide (i.name=s)
theorem jY_ (h:ofD T=some st):0<aK_ T/\eS_ (ea_ T)=some st/\jy_ st=true:=by
 unfold ofD at h;cases A:decide (0<aK_ T) with
 |false=>rw[A]at h;cases h
 |true=>
  rw[A]at h;exact⟨of_decide_eq_true A,kB_.1 h⟩
theorem Ff_(h:BJ_ st):hU_ (aH_ st):=by
 have:=(ie_ h).asc;rw[pairwise_map]at this;exact this
theorem qX_(A:hU_ is):(is.any λy=>decide (y.name=s))=(cs_ is s).isSome/\∀i,cs_ is s=some i->is[dL_ is s]?=some i:=by
 constructor
 .unfold cs_;grind
 .intro i r;unfold cs_ at r;have F:=mem_of_find?_eq_some r;obtain⟨k,D,rfl⟩:=kK F;have:=z7_ A D;grind
section
variable{H:Hp}{Q:Post}{x:Pl}{n:Nat}{cs:List PC}{T:List Pg}{E:Nat->Sm}{s:Y_}
end
theorem c5_ {α:Type} {f:α->List GV} (A:∀x,(f x).length=m):∀(l:List α)(i:Nat)(hi:i<l.length)(j:Nat),j<m->(l.flatMap f)[i*m+j]?=(f l[i])[j]?
 |[],i,hi,_,_=>by grind
 |x::l,0,hi,j,r=>by
  grind
 |x::l,i+1,hi,j,r=>by
  rw[flatMap_cons,getElem?_append_right g_,show (i+1)*m+j-(f x).length=i*m+j by rw[A,Nat.succ_mul];omega,c5_ A l i g_ j r];rfl
theorem wQ_(h:Own H b t a n cs)(r:0<n):∃l,a=some (l,0)/\∀j,gt H l j=cs[j]? :=by
 rcases h with⟨_,rfl,_⟩|⟨l,rfl,_,A,_⟩
 .cases r
 .exact⟨l,rfl,λj=>aV_ A⟩
section
variable{B H:Hp}{Q:Post}{sp n1 n2 n3:Nat}{a1 a2 a3:Pl}{st:StD}
theorem db_.mono(h:db_ B H sp a1 n1 a2 n2 a3 n3 st){H':Hp}(p:H<+:H'):db_ B H' sp a1 n1 a2 n2 a3 n3 st:=by
 have⟨t,r⟩:=h.row;exact⟨⟨t,by rw[a8_ p (kC.1 r).1];exact r⟩,h.pre.trans p,h.base,h.snaps.keep λl e=>a8_ p (h.snaps.lt' e),h.links.keep λl e=>a8_ p (h.links.lt' e),h.inos.keep λl e=>a8_ p (h.inos.lt' e),h.l1,h.l2,h.l3,h.d12,h.d13,h.d23,h.s1,h.s2,h.s3⟩
theorem db_.snapG(h:db_ B H sp a1 n1 a2 n2 a3 n3 st)(i:Nat)(hi:i<st.snaps.length):∃l,a1=some (l,0)/\gt H l (i*5)=some (.str st.snaps[i].1)/\gt H l (i*5+1)=some (.int .i64 st.snaps[i].2.id)/\gt H l (i*5+1+1)=some (.int .i64 st.snaps[i].2.kind)/\
 gt H l (i*5+1+1+1)=some (.str st.snaps[i].2.parent)/\gt H l (i*5+1+1+1+1)=some (.str st.snaps[i].2.label):=by
 have⟨l,e,A⟩:=wQ_ h.snaps (by have:=h.l1;omega);have r:∀x,(BH_ x).length=5:=λx=>rfl;refine⟨l,e,?_,?_,?_,?_,?_⟩<;>rw[A]
 .exact c5_ r _ i hi 0 o_
 .exact c5_ r _ i hi 1 o_
 .exact c5_ r _ i hi 2 o_
 .exact c5_ r _ i hi 3 o_
 .exact c5_ r _ i hi 4 o_
theorem db_.linkG(h:db_ B H sp a1 n1 a2 n2 a3 n3 st)(i:Nat)(hi:i<st.links.length):∃l,a2=some (l,0)/\gt H l (i*4)=some (.int .i64 st.links[i].1.1)/\gt H l (i*4+1)=some (.str st.links[i].1.2)/\gt H l (i*4+1+1)=some (.int .i64 st.links[i].2.1)/\
 gt H l (i*4+1+1+1)=some (.bool st.links[i].2.2)/\gt H l (i*4+2)=some (.int .i64 st.links[i].2.1):=by
 have⟨l,e,A⟩:=wQ_ h.links (by have:=h.l2;omega);have r:∀x,(A6_ x).length=4:=λx=>rfl;refine⟨l,e,?_,?_,?_,?_,?_⟩<;>rw[A]
 .exact c5_ r _ i hi 0 o_
 .exact c5_ r _ i hi 1 o_
 .exact c5_ r _ i hi 2 o_
 .exact c5_ r _ i hi 3 o_
 .exact c5_ r _ i hi 2 o_
theorem db_.inoG(h:db_ B H sp a1 n1 a2 n2 a3 n3 st)(i:Nat)(hi:i<st.inos.length):∃l,a3=some (l,0)/\gt H l (i*3)=some (.int .i64 st.inos[i].1)/\gt H l (i*3+1)=some (.int .i64 st.inos[i].2.links)/\gt H l (i*3+1+1)=some (.str st.inos[i].2.content):=by
 have⟨l,e,A⟩:=wQ_ h.inos (by have:=h.l3;omega);have r:∀x,(inoC x).length=3:=λx=>rfl;refine⟨l,e,?_,?_,?_⟩<;>rw[A]
 .exact c5_ r _ i hi 0 o_
 .exact c5_ r _ i hi 1 o_
 .exact c5_ r _ i hi 2 o_
def vc_(l:List Int)(k:Int):Int:=match l.findIdx? (λx=>decide (x=k)) with|some i=>(i:Int)|none=> -1
theorem vj_ {i:Nat} (hi:i<l.length) (h:l[i]=k) (r:∀j (A:j<l.length),j<i->l[j]≠k):vc_ l k=i:=by
 unfold vc_;have:l.findIdx? (λx=>decide (x=k))=some i:=by
  rw[findIdx?_eq_some_iff_getElem];grind
 grind
theorem yH_ (h:∀j (r:j<l.length),l[j]≠k):vc_ l k= -1:=by
 unfold vc_;have:l.findIdx? (λx=>decide (x=k))=none:=by
  rw[findIdx?_eq_none_iff];intro x A;obtain⟨j,r,rfl⟩:=kK A;grind
 grind
theorem jf_ (h:db_ B H sp a1 n1 a2 n2 a3 n3 st) (Z:st.snaps.length<=1000) {k:Int} (I:Q (gI (vc_ (st.snaps.map (·.2.id)) k)) H):bc_ [yQ sp,gI k] H Q:=by
 have ⟨N,g2,g3⟩:=h.rd;refine⟨st.snaps.length+2,?_⟩;rw[pk_];have O:∀k:Nat,tN (k:Int)=k:=λ_=>rfl;have hl:=h.l1;have go:∀(f i),f=st.snaps.length-i->i<=st.snaps.length->(∀j A,j<i->st.snaps[j].2.id≠k)->bc_.l2 (f+1) (some (sp,0)) k (i) H Q:=by
  intro f;induction f with
  | zero=>
   intro i Y V G;rw[bc_.l2_eq];simp only[ae_];rw[ad_ N,ah_];refine aa_ (λe=>?_) λe=>?_
   .have:i<n1:=by simp_all
    omega
   .rw[yH_ λj A=>by rw[getElem_map];rw[k9]at A;exact G j A o_]at I;exact I
  | succ f W=>
   intro i Y V G;have F:i<st.snaps.length:=by omega
   rw[bc_.l2_eq];simp only[ae_];rw[ad_ N,ah_];refine aa_ (λe=>?_) (λe=>by simp at e;omega);rw[ad_ N,ah_];refine ab_ rfl (ab_ s_ ?_);obtain⟨l,rfl,r1,U,_⟩:=h.snapG i F;simp[ae_];rw[ad_ U,ai_];refine aa_ (λe=>?_) λe=>?_
   .have J:st.snaps[i].2.id=k:=by simpa using e
    rw[vj_ (by simpa) (by rw[getElem_map];exact J) λj A D=>by rw[getElem_map];exact G j o_ D]at I;exact I
   .have J: ¬ st.snaps[i].2.id=k:=by simpa using e
    rw[ao_ o_];refine W (i+1) o_ F λj A D=>?_;rcases Nat.lt_or_eq_of_le (Nat.le_of_lt_succ D) with q|q
    .exact G j A q
    .subst q;exact J
 exact go _ 0 rfl (kP _) (λj A h=>by omega)
theorem fK_ (h:db_ B H sp a1 n1 a2 n2 a3 n3 st) (Z:st.inos.length<=1000) (G:Q (gI (vc_ (st.inos.map (·.1)) k)) H):aP_ [yQ sp,gI k] H Q:=by
 have ⟨g1,g2,J⟩:=h.rd;refine⟨st.inos.length+2,?_⟩;rw[nY_];have O:∀k:Nat,tN (k:Int)=k:=λ_=>rfl;have hl:=h.l3;have go:∀(f i),f=st.inos.length-i->i<=st.inos.length->(∀j D,j<i->st.inos[j].1≠k)->aP_.l2 (f+1) (some (sp,0)) k (i) H Q:=by
  intro f;induction f with
  | zero=>
   intro i Y V I;rw[aP_.l2_eq];simp;rw[ad_ J,ah_];refine aa_ (λe=>?_) λe=>?_
   .have:i<n3:=by simpa using e
    omega
   .rw[yH_ λj D=>by grind]at G;exact G
  | succ f W=>
   intro i Y V I;have F:i<st.inos.length:=by omega
   rw[aP_.l2_eq];simp only[ae_];rw[ad_ J,ah_];refine aa_ (λe=>?_) (λe=>by simp at e;omega);rw[ad_ J,ah_];refine ab_ rfl (ab_ s_ ?_);obtain⟨l,rfl,U,r2,_⟩:=h.inoG i F;simp[ae_];rw[ad_ U,ai_];refine aa_ (λe=>?_) λe=>?_
   .have N:st.inos[i].1=k:=by simpa using e
    rw[vj_ (by simpa) (by rw[getElem_map];exact N) λj D A=>by rw[getElem_map];exact I j o_ A]at G;exact G
   .have N: ¬ st.inos[i].1=k:=by simpa using e
    rw[ao_ o_];refine W (i+1) o_ F λj D A=>?_;rcases Nat.lt_or_eq_of_le (Nat.le_of_lt_succ A) with q|q
    .exact I j D q
    .subst q;exact N
 exact go _ 0 rfl (kP _) (λj D h=>by omega)
theorem vq_ {l:List Int} {k:Int}:ltI (vc_ l k) 0= !(l.any λx=>decide (x=k)):=by
 unfold vc_;cases h:l.findIdx? (λx=>decide (x=k)) with
 |none=>
  simp_all
 |some i=>
  rw[findIdx?_eq_some_iff_getElem]at h;have⟨r,e,_⟩:=h;have:(l.any λx=>decide (x=k))=true:=any_eq_true.2 ⟨_,kE r,e⟩;rw[this];simp
theorem q3_ (h:db_ B H sp a1 n1 a2 n2 a3 n3 st) (hn:st.links.length<=1000/\st.inos.length<=1000) (hQ:Q (gB (dz_ st)) H):av_ [yQ sp] H Q:=by
 obtain⟨g1,g2,g3⟩:=h.rd;refine⟨st.links.length+(st.inos.length*(st.links.length+2)+1)+2,?_⟩;rw[na_];have etn:∀k:Nat,tN (k:Int)=k:=λ_=>rfl;have hl2:=h.l2;have hl3:=h.l3;have go7:∀(f i F:Nat),f=st.inos.length-i->i<=st.inos.length->f*(st.links.length+2)+1<=F->(∀l∈st.links,st.inos.any (λx=>decide (x.1=l.2.1))=true)->(∀j (hj:j<st.inos.length),j<i->((fx_ st st.inos[j].1:Nat):Int)=st.inos[j].2.links)->
  av_.l7 F (some (sp,0)) ((i:Nat):Int) H Q:=by
  intro f;induction f with
  | zero=>
   intro i F hf hi hm ha hp;obtain⟨F,rfl⟩:∃G,F=G+1:=⟨F-1,o_⟩;rw[av_.l7_eq];simp only[ae_];rw[ad_ g3,ah_];refine aa_ (λe=>?_) λe=>?_
   .have:i<n3:=by simpa using e
    omega
   ·have:dz_ st=true:=by
     unfold dz_;rw[kR,all_eq_true,all_eq_true];refine⟨ha,λx hx=>?_⟩;obtain⟨j,hj,rfl⟩:=kK hx;simpa using hp j hj o_
    rw[this]at hQ;exact hQ
  | succ f ih=>
   intro i F hf hi hm ha hp;have hil:i<st.inos.length:=by omega
   rw[Nat.succ_mul]at hm;generalize hW:f*(st.links.length+2)=W at hm ih;obtain⟨F,rfl⟩:∃G,F=G+1:=⟨F-1,o_⟩;rw[av_.l7_eq];simp only[ae_];rw[ad_ g3,ah_];refine aa_ (λe=>?_) (λe=>by simp at e;omega);obtain⟨l3,e3,q1,q2,q3⟩:=h.inoG i hil;have go11:∀(g j F:Nat),g=st.links.length-j->j<=st.links.length->g+1+W+1<=F->
    av_.l11 F (some (sp,0)) ((i:Nat):Int) ((((st.links.take j).countP λl=>decide (l.2.1=st.inos[i].1)):Nat):Int) ((j:Nat):Int) H Q:=by
    intro g;induction g with
    | zero=>
     intro j F hg hj hF;obtain⟨F,rfl⟩:∃G,F=G+1:=⟨F-1,o_⟩;rw[av_.l11_eq];simp only[ae_];rw[ad_ g2,ah_];refine aa_ (λe=>by simp at e;omega) λe=>?_;have hje:j=st.links.length:=by omega
     subst hje;rw[take_length];rw[ad_ g3,ah_];refine ab_ rfl (ab_ s_ ?_);subst e3;simp only[ae_,etn,kN,kQ];rw[ad_ q2,ai_];refine aa_ (λe=>?_) λe=>?_
     ·have:dz_ st=false:=by
       unfold dz_;rw[Bool.and_eq_false_iff];right;rw[all_eq_false];refine⟨_,kE hil,?_⟩;unfold fx_;simpa using e
      rw[this]at hQ;exact hQ
     .rw[ao_ o_];refine ih (i+1) F o_ hil o_ ha λj hj hji=>?_;rcases Nat.lt_or_eq_of_le (Nat.le_of_lt_succ hji) with z|z
      .exact hp j hj z
      .subst z;unfold fx_;simpa using e
    | succ g ihF=>
     intro j F hg hj hF;have hjl:j<st.links.length:=by omega
     obtain⟨F,rfl⟩:∃G,F=G+1:=⟨F-1,o_⟩;rw[av_.l11_eq];simp only[ae_];rw[ad_ g2,ah_];refine aa_ (λe=>?_) (λe=>by simp at e;omega);rw[ad_ g2,ah_];refine ab_ rfl (ab_ s_ ?_);obtain⟨l2,rfl,_,_,p3,_,p5⟩:=h.linkG j hjl;simp only[ae_,etn,kN,kQ];rw[ad_ p5,ai_];rw[ad_ g3,ah_];refine ab_ rfl (ab_ s_ ?_);subst e3;simp only[ae_,etn,kN,kQ];rw[ad_ q1,ai_];have w1:ac_ .i64 (((j:Nat):Int)+1)=((j+1:Nat):Int):=ao_ o_;have hc:((st.links.take (j+1)).countP λl=>decide (l.2.1=st.inos[i].1))=((st.links.take j).countP λl=>decide (l.2.1=st.inos[i].1))+(if st.links[j].2.1=st.inos[i].1 then 1 else 0):=by
      rw[take_add_one,kG hjl,countP_append];by_cases z:st.links[j].2.1=st.inos[i].1<;>simp[z]
     have hle:((st.links.take j).countP λl=>decide (l.2.1=st.inos[i].1))<=st.links.length:=Nat.le_trans countP_le_length (by rw[lC];omega);refine aa_ (λe=>?_) λe=>?_
     .have e':st.links[j].2.1=st.inos[i].1:=by simpa using e
      rw[if_pos e']at hc;have:=ihF (j+1) F o_ hjl o_;rw[hc]at this;rw[w1,show ac_ .i64 (((((st.links.take j).countP λl=>decide (l.2.1=st.inos[i].1)):Nat):Int)+1)=((((st.links.take j).countP λl=>decide (l.2.1=st.inos[i].1))+1:Nat):Int) from ao_ o_];exact this
     .have e': ¬ st.links[j].2.1=st.inos[i].1:=by simpa using e
      rw[if_neg e',kQ]at hc;have:=ihF (j+1) F o_ hjl o_;rw[hc]at this;rw[w1];exact this
   exact go11 _ 0 F rfl (kP _) o_
 have go2:∀(f i F:Nat),f=st.links.length-i->i<=st.links.length->f+(st.inos.length*(st.links.length+2)+1)+1<=F->(∀j (hj:j<st.links.length),j<i->st.inos.any (λx=>decide (x.1=st.links[j].2.1))=true)->
  av_.l2 F (some (sp,0)) ((i:Nat):Int) H Q:=by
  intro f;induction f with
  |zero=>
   intro i F hf hi hF hp;obtain⟨F,rfl⟩:∃G,F=G+1:=⟨F-1,o_⟩;rw[av_.l2_eq];simp only[ae_];rw[ad_ g2,ah_];refine aa_ (λe=>by simp at e;omega) λe=>?_;refine go7 _ 0 F rfl (kP _) (by rw[Nat.sub_zero];omega) (λl hl=>?_) (λj hj h=>by omega);obtain⟨j,hj,rfl⟩:=kK hl;exact hp j hj o_
  | succ f ih=>
   intro i F hf hi hF hp;have hil:i<st.links.length:=by omega
   obtain⟨F,rfl⟩:∃G,F=G+1:=⟨F-1,o_⟩;rw[av_.l2_eq];simp only[ae_];rw[ad_ g2,ah_];refine aa_ (λe=>?_) (λe=>by simp at e;omega);rw[ad_ g2,ah_];refine ab_ rfl (ab_ s_ ?_);obtain⟨l2,rfl,_,_,p3,_,p5⟩:=h.linkG i hil;simp only[ae_,etn,kN,kQ];rw[ad_ p5,ai_];refine fK_ h hn.2 ?_;simp only[aN_,ai_];rw[vq_,any_map];refine aa_ (λe=>?_) λe=>?_
   ·have:dz_ st=false:=by
     unfold dz_;rw[Bool.and_eq_false_iff];left;rw[all_eq_false];refine⟨_,kE hil,?_⟩;have e':=el_ e;intro z;have:(st.inos.any ((λx=>decide (x=st.links[i].2.1)) ∘ λx=>x.1))=true:=z;rw[this]at e';cases e'
    rw[this]at hQ;exact hQ
   .rw[ao_ o_];refine ih (i+1) F o_ hil o_ λj hj hji=>?_;rcases Nat.lt_or_eq_of_le (Nat.le_of_lt_succ hji) with z|z
    .exact hp j hj z
    .subst z;exact e0_ e
 exact go2 _ 0 _ rfl (kP _) o_ (λj hj h=>by omega)
end
theorem px_:∀(fs r:List FileR),bL_ (fs++r)=bL_ fs++bL_ r
 |[],_=>rfl
 |f::fs,r=>by rw[cons_append,bL_,bL_,px_ fs r,kV]
theorem zf_(h:Own H b gL_ a (fs.length*3) (bL_ fs)):bR_ H a fs/\∀l o,a=some (l,o)->b<=l:=by
 rcases h with⟨rfl,D,_⟩|⟨l,rfl,F,r,_⟩
 .have:fs=[]:=length_eq_zero_iff.1 o_;exact⟨.inl ⟨rfl,this⟩,λl o e=>by grind⟩
 .exact⟨.inr ⟨l,rfl,r⟩,λA o e=>by grind⟩
theorem vv_[DecidableEq α]{ps:List (α × β)}:(ps.any λx=>decide (x.1=k))=(look ps k).isSome:=by
 unfold look;grind
theorem tj_ {y:InoR} (h:look ps k=some y):∃i,∃hi:i<ps.length,vc_ (ps.map (·.1)) k=((i:Nat):Int)/\ps[i]=(k,y):=by
 unfold look at h;cases r:ps.find? λp=>decide (p.1=k) with
 |none=>rw[r]at h;cases h
 |some p=>
  rw[r]at h;rw[find?_eq_some_iff_getElem]at r;have⟨D,i,hi,e,F⟩:=r;refine⟨i,hi,vj_ g_ g_ λj G A=>?_,g_⟩;grind
section
variable{B H:Hp}{Q:Post}{sp n1 n2 n3:Nat}{a1 a2 a3:Pl}{st:StD}
theorem fC_ (h:db_ B H sp a1 n1 a2 n2 a3 n3 st) (hn:st.snaps.length<=900/\st.links.length<=900/\st.inos.length<=900) (hk:∀l∈st.links,(st.inos.any λx=>decide (x.1=l.2.1))=true)
 (hQ:∀H' a,H<+:H'->bV_ H' H.length a (aH_ st)->Q (nL a (aH_ st).length 5) H'):ax_ [yQ sp] H Q:=by
 refine⟨st.snaps.length*(st.links.length+2)+1+1,?_⟩;rw[nA_];have etn:∀k:Nat,tN (k:Int)=k:=λ_=>rfl;have hl1:=h.l1;have hl2:=h.l2;have hl3:=h.l3;have hlen:(aH_ st).length=st.snaps.length:=by unfold aH_;rw[k9]
 have go3:∀(f i F:Nat)(G:Hp)(a:Pl),f=st.snaps.length-i->i<=st.snaps.length->f*(st.links.length+2)+1<=F->H<+:G->bV_ G H.length a ((aH_ st).take i)->
  ax_.l3 F (some (sp,0)) a i ((i:Nat):Int) G Q:=by
  intro f;induction f with
  |zero=>
   intro i F G a hf hi hF hG ha;obtain⟨F,rfl⟩:∃G,F=G+1:=⟨F-1,o_⟩;obtain⟨g1,g2,g3⟩:=(h.mono hG).rd;rw[ax_.l3_eq];simp only[ae_];rw[ad_ g1,ah_];refine aa_ (λe=>by simp at e;omega) λe=>?_;have hie:i=(aH_ st).length:=by omega
   rw[hie,take_length]at ha;rw[hie];exact hQ G a hG ha
  | succ f ih=>
   intro i F G a hf hi hF hG ha;have hil:i<st.snaps.length:=by omega
   rw[Nat.succ_mul]at hF;generalize hW:f*(st.links.length+2)=W at hF ih;obtain⟨F,rfl⟩:∃G,F=G+1:=⟨F-1,o_⟩;have hR:=h.mono hG;obtain⟨g1,g2,g3⟩:=hR.rd;rw[ax_.l3_eq];simp only[ae_];rw[ad_ g1,ah_];refine aa_ (λe=>?_) (λe=>by simp at e;omega);rw[ad_ g1,ah_];refine ab_ rfl (ab_ s_ ?_);obtain⟨l1,e1,r1,r2,r3,r4,r5⟩:=hR.snapG i hil;subst e1;simp only[ae_,etn,kN,kQ];rw[ad_ r1,aq_,ad_ r2,ai_,ad_ r3,ai_,ad_ r4,aq_,ad_ r5,aq_];generalize hx:st.snaps[i]=x;have hGs0:=hG;generalize hGs:G=Gs at hGs0 ha;have go8:∀(g j F:Nat)(G:Hp)(p:Pl)(fs:List FileR),g=st.links.length-j->j<=st.links.length->g+1+W+1<=F->Gs<+:G->Own G Gs.length gL_ p (fs.length*3) (bL_ fs)->
    fs=((st.links.take j).filter λl=>decide (l.1.1=x.2.id)).map (bz_ st)->
    ax_.l8 F (some (sp,0)) a i ((i:Nat):Int) x.1 x.2.id x.2.kind x.2.parent x.2.label x.1 x.2.kind x.2.parent x.2.label p fs.length ((j:Nat):Int) G Q:=by
    intro g;induction g with
    | zero=>
     intro j F G p fs hg hj hF hG' ho hfs;have hG:=hGs0.trans hG';obtain⟨F,rfl⟩:∃G,F=G+1:=⟨F-1,o_⟩;have hR:=h.mono hG;obtain⟨g1,g2,g3⟩:=hR.rd;rw[ax_.l8_eq];simp only[ae_];rw[ad_ g2,ah_];refine aa_ (λe=>by simp at e;omega) λe=>?_;have hje:j=st.links.length:=by omega
     rw[hje,take_length]at hfs;obtain⟨f1,f2⟩:=zf_ ho;have hi':i<(aH_ st).length:=by omega
     have hinf:(aH_ st)[i]=⟨x.1,x.2.kind,x.2.parent,x.2.label,fs⟩:=by
      have:(aH_ st)[i]?=some ⟨x.1,x.2.kind,x.2.parent,x.2.label,fs⟩:=by
       unfold aH_;rw[getElem?_map,kG hil,hx,hfs];rfl
      rw[kG hi']at this;exact Option.some.inj this
     refine ab_ rfl ?_;have hti:((aH_ st).take i).length=i:=by rw[lC];omega
     have key:=yy_ (i:=⟨x.1,x.2.kind,x.2.parent,x.2.label,fs⟩) (K:=λa' n' G'=>ax_.l3 F (some (sp,0)) a' n' (ac_ .i64 (((i:Nat):Int)+1)) G' Q) (ha.pre hG') hG.length_le f1 (λl o e=>⟨Nat.le_trans hGs0.length_le (f2 l o e),λo' q=>by subst q;have:=ha.lt;have:=f2 l o e;omega⟩) o_ λa' G' ha' hk' hl'=>by
      rw[kI,hti,length_singleton,ao_ o_];refine ih (i+1) F G' a' o_ hil o_ (j7_ (Nat.le_trans hG.length_le hl') λl hl=>by rw[hk' l hl,a8_ hG hl]) ?_;rw[take_add_one,kG hi',hinf];exact ha'
     rw[hti]at key;exact key
    | succ g ihg=>
     intro j F G p fs hg hj hF hG' ho hfs;have hG:=hGs0.trans hG';have hjl:j<st.links.length:=by omega
     obtain⟨F,rfl⟩:∃G,F=G+1:=⟨F-1,o_⟩;have hR:=h.mono hG;obtain⟨g1,g2,g3⟩:=hR.rd;rw[ax_.l8_eq];simp only[ae_];rw[ad_ g2,ah_];refine aa_ (λe=>?_) (λe=>by simp at e;omega);rw[ad_ g2,ah_];refine ab_ rfl (ab_ s_ ?_);obtain⟨l2,e2,q1,q2,q3,q4,_⟩:=hR.linkG j hjl;subst e2;simp only[ae_,etn,kN,kQ];rw[ad_ q1,ai_,ad_ q2,aq_,ad_ q3,ai_,ad_ q4,am_];refine fK_ hR o_ ?_;simp only[aN_,ai_];have hlk:=hk _ (kE hjl);rw[vv_]at hlk;obtain⟨y,hy⟩:=Option.isSome_iff_exists.1 hlk;obtain⟨m,hm,em,ey⟩:=tj_ hy;rw[em];have w1:ac_ .i64 (((j:Nat):Int)+1)=((j+1:Nat):Int):=ao_ o_;rw[w1];have hfile:bz_ st st.links[j]=(st.links[j].1.2,y.content,st.links[j].2.2):=by unfold bz_;rw[hy]
     have htk:(st.links.take (j+1)).filter (λl=>decide (l.1.1=x.2.id))=(st.links.take j).filter (λl=>decide (l.1.1=x.2.id))++(if st.links[j].1.1=x.2.id then [st.links[j]] else []):=by
      rw[take_add_one,kG hjl,filter_append];congr 1;by_cases z:st.links[j].1.1=x.2.id<;>simp[z]
     refine aa_ (λe=>?_) λe=>?_
     ·have e':st.links[j].1.1=x.2.id:=by simpa using e
      rw[if_pos e']at htk;refine aa_ (λ_=>?_) (λe=>by simp at e);rw[ad_ g3,ah_];refine ab_ rfl (ab_ s_ ?_);obtain⟨l3,e3,_,_,z3⟩:=hR.inoG m hm;subst e3;simp only[ae_,etn,kN,kQ];rw[ad_ z3,aq_,ey];dsimp only;refine ab_ rfl ?_;have hfl:fs.length<=900:=by
       rw[hfs,k9];exact Nat.le_trans (length_filter_le _ _) (by rw[lC];omega)
      have hH0:H<+:G:=hG;refine ks_ (H0:=Gs) o_ hG' ho (m:=1) rfl (by unfold Lim;omega) λp' G' o' ex fr=>?_;have hcs:bL_ fs++[.str st.links[j].1.2,.str y.content,.bool st.links[j].2.2]=bL_ (fs++[bz_ st st.links[j]]):=by
       rw[px_,hfile];rfl
      rw[hcs]at o';have hfl':(fs++[bz_ st st.links[j]]).length=fs.length+1:=by simp
      rw[<-hfl']at o' ⊢;exact ihg (j+1) F G' p' _ o_ hjl o_ ex.pre o' (by rw[hfs,htk,kL];rfl)
     .have e': ¬ st.links[j].1.1=x.2.id:=by simpa using e
      rw[if_neg e',append_nil]at htk;exact ihg (j+1) F G p fs o_ hjl o_ hG' ho (by rw[htk];exact hfs)
   subst hGs;exact go8 _ 0 F G none [] rfl (kP _) o_ (k8 _) (.inl ⟨rfl,rfl,rfl⟩) rfl
 exact go3 _ 0 _ H none rfl (kP _) (by rw[Nat.sub_zero];omega) (k8 _) (.inl ⟨rfl,t_⟩)
end
theorem vZ_:∀(l:KV)(st:StD)(x:Y_ × Y_),ia_ f st (l++[x])=match ia_ f st l with|some s=>f s x|none=>none
 |[],st,x=>by
  simp[ia_];grind
 |y::l,st,x=>by
  rw[cons_append];unfold ia_;cases f st y with
  |none=>rfl
  |some s=>exact vZ_ l s x
theorem Cn_{ps:KV}(hi:i<ps.length):eS_ (ps.take (i+1))=match eS_ (ps.take i) with|some s=>ji_ s ps[i]|none=>none:=by
 rw[take_add_one,kG hi];exact vZ_ _ _ _
theorem sn_(h:eS_ (ps.take i)=none):eS_ ps=none:=by
 rw[qj_]at h ⊢;grind
theorem yv_{l:List Int}:l.Nodup↔∀i (hi:i<l.length),vc_ l l[i]=i:=by
 constructor
 .refine λh i hi=>vj_ hi rfl λj A r e=>?_;have:=(getElem_inj h).1 e;omega
 .unfold Nodup;rw[kS];grind
section
variable{H:Hp}{Q:Post}{x:Pl}{n:Nat}{cs:List PC}{T:List Pg}{s:Y_}
theorem iz_ (hT:Tr H x n cs T)
 (h1:ofD T=none->∀H' p,H<+:H'->Q (.tup [.s (.ptr p),.s (.bool false)]) H')
 (h2:∀st,ofD T=some st->∀B H' sp a1 n1 a2 n2 a3 n3,H<+:B->db_ B H' sp a1 n1 a2 n2 a3 n3 st->Q (.tup [.s (.ptr (some (sp,0))),.s (.bool true)]) H'):
 b0_ [yA x n] H Q:=by
 refine⟨200,?_⟩;rw[Bb_];refine yg_ hT λa m H1 p1 o1 l1=>?_;simp only[aI_,aC_,bG_,ah_,ai_,ba_,fk_,d4_];have etn:∀k:Nat,tN (k:Int)=k:=λ_=>rfl;have hm60:=nd_ T;have hkv:=zT_ T;refine aa_ (λe=>?_) λe=>?_
 .refine h1 ?_ _ _ (p1.trans (b8_ _ _));unfold ofD;cases hh:decide (0<aK_ T) with
  |false=>rfl
  |true=>unfold ko_ at e;rw[hh]at e;cases e
 have hh:decide (0<aK_ T)=true:=by
  cases hh:decide (0<aK_ T) with
  |true=>rfl
  |false=>unfold ko_ at e;rw[hh]at e;cases e
 have hof:ofD T=es_ (ea_ T):=by unfold ofD;rw[hh]
 have R0:db_ H1 (H1++[.row true Kw_ [.sl none 0 5,.sl none 0 4,.sl none 0 3]]) H1.length none 0 none 0 none 0 st0:=
  ⟨⟨Kw_,by rw[getElem?_concat_length]⟩,b8_ _ _,kO _,.inl ⟨rfl,rfl,rfl⟩,.inl ⟨rfl,rfl,rfl⟩,.inl ⟨rfl,rfl,rfl⟩,rfl,rfl,rfl,(λl e=>by cases e),(λl e=>by cases e),(λl e=>by cases e),t_,t_,t_⟩
 have go11:∀(f i F:Nat)(G:Hp)(a1:Pl)(n1:Nat)(a2:Pl)(n2:Nat)(a3:Pl)(n3:Nat)(st:StD),f=st.snaps.length-i->i<=st.snaps.length->f+1<=F->eS_ (ea_ T)=some st->db_ H1 G H1.length a1 n1 a2 n2 a3 n3 st->(∀j (hj:j<st.snaps.length),j<i->vc_ (st.snaps.map (·.2.id)) st.snaps[j].2.id=j)->
  b0_.l11 F H1.length 0 ((i:Nat):Int) H1.length 0 G Q:=by
  intro f;induction f with
  | zero=>
   intro i F G a1 n1 a2 n2 a3 n3 st hf hi hF hd hR hp;obtain⟨F,rfl⟩:∃G,F=G+1:=⟨F-1,o_⟩;have hl1:=hR.l1;obtain⟨g1,g2,g3⟩:=hR.rd;obtain⟨d1,d2,d3⟩:=ir_ hd;have hasc:=ij_ (lp_ T) hd;rw[b0_.l11_eq,ad_ g1,ah_];refine aa_ (λe=>by simp at e;omega) λe=>?_;have hnd:(st.snaps.map λx=>x.2.id).Nodup:=yv_.2 λj hj=>by
    rw[k9]at hj;rw[getElem_map];exact hp j hj o_
   have hpre:=p1.trans hR.pre;refine q3_ hR ⟨o_,o_⟩ ?_;simp only[aN_,am_];refine aa_ (λe=>?_) λe=>?_
   ·have hlk:∀l∈st.links,(st.inos.any λx=>decide (x.1=l.2.1))=true:=by
     unfold dz_ at e;rw[kR,all_eq_true]at e;exact e.1
    refine fC_ hR ⟨o_,o_,o_⟩ hlk λG1 ia pG1 hia=>?_;simp only[aN_,ah_];have sz:=(ie_ hasc).sizes (oC_ hd) o_;refine ff_ hia.rd (Ff_ hasc) o_ sz.2 ?_;simp only[aN_,am_];have hsok:jy_ st=bx_ (aH_ st) (aH_ st).length 0:=by unfold jy_;rw[e,lE hnd];rfl
    cases hf:bx_ (aH_ st) (aH_ st).length 0 with
    |false=>
     refine h1 ?_ _ _ (hpre.trans pG1);rw[hof];unfold es_;rw[hd];dsimp only;rw[hsok,hf]
    |true=>
     exact h2 st (by rw[hof];unfold es_;rw[hd];dsimp only;rw[hsok,hf]) H1 G1 H1.length a1 n1 a2 n2 a3 n3 p1 (hR.mono pG1)
   .refine h1 ?_ _ _ hpre;rw[hof];unfold es_;rw[hd];dsimp only;rw[show jy_ st=false by unfold jy_;rw[e,Bool.false_and]]
  | succ f ih=>
   intro i F G a1 n1 a2 n2 a3 n3 st hf hi hF hd hR hp;have hil:i<st.snaps.length:=by omega
   obtain⟨F,rfl⟩:∃G,F=G+1:=⟨F-1,o_⟩;have hl1:=hR.l1;obtain⟨g1,g2,g3⟩:=hR.rd;obtain⟨d1,d2,d3⟩:=ir_ hd;rw[b0_.l11_eq,ad_ g1,ah_];refine aa_ (λe=>?_) (λe=>by simp at e;omega);rw[ad_ g1,ah_];refine ab_ rfl (ab_ s_ ?_);obtain⟨l,rfl,r1,r2,_⟩:=hR.snapG i hil;simp only[ae_,etn,kN,kQ];rw[ad_ r2,ai_];refine jf_ hR o_ ?_;simp only[aN_,ai_];refine aa_ (λe=>?_) λe=>?_
   ·refine h1 ?_ _ _ (p1.trans hR.pre);rw[hof];unfold es_;rw[hd];dsimp only;rw[show jy_ st=false by
     unfold jy_;rw[show decide (st.snaps.map λx=>x.2.id).Nodup=false by
      rw[decide_eq_false_iff_not];intro q;have:=yv_.1 q i (by simpa using hil);rw[getElem_map]at this;rw[this]at e;simp at e]
     rw[Bool.false_and,Bool.and_false]]
   .rw[ao_ o_];refine ih (i+1) F G _ n1 a2 n2 a3 n3 st o_ hil o_ hd hR λj hj hji=>?_;rcases Nat.lt_or_eq_of_le (Nat.le_of_lt_succ hji) with z|z
    .exact hp j hj z
    .subst z;simpa using e
 have go6:∀(f i F:Nat)(G:Hp)(a1:Pl)(n1:Nat)(a2:Pl)(n2:Nat)(a3:Pl)(n3:Nat)(st:StD),f=m-i->i<=m->f+100<=F->eS_ ((ea_ T).take i)=some st->db_ H1 G H1.length a1 n1 a2 n2 a3 n3 st->
  b0_.l6 F a m H1.length 0 ((i:Nat):Int) H1.length 0 G Q:=by
  intro f;induction f with
  |zero=>
   intro i F G a1 n1 a2 n2 a3 n3 st hf hi hF hd hR;obtain⟨F,rfl⟩:∃G,F=G+1:=⟨F-1,o_⟩;rw[b0_.l6_eq];refine aa_ (λe=>by simp at e;omega) λe=>?_;rw[k7 o_]at hd;have:=ir_ hd;exact go11 _ 0 F G a1 n1 a2 n2 a3 n3 st rfl (kP _) o_ hd hR (λj hj h=>by omega)
  |succ f ih=>
   intro i F G a1 n1 a2 n2 a3 n3 st hf hi hF hd hR;have him:i<m:=by omega
   obtain⟨F,rfl⟩:∃G,F=G+1:=⟨F-1,o_⟩;rw[b0_.l6_eq];refine aa_ (λe=>?_) (λe=>by simp at e;omega);obtain⟨l,o,rfl,q1,q2⟩:=Kv.get (H:=G) (Kv.mono hR.pre ⟨o1.cells,l1⟩) (i:=i) o_;refine ab_ rfl (ab_ s_ ?_);simp only[ae_,etn];rw[ad_ q1,aq_,ad_ q2,aq_];have hmem:=hkv _ (kE (show i<(ea_ T).length by omega));have d:=ir_ hd;have ht:((ea_ T).take i).length<=i:=by rw[lC];omega
   have hl1:=hR.l1;have hl2:=hR.l2;have hl3:=hR.l3;have hstep:=Cn_ (ps:=ea_ T) (i:=i) o_;rw[hd]at hstep;dsimp only at hstep;refine uy_ o_ o_ hR ⟨o_,o_,o_⟩ (λhn a1 n1 a2 n2 a3 n3 st' G' hR'=>?_) λst' hs a1 n1 a2 n2 a3 n3 G' hR'=>?_
   .simp only[aN_,am_];rw[show ji_ st (ea_ T)[i]=none from hn]at hstep;refine aa_ (λ_=>?_) (λe=>by cases e);refine h1 ?_ _ _ (p1.trans hR'.pre);rw[hof];unfold es_;rw[sn_ hstep]
   .simp only[aN_,am_];rw[show ji_ st (ea_ T)[i]=some st' from hs]at hstep;refine aa_ (λe=>by cases e) λ_=>?_;rw[ao_ o_];exact ih (i+1) F G' a1 n1 a2 n2 a3 n3 st' o_ him o_ hstep hR'
 exact go6 _ 0 _ _ none 0 none 0 none 0 st0 rfl (kP _) o_ rfl R0
theorem rq_(h:jy_ st=true):∀l∈st.links,(st.inos.any λx=>decide (x.1=l.2.1))=true:=by
 unfold jy_ dz_ at h;grind
theorem te_(J:Tr H x n cs T)
 (Y:ofD T=none->∀H',H<+:H'->Q (.tup [yR none 0 5,nN 2000]) H')
 (O:∀st,ofD T=some st->∀H' b a,H<+:H'->H.length<=b->bV_ H' b a (aH_ st)->Q (.tup [yR a (aH_ st).length 5,nN 0]) H'):
 do_ [yA x n] H Q:=by
 refine⟨1,?_⟩;rw[vK_];refine iz_ J (λe H' p D=>?_) λst e B H' U V Z a2 n2 a3 n3 F A=>?_
 .simp_all
 .have⟨_,N,r⟩:=jY_ e;have d:=ir_ N;have I:=nd_ T;refine fC_ A ⟨o_,o_,o_⟩ (rq_ r) λG a W ha=>?_;simp[aN_];have D:=F.trans A.pre;grind
end
section
variable{H:Hp}{Q:Post}{x:Pl}{n:Nat}{cs:List PC}{T:List Pg}{s:Y_}
theorem pb_ (V:fA_ H a fs) (U:fA_ H b fs) (Z:fs.length<=100000) (O:Q (gB true) H):bN_ [nL a fs.length 3,nL b fs.length 3] H Q:=by
 refine⟨fs.length+2,?_⟩;rw[r3_];have A:∀k:Nat,tN (k:Int)=k:=λ_=>rfl;refine aa_ (λe=>by simp_all) λ_=>?_;have go:∀(f k),f=fs.length-k->k<=fs.length->bN_.l4 (f+1) a fs.length b fs.length (k) H Q:=by
  intro f;induction f with
  |zero=>
   intro k Y J;rw[bN_.l4_eq];exact aa_ (λe=>by simp at e;omega) λ_=>O
  |succ f ih=>
   intro k Y J;have r:k<fs.length:=by omega
   rw[bN_.l4_eq];refine aa_ (λe=>?_) (λe=>by omega);obtain⟨l,o,rfl,N,W,I⟩:=V _ r;obtain⟨l',o',rfl,D,F,G⟩:=U _ r;refine ab_ rfl (ab_ (by simp_all) ?_);simp only[ae_,A];rw[ad_ N,aq_,ad_ W,aq_,ad_ I,am_];refine ab_ rfl (ab_ s_ ?_);rw[ad_ D,aq_,ad_ F,aq_,ad_ G,am_];refine aa_ (λe=>by simp_all) λ_=>?_;rw[ao_ o_];grind
 grind
theorem ql_{i:InfoR}(h1:fA_ H p i.files)(h2:fA_ H q i.files)(hn:i.files.length<=100000)(hQ:Q (gB true) H):
 fr_ [.agg [.str i.name,.int .i64 i.kind,.str i.parent,.str i.label,.sl p i.files.length 3],.agg [.str i.name,.int .i64 i.kind,.str i.parent,.str i.label,.sl q i.files.length 3]] H Q:=by
 refine⟨1,?_⟩;rw[sB_];exact aa_ (λ_=>aa_ (λ_=>aa_ (λ_=>aa_ (λ_=>pb_ h1 h2 hn hQ) λe=>by simp at e) λe=>by simp at e) λe=>by simp at e) (λe=>by simp at e)
theorem jn_ (h1:dD_ H a is) (h2:dD_ H b is) (hn:is.length<=1000) (U:∀i∈is,i.files.length<=100000) (hQ:Q (gB true) H):bJ_ [nL a is.length 5,nL b is.length 5] H Q:=by
 refine⟨is.length+2,?_⟩;rw[qI_];have D:∀k:Nat,tN (k:Int)=k:=λ_=>rfl;refine aa_ (λe=>by simp_all) λ_=>?_;have go:∀(f k),f=is.length-k->k<=is.length->bJ_.l4 (f+1) a is.length b is.length (k) H Q:=by
  intro f;induction f with
  |zero=>
   intro k U Y;rw[bJ_.l4_eq];exact aa_ (λe=>by simp at e;omega) λ_=>hQ
  |succ f ih=>
   intro k V Y;have A:k<is.length:=by omega
   rw[bJ_.l4_eq];refine aa_ (λe=>?_) (λe=>by omega);obtain⟨l,o,p,rfl,Z,W,r3,r4,r5,r6⟩:=h1 _ A;obtain⟨l',o',p',rfl,I,J,G,O,F,N⟩:=h2 _ A;refine ab_ rfl (ab_ s_ ?_);simp only[ae_,D];rw[ad_ Z,aq_,ad_ W,ai_,ad_ r3,aq_,ad_ r4,aq_,ad_ r5,ah_];refine ab_ rfl (ab_ s_ ?_);rw[ad_ I,aq_,ad_ J,ai_,ad_ G,aq_,ad_ O,aq_,ad_ F,ah_];refine ql_ r6 N (U _ (kE A)) ?_;simp only[aN_,am_];refine aa_ (λe=>by cases e) λ_=>?_;rw[ao_ o_];grind
 grind
end
theorem ma_(r:0<=n)(A:n<=255):((bof n).toNat:Int)=n:=by
 have:=jU_ r A;rw[Cb_ r A]at this;grind
theorem JR_(a b:Y_):bs (a++b)=bs a++bs b:=by unfold bs;simp
theorem jW_(l:List UInt8):(mkS l).size=l.length:=by rfl
theorem JM_(s:Y_)(j:Nat)(b:UInt8)(h:(bs s)[j]?=some b):byt s j=(b.toNat:Int):=by
 have r:j<s.size:=(kC.1 h).1;have:=sU_ s j r;grind
theorem Aw_(l:List UInt8)(n:Y_):sub (mkS l++n) l.length (mkS l++n).size=n:=by
 apply i6_;rw[iE_,JR_,Hi_,drop_left' rfl]
theorem Jt_(s:Y_)(l h:Nat):bs (sub s l h)=((bs s).take h).drop l:=by
 unfold sub bs;simp[drop_take]
def qe_(n:Y_):Y_:=mkS [115]++n
def lb_(x:SnapR):Y_:=(mkS [bof x.id,bof x.kind,bof (sz x.parent)]++x.parent)++x.label
def mO_(k:LKey):Y_:=mkS [102,bof k.1]++k.2
def uT_(v:LVal):Y_:=mkS [bof v.1,match v.2 with|true=>1|false=>0]
def nV_(i:Int):Y_:=mkS [105,bof i]
def tB_(x:InoR):Y_:=mkS [bof x.links]++x.content
theorem il_(h:a2_ n 4=true):co_ (qe_ n)=some n:=by
 unfold co_ qe_;have A:byt (mkS [115]++n) 0=115:=by rfl
 have D:=Aw_ [115] n;have r:leI 1 (sz (mkS [115]++n))=true:=by simp;omega
 simp_all
theorem kb_(I:1<=k.1)(r:k.1<=255)(h:a2_ k.2 3=true):bY_ (mO_ k)=some k:=by
 unfold bY_ mO_;have G:byt (mkS [102,bof k.1]++k.2) 0=102:=by rfl
 have F:byt (mkS [102,bof k.1]++k.2) 1=k.1:=ma_ o_ r;have A:=Aw_ [102,bof k.1] k.2;have D:leI 2 (sz (mkS [102,bof k.1]++k.2))=true:=by simp;omega
 simp_all
theorem oB_(A:1<=i)(r:i<=255):c6_ (nV_ i)=some i:=by
 unfold c6_ nV_;have D:byt (mkS [105,bof i]) 0=105:=by rfl
 have F:byt (mkS [105,bof i]) 1=i:=ma_ o_ r;simp_all
def wP_(o:Bool):UInt8:=match o with|true=>1|false=>0
theorem Dn_(G:0<=v.1)(r:v.1<=255):e3_ (uT_ v)=some v:=by
 have F:byt (uT_ v) 0=v.1:=ma_ G r;have D:byt (uT_ v) 1=((wP_ v.2).toNat):=JM_ _ 1 _ rfl;have A:eqI (sz (uT_ v)) 2=true:=rfl;unfold e3_;rw[F,D,A];have⟨i,o⟩:=v;cases o<;>rfl
theorem DO_(h:ek_ x=true):cP_ (tB_ x)=some x:=by
 have A:=h;unfold ek_ at A;have J:1<=x.links:=by simp_all
 have r:x.links<=255:=by simp_all
 have F:byt (tB_ x) 0=x.links:=ma_ o_ r;have D:sub (tB_ x) 1 (tB_ x).size=x.content:=Aw_ [bof x.links] x.content;have G:t9_ (tB_ x)=x:=by unfold t9_;rw[F,D]
 have I:leI 1 (sz (tB_ x))=true:=by simp[tB_];omega
 unfold cP_;grind
theorem oo_(h:fy_ x=true):(1<=x.id/\x.id<=255)/\(0<=x.kind/\x.kind<=2)/\x.parent.size<=4/\x.label.size<=3:=by
 unfold fy_ at h;simp only[kR,Bool.or_eq_true]at h;have⟨⟨A,F⟩,⟨D,r⟩,h5,h6⟩:=h;refine⟨⟨by simpa using A,by simp_all⟩,⟨by simpa using D,by simpa using r⟩,?_,by simp at h6;omega⟩;rcases h5 with q|q
 .simp_all
 .have:=eM_ q;omega
theorem BZ_ (h:fy_ x=true):bC_ (lb_ x)=some x:=by
 have⟨⟨b1,D⟩,⟨Z,F⟩,b5,b6⟩:=oo_ h;have r:bs (lb_ x)=[bof x.id,bof x.kind,bof (sz x.parent)]++(bs x.parent++bs x.label):=by rfl
 have V:(lb_ x).size=3+(x.parent.size+x.label.size):=by unfold lb_;simp;omega
 have W:byt (lb_ x) 0=x.id:=ma_ o_ D;have I:byt (lb_ x) 1=x.kind:=ma_ o_ o_;have A:byt (lb_ x) 2=sz x.parent:=ma_ t_ s_;have G:tN (3+byt (lb_ x) 2)=3+x.parent.size:=by rw[A];show (3+(x.parent.size:Int)).toNat=_;omega
 have J:sub (lb_ x) 3 (3+x.parent.size)=x.parent:=by
  apply i6_;rw[Jt_,r,drop_take];simp_all
 have N:sub (lb_ x) (3+x.parent.size) (lb_ x).size=x.label:=by
  apply i6_;rw[iE_,r,<-kV,drop_left'];simp;omega
 have Y:n1_ (lb_ x)=x:=by
  unfold n1_;simp_all
 unfold bC_;have U:leI 3 (sz (lb_ x))=true:=by simp;omega
 have O:leI (3+sz x.parent) (sz (lb_ x))=true:=by simp;omega
 grind
def iS_(x:Y_ × SnapR):Y_ × Y_:=(qe_ x.1,lb_ x.2)
def kT_(x:LKey × LVal):Y_ × Y_:=(mO_ x.1,uT_ x.2)
def se_(x:Int × InoR):Y_ × Y_:=(nV_ x.1,tB_ x.2)
def to_(st:StD):KV:=st.snaps.map iS_++(st.links.map kT_++st.inos.map se_)
section
variable{H:Hp}{Q:Post}
theorem pS_(h:a2_ n 4=true)(r:Q (.tup [.s (.str (qe_ n)),nN 0]) H):fo_ [gS n] H Q:=by
 have A:=eM_ h;refine⟨1,?_⟩;rw[sF_];refine cF_ o_ (aa_ (λe=>by grind) λ_=>?_);exact⟨s_,r⟩
theorem pY_(h:fy_ x=true)(A:∀H',H<+:H'->Q (.tup [.s (.str (lb_ x)),nN 0]) H'):fm_ [.agg [.int .i64 x.id,.int .i64 x.kind,.str x.parent,.str x.label]] H Q:=by
 have⟨⟨I,r⟩,⟨G,D⟩,b5,b6⟩:=oo_ h;refine⟨1,?_⟩;rw[s9_];refine jK_ o_ (aa_ (λe=>by grind) λ_=>?_);rw[jU_ o_ r,jU_ o_ (show x.kind<=255 by omega),jU_ (show 0<=sz x.parent by simp) s_,er_ (cs:=u8s [bof x.id,bof x.kind,bof (sz x.parent)]) (by simp[cells?,u8s]),hR_];refine⟨s_,?_⟩;refine⟨s_,?_⟩;exact A _ (b8_ _ _)
theorem qr_(G:1<=k.1)(r:k.1<=255)(h:a2_ k.2 3=true)(A:∀H',H<+:H'->Q (.tup [.s (.str (mO_ k)),nN 0]) H'):fl_ [gI k.1,gS k.2] H Q:=by
 have F:=eM_ h;refine⟨1,?_⟩;rw[td_];refine g1_ (aa_ (λe=>by simp_all) λ_=>fR_ o_ (aa_ (λe=>by grind) λ_=>?_));rw[jU_ o_ r,er_ (cs:=u8s [102,bof k.1]) (by simp[cells?,u8s]),hR_];exact⟨s_,A _ (b8_ _ _)⟩
theorem pc_(F:1<=i)(r:i<=255)(A:∀H',H<+:H'->Q (.tup [.s (.str (nV_ i)),nN 0]) H'):eR_ [gI i] H Q:=by
 refine⟨1,?_⟩;rw[rK_];refine g1_ (aa_ (λe=>by simp_all) λ_=>?_);rw[jU_ o_ r,er_ (cs:=u8s [105,bof i]) (by simp[cells?,u8s]),hR_];exact A _ (b8_ _ _)
theorem pd_(h:ek_ x=true)(D:∀H',H<+:H'->Q (.tup [.s (.str (tB_ x)),nN 0]) H'):eP_ [.agg [.int .i64 x.links,.str x.content]] H Q:=by
 have r:=h;unfold ek_ at r;simp only[kR]at r;have I:1<=x.links:=by simp_all
 have A:x.links<=255:=by simp_all
 have G:x.content.size<=6:=by have:=r.2;simp at this;omega
 refine⟨1,?_⟩;rw[qM_];refine jl_ (aa_ (λe=>by grind) λ_=>?_);rw[jU_ o_ A,er_ (cs:=u8s [bof x.links]) (by simp[cells?,u8s]),hR_];exact⟨s_,D _ (b8_ _ _)⟩
end
def eJ_(ps es:KV):KV:=es.foldl (λps p=>insK ps p.1 p.2) ps
def eI_(st:StD):KV:=eJ_ [] (to_ st)
structure TrK(H:Hp)(x:Pl)(n:Nat)(ps:KV):Prop where
 ex:∃cs A,Tr H x n cs A/\0<aK_ A/\ea_ A=ps
theorem TrK.mono{H H':Hp}(h:TrK H x n ps)(p:H<+:H'):TrK H' x n ps:=by
 have⟨D,A,F,r⟩:=h.ex;exact⟨D,A,F.mono p,r⟩
theorem TrK.asc(h:TrK H x n ps):Asc ps:=by
 have⟨D,A,_,_,r⟩:=h.ex;rw[<-r];exact lp_ A
theorem EC_:ea_ mQ_=[]:=by decide+kernel
theorem D8_(h:a2_ n 4=true):1<=(qe_ n).size/\(qe_ n).size<=6:=by
 have:=eM_ h;unfold qe_;simp;omega
theorem Eq_(h:fy_ x=true):(lb_ x).size<=10:=by
 have⟨_,_,A,r⟩:=oo_ h;unfold lb_;simp;omega
theorem DW_(h:a2_ k.2 3=true):1<=(mO_ k).size/\(mO_ k).size<=6:=by
 have:=eM_ h;unfold mO_;simp;omega
theorem En_(h:ek_ x=true):(tB_ x).size<=10:=by
 unfold ek_ at h;simp at h;have:=h.2;unfold tB_;simp;omega
section
variable{B H:Hp}{Q:Post}{sp n1 n2 n3:Nat}{a1 a2 a3:Pl}{st:StD}
theorem zF_ (h:TrK H x n ps) (hn:n<=48) (Z:ps.length<60) (k1:1<=key.size) (k2:key.size<=6) (k3:v.size<=10)
 (V:∀H' x',H<+:H'->TrK H' x' 48 (insK ps key v)->(insK ps key v).length<=ps.length+1->Q (.tup [yB x' 48,nN 0]) H'):bl_ [yA x n,gS key,gS v] H Q:=by
 have r:=h.asc;have⟨cs,A,J,I,N⟩:=h.ex;have W:ea_ A=cI_ A:=by unfold ea_;rw[lE I]
 have U:u1_ A key v=0:=by
  unfold u1_ rH_;grind
 refine sL_ J o_ (λH' e _=>absurd U e) λ_ _ x' F O H' p D ok=>?_;have⟨G,Y⟩:=EW_ ok I;rw[N]at G;refine V H' x' p ⟨F,O,D,ok.pos,G⟩ ?_;rw[vz_ r];grind
theorem mI_ (h:db_ B H sp a1 n1 a2 n2 a3 n3 st) (ok:zS_ st) (hm:st.snaps.length+st.links.length+st.inos.length<=60)
 (hQ:∀H' x',H<+:H'->TrK H' x' 48 (eI_ st)->Q (yA x' 48) H'):ar_ [yQ sp] H Q:=by
 refine⟨st.snaps.length+2*st.links.length+st.inos.length+10,?_⟩;rw[o5_];have etn:∀k:Nat,tN (k:Int)=k:=λ_=>rfl;have hl1:=h.l1;have hl2:=h.l2;have hl3:=h.l3;refine k0_ λH1 p1 o1=>?_;simp only[e4_,a9_,ah_,bD_];have T0:TrK H1 (some (H.length,0)) 48 (eJ_ [] []):=⟨s5_,mQ_,o1.tr,by rw[IT_];omega,EC_⟩;have go18:∀(f i F:Nat)(G:Hp)(x:Pl),f=st.inos.length-i->i<=st.inos.length->f+1<=F->H<+:G->TrK G x 48 (eJ_ [] (st.snaps.map iS_++(st.links.map kT_++(st.inos.take i).map se_)))->(eJ_ [] (st.snaps.map iS_++(st.links.map kT_++(st.inos.take i).map se_))).length<=st.snaps.length+st.links.length+i->
  ar_.l18 F (some (sp,0)) none 0 x 48 ((i:Nat):Int) G Q:=by
  intro f;induction f with
  |zero=>
   intro i F G x hf hi hF hG hT hL;obtain⟨F,rfl⟩:∃G,F=G+1:=⟨F-1,o_⟩;obtain⟨g1,g2,g3⟩:=(h.mono hG).rd;rw[ar_.l18_eq];simp only[ae_];rw[ad_ g3,ah_];refine aa_ (λe=>by simp at e;omega) λ_=>?_;rw[k7 o_]at hT;exact hQ G x hG hT
  | succ f ih=>
   intro i F G x hf hi hF hG hT hL;have hil:i<st.inos.length:=by omega
   obtain⟨F,rfl⟩:∃G,F=G+1:=⟨F-1,o_⟩;have hR:=h.mono hG;obtain⟨g1,g2,g3⟩:=hR.rd;rw[ar_.l18_eq];simp only[ae_];rw[ad_ g3,ah_];refine aa_ (λe=>?_) (λe=>by simp at e;omega);rw[ad_ g3,ah_];refine ab_ rfl (ab_ s_ ?_);obtain⟨l3,e3,r1,r2,r3⟩:=hR.inoG i hil;subst e3;simp only[ae_,etn,kN,kQ];rw[ad_ r1,ai_];obtain⟨⟨c1,c2⟩,c3⟩:=ok.inos _ (kE hil);refine pc_ c1 c2 λG1 pG1=>?_;simp only[aI_,aC_,bG_,aq_,ai_,ba_];obtain⟨g1',g2',g3'⟩:=(hR.mono pG1).rd;rw[ad_ g3',ah_];refine ab_ rfl (ab_ s_ ?_)
   try simp only[ae_,etn,kN,kQ]
   rw[ad_ (cB_ pG1 r2),ai_,ad_ (cB_ pG1 r3),aq_];refine pd_ c3 λG2 pG2=>?_;simp only[aI_,aC_,bG_,aq_,ai_,ba_];refine zF_ (hT.mono (pG1.trans pG2)) o_ o_ (by unfold nV_;rw[jW_];simp) (by unfold nV_;rw[jW_];simp) (En_ c3) λG3 x' pG3 hT' hl'=>?_;simp only[aI_,aC_,eb_,a9_,ah_,bD_,bG_,ai_,ba_];rw[ao_ o_];have he:eJ_ [] (st.snaps.map iS_++(st.links.map kT_++(st.inos.take (i+1)).map se_))=insK (eJ_ [] (st.snaps.map iS_++(st.links.map kT_++(st.inos.take i).map se_))) (nV_ st.inos[i].1) (tB_ st.inos[i].2):=by
    rw[take_add_one,kG hil];unfold eJ_;rw[Option.toList_some,kL,<-kV,<-kV,foldl_append];rw[kV];rfl
   refine ih (i+1) F G3 x' o_ hil o_ (hG.trans (pG1.trans (pG2.trans pG3))) (by rw[he];exact hT') (by rw[he];omega)
 have go9:∀(f i F:Nat)(G:Hp)(x:Pl),f=st.links.length-i->i<=st.links.length->2*f+(st.inos.length+2)<=F->H<+:G->TrK G x 48 (eJ_ [] (st.snaps.map iS_++(st.links.take i).map kT_))->(eJ_ [] (st.snaps.map iS_++(st.links.take i).map kT_)).length<=st.snaps.length+i->
  ar_.l9 F (some (sp,0)) none 0 x 48 ((i:Nat):Int) G Q:=by
  intro f;induction f with
  | zero=>
   intro i F G x hf hi hF hG hT hL;obtain⟨F,rfl⟩:∃G,F=G+1:=⟨F-1,o_⟩;obtain⟨g1,g2,g3⟩:=(h.mono hG).rd;rw[ar_.l9_eq];simp only[ae_];rw[ad_ g2,ah_];refine aa_ (λe=>by simp at e;omega) λ_=>?_;rw[k7 o_]at hT hL;refine go18 _ 0 F G x rfl (kP _) o_ hG ?_ ?_
   .simpa using hT
   .have:eJ_ [] (st.snaps.map iS_++(st.links.map kT_++(st.inos.take 0).map se_))=eJ_ [] (st.snaps.map iS_++st.links.map kT_):=by simp
    rw[this];omega
  | succ f ih=>
   intro i F G x hf hi hF hG hT hL;have hil:i<st.links.length:=by omega
   obtain⟨F,rfl⟩:∃G,F=G+1+1:=⟨F-2,o_⟩;have hR:=h.mono hG;obtain⟨g1,g2,g3⟩:=hR.rd;rw[ar_.l9_eq];simp only[ae_];rw[ad_ g2,ah_];refine aa_ (λe=>?_) (λe=>by simp at e;omega);rw[ad_ g2,ah_];refine ab_ rfl (ab_ s_ ?_);obtain⟨l2,e2,r1,r2,r3,r4,_⟩:=hR.linkG i hil;subst e2;simp only[ae_,etn,kN,kQ];rw[ad_ r1,ai_,ad_ r2,aq_,ad_ r3,ai_,ad_ r4,am_];obtain⟨⟨c1,c2⟩,c3,c4,c5⟩:=ok.links _ (kE hil);refine qr_ c1 c2 c3 λG1 pG1=>?_;simp only[aI_,aC_,bG_,aq_,ai_,ba_];have he:eJ_ [] (st.snaps.map iS_++(st.links.take (i+1)).map kT_)=insK (eJ_ [] (st.snaps.map iS_++(st.links.take i).map kT_)) (mO_ st.links[i].1) (uT_ st.links[i].2):=by
    rw[take_add_one,kG hil];unfold eJ_;rw[Option.toList_some,kL,<-kV,foldl_append];rfl
   have tail:∀(own:Int),own=((wP_ st.links[i].2.2).toNat:Int)->ar_.l16 (F+1) (some (sp,0)) none 0 x 48 ((i:Nat):Int) st.links[i].1.1 st.links[i].1.2 st.links[i].2.1 st.links[i].2.2 (mO_ st.links[i].1) own G1 Q:=by
    intro own ho;rw[ar_.l16_eq];simp only[fk_,d4_];rw[jU_ c4 c5,ho];rw[er_ (cs:=u8s [bof st.links[i].2.1,wP_ st.links[i].2.2]) (by simp[cells?,u8s]),hR_];have pG2:G1<+:G1++[Obj.row true 5 [.int .u8 ((bof st.links[i].2.1).toNat:Int),.int .u8 ((wP_ st.links[i].2.2).toNat:Int)]]:=b8_ _ _;have hkb:=DW_ c3;refine zF_ (key:=mO_ st.links[i].1) (v:=uT_ st.links[i].2) (hT.mono (pG1.trans pG2)) o_ o_ hkb.1 hkb.2 (by unfold uT_;rw[jW_];simp) λG3 x' pG3 hT' hl'=>?_;simp only[aI_,aC_,eb_,a9_,ah_,bD_,bG_,ai_,ba_];rw[ao_ o_];exact ih (i+1) F G3 x' o_ hil o_ (hG.trans (pG1.trans (pG2.trans pG3))) (by rw[he];exact hT') (by rw[he];omega)
   refine aa_ (λe=>tail 1 (by rw[e];rfl)) λe=>tail 0 (by rw[e];rfl)
 have go3:∀(f i F:Nat)(G:Hp)(x:Pl),f=st.snaps.length-i->i<=st.snaps.length->f+(2*st.links.length+(st.inos.length+2))+1<=F->H<+:G->TrK G x 48 (eJ_ [] ((st.snaps.take i).map iS_))->(eJ_ [] ((st.snaps.take i).map iS_)).length<=i->
  ar_.l3 F (some (sp,0)) none 0 x 48 ((i:Nat):Int) G Q:=by
  intro f;induction f with
  | zero=>
   intro i F G x hf hi hF hG hT hL;obtain⟨F,rfl⟩:∃G,F=G+1:=⟨F-1,o_⟩;obtain⟨g1,g2,g3⟩:=(h.mono hG).rd;rw[ar_.l3_eq];simp only[ae_];rw[ad_ g1,ah_];refine aa_ (λe=>by simp at e;omega) λ_=>?_;rw[k7 o_]at hT hL;refine go9 _ 0 F G x rfl (kP _) o_ hG ?_ ?_
   .simpa using hT
   .have:eJ_ [] (st.snaps.map iS_++(st.links.take 0).map kT_)=eJ_ [] (st.snaps.map iS_):=by simp
    rw[this];omega
  | succ f ih=>
   intro i F G x hf hi hF hG hT hL;have hil:i<st.snaps.length:=by omega
   obtain⟨F,rfl⟩:∃G,F=G+1:=⟨F-1,o_⟩;have hR:=h.mono hG;obtain⟨g1,g2,g3⟩:=hR.rd;rw[ar_.l3_eq];simp only[ae_];rw[ad_ g1,ah_];refine aa_ (λe=>?_) (λe=>by simp at e;omega);rw[ad_ g1,ah_];refine ab_ rfl (ab_ s_ ?_);obtain⟨l1,e1,r1,r2,r3,r4,r5⟩:=hR.snapG i hil;subst e1;simp only[ae_,etn,kN,kQ];rw[ad_ r1,aq_];obtain⟨c1,c2⟩:=ok.snaps _ (kE hil);refine pS_ c1 ?_;simp only[aI_,aC_,bG_,aq_,ai_,ba_];rw[ad_ g1,ah_];refine ab_ rfl (ab_ s_ ?_)
   try simp only[ae_,etn,kN,kQ]
   rw[ad_ r2,ai_,ad_ r3,ai_,ad_ r4,aq_,ad_ r5,aq_];refine pY_ c2 λG2 pG2=>?_;simp only[aI_,aC_,bG_,aq_,ai_,ba_];have hkb:=D8_ c1;refine zF_ (hT.mono pG2) o_ o_ hkb.1 hkb.2 (Eq_ c2) λG3 x' pG3 hT' hl'=>?_;simp only[aI_,aC_,eb_,a9_,ah_,bD_,bG_,ai_,ba_];rw[ao_ o_];have he:eJ_ [] ((st.snaps.take (i+1)).map iS_)=insK (eJ_ [] ((st.snaps.take i).map iS_)) (qe_ st.snaps[i].1) (lb_ st.snaps[i].2):=by
    rw[take_add_one,kG hil];unfold eJ_;rw[Option.toList_some,kL,foldl_append];rfl
   refine ih (i+1) F G3 x' o_ hil o_ (hG.trans (pG2.trans pG3)) (by rw[he];exact hT') (by rw[he];omega)
 exact go3 _ 0 _ H1 _ rfl (kP _) o_ p1 T0 (kO _)
end
def i0_(used:Int->Bool):Nat->Int->Int
 |0,_=>0
 |f+1,k=>match used k with|true=>i0_ used f (k+1)|false=>k
def n4_(st:StD)(id:Int):Bool:=(st.snaps.any λx=>decide (x.2.id=id))||st.links.any λl=>decide (l.1.1=id)
def ei_(st:StD):Int:=i0_ (n4_ st) 255 1
def ep_(st:StD):Int:=i0_ (λk=>st.inos.any λx=>decide (x.1=k)) 255 1
def lV_(st:StD)(id:Int)(path:Y_):Int:=match st.links.findIdx? (λl=>decide (l.1.1=id)&&decide (l.1.2=path)) with|some i=>(i:Int)|none=> -1
def jA_(st:StD):Int:=match st.links.findIdx? (λl=> !(st.snaps.any λx=>decide (x.2.id=l.1.1))) with|some i=>(i:Int)|none=> -1
theorem F2_{α:Type}{p:α->Bool}{l:List α}(hi:i<l.length)(h:p l[i]=true)(r:∀j (A:j<l.length),j<i->p l[j]=false):l.findIdx? p=some i:=by
 rw[findIdx?_eq_some_iff_getElem];grind
theorem AW_{α:Type}{p:α->Bool}{l:List α}(h:∀j (A:j<l.length),p l[j]=false):l.findIdx? p=none:=by
 rw[findIdx?_eq_none_iff];intro x r;obtain⟨j,A,rfl⟩:=kK r;grind
section
variable{B H:Hp}{Q:Post}{sp n1 n2 n3:Nat}{a1 a2 a3:Pl}{st:StD}
theorem gW_ (h:db_ B H sp a1 n1 a2 n2 a3 n3 st) (hn:st.snaps.length<=1000) (W:∀k (Z:k<st.snaps.length),st.snaps[k].1=s->(∀j (A:j<st.snaps.length),j<k->st.snaps[j].1≠s)->Q (gI ((k:Nat):Int)) H)
 (Y:(∀j (A:j<st.snaps.length),st.snaps[j].1≠s)->Q (gI (-1)) H):aS_ [yQ sp,gS s] H Q:=by
 have ⟨I,g2,g3⟩:=h.rd;refine⟨st.snaps.length+2,?_⟩;rw[nN_];have N:∀k:Nat,tN (k:Int)=k:=λ_=>rfl;have hl:=h.l1;have go:∀(f i),f=st.snaps.length-i->i<=st.snaps.length->(∀j A,j<i->st.snaps[j].1≠s)->aS_.l2 (f+1) (some (sp,0)) s (i) H Q:=by
  intro f;induction f with
  |zero=>
   intro i V J F;rw[aS_.l2_eq];simp;rw[ad_ I,ah_];refine aa_ (λe=>by simp at e;omega) λe=>?_;exact Y λj A=>F j A o_
  | succ f O=>
   intro i V J F;have D:i<st.snaps.length:=by omega
   rw[aS_.l2_eq];simp only[ae_];rw[ad_ I,ah_];refine aa_ (λe=>?_) (λe=>by simp at e;omega);rw[ad_ I,ah_];refine ab_ rfl (ab_ s_ ?_);obtain⟨l,rfl,U,r2,_⟩:=h.snapG i D;simp[ae_];rw[ad_ U,aq_];refine aa_ (λe=>?_) λe=>?_
   .exact W i D (by simpa using e) F
   .rw[ao_ o_];refine O (i+1) o_ D λj A G=>?_;rcases Nat.lt_or_eq_of_le (Nat.le_of_lt_succ G) with q|q
    .exact F j A q
    .subst q;simpa using e
 exact go _ 0 rfl (kP _) (λj A h=>by omega)
theorem u4_(h:db_ B H sp a1 n1 a2 n2 a3 n3 st)(F:st.snaps.length<=1000/\st.links.length<=1000/\st.inos.length<=1000)(G:Q (gI ((st.snaps.length+st.links.length+st.inos.length:Nat):Int)) H):dR_ [yQ sp] H Q:=by
 have⟨D,A,r⟩:=h.rd;refine⟨1,?_⟩;rw[o9_];simp only[ae_];rw[ad_ D,ah_,ad_ A,ah_,ad_ r,ah_,h.l1,h.l2,h.l3];simp;rw[cc_ (n:=((st.snaps.length:Nat):Int)+((st.links.length:Nat):Int)) o_ o_,cc_ o_ o_];grind
theorem IJ_:leI 0 (vc_ l k)=l.any λx=>decide (x=k):=by
 have:= @vq_ l k;cases h:(l.any λx=>decide (x=k)) with
 |true=>rw[h]at this;simp at this ⊢;omega
 |false=>rw[h]at this;simp at this ⊢;omega
theorem rA_ (h:db_ B H sp a1 n1 a2 n2 a3 n3 st) (hn:st.snaps.length<=1000/\st.links.length<=1000) (hQ:Q (gI (ei_ st)) H):aG_ [yQ sp] H Q:=by
 obtain⟨g1,g2,g3⟩:=h.rd;have etn:∀k:Nat,tN (k:Int)=k:=λ_=>rfl;have hl2:=h.l2;have go2:∀(f k F:Nat),f+k=256->1<=k->f*(st.links.length+2)+1<=F->Q (gI (i0_ (n4_ st) f ((k:Nat):Int))) H->aG_.l2 F (some (sp,0)) ((k:Nat):Int) H Q:=by
  intro f;induction f with
  |zero=>
   intro k F hk hk1 hF hQ;obtain⟨F,rfl⟩:∃G,F=G+1:=⟨F-1,o_⟩;rw[aG_.l2_eq];exact aa_ (λe=>by simp at e;omega) λ_=>hQ
  | succ f ih=>
   intro k F hk hk1 hF hQ;rw[Nat.succ_mul]at hF;generalize hW:f*(st.links.length+2)=W at hF ih;obtain⟨F,rfl⟩:∃G,F=G+1:=⟨F-1,o_⟩;rw[aG_.l2_eq];refine aa_ (λ_=>?_) (λe=>by simp at e;omega);refine jf_ h hn.1 ?_;simp only[aN_,ai_];rw[IJ_,any_map];have go6:∀(g i F:Nat),g=st.links.length-i->i<=st.links.length->g+1+W+1<=F->
    aG_.l6 F (some (sp,0)) ((k:Nat):Int) ((st.snaps.any λx=>decide (x.2.id=((k:Nat):Int)))||(st.links.take i).any λl=>decide (l.1.1=((k:Nat):Int))) ((i:Nat):Int) H Q:=by
    intro g;induction g with
    |zero=>
     intro i F hg hi hF;obtain⟨F,rfl⟩:∃G,F=G+1:=⟨F-1,o_⟩;rw[aG_.l6_eq];simp only[ae_];rw[ad_ g2,ah_];refine aa_ (λe=>by simp at e;omega) λ_=>?_;rw[k7 o_];rw[i0_]at hQ;refine aa_ (λe=>?_) λe=>?_
     .rw[show n4_ st ((k:Nat):Int)=false from el_ e]at hQ;exact hQ
     .rw[show n4_ st ((k:Nat):Int)=true from e0_ e]at hQ;rw[ao_ o_];refine ih (k+1) F o_ o_ o_ ?_;rw[show (((k+1:Nat)):Int)=((k:Nat):Int)+1 by omega];exact hQ
    | succ g ihg=>
     intro i F hg hi hF;have hil:i<st.links.length:=by omega
     obtain⟨F,rfl⟩:∃G,F=G+1:=⟨F-1,o_⟩;rw[aG_.l6_eq];simp only[ae_];rw[ad_ g2,ah_];refine aa_ (λ_=>?_) (λe=>by simp at e;omega);have w1:ac_ .i64 (((i:Nat):Int)+1)=((i+1:Nat):Int):=ao_ o_;have key:=ihg (i+1) F o_ hil o_;have ht:(st.links.take (i+1)).any (λl=>decide (l.1.1=((k:Nat):Int)))=((st.links.take i).any (λl=>decide (l.1.1=((k:Nat):Int)))||eqI st.links[i].1.1 ((k:Nat):Int)):=by
      rw[take_add_one,kG hil,any_append];simp
     rw[ht,<-Bool.or_assoc]at key;refine aa_ (λe=>?_) λe=>?_
     .rw[e,Bool.true_or]at key;rw[w1];exact key
     .rw[e,Bool.false_or]at key;rw[ad_ g2,ah_];refine ab_ rfl (ab_ s_ ?_);obtain⟨l2,rfl,r1,_⟩:=h.linkG i hil;simp only[ae_,etn,kN,kQ];rw[ad_ r1,ai_,w1];exact key
   have:=go6 _ 0 F rfl (kP _) o_;rw[take_zero,any_nil,Bool.or_false]at this;exact this
 refine⟨255*(st.links.length+2)+2,?_⟩;rw[m6_];exact go2 255 1 _ rfl o_ o_ hQ
theorem nP_ (h:db_ B H sp a1 n1 a2 n2 a3 n3 st) (N:st.inos.length<=1000) (r:Q (gI (ep_ st)) H):aX_ [yQ sp] H Q:=by
 have A:∀(f k F),f+k=256->1<=k->f+1<=F->Q (gI (i0_ (λk=>st.inos.any λx=>decide (x.1=k)) f ((k:Nat)))) H->aX_.l2 F (some (sp,0)) (k) H Q:=by
  intro f;induction f with
  |zero=>
   intro k F O D I r;obtain⟨F,rfl⟩:∃G,F=G+1:=⟨F-1,o_⟩;rw[aX_.l2_eq];exact aa_ (λe=>by simp_all) λ_=>r
  |succ f J=>
   intro k F O D I r;obtain⟨F,rfl⟩:∃G,F=G+1:=⟨F-1,o_⟩;rw[aX_.l2_eq];refine aa_ (λ_=>?_) (λe=>by simp at e;omega);refine fK_ h N ?_;simp only[aN_,ai_];rw[vq_,any_map];rw[i0_]at r;refine aa_ (λe=>?_) λe=>?_
   .grind
   .rw[ao_ o_];refine J (k+1) F o_ o_ o_ ?_;grind
 refine⟨258,?_⟩;rw[k3_];exact A 255 1 _ rfl o_ o_ r
theorem h4_ (h:db_ B H sp a1 n1 a2 n2 a3 n3 st) (Y:st.snaps.length<=1000/\st.links.length<=1000) (D:Q (gI (jA_ st)) H):bd_ [yQ sp] H Q:=by
 have ⟨g1,N,g3⟩:=h.rd;refine⟨st.links.length+2,?_⟩;rw[m1_];have I:∀k:Nat,tN (k:Int)=k:=λ_=>rfl;have Z:=h.l2;have go:∀(f i),f=st.links.length-i->i<=st.links.length->(∀j F,j<i->(!(st.snaps.any λx=>decide (x.2.id=st.links[j].1.1)))=false)->bd_.l2 (f+1) (some (sp,0)) (i) H Q:=by
  intro f;induction f with
  |zero=>
   intro i W O G;rw[bd_.l2_eq];simp;rw[ad_ N,ah_];refine aa_ (λe=>by simp at e;omega) λe=>?_;unfold jA_ at D;rw[AW_ λj F=>G j F o_]at D;exact D
  | succ f U=>
   intro i W O G;have A:i<st.links.length:=by omega
   rw[bd_.l2_eq];simp only[ae_];rw[ad_ N,ah_];refine aa_ (λe=>?_) (λe=>by simp at e;omega);rw[ad_ N,ah_];refine ab_ rfl (ab_ s_ ?_);obtain⟨l,rfl,V,r2,_⟩:=h.linkG i A;simp only[ae_,I,kN,kQ];rw[ad_ V,ai_];refine jf_ h Y.1 ?_;simp only[aN_,ai_];rw[vq_,any_map];refine aa_ (λe=>?_) λe=>?_
   .unfold jA_ at D;rw[F2_ A e G]at D;exact D
   .rw[ao_ o_];refine U (i+1) o_ A λj F J=>?_;rcases Nat.lt_or_eq_of_le (Nat.le_of_lt_succ J) with q|q
    .exact G j F q
    .subst q;exact e
 exact go _ 0 rfl (kP _) (λj F h=>by omega)
theorem ro_ (h:db_ B H sp a1 n1 a2 n2 a3 n3 st) (hn:st.snaps.length<=1000/\st.links.length<=1000) {s path:Y_} {x:SnapR} (hx:look st.snaps s=some x) (hQ:Q (gI (lV_ st x.id path)) H):a7_ [yQ sp,gS s,gS path] H Q:=by
 obtain⟨g1,g2,g3⟩:=h.rd;refine⟨st.links.length+2,?_⟩;rw[mS_];have etn:∀k:Nat,tN (k:Int)=k:=λ_=>rfl;have hl:=h.l2;have hl1:=h.l1;simp only[ae_];rw[ad_ g1,ah_];refine gW_ h hn.1 (λk hk e hmin=>?_) λq=>?_
 ·simp only[aN_,ai_];rw[ad_ g1,ah_];refine⟨rfl,ab_ rfl (ab_ s_ ?_)⟩;have hxk:st.snaps[k].2=x:=by
   unfold look at hx;have hf:st.snaps.find? (λp=>decide (p.1=s))=some st.snaps[k]:=by
    rw[find?_eq_some_iff_getElem];exact⟨by simpa using e,k,hk,rfl,λj hj=>by simpa using hmin j o_ hj⟩
   rw[hf]at hx;exact Option.some.inj hx
  obtain⟨l1,rfl,r1,r2,_⟩:=h.snapG k hk;simp only[ae_,etn,kN,kQ];rw[ad_ r2,ai_,hxk];have go:∀(f i:Nat),f=st.links.length-i->i<=st.links.length->(∀j (hj:j<st.links.length),j<i->(decide (st.links[j].1.1=x.id)&&decide (st.links[j].1.2=path))=false)->a7_.l3 (f+1) (some (sp,0)) path x.id ((i:Nat):Int) H Q:=by
   intro f;induction f with
   |zero=>
    intro i hf hi hp;rw[a7_.l3_eq];simp only[ae_];rw[ad_ g2,ah_];refine aa_ (λe=>by simp at e;omega) λe=>?_;unfold lV_ at hQ;rw[AW_ λj hj=>hp j hj o_]at hQ;exact hQ
   | succ f ih=>
    intro i hf hi hp;have hil:i<st.links.length:=by omega
    rw[a7_.l3_eq];simp only[ae_];rw[ad_ g2,ah_];refine aa_ (λe=>?_) (λe=>by simp at e;omega);rw[ad_ g2,ah_];refine ab_ rfl (ab_ s_ ?_);obtain⟨l,rfl,r1,r2,_⟩:=h.linkG i hil;simp only[ae_,etn,kN,kQ];rw[ad_ r1,ai_];have next:(decide (st.links[i].1.1=x.id)&&decide (st.links[i].1.2=path))=false->a7_.l3 (f+1) (some (sp,0)) path x.id (ac_ .i64 (((i:Nat):Int)+1)) H Q:=λe=>by
     rw[ao_ o_];refine ih (i+1) o_ hil λj hj hji=>?_;rcases Nat.lt_or_eq_of_le (Nat.le_of_lt_succ hji) with q|q
     .exact hp j hj q
     .subst q;exact e
    refine aa_ (λe=>?_) λe=>?_
    ·have e':st.links[i].1.1=x.id:=by simpa using e
     rw[ad_ g2,ah_];refine ab_ rfl (ab_ s_ ?_);simp only[ae_,etn,kN,kQ];rw[ad_ r2,aq_];refine aa_ (λe2=>?_) λe2=>?_
     .have e2':st.links[i].1.2=path:=by simpa using e2
      unfold lV_ at hQ;rw[F2_ hil (by rw[lE e',lE e2'];rfl) hp]at hQ;exact hQ
     .have e2': ¬ st.links[i].1.2=path:=by simpa using e2
      exact next (by rw[lH e2',Bool.and_false])
    .have e': ¬ st.links[i].1.1=x.id:=by simpa using e
     exact next (by rw[lH e',Bool.false_and])
  exact go _ 0 rfl (kP _) (λj hj h=>by omega)
 .have hm:=cW_ hx;obtain⟨j,hj,e⟩:=kK hm;exact absurd (by rw[e]) (q j hj)
end
end Go.Am
namespace Go.Am
structure zk_(st:StD):Prop where
 snaps:(st.snaps.map (·.1)).Nodup
 links:(st.links.map (·.1)).Nodup
 inos:(st.inos.map (·.1)).Nodup
theorem d7_[DecidableEq α](r:(ps.map (·.1)).Nodup){k:α}{v:β}:look ps k=some v↔(k,v)∈ps:=⟨cW_,λh=>hk_ r h⟩
theorem dQ_:dz_ st=true↔(∀l∈st.links,∃y,(l.2.1,y)∈st.inos)/\∀x∈st.inos,(fx_ st x.1:Int)=x.2.links:=by
 unfold dz_;grind
structure Sto(st:StD):Prop where
 ok:zS_ st
 nd:zk_ st
 lk:dz_ st=true
theorem rl_ [DecidableEq α] (r:(ps.map (·.1)).Nodup) {v v0:β} (h:look ps k=some v0) (x:α × β):x∈fF_ ps k v↔x=(k,v)\/(x∈ps/\x.1≠k):=by
 unfold fF_;rw[h,lA];constructor
 .grind
 .rintro (e|⟨D,A⟩)
  .exact⟨(k,v0),cW_ h,g_⟩
  .grind
theorem xo_[DecidableEq α](r:(ps.map (·.1)).Nodup){k:α}{v v0:β}(h:look ps k=some v0):((fF_ ps k v).map (·.1)).Nodup:=by
 rw[oH_,h];exact r
theorem kM_{α β:Type}{ps:List (α × β)}(r:(ps.map (·.1)).Nodup)(p:α × β->Bool):((ps.filter p).map (·.1)).Nodup:=
 List.Nodup.sublist (List.Sublist.map _ List.filter_sublist) r
def lk_(inos:List (Int × InoR))(k:Int)(y:InoR):List (Int × InoR):=(fF_ inos k ⟨y.links-1,y.content⟩).filter λx=>decide (0<x.2.links)
def gn_ (st:StD) (i:Nat):StD:=match st.links[i]? with
 |none=>st
 |some l=>match look st.inos l.2.1 with
  |none=>st
  |some y=>⟨st.snaps,st.links.eraseIdx i,lk_ st.inos l.2.1 y⟩
theorem j5_ {α:Type}:∀{l:List α}{i:Nat}(hi:i<l.length),(l[i]::l.eraseIdx i).Perm l
 |[],i,hi=>by grind
 |x::l,0,_=>List.Perm.refl _
 |x::l,i+1,hi=>by
  have r:i<l.length:=by grind
  have:=j5_ r;exact (List.Perm.swap x l[i] (l.eraseIdx i)).trans (this.cons x)
theorem tG_(hi:i<st.links.length)(ino:List (Int × InoR))(n:Int):fx_ st n=fx_ ⟨st.snaps,st.links.eraseIdx i,ino⟩ n+(if st.links[i].2.1=n then 1 else 0):=by
 unfold fx_;rw[<-(j5_ hi).countP_eq,List.countP_cons];grind
theorem Sto.ino(h:Sto st)(D:l∈st.links):∃y,look st.inos l.2.1=some y/\(l.2.1,y)∈st.inos/\1<=y.links/\y.links<=255/\(fx_ st l.2.1:Int)=y.links:=by
 have⟨y,r⟩:=(dQ_.1 h.lk).1 l D;have A:=(h.ok.inos _ r).2;unfold ek_ at A;simp at A;exact⟨y,(d7_ h.nd.inos).2 r,r,by simp_all,A.1.2,(dQ_.1 h.lk).2 _ r⟩
theorem eN_(h:Sto st)(hi:i<st.links.length):∃y,look st.inos st.links[i].2.1=some y/\gn_ st i=⟨st.snaps,st.links.eraseIdx i,lk_ st.inos st.links[i].2.1 y⟩:=by
 have⟨y,r,_⟩:=h.ino (kE hi);unfold gn_;grind
theorem zc_(r:(inos.map (·.1)).Nodup)(h:look inos k=some y)(x:Int × InoR):x∈lk_ inos k y↔(x=(k,⟨y.links-1,y.content⟩)/\1<y.links)\/(x∈inos/\x.1≠k/\0<x.2.links):=by
 unfold lk_;rw[List.mem_filter,rl_ r h];grind
theorem lf_ (h:Sto st) (hi:i<st.links.length):Sto (gn_ st i):=by
 have⟨y,J,e⟩:=eN_ h hi;have⟨Z,D,O,b1,b2,hc⟩:=h.ino (kE hi);rw[J]at D;cases D;have r:=zc_ h.nd.inos J;have⟨V,k2⟩:=dQ_.1 h.lk;rw[e];refine⟨⟨h.ok.snaps,λl F=>h.ok.links l (List.mem_of_mem_eraseIdx F),λx I=>?_⟩,⟨h.nd.snaps,?_,?_⟩,?_⟩
 .rcases (r x).1 I with⟨e,G⟩|⟨G,_⟩
  .subst e;have⟨W,N⟩:=h.ok.inos _ O;refine⟨W,?_⟩;unfold ek_ at N ⊢;simp only[kR]at N ⊢;refine⟨⟨?_,?_⟩,N.2⟩<;>simp<;>omega
  .exact h.ok.inos x G
 .exact List.Nodup.sublist (List.Sublist.map _ (List.eraseIdx_sublist _ _)) h.nd.links
 .exact kM_ (xo_ h.nd.inos J) _
 ·rw[dQ_];refine⟨λl F=>?_,λx I=>?_⟩
  .by_cases U:l.2.1=st.links[i].2.1
   .refine⟨⟨y.links-1,y.content⟩,(r _).2 (.inl ⟨by rw[U],?_⟩)⟩;have A:=tG_ hi (lk_ st.inos st.links[i].2.1 y) st.links[i].2.1;rw[if_pos rfl]at A;have:0<fx_ ⟨st.snaps,st.links.eraseIdx i,lk_ st.inos st.links[i].2.1 y⟩ st.links[i].2.1:=List.countP_pos_iff.2 ⟨l,F,by simpa using U⟩;omega
   .have⟨z,Y⟩:=V l (List.mem_of_mem_eraseIdx F);have:=(h.ok.inos _ Y).2;unfold ek_ at this;simp at this;grind
  .rcases (r x).1 I with⟨e,G⟩|⟨G,h2,_⟩
   .have A:=tG_ hi (lk_ st.inos st.links[i].2.1 y) st.links[i].2.1;grind
   .have A:=tG_ hi (lk_ st.inos st.links[i].2.1 y) x.1;grind
theorem id_(h:Sto st)(hi:i<st.links.length)(D:l∈(gn_ st i).links):bz_ (gn_ st i) l=bz_ st l:=by
 have F:=lf_ h hi;have⟨z,G,r,_⟩:=F.ino D;have⟨y,A,e⟩:=eN_ h hi;unfold bz_;rw[e]at r;rcases (zc_ h.nd.inos A _).1 r with⟨q,_⟩|⟨q,_⟩
 .grind
 .have:=(d7_ h.nd.inos).2 q;grind
def ed_(st:StD):Option Nat:=st.links.findIdx? λl=> !(st.snaps.any λx=>decide (x.2.id=l.1.1))
def od_:Nat->StD->StD
 |0,st=>st
 |f+1,st=>match ed_ st with|some i=>od_ f (gn_ st i)|none=>st
def Jg_(st:StD):StD:=od_ st.links.length st
def ee_(st:StD):Nat:=st.snaps.length+st.links.length+st.inos.length
def iP_(st:StD):StD:=match decide (60<ee_ st) with|true=>Jg_ st|false=>st
theorem qQ_(h:ed_ st=some i):∃hi:i<st.links.length,∀x∈st.snaps,x.2.id≠st.links[i].1.1:=by
 unfold ed_ at h;rw[List.findIdx?_eq_some_iff_getElem]at h;grind
theorem lW_(h:ed_ st=none):∀l∈st.links,∃x∈st.snaps,x.2.id=l.1.1:=by
 unfold ed_ at h;grind
structure he_(st st':StD):Prop where
 sto:Sto st'
 snaps:st'.snaps=st.snaps
 sub:∀l∈st'.links,l∈st.links
 all:∀l∈st.links,(∃x∈st.snaps,x.2.id=l.1.1)->l∈st'.links
 file:∀l∈st'.links,bz_ st' l=bz_ st l
theorem he_.refl(h:Sto st):he_ st st:=⟨h,rfl,λ_ h=>h,λ_ h _=>h,λ_ _=>rfl⟩
theorem y3_ (g:he_ st st') (hi:i<st'.links.length) (G:∀x∈st'.snaps,x.2.id≠st'.links[i].1.1):he_ st (gn_ st' i):=by
 have⟨y,J,I⟩:=eN_ g.sto hi;have F:(gn_ st' i).snaps=st'.snaps:=by grind
 have A:(gn_ st' i).links=st'.links.eraseIdx i:=by grind
 refine⟨lf_ g.sto hi,by rw[F,g.snaps],λl h=>?_,λl h r=>?_,λl h=>?_⟩
 .rw[A]at h;exact g.sub l (List.mem_of_mem_eraseIdx h)
 .have D:=g.all l h r;rw[A];have:=(j5_ hi).mem_iff (a:=l);rcases kU.1 (this.2 D) with q|q
  .have⟨x,r,e⟩:=r;exact absurd g_ (G x (by rw[g.snaps];exact r))
  .exact q
 .rw[id_ g.sto hi h];rw[A]at h;exact g.file l (List.mem_of_mem_eraseIdx h)
theorem nH_:∀(f:Nat){st r:StD},he_ st r->he_ st (od_ f r)/\(r.links.length<=f->ed_ (od_ f r)=none)
 |0,st,r,g=>⟨g,λh=>by
  unfold od_ ed_;have:r.links=[]:=List.length_eq_zero_iff.1 o_;rw[this];rfl⟩
 | f+1,st,r,g=>by
  unfold od_;cases e:ed_ r with
  |none=>exact⟨g,λ_=>e⟩
  |some i=>
   have⟨A,D⟩:=qQ_ e;have⟨I,J⟩:=nH_ f (y3_ g A D);have⟨y,G,F⟩:=eN_ g.sto A;grind
theorem CV_ (h:Sto st):he_ st (iP_ st)/\(60<ee_ st->ed_ (iP_ st)=none):=by
 unfold iP_;cases D:decide (60<ee_ st) with
 |false=>exact⟨he_.refl h,λq=>by grind⟩
 |true=>
  have⟨r,A⟩:=nH_ st.links.length (he_.refl h);exact⟨r,λ_=>A (kO _)⟩
end Go.Am
namespace Go.Am
open List
theorem iT_ {α:Type} {f:α->List GV} (r:∀x,(f x).length=m) (A:j<m) {x':α}:∀(l:List α)(i:Nat)(hi:i<l.length),(f l[i]).set j v=f x'->(l.flatMap f).set (i*m+j) v=(l.set i x').flatMap f
 |[],i,hi,_=>by simp
 |x::l,0,hi,h=>by
  grind
 |x::l,i+1,hi,h=>by
  rw[flatMap_cons,set_append_right _ _ g_,set_cons_succ,flatMap_cons,show (i+1)*m+j-(f x).length=i*m+j by rw[r,Nat.succ_mul];omega,iT_ r A l i g_ h]
theorem w3_[DecidableEq α](r:(ps.map (·.1)).Nodup){k:α}{v v0:β}(G:m<ps.length)(h:ps[m]=(k,v0)):fF_ ps k v=ps.set m (k,v):=by
 unfold fF_;have A:=hk_ r (x:=(k,v0)) g_;rw[A];dsimp;apply ext_getElem t_;intro j D I;rw[getElem_map,getElem_set];have F:j<ps.length:=by grind
 by_cases e:m=j
 .grind
 .rw[if_neg e,if_neg];intro q;apply e;exact (getElem_inj (h₀:=by grind) (h₁:=by simpa) r).1 g_
section
variable{B H:Hp}{Q:Post}{sp n1 n2 n3:Nat}{a1 a2 a3:Pl}{st:StD}
theorem db_.setL (h:db_ B H sp a1 n1 a2 n2 a3 n3 st) {G:Hp} (p:H<+:G) (o:Own G H.length At_ a' (n'*4) (ls.flatMap A6_)) (V:n'=ls.length)
 (N:∀D,D.length=G.length->B<+:D->db_ B D sp a1 n1 a' n' a3 n3 { st with links:=ls }->K D):wr G sp (0+1) (.sl a' n' 4) K:=by
 have r:=h.mono p;obtain⟨t,O⟩:=r.row;have U:=h.spl;refine b7_ O t_ ?_;have low:∀l o,a'=some (l,o)->H.length<=l:=λl W e=>by
  rcases o with⟨q,_⟩|⟨Y,e',Z,_⟩
  .grind
  .grind
 have A:a'≠some (sp,0):=λe=>by grind
 have F:=dM_ r.pre r.base (.row true t ([.sl a1 n1 5,.sl a2 n2 4,.sl a3 n3 3].set (0+1) (.sl a' n' 4)));refine N _ t_ F ⟨⟨t,g_⟩,F,r.base,r.snaps.set h.s1 _,?_,r.inos.set h.s3 _,h.l1,V,h.l3,?_,h.d13,?_,h.s1,A,h.s3⟩
 .exact Own.set (o.base h.pre.length_le) A _
 .intro l I J;have:=h.snaps.lt' I;grind
 .intro l I J;have:=h.inos.lt' J;grind
theorem db_.setI (h:db_ B H sp a1 n1 a2 n2 a3 n3 st) {G:Hp} (p:H<+:G) {A:Pl} {F:Nat} {ls:List (Int × InoR)} (o:Own G H.length Ib_ A (F*3) (ls.flatMap inoC)) (Z:F=ls.length)
 (V:∀I,I.length=G.length->B<+:I->db_ B I sp a1 n1 a2 n2 A F { st with inos:=ls }->K I):wr G sp (0+2) (.sl A F 3) K:=by
 have r:=h.mono p;have⟨t,O⟩:=r.row;have Y:=h.spl;refine b7_ O t_ ?_;have U:=(kC.1 O).1;have low:∀l o,A=some (l,o)->H.length<=l:=λl o' e=>by
  rcases o with⟨q,_⟩|⟨l',e',hb,_⟩
  .grind
  .grind
 have D:A≠some (sp,0):=λe=>by grind
 have N:=dM_ r.pre r.base (.row true t ([.sl a1 n1 5,.sl a2 n2 4,.sl a3 n3 3].set (0+2) (.sl A F 3)));refine V _ t_ N ⟨⟨t,g_⟩,N,r.base,r.snaps.set h.s1 _,r.links.set h.s2 _,?_,h.l1,h.l2,Z,h.d12,?_,?_,h.s1,h.s2,D⟩
 .exact Own.set (o.base h.pre.length_le) D _
 .intro l J W;have:=h.snaps.lt' J;grind
 .intro l J W;have:=h.links.lt' J;grind
theorem db_.updI (h:db_ B H sp a1 n1 a2 n2 (some (r,0)) n3 st) (O:m<st.inos.length) (v:Int)
 (V:∀F,F.length=H.length->db_ B F sp a1 n1 a2 n2 (some (r,0)) n3 { st with inos:=st.inos.set m (st.inos[m].1,⟨v,st.inos[m].2.content⟩) }->K F):wr H r (m*3+1) (.int .i64 v) K:=by
 have⟨t,Y⟩:=h.row;have N:=h.l3;rcases h.inos with⟨q,_⟩|⟨l,e,I,A,W⟩
 .cases q
 .cases e;refine b7_ A o_ ?_;have U:r≠sp:=λe=>by have:=h.s3;exact this (by rw[e])
  have J:(st.inos.flatMap inoC).set (m*3+1) (.int .i64 v)=(st.inos.set m (st.inos[m].1,⟨v,st.inos[m].2.content⟩)).flatMap inoC:=iT_ (m:=3) (λ_=>rfl) o_ st.inos m O rfl;have D:=(kC.1 A).1;rw[J];refine V _ t_ ⟨⟨t,g_⟩,dM_ h.pre I _,h.base,h.snaps.set (λe=>h.d13 r e rfl) _,h.links.set (λe=>h.d23 r e rfl) _,.inr ⟨r,rfl,I,by rw[kH D],by rw[<-J];simp[W]⟩,h.l1,h.l2,by simpa using h.l3,h.d12,h.d13,h.d23,h.s1,h.s2,h.s3⟩
theorem vE_ {α:Type} {l:List α} (r:j<l.length):(l.take (j+1)).eraseIdx i=if j=i then (l.take j).eraseIdx i else (l.take j).eraseIdx i++[l[j]]:=by
 rw[take_add_one,kG r,Option.toList_some,eraseIdx_append];have D:(l.take j).length=j:=by grind
 rw[D];by_cases h:j=i
 .subst h;grind
 .rw[if_neg h];by_cases A:i<j
  .grind
  .rw[if_neg A,eraseIdx_of_length_le (k:=i) o_,show ([l[j]]:List α).eraseIdx (i-j)=[l[j]] from by rw[show i-j=(i-j-1)+1 by omega];rfl]
theorem mq_ (h:db_ B H sp a1 n1 a2 n2 a3 n3 st) (hS:Sto st) (hn:st.links.length<=1000/\st.inos.length<=1000) {i:Nat} (hi:i<st.links.length)
 (hQ:∀H' a2' n2' a3' n3',db_ B H' sp a1 n1 a2' n2' a3' n3' (gn_ st i)->Q (.tup []) H'):aF_ [yQ sp,gI ((i:Nat):Int)] H Q:=by
 obtain⟨g1,g2,g3⟩:=h.rd;refine⟨st.links.length+st.inos.length+10,?_⟩;rw[pn_];have etn:∀k:Nat,tN (k:Int)=k:=λ_=>rfl;have hl2:=h.l2;simp only[ae_];rw[ad_ g2,ah_];refine ab_ rfl (ab_ s_ ?_);obtain⟨y,hy,eq⟩:=eN_ hS hi;obtain⟨y',hy',hm',b1,b2,hc⟩:=hS.ino (kE hi);rw[hy]at hy';cases hy';obtain⟨m,hm,em,ey⟩:=tj_ hy;obtain⟨l2,e2,_,_,_,_,r5⟩:=h.linkG i hi;subst e2;simp only[ae_,etn,kN,kQ];rw[ad_ r5,ai_];refine fK_ h hn.2 ?_;simp only[aN_,ai_];rw[em];have hls:∀(ls:List (LKey × LVal)),ls.length<=st.links.length->ls.length*4<=4000:=λls h=>by omega
 have back:∀(F:Nat)(G:Hp)(a2':Pl)(n2':Nat),st.inos.length+2<=F->db_ B G sp a1 n1 a2' n2' a3 n3 ⟨st.snaps,st.links.eraseIdx i,fF_ st.inos st.links[i].2.1 ⟨y.links-1,y.content⟩⟩->aF_.l11 F (some (sp,0)) none 0 0 G Q:=by
  intro F G a2' n2' hF hR;generalize hp:fF_ st.inos st.links[i].2.1 ⟨y.links-1,y.content⟩=P at hR;have hPl:P.length=st.inos.length:=by rw[<-hp,w3_ hS.nd.inos hm ey];simp
  have hl3:n3=P.length:=hR.l3;have go:∀(f j F:Nat)(G':Hp)(a':Pl)(n':Nat),f=P.length-j->j<=P.length->f+1<=F->G<+:G'->Own G' G.length Ib_ a' (n'*3) (((P.take j).filter λx=>decide (0<x.2.links)).flatMap inoC)->n'=((P.take j).filter λx=>decide (0<x.2.links)).length->
   aF_.l11 F (some (sp,0)) a' n' ((j:Nat):Int) G' Q:=by
   intro f;induction f with
   |zero=>
    intro j F G' a' n' hf hj hF hG' ho hn';obtain⟨F,rfl⟩:∃G,F=G+1:=⟨F-1,o_⟩;obtain⟨g1,g2,g3⟩:=(hR.mono hG').rd;rw[aF_.l11_eq];simp only[ae_];rw[ad_ g3,ah_];refine aa_ (λe=>by simp at e;omega) λe=>?_;rw[k7 o_]at ho hn';refine hR.setI hG' ho hn' λG'' _ _ hR'=>hQ G'' a2' n2' a' n' ?_;rw[eq];unfold lk_;rw[hp];exact hR'
   | succ f ih=>
    intro j F G' a' n' hf hj hF hG' ho hn';have hjl:j<P.length:=by omega
    obtain⟨F,rfl⟩:∃G,F=G+1:=⟨F-1,o_⟩;have hR':=hR.mono hG';obtain⟨g1,g2,g3⟩:=hR'.rd;rw[aF_.l11_eq];simp only[ae_];rw[ad_ g3,ah_];refine aa_ (λe=>?_) (λe=>by simp at e;omega);rw[ad_ g3,ah_];refine ab_ rfl (ab_ s_ ?_);obtain⟨l3,e3,q1,q2,q3⟩:=hR'.inoG j hjl;subst e3;simp only[ae_,etn,kN,kQ];rw[ad_ q2,ai_];have w1:ac_ .i64 (((j:Nat):Int)+1)=((j+1:Nat):Int):=ao_ o_;have ht:(P.take (j+1)).filter (λx=>decide (0<x.2.links))=(P.take j).filter (λx=>decide (0<x.2.links))++(if 0<P[j].2.links then [P[j]] else []):=by
     rw[take_add_one,kG hjl,filter_append];congr 1;by_cases z:0<P[j].2.links<;>simp[z]
    have hnl:((P.take j).filter λx=>decide (0<x.2.links)).length<=1000:=Nat.le_trans (length_filter_le _ _) (by rw[lC];omega);refine aa_ (λe=>?_) λe=>?_
    .have e':0<P[j].2.links:=by simpa using e
     rw[if_pos e']at ht;rw[ad_ g3,ah_];refine ab_ rfl (ab_ s_ ?_);simp only[ae_,etn,kN,kQ];rw[ad_ q1,ai_,ad_ q2,ai_,ad_ q3,aq_];refine ab_ rfl ?_;refine ks_ (H0:=G) o_ hG' ho (m:=1) rfl (by unfold Lim;omega) λx' G'' o' ex fr=>?_;rw[w1];refine ih (j+1) F G'' x' _ o_ hjl o_ ex.pre ?_ ?_
     .rw[ht,flatMap_append,flatMap_singleton];exact o'
     .rw[ht,kI];simp;omega
    .have e': ¬ 0<P[j].2.links:=by simpa using e
     rw[if_neg e',append_nil]at ht;rw[w1];exact ih (j+1) F G' a' n' o_ hjl o_ hG' (by rw[ht];exact ho) (by rw[ht];exact hn')
  exact go _ 0 F G none 0 rfl (kP _) o_ (k8 _) (.inl ⟨rfl,rfl,rfl⟩) rfl
 have go:∀(f j F:Nat)(G:Hp)(a':Pl)(n':Nat),f=st.links.length-j->j<=st.links.length->f+(st.inos.length+2)+1<=F->H<+:G->Own G H.length At_ a' (n'*4) (((st.links.take j).eraseIdx i).flatMap A6_)->n'=((st.links.take j).eraseIdx i).length->
  aF_.l3 F (some (sp,0)) ((i:Nat):Int) ((m:Nat):Int) a' n' ((j:Nat):Int) G Q:=by
  intro f;induction f with
  |zero=>
   intro j F G a' n' hf hj hF hG ho hn';obtain⟨F,rfl⟩:∃G,F=G+1:=⟨F-1,o_⟩;obtain⟨g1,g2,g3⟩:=(h.mono hG).rd;rw[aF_.l3_eq];simp only[ae_];rw[ad_ g2,ah_];refine aa_ (λe=>by simp at e;omega) λe=>?_;rw[k7 o_]at ho hn';refine h.setL hG ho hn' λG1 _ _ hR=>?_;obtain⟨g1',g2',g3'⟩:=hR.rd;rw[ad_ g3',ah_];have hl3:=h.l3;refine ab_ rfl (ab_ s_ ?_);obtain⟨l3,e3,q1,q2,q3⟩:=hR.inoG m hm;subst e3;simp only[ae_,etn,kN,kQ];rw[ad_ q2,ai_];refine ab_ rfl (ab_ s_ ?_);have hv:ac_ .i64 (st.inos[m].2.links-1)=y.links-1:=by rw[ey];exact cc_ (by dsimp only;omega) (by dsimp only;omega)
   rw[hv];refine hR.updI hm _ λG2 hG2 hR2=>?_;refine back F G2 a' n' o_ ?_;rw[w3_ hS.nd.inos hm ey];have:(st.inos[m].1,(⟨y.links-1,st.inos[m].2.content⟩:InoR))=(st.links[i].2.1,⟨y.links-1,y.content⟩):=by rw[ey]
   rw[this]at hR2;exact hR2
  | succ f ih=>
   intro j F G a' n' hf hj hF hG ho hn';have hjl:j<st.links.length:=by omega
   obtain⟨F,rfl⟩:∃G,F=G+1:=⟨F-1,o_⟩;have hR:=h.mono hG;obtain⟨g1,g2,g3⟩:=hR.rd;rw[aF_.l3_eq];simp only[ae_];rw[ad_ g2,ah_];refine aa_ (λe=>?_) (λe=>by simp at e;omega);have w1:ac_ .i64 (((j:Nat):Int)+1)=((j+1:Nat):Int):=ao_ o_;have ht:=vE_ (i:=i) hjl;have hnl:((st.links.take j).eraseIdx i).length<=1000:=Nat.le_trans (length_eraseIdx_le _ _) (by rw[lC];omega);refine aa_ (λe=>?_) λe=>?_
   .have e': ¬ j=i:=by simp at e;omega
    rw[if_neg e']at ht;rw[ad_ g2,ah_];refine ab_ rfl (ab_ s_ ?_);obtain⟨l2',e2',q1,q2,q3,q4,_⟩:=hR.linkG j hjl;cases e2';simp only[ae_,etn,kN,kQ];rw[ad_ q1,ai_,ad_ q2,aq_,ad_ q3,ai_,ad_ q4,am_];refine ab_ rfl ?_;refine ks_ (H0:=H) o_ hG ho (m:=1) rfl (by unfold Lim;omega) λx' G'' o' ex fr=>?_;rw[w1];refine ih (j+1) F G'' x' _ o_ hjl o_ ex.pre ?_ ?_
    .rw[ht,flatMap_append,flatMap_singleton];exact o'
    .rw[ht,kI];simp;omega
   .have e':j=i:=by simp at e;omega
    rw[if_pos e']at ht;rw[w1];exact ih (j+1) F G a' n' o_ hjl o_ hG (by rw[ht];exact ho) (by rw[ht];exact hn')
 exact go _ 0 _ H none 0 rfl (kP _) o_ (k8 _) (.inl ⟨rfl,rfl,rfl⟩) rfl
theorem sP_:∀(f:Nat){H:Hp}{J:Pl}{n2:Nat}{I:Pl}{F:Nat}{st:StD},db_ B H sp a1 n1 J n2 I F st->Sto st->st.snaps.length<=1000->st.links.length<=1000->st.inos.length<=1000->st.links.length<=f->
 (∀H' N A O D,db_ B H' sp a1 n1 N A O D (od_ f st)->Q (.tup []) H')->bK_.l0 (f+1) (some (sp,0)) H Q:=by
 intro f;induction f with
 | zero=>
  intro H J n2 I F st h V U G Y hf r;rw[bK_.l0_eq];refine h4_ h ⟨U,G⟩ ?_;simp[aN_];have:jA_ st= -1:=by
   unfold jA_;grind
  rw[this];exact r H J n2 I F h
 | succ f Z=>
  intro H J n2 I F st h V U G Y hf r;rw[bK_.l0_eq];refine h4_ h ⟨U,G⟩ ?_;simp[aN_];unfold od_ at r;cases e:ed_ st with
  |none=>
   rw[e]at r;have:jA_ st= -1:=by unfold jA_;unfold ed_ at e;rw[e]
   rw[this];exact r H J n2 I F h
  | some i=>
   rw[e]at r;have⟨W,_⟩:=qQ_ e;have:jA_ st=(i):=by unfold jA_;unfold ed_ at e;rw[e]
   rw[this];refine h4_ h ⟨U,G⟩ ?_;simp[aN_];rw[this];refine mq_ h V ⟨G,Y⟩ W λH' N A O D h'=>?_;have⟨y,hy,eq⟩:=eN_ V W;refine Z h' (lf_ V W) g_ ?_ ?_ ?_ r
   .grind
   .rw[eq];refine Nat.le_trans (length_filter_le _ _) ?_;have:(fF_ st.inos st.links[i].2.1 ⟨y.links-1,y.content⟩).length=st.inos.length:=by unfold fF_;rw[hy];simp
    omega
   .grind
theorem jd_ (h:db_ B H sp a1 n1 a2 n2 a3 n3 st) (J:Sto st) (k:st.snaps.length<=1000/\st.links.length<=1000/\st.inos.length<=1000) (r:ee_ (iP_ st)<=60)
 (A:∀H' x',B<+:H'->TrK H' x' 48 (eI_ (iP_ st))->Q (yA x' 48) H'):ct_ [yQ sp] H Q:=by
 refine⟨1,?_⟩;rw[pl_];refine u4_ h k ?_;simp[aN_];unfold iP_ at r A;refine aa_ (λe=>?_) λe=>?_
 .have I:60<ee_ st:=by unfold ee_;simp at e;omega
  rw[lE I]at r A;refine⟨st.links.length+2,sP_ st.links.length h J k.1 k.2.1 k.2.2 (kO _) λH' V O Y U N=>?_⟩;have W:=(nH_ st.links.length (he_.refl J)).1;refine mI_ N W.sto.ok r λG x' D F=>?_;simp[e4_];exact A G x' (N.pre.trans D) F
 .have I: ¬ 60<ee_ st:=by unfold ee_;simp at e;omega
  rw[lH I]at r A;refine mI_ h J.ok r λG x' D F=>?_;simp[e4_];exact A G x' (h.pre.trans D) F
end
theorem dw_.src (h:dw_ H b a cs is):∀i (hi:i<is.length),∃p,cs[i*5+4]?=some (.sl p is[i].files.length 3)/\bR_ H p is[i].files/\∀l o,p=some (l,o)->b<=l/\∀D,a≠some (l,D):=by
 induction h with
 |nil=>intro i hi;cases hi
 | @cons p x cs is I F _ G=>
  intro i hi;cases i with
  |zero=>exact⟨p,rfl,I,F⟩
  |succ i=>
   have⟨q,r,A⟩:=G i g_;refine⟨q,?_,A⟩;rw[getElem?_append_right (by simp[gy_];omega),show (i+1)*5+4-(gy_ p x).length=i*5+4 by simp[gy_];omega];exact r
theorem bV_.src(h:bV_ H b a is)(i:Nat)(hi:i<is.length):∃l p,a=some (l,0)/\b<=l/\gt H l (i*5)=some (.str is[i].name)/\gt H l (i*5+1)=some (.int .i64 is[i].kind)/\gt H l (i*5+1+1)=some (.str is[i].parent)/\gt H l (i*5+1+1+1)=some (.str is[i].label)/\
 gt H l (i*5+1+1+1+1)=some (.sl p is[i].files.length 3)/\bR_ H p is[i].files/\(∀r o,p=some (r,o)->b<=r/\r≠l)/\∃cs,H[l]?=some (.row true g8_ cs)/\cs.length=is.length*5:=by
 rcases h with⟨_,rfl⟩|⟨l,cs,rfl,N,D,A⟩
 .cases hi
 .have⟨p,U,W,V,O,I,_⟩:=A.at i hi;have⟨q,F,J,G⟩:=A.src i hi;rw[I]at F;cases F;refine⟨l,p,rfl,N,?_,?_,?_,?_,?_,J,λr o e=>⟨(G r o e).1,λz=>(G r o e).2 0 (by rw[z])⟩,cs,D,A.len⟩<;>rw[aV_ D]<;>assumption
theorem bR_.cells(h:bR_ H p fs):cells? H p (fs.length*3)=some (bL_ fs):=by
 rcases h with⟨rfl,rfl⟩|⟨l,rfl,h⟩
 .rfl
 .have r:=eG_ fs;unfold cells?;grind
def e2_(pis:List (Pl × InfoR)):List GV:=pis.flatMap λq=>gy_ q.1 q.2
theorem dw_.pis (h:dw_ H b a cs is):∃ps:List (Pl × InfoR),cs=e2_ ps/\ps.map (·.2)=is/\∀q∈ps,bR_ H q.1 q.2.files/\∀l o,q.1=some (l,o)->b<=l/\∀o',a≠some (l,o'):=by
 induction h with
 |nil=>exact⟨[],rfl,rfl,t_⟩
 |@cons p i cs is h1 h2 _ ih=>
  obtain⟨ps,rfl,rfl,h⟩:=ih;exact⟨(p,i)::ps,rfl,rfl,λq hq=>by rcases kU.1 hq with rfl|hq;exact⟨h1,h2⟩;exact h q hq⟩
theorem bR_.ltAt(h:bR_ H p fs)(e:p=some (l,o)):l<H.length:=by subst e;exact h.lt
theorem dw_.mk:∀{ps:List (Pl × InfoR)},(∀q∈ps,bR_ H q.1 q.2.files/\∀l o,q.1=some (l,o)->b<=l/\∀o',a≠some (l,o'))->dw_ H b a (e2_ ps) (ps.map (·.2))
 |[],_=> .nil
 |q::ps,h=> .cons (h q t_).1 (h q t_).2 (dw_.mk λq hq=>h q (by simp[hq]))
theorem dw_.low(h:dw_ H b a cs is)(hb:b'<=b):dw_ H b' a cs is:=by
 obtain⟨ps,rfl,rfl,g⟩:=h.pis;exact dw_.mk λq hq=>⟨(g q hq).1,λl o e=>⟨by have:=((g q hq).2 l o e).1;omega,((g q hq).2 l o e).2⟩⟩
theorem lN_(ps:List (Pl × InfoR)):(e2_ ps).length=ps.length*5:=by
 unfold e2_;induction ps with
 |nil=>rfl
 |cons q ps ih=>rw[flatMap_cons,kI,ih];simp[gy_];omega
theorem xz_{ps:List (Pl × InfoR)}{i:Nat}(hi:i<ps.length)(p:Pl):(e2_ ps).set (i*5+4) (.sl p ps[i].2.files.length 3)=e2_ (ps.set i (p,ps[i].2)):=
 iT_ (f:=λq:Pl × InfoR=>gy_ q.1 q.2) (λ_=>rfl) o_ ps i hi rfl
theorem wf_{ps:List (Pl × InfoR)}{i:Nat}(hi:i<ps.length)(j:Nat)(hj:j<5):(e2_ ps)[i*5+j]?=(gy_ ps[i].1 ps[i].2)[j]? :=
 c5_ (f:=λq:Pl × InfoR=>gy_ q.1 q.2) (λ_=>rfl) ps i hi j hj
structure uL_ (H:Hp) (b:Nat) (a:Pl) (is:List InfoR):Prop where
 ex:∃ps:List (Pl × InfoR),ps.map (·.2)=is/\Own H b g8_ a (ps.length*5) (e2_ ps)/\(∀q∈ps,bR_ H q.1 q.2.files/\∀r o,q.1=some (r,o)->b<=r/\∀o',a≠some (r,o'))/\
  ps.Pairwise λx y=>∀r o o',x.1=some (r,o)->y.1≠some (r,o')
theorem uL_.at(h:uL_ H b a is):bV_ H b a is:=by
 obtain⟨ps,rfl,o,hp,_⟩:=h.ex;rcases o with⟨rfl,h0,_⟩|⟨l,rfl,hb,hr,_⟩
 .have:ps=[]:=length_eq_zero_iff.1 o_;subst this;exact .inl ⟨rfl,rfl⟩
 .exact .inr ⟨l,_,rfl,hb,hr,dw_.mk hp⟩
theorem HU_ {B G H:Hp} {a p:Pl} {is:List InfoR} {i:InfoR} {K:Pl->Nat->Hp->Prop} (h:uL_ G B.length a is) (hB:B<+:G) (p1:G<+:H) (C:bR_ H p i.files) (F:∀l o,p=some (l,o)->G.length<=l) (hn:is.length<=1000)
 (D:∀a' H',uL_ H' B.length a' (is++[i])->B<+:H'->K a' (is.length+1) H'):ap H g8_ 5 80 a is.length (gy_ p i) 1 K:=by
 obtain⟨ps,rfl,o,hp,pw⟩:=h.ex;rw[k9] at*;have gl:=p1.length_le;have bl:=hB.length_le;refine ks_ o_ (hB.trans p1) (o.mono p1) rfl (by unfold Lim;omega) λa' H' o' e fr=>D a' H' ⟨ps++[(p,i)],t_,by simpa[e2_] using o',λq hq=>?_,?_⟩ e.pre
 ·have hla:∀l o,a=some (l,o)->l<G.length:=λl o e=>by
   rcases h.at with⟨q,_⟩|⟨m,_,q,_,hr,_⟩
   .rw[q]at e;cases e
   .rw[q]at e;cases e;exact (kC.1 hr).1
  rcases kD.1 hq with q1|q1
  .obtain⟨h1,h2⟩:=hp q q1;refine⟨h1.keep λl o q2=>?_,λr o q2=>⟨(h2 r o q2).1,λo' q3=>?_⟩⟩
   .rw[e.row l (by have:=h1.ltAt q2;omega) λq3=>(h2 l o q2).2 0 q3,a8_ p1 (h1.ltAt q2)]
   .have:=(fr r o' q3).1;have:=h1.ltAt q2;omega
  .have:q=(p,i):=by simpa using q1
   subst this;refine⟨C.keep λl o q2=>e.row l (C.ltAt q2) λq3=>?_,λr o q2=>⟨by have:=F r o q2;omega,λo' q3=>?_⟩⟩
   .have:=F l o q2;have:=hla l 0 q3;omega
   .have:=(fr r o' q3).1;have:=C.ltAt q2;omega
 .rw[kZ];refine⟨pw,t_,λx hx y hy r o o' q1 q2=>?_⟩;have:y=(p,i):=by simpa using hy
  subst this;have:=F r o' q2;have:=(hp x hx).1.ltAt q1;omega
theorem Dm_(h:Own H b g8_ a (r.length*5) (e2_ r))(G:∀q∈r,fA_ H q.1 q.2.files):dD_ H a (r.map (·.2)):=by
 intro i A;rw[k9]at A;have⟨l,e,D⟩:=wQ_ h o_;have F:∀q:Pl × InfoR,(gy_ q.1 q.2).length=5:=λ_=>rfl;refine⟨l,0,(r[i]).1,e,?_,?_,?_,?_,?_,?_⟩
 .rw[D,kN,getElem_map];exact c5_ F _ i A 0 o_
 .rw[D,kN,getElem_map];exact c5_ F _ i A 1 o_
 .rw[D,kN,getElem_map];exact c5_ F _ i A 2 o_
 .rw[D,kN,getElem_map];exact c5_ F _ i A 3 o_
 .rw[D,kN,getElem_map];exact c5_ F _ i A 4 o_
 .grind
section
variable{H:Hp}{Q:Post}
theorem hj_ {b:Nat} {a:Pl} {is:List InfoR} (h:bV_ H b a is) (hn:is.length<=900) (hf:∀i∈is,i.files.length<=100000) (hQ:∀H' a',H<+:H'->uL_ H' H.length a' is->Q (nL a' is.length 5) H'):bh_ [nL a is.length 5] H Q:=by
 refine⟨is.length+2,?_⟩;rw[ye_];have etn:∀k:Nat,tN (k:Int)=k:=λ_=>rfl;have go:∀(f k:Nat)(G:Hp)(a':Pl),f=is.length-k->k<=is.length->H<+:G->uL_ G H.length a' (is.take k)->bh_.l3 (f+1) a is.length a' k ((k:Nat):Int) G Q:=by
  intro f;induction f with
  |zero=>
   intro k G a' hf' hk hG ha;rw[bh_.l3_eq];refine aa_ (λe=>by simp at e;omega) λe=>?_;have hke:k=is.length:=by omega
   rw[hke,take_length]at ha;rw[hke];exact hQ G a' hG ha
  | succ f ih=>
   intro k G a' hf' hk hG ha;have hkl:k<is.length:=by omega
   rw[bh_.l3_eq];refine aa_ (λe=>?_) (λe=>by simp at e;omega);refine ab_ rfl (ab_ s_ ?_);obtain⟨l,p,rfl,hbl,r1,r2,r3,r4,r5,r6,_⟩:=(h.pre hG).src k hkl;simp only[ae_,etn,kN,kQ];rw[ad_ r1,aq_,ad_ r2,ai_,ad_ r3,aq_,ad_ r4,aq_,ad_ r5,ah_];refine ab_ rfl ?_;rw[er_ r6.cells];have hfk:=hf _ (kE hkl);refine⟨⟨by unfold Lim;omega,eG_ _⟩,?_⟩;simp only[d4_];refine ab_ rfl ?_;have hti:(is.take k).length=k:=by rw[lC];omega
   have key:=HU_ (i:=is[k]) (K:=λa'' n' G'=>bh_.l3 (f+1) (some (l,0)) is.length a'' n' (ac_ .i64 (((k:Nat):Int)+1)) G' Q) (p:=some (G.length,0)) ha hG (b8_ G (.row true gL_ (bL_ is[k].files))) (.inr ⟨G.length,rfl,t_⟩) (λl' o e=>by cases e;exact kO _) o_ λa'' G' ha' hk'=>by
    rw[hti,ao_ o_];refine ih (k+1) G' a'' o_ hkl hk' ?_;rw[take_add_one,kG hkl];exact ha'
   rw[hti]at key;exact key
 exact go _ 0 H none rfl (kP _) (k8 _) ⟨[],t_,.inl ⟨rfl,rfl,rfl⟩,t_,.nil⟩
theorem qs_ {a:Pl} {is:List InfoR} (h:dD_ H a is) (hn:is.length<=900) {m:Nat} (hQ:∀H' a',H<+:H'->dD_ H' a' (is.eraseIdx m)->Q (nL a' (is.eraseIdx m).length 5) H'):bT_ [nL a is.length 5,gI ((m:Nat):Int)] H Q:=by
 refine⟨is.length+2,?_⟩;rw[tv_];have etn:∀k:Nat,tN (k:Int)=k:=λ_=>rfl;have go:∀(f k:Nat)(G:Hp)(a':Pl)(n':Nat)(pis:List (Pl × InfoR)),f=is.length-k->k<=is.length->H<+:G->Own G H.length g8_ a' (n'*5) (e2_ pis)->n'=pis.length->(∀q∈pis,fA_ H q.1 q.2.files)->pis.map (·.2)=(is.take k).eraseIdx m->
  bT_.l3 (f+1) a is.length ((m:Nat):Int) a' n' ((k:Nat):Int) G Q:=by
  intro f;induction f with
  |zero=>
   intro k G a' n' pis hf' hk hG ho hn' hp he;rw[bT_.l3_eq];refine aa_ (λe=>by simp at e;omega) λe=>?_;rw[k7 o_]at he;subst hn';have hr:=Dm_ ho λq hq=>(hp q hq).pre hG;have:=hQ G a' hG;rw[<-he,k9]at this;exact this hr
  | succ f ih=>
   intro k G a' n' pis hf' hk hG ho hn' hp he;have hkl:k<is.length:=by omega
   rw[bT_.l3_eq];refine aa_ (λe=>?_) (λe=>by simp at e;omega);have w1:ac_ .i64 (((k:Nat):Int)+1)=((k+1:Nat):Int):=ao_ o_;have ht:=vE_ (i:=m) hkl;have hnl:pis.length<=900:=by
    have:=congrArg length he;rw[k9]at this;rw[this];exact Nat.le_trans (length_eraseIdx_le _ _) (by rw[lC];omega)
   refine aa_ (λe=>?_) λe=>?_
   ·have e': ¬ k=m:=by simp at e;omega
    rw[if_neg e']at ht;refine ab_ rfl (ab_ s_ ?_);obtain⟨l,o,p,rfl,r1,r2,r3,r4,r5,r6⟩:=(h.pre hG) _ hkl;have r6':fA_ H p is[k].files:=by
     obtain⟨l',o',p',e1,_,_,_,_,q5,q6⟩:=h k hkl;cases e1;have:=cB_ hG q5;rw[r5]at this;cases this;exact q6
    simp only[ae_,etn];rw[ad_ r1,aq_,ad_ r2,ai_,ad_ r3,aq_,ad_ r4,aq_,ad_ r5,ah_];refine ab_ rfl ?_;refine ks_ (H0:=H) o_ hG ho (m:=1) rfl (by unfold Lim;omega) λx' G' o' ex fr=>?_;rw[w1];refine ih (k+1) G' x' _ (pis++[(p,is[k])]) o_ hkl ex.pre ?_ (by rw[kI,hn'];rfl) (λq hq=>?_) (by rw[ht,kL,he];rfl)
    .unfold e2_;rw[flatMap_append,flatMap_singleton];exact o'
    ·rcases kD.1 hq with z|z
     .exact hp q z
     .have:q=(p,is[k]):=by simpa using z
      subst this;exact r6'
   .have e':k=m:=by simp at e;omega
    rw[if_pos e']at ht;rw[w1];exact ih (k+1) G a' n' pis o_ hkl hG ho hn' hp (by rw[ht];exact he)
 exact go _ 0 H none 0 [] rfl (kP _) (k8 _) (.inl ⟨rfl,rfl,rfl⟩) rfl (λq hq=>by cases hq) t_
theorem mp_ {a p:Pl} {is:List InfoR} {s1 s3 s4:Y_} {k2:Int} {m:Nat} (h:dD_ H a is) (hn:is.length<=900) (hQ:∀H' a' n',H<+:H'->Q (nL a' n' 5) H'):
 a4_ [nL a is.length 5,.agg [.str s1,.int .i64 k2,.str s3,.str s4,.sl p m 3]] H Q:=by
 refine⟨2*is.length+2,?_⟩;rw[x2_];have etn:∀k:Nat,tN (k:Int)=k:=λ_=>rfl;have go:∀(f k F:Nat)(G:Hp)(a':Pl)(n':Nat)(cs:List GV)(d:Bool),f=is.length-k->k<=is.length->2*f+1<=F->H<+:G->Own G H.length g8_ a' (n'*5) cs->n'<=k+(match d with|true=>1|false=>0)->
  a4_.l4 F a is.length s1 k2 s3 s4 p m a' n' d ((k:Nat):Int) G Q:=by
  intro f;induction f with
  |zero=>
   intro k F G a' n' cs d hf' hk hF hG ho hn';have hn2:n'<=k+1:=by cases d<;>dsimp only at hn'<;>omega
   obtain⟨F,rfl⟩:∃G,F=G+1:=⟨F-1,o_⟩;rw[a4_.l4_eq];refine aa_ (λe=>by simp at e;omega) λe=>?_;refine aa_ (λe=>?_) λe=>hQ G a' n' hG;refine ab_ rfl ?_;exact ks_ (H0:=H) o_ hG ho (m:=1) rfl (by unfold Lim;omega) λx' G' o' ex fr=>hQ G' _ _ ex.pre
  | succ f ih=>
   intro k F G a' n' cs d hf' hk hF hG ho hn';have hkl:k<is.length:=by omega
   obtain⟨F,rfl⟩:∃G,F=G+1+1:=⟨F-2,o_⟩;rw[a4_.l4_eq];refine aa_ (λe=>?_) (λe=>by simp at e;omega);have w1:ac_ .i64 (((k:Nat):Int)+1)=((k+1:Nat):Int):=ao_ o_;have next:∀(G:Hp)(a':Pl)(n':Nat)(cs:List GV)(d:Bool),H<+:G->Own G H.length g8_ a' (n'*5) cs->n'<=k+(match d with|true=>1|false=>0)->a4_.l9 (F+1) a is.length s1 k2 s3 s4 p m a' n' d ((k:Nat):Int) G Q:=by
    intro G a' n' cs d hG ho hn';have hn2:n'<=k+1:=by cases d<;>dsimp only at hn'<;>omega
    rw[a4_.l9_eq];refine ab_ rfl (ab_ s_ ?_);obtain⟨l,o,p',e',r1,r2,r3,r4,r5,r6⟩:=(h.pre hG) _ hkl;rw[e'];simp only[ae_,etn];rw[ad_ r1,aq_,ad_ r2,ai_,ad_ r3,aq_,ad_ r4,aq_,ad_ r5,ah_];refine ab_ rfl ?_;refine ks_ (H0:=H) o_ hG ho (m:=1) rfl (by unfold Lim;omega) λx' G' o' ex fr=>?_;rw[w1,<-e'];exact ih (k+1) F G' x' _ _ d o_ hkl o_ ex.pre o' (by cases d<;>dsimp only at hn' ⊢ <;>omega)
   refine aa_ (λed=>?_) λed=>next G a' n' cs d hG ho hn';have hd:d=false:=el_ ed;subst hd;dsimp only at hn';refine ab_ rfl (ab_ s_ ?_);obtain⟨l,o,p',e',r1,r2,r3,r4,r5,r6⟩:=(h.pre hG) _ hkl;rw[e'];simp only[ae_,etn,kQ];rw[ad_ r1,aq_];refine aa_ (λe=>?_) λe=>?_
   .refine ab_ rfl ?_;refine ks_ (H0:=H) o_ hG ho (m:=1) rfl (by unfold Lim;omega) λx' G' o' ex fr=>?_;rw[<-e'];exact next G' x' _ _ true ex.pre o' (by dsimp only;omega)
   .rw[<-e'];exact next G a' n' cs false hG ho (by dsimp only;omega)
 exact go _ 0 _ H none 0 [] false rfl (kP _) o_ (k8 _) (.inl ⟨rfl,rfl,rfl⟩) (by dsimp only;omega)
theorem rz_ (h:fA_ H p fs) (Y:fs.length<=100000)
 (V:∀k (I:k<fs.length),fs[k].1=s->Q (gI ((k:Nat):Int)) H) (U:(∀f∈fs,f.1≠s)->Q (gI (-1)) H):cm_ [nL p fs.length 3,gS s] H Q:=by
 refine⟨fs.length+2,?_⟩;rw[uB_];have W:∀k:Nat,tN (k:Int)=k:=λ_=>rfl;have go:∀(f k),f=fs.length-k->k<=fs.length->(∀j D,j<k->fs[j].1≠s)->cm_.l2 (f+1) p fs.length s (k) H Q:=by
  intro f;induction f with
  |zero=>
   intro k G I J;rw[cm_.l2_eq];refine aa_ (λe=>by simp at e;omega) λ_=>U λf G=>?_;obtain⟨j,D,rfl⟩:=kK G;grind
  |succ f O=>
   intro k G I J;have A:k<fs.length:=by omega
   rw[cm_.l2_eq];refine aa_ (λe=>?_) (λe=>by simp at e;omega);refine ab_ rfl (ab_ s_ ?_);obtain⟨l,o,rfl,N,_⟩:=h _ A;simp[ae_];rw[ad_ N,aq_];refine aa_ (λe=>V k A (by simpa using e)) λe=>?_;rw[ao_ o_];refine O (k+1) o_ A λj D F=>?_;rcases Nat.lt_or_eq_of_le (Nat.le_of_lt_succ F) with z|z
   .exact J j D z
   .subst z;simpa using e
 grind
def c4_(is:List InfoR)(s:Y_):Int:=match cs_ is s with|none=>1903|some i=>match eqI i.kind 0 with|true=>0|false=>1905
theorem nb_(A:hU_ is)(r:(is.any λy=>decide (y.name=s))=true):∃G:dL_ is s<is.length,cs_ is s=some is[dL_ is s]:=by
 obtain⟨D,F⟩:=qX_ A;rw[D]at r;have⟨i,I⟩:=Option.isSome_iff_exists.1 r;grind
theorem jH_(A:hU_ is)(r:(is.any λy=>decide (y.name=s))=false):cs_ is s=none:=by
 rw[(qX_ A).1]at r;cases D:cs_ is s with
 |none=>rfl
 |some i=>rw[D]at r;cases r
theorem kx_(h:dD_ H a is)(F:hU_ is)(U:is.length<=1000)
 (J:∀e,e≠0->c4_ is s=e->Q (.tup [nN 0,nN e]) H)
 (O:c4_ is s=0->∀G:dL_ is s<is.length,cs_ is s=some is[dL_ is s]->Q (.tup [nN ((dL_ is s:Nat):Int),nN 0]) H):
 eu_ [nL a is.length 5,gS s] H Q:=by
 refine⟨1,?_⟩;rw[uD_];have D:∀k:Nat,tN (k:Int)=k:=λ_=>rfl;refine g3_ h F U (λA=>?_) λA=>?_
 .simp only[aN_,ai_];have⟨G,I⟩:=nb_ F A;refine aa_ (λe=>by simp at e;omega) λ_=>?_;refine ab_ rfl (ab_ (by simp_all) ?_);obtain⟨l,o,p,rfl,V,N,_⟩:=h _ G;simp only[ae_,D];rw[ad_ N,ai_];refine aa_ (λe=>J 1905 t_ (by unfold c4_;rw[I];dsimp;rw[el_ e])) λe=>O (by unfold c4_;rw[I];dsimp;rw[e0_ e]) G I
 .simp only[aN_,ai_];refine aa_ (λ_=>J 1903 t_ (by unfold c4_;rw[jH_ F A])) (λe=>by simp_all)
end
def k5_(is:List InfoR)(parent:Y_):Bool:=decide (parent=mkS [])||(match cs_ is parent with|none=>false|some y=>eqI y.kind 2)
def hQ_ (is:List InfoR) (name parent:Y_) (kind:Int):Int:=match a2_ name 4 with
 |false=>1901
 | true=>match decide (parent=mkS [])||a2_ parent 4 with
  |false=>1901
  | true=>match eqI kind 0||eqI kind 1 with
   |false=>1905
   | true=>match (cs_ is name).isSome with
    |true=>1902
    | false=>match k5_ is parent with
     |false=>1904
     |true=>match leI 6 (is.length:Int) with
      |true=>1910
      |false=>0
theorem vu_:∀(f k:Nat),f=is.length-k->bx_ is f k=true->∀j (A:j<is.length),k<=j->dc_ is[j]=true
 |0,k,D,h=>λj A r=>by omega
 |f+1,k,D,h=>λj A r=>by
  rw[bx_]at h;have F:k<is.length:=by omega
  rw[kG F]at h;simp at h;rcases Nat.lt_or_eq_of_le r with q|q
  .exact vu_ f (k+1) o_ h.2.2 j A q
  .grind
theorem xv_(h:bx_ is is.length 0=true):∀i∈is,dc_ i=true:=λi r=>by
 obtain⟨j,A,rfl⟩:=kK r;exact vu_ _ 0 rfl h j A (kP _)
theorem BC_(h:dc_ i=true):a2_ i.name 4=true:=by
 unfold dc_ at h;grind
theorem Hn_(h:bx_ is is.length 0=true):(is.any λy=>decide (y.name=mkS []))=false:=by
 rw[any_eq_false];intro x r e;have:=eM_ (BC_ (xv_ h x r));simp_all
section
variable{H:Hp}{Q:Post}
theorem qt_ {b:Nat} {a:Pl} {is:List InfoR} {name parent:Y_} {kind:Int} (h:bV_ H b a is) (ha:hU_ is) (hf:bx_ is is.length 0=true) (hn:is.length<=900)
 (hsz:∀x∈is,x.name.size<=140737488351232/\x.files.length<=100000/\∀f∈x.files,f.1.size<=140737488351232) (hs1:name.size<=140737488351232) (hs2:parent.size<=140737488351232)
 (hQ:∀H' a' n',H<+:H'->Q (.tup [yR a' n' 5,nN (hQ_ is name parent kind)]) H'):
 be_ [nL a is.length 5,gS name,gS parent,gI kind] H Q:=by
 refine⟨100010,?_⟩;rw[tN_];have etn:∀k:Nat,tN (k:Int)=k:=λ_=>rfl;have hrd:=h.rd;have hfl:∀i∈is,i.files.length<=100000:=λi hi=>(hsz i hi).2.1;have copy:∀{m:Nat}{p:Pl}{G:Hp},hQ_ is name parent kind=0->H<+:G->cl bh_ [(nL a is.length 5)] G λr24 H25=>
  rG r24 λv26=>
  dL 5 v26 λx27 n28=>
  cl a4_ [(nL x27 n28 5),(.agg [(.str name),(.int .i64 kind),(.str parent),(.str (mkS [])),(.sl p m 3)])] H25 λr29 H30=>
  rG r29 λv31=>
  dL 5 v31 λx32 n33=>
  Q (.tup [(yR x32 n33 5),(nN 0)]) H30:=λ{m p G} e hG=>by
  refine hj_ (h.pre hG) hn hfl λH1 a1 p1 h1=>?_;replace h1:=h1.at;simp only[aN_,ah_];refine mp_ h1.rd hn λH2 a2 n2 p2=>?_;simp only[aN_,ah_];have:=hQ H2 a2 n2 (hG.trans (p1.trans p2));rw[e]at this;exact this
 have l17:hQ_ is name parent kind=0->∀hp:dL_ is parent<is.length,∀(f j F:Nat)(G:Hp)(a':Pl)(n':Nat)(cs:List GV),f=is[dL_ is parent].files.length-j->j<=is[dL_ is parent].files.length->f+1<=F->H<+:G->Own G H.length gL_ a' (n'*3) cs->n'<=j->
  be_.l17 F a is.length ((dL_ is parent:Nat):Int) name kind parent (mkS []) a' n' ((j:Nat):Int) G Q:=by
  intro e0 hp f;obtain⟨l,o,p,e1,r1,r2,r3,r4,r5,r6⟩:=hrd _ hp;have hfk:=hfl _ (kE hp);induction f with
  |zero=>
   intro j F G a' n' cs hf' hj hF hG ho hn';obtain⟨F,rfl⟩:∃G,F=G+1:=⟨F-1,o_⟩;rw[be_.l17_eq];refine ab_ rfl (ab_ s_ ?_);rw[e1];simp only[ae_,etn];rw[ad_ (cB_ hG r5),ah_];refine aa_ (λe=>by simp at e<;>omega) λ_=>?_;rw[<-e1];exact copy e0 hG
  |succ f ih=>
   intro j F G a' n' cs hf' hj hF hG ho hn';have hjl:j<is[dL_ is parent].files.length:=by omega
   obtain⟨F,rfl⟩:∃G,F=G+1:=⟨F-1,o_⟩;rw[be_.l17_eq];refine ab_ rfl (ab_ s_ ?_);rw[e1];simp only[ae_,etn];rw[ad_ (cB_ hG r5),ah_];refine aa_ (λe=>?_) (λe=>by simp at e<;>omega);refine ab_ rfl (ab_ s_ ?_);rw[ad_ (cB_ hG r5),ah_];refine ab_ rfl (ab_ s_ ?_);obtain⟨l2,o2,rfl,q1,q2,q3⟩:=(r6.pre hG) _ hjl;simp only[ae_,etn];rw[ad_ q1,aq_,ad_ q2,aq_,ad_ q3,am_];refine ab_ rfl ?_;refine ks_ (H0:=H) o_ hG ho (m:=1) rfl (by unfold Lim;omega) λx' G' o' ex fr=>?_;rw[ao_ o_,<-e1];exact ih (j+1) F G' x' _ _ o_ hjl o_ ex.pre o' o_
 have rest:∀i3:Int,((i3=((dL_ is parent:Nat):Int)/\(is.any λy=>decide (y.name=parent))=true)\/(i3= -1/\(is.any λy=>decide (y.name=parent))=false))->a2_ name 4=true->(decide (parent=mkS [])||a2_ parent 4)=true->(eqI kind 0||eqI kind 1)=true->
  cl ci_ [(nL a is.length 5),(gS name)] H λr16 H17=>
   rG r16 λv18=>
   dI .i64 v18 λi19=>
   ck_ (leI 0 i19)
   (Q (.tup [(yR none 0 5),(nN 1902)]) H17)
   (ck_ (!(eq_ parent (mkS [])))
    (ck_ (ltI i3 0)
     (Q (.tup [(yR none 0 5),(nN 1904)]) H17)
     (chk true (chk ((leI 0 i3)&&(ltI i3 (nI is.length))) (pS a λn20 n21=>
      rd H17 n20 ((n21+((tN i3)*5))+1) λv22=>
      dI .i64 v22 λi23=>
      ck_ (!(eqI i23 2))
      (Q (.tup [(yR none 0 5),(nN 1904)]) H17)
      (ck_ (leI 6 (nI is.length))
       (Q (.tup [(yR none 0 5),(nN 1910)]) H17)
       (ck_ (leI 0 i3)
        (be_.l17 100009 a is.length i3 name kind parent (mkS []) none 0 0 H17 Q)
        (cl bh_ [(nL a is.length 5)] H17 λr24 H25=>
         rG r24 λv26=>
         dL 5 v26 λx27 n28=>
         cl a4_ [(nL x27 n28 5),(.agg [(.str name),(.int .i64 kind),(.str parent),(.str (mkS [])),(.sl none 0 3)])] H25 λr29 H30=>
         rG r29 λv31=>
         dL 5 v31 λx32 n33=>
         Q (.tup [(yR x32 n33 5),(nN 0)]) H30)))))))
    (ck_ (leI 6 (nI is.length))
     (Q (.tup [(yR none 0 5),(nN 1910)]) H17)
     (ck_ (leI 0 i3)
      (be_.l17 100009 a is.length i3 name kind parent (mkS []) none 0 0 H17 Q)
      (cl bh_ [(nL a is.length 5)] H17 λr34 H35=>
       rG r34 λv36=>
       dL 5 v36 λx37 n38=>
       cl a4_ [(nL x37 n38 5),(.agg [(.str name),(.int .i64 kind),(.str parent),(.str (mkS [])),(.sl none 0 3)])] H35 λr39 H40=>
       rG r39 λv41=>
       dL 5 v41 λx42 n43=>
       Q (.tup [(yR x42 n43 5),(nN 0)]) H40)))):=by
  intro i3 hi3 w1 w2 w3;have e0:hQ_ is name parent kind=match (cs_ is name).isSome with
   |true=>1902
   | false=>match k5_ is parent with
    |false=>1904
    |true=>match leI 6 (is.length:Int) with
     |true=>1910
     |false=>0:=by unfold hQ_;rw[w1,w2,w3]
  have h0:=hQ H none 0 (k8 _);refine g3_ hrd ha o_ (λhin=>?_) λhin=>?_
  .simp only[aN_,ai_];refine aa_ (λ_=>?_) (λe=>by simp at e<;>omega);rw[(qX_ ha).1]at hin;rw[hin]at e0;rw[e0]at h0;exact h0
  ·simp only[aN_,ai_];rw[jH_ ha hin]at e0;dsimp only[Option.isSome_none]at e0;refine aa_ (λe=>by simp at e) λ_=>?_;refine aa_ (λe=>?_) (λe=>?_)
   ·have hne: ¬ parent=mkS []:=by simpa using e
    have hm:k5_ is parent=match cs_ is parent with|none=>false|some y=>eqI y.kind 2:=by unfold k5_;rw[lH hne,Bool.false_or]
    rcases hi3 with⟨rfl,hin3⟩|⟨rfl,hin3⟩
    .obtain⟨hp,hfi⟩:=nb_ ha hin3;rw[hfi]at hm;dsimp only at hm;refine aa_ (λe=>by simp at e<;>omega) λ_=>?_;refine ab_ rfl (ab_ s_ ?_);obtain⟨l,o,p,e1,r1,r2,_⟩:=hrd _ hp;rw[e1];simp only[ae_,etn];rw[ad_ r2,ai_];refine aa_ (λe=>?_) (λe=>?_)
     .rw[hm,el_ e]at e0;rw[e0]at h0;exact h0
     rw[hm,e0_ e]at e0;refine aa_ (λe=>?_) λe=>?_
     .rw[show leI 6 (is.length:Int)=true from e]at e0;rw[e0]at h0;exact h0
     rw[show leI 6 (is.length:Int)=false from e]at e0;refine aa_ (λ_=>?_) (λe=>by simp at e<;>omega);rw[<-e1];have hfk:=hfl _ (kE hp);exact l17 e0 hp _ 0 100009 H none 0 [] rfl (kP _) o_ (k8 _) (.inl ⟨rfl,rfl,rfl⟩) o_
    .rw[jH_ ha hin3]at hm;dsimp only at hm;rw[hm]at e0;refine aa_ (λ_=>?_) (λe=>by simp at e);rw[e0]at h0;exact h0
   .have hpe:parent=mkS []:=by simpa using e
    have hm:k5_ is parent=true:=by unfold k5_;rw[lE hpe];rfl
    rw[hm]at e0;refine aa_ (λe=>?_) λe=>?_
    .rw[show leI 6 (is.length:Int)=true from e]at e0;rw[e0]at h0;exact h0
    rw[show leI 6 (is.length:Int)=false from e]at e0;have hne:=Hn_ hf;rw[<-hpe]at hne;rcases hi3 with⟨_,hin3⟩|⟨rfl,_⟩
    .rw[hne]at hin3;cases hin3
    .refine aa_ (λe=>by simp at e) λ_=>?_;exact copy e0 (k8 _)
 have h0:=hQ H none 0 (k8 _);have kindc:(eqI kind 0||eqI kind 1)=false->a2_ name 4=true->(decide (parent=mkS [])||a2_ parent 4)=true->Q (.tup [yR none 0 5,nN 1905]) H:=λk w1 w2=>by
  rw[show hQ_ is name parent kind=1905 by unfold hQ_;rw[w1,w2,k]]at h0;exact h0
 have named:a2_ name 4=false->Q (.tup [yR none 0 5,nN 1901]) H:=λw1=>by
  rw[show hQ_ is name parent kind=1901 by unfold hQ_;rw[w1]]at h0;exact h0
 have main:∀i3:Int,((i3=((dL_ is parent:Nat):Int)/\(is.any λy=>decide (y.name=parent))=true)\/(i3= -1/\(is.any λy=>decide (y.name=parent))=false))->True:=λ_ _=>trivial;refine g3_ hrd ha o_ (λhin=>?_) λhin=>?_
 all_goals
  simp only[aN_,ai_]
  refine ff_ hrd ha o_ hsz ?_
  simp only[aN_,am_]
  rw[hf]
  refine aa_ (λe=>by cases e) λ_=>?_
  refine cF_ hs1 ?_
  simp only[aN_,am_]
  refine aa_ (λe=>named (el_ e)) λe=>?_
  have w1:=e0_ e
  refine aa_ (λe=>?_) λe=>?_
  .have hne: ¬ parent=mkS []:=by simpa using e
   refine cF_ hs2 ?_;simp only[aN_,am_];refine aa_ (λe=>?_) λe=>?_
   .rw[show hQ_ is name parent kind=1901 by unfold hQ_;rw[w1,lH hne,el_ e];rfl]at h0;exact h0
   have w2:(decide (parent=mkS [])||a2_ parent 4)=true:=by rw[e0_ e,Bool.or_true]
   refine aa_ (λe=>?_) λe=>?_
   .refine aa_ (λe2=>kindc (by rw[el_ e,el_ e2];rfl) w1 w2) λe2=>?_;exact rest _ (by first|exact .inl ⟨rfl,hin⟩|exact .inr ⟨rfl,hin⟩) w1 w2 (by rw[e0_ e2,Bool.or_true])
   .exact rest _ (by first|exact .inl ⟨rfl,hin⟩|exact .inr ⟨rfl,hin⟩) w1 w2 (by rw[e0_ e,Bool.true_or])
  .have hpe:parent=mkS []:=by simpa using e
   have w2:(decide (parent=mkS [])||a2_ parent 4)=true:=by rw[lE hpe];rfl
   refine aa_ (λe=>?_) λe=>?_
   .refine aa_ (λe2=>kindc (by rw[el_ e,el_ e2];rfl) w1 w2) λe2=>?_;exact rest _ (by first|exact .inl ⟨rfl,hin⟩|exact .inr ⟨rfl,hin⟩) w1 w2 (by rw[e0_ e2,Bool.or_true])
   .exact rest _ (by first|exact .inl ⟨rfl,hin⟩|exact .inr ⟨rfl,hin⟩) w1 w2 (by rw[e0_ e,Bool.true_or])
end
def i8_(path content:Y_)(fs:List FileR):List FileR:=fs.filter (λf=>blt f.1 path)++(path,content,true)::fs.filter λf=>blt path f.1
def Dt_(path:Y_)(fs:List FileR):List FileR:=fs.filter λf=> !decide (f.1=path)
def gl_(is:List InfoR)(name:Y_)(g:List FileR->List FileR):List InfoR:=is.map λi=>match decide (i.name=name) with|true=>⟨i.name,i.kind,i.parent,i.label,g i.files⟩|false=>i
def FTo(path:Y_)(nw:List FileR)(g:List FileR->List FileR):Prop:=∀fs,ht_ fs->ht_ (g fs)/\∀f,f∈g fs↔f∈nw\/(f∈fs/\f.1≠path)
theorem oz_:FTo path [(path,content,true)] (i8_ path content):=λJ h=>by
 unfold i8_ ht_;refine⟨kZ.2 ⟨h.filter _,kW.2 ⟨λy I=>(mem_filter.1 I).2,h.filter _⟩,λa F b A=>?_⟩,λf=>?_⟩;have D:=(mem_filter.1 F).2;rcases kU.1 A with rfl|A;exact D;exact du_ D (mem_filter.1 A).2;have:=gQ_ f.1 path;grind
theorem ET_:FTo path [] (Dt_ path):=λA h=>by
 refine⟨h.filter _,λf=>?_⟩;unfold Dt_;grind
theorem BY_(h:hU_ is)(F:K<is.length)(D:is[K].name=name):gl_ is name g=is.set K ⟨is[K].name,is[K].kind,is[K].parent,is[K].label,g is[K].files⟩:=by
 apply ext_getElem (by simp[gl_]);intro j I A;simp at A;simp[gl_,getElem_set];by_cases e:K=j;grind;rw[if_neg e,lH λq=>?_];have asc:=kS.1 h;rcases Nat.lt_or_gt_of_ne e with c|c;have:=asc K j F A c;rw[D,q,bX_]at this;cases this;have:=asc j K A F c;rw[D,q,bX_]at this;cases this
theorem JP_(D:ht_ a)(A:ht_ b)(h:∀f,f∈a↔f∈b):a=b:=
 vf_ (λa q=>by rw[bX_]at q;cases q) (λa b q r=>by rw[dv_ q]at r;cases r) D A h
theorem KS_{fs:List FileR}(h:ht_ fs)(hi:i<fs.length)(hj:j<fs.length)(e:fs[i].1=fs[j].1):i=j:=by
 have asc:=kS.1 h;exact Nat.le_antisymm (Nat.le_of_not_lt λc=>by have:=asc j i hj hi c;rw[e,bX_]at this;cases this) (Nat.le_of_not_lt λc=>by have:=asc i j hi hj c;rw[e,bX_]at this;cases this)
theorem Ik_ {fs:List FileR} (h:ht_ fs) (hk:k<fs.length) (e:fs[k].1=path):fs.set k (path,content,true)=i8_ path content fs:=by
 obtain⟨h1,h2⟩:=oz_ (path:=path) (content:=content) _ h;refine JP_ ?_ h1 λf=>?_
 ·have q:((fs.set k (path,content,true)).map (·.1))=fs.map (·.1):=by
   rw[List.map_set];exact lc_ (by rw[getElem?_map,kG hk,Option.map_some,e])
  exact (pairwise_map (f:=λx:FileR=>x.1) (R:=λa b=>blt a b=true)).1 (by rw[q];exact pairwise_map.2 h)
 ·rw[h2,mem_singleton,mem_iff_getElem,mem_iff_getElem];constructor
  .rintro⟨j,hj,rfl⟩;rw[length_set]at hj;rw[getElem_set];by_cases q:k=j
   .rw[if_pos q];exact .inl rfl
   .rw[if_neg q];exact .inr ⟨⟨j,hj,rfl⟩,λz=>q (KS_ h hk hj (e.trans z.symm))⟩
  .rintro (rfl|⟨⟨j,hj,rfl⟩,z⟩)
   .exact⟨k,by simpa using hk,t_⟩
   .refine⟨j,by simpa using hj,?_⟩;rw[getElem_set,if_neg λq=>z (by subst q;exact e)]
theorem DZ_{fs:List FileR}(h:∀f∈fs,blt f.1 path=true):i8_ path content fs=fs++[(path,content,true)]:=by
 unfold i8_;rw[filter_eq_self.2 h,filter_eq_nil_iff.2 λf hf=>by rw[dv_ (h f hf)];simp]
theorem CB_{fs:List FileR}{f:FileR}(h:blt path f.1=true):i8_ path content (fs++[f])=i8_ path content fs++[f]:=by
 unfold i8_;rw[filter_append,filter_append];simp[h,dv_ h]
theorem n0_:∀fs:List FileR,bL_ fs=fs.flatMap xx_
 |[]=>rfl
 |f::fs=>by rw[flatMap_cons,<-n0_ fs];rfl
theorem AX_{fs:List FileR}(hk:k<fs.length):((((bL_ fs).set (k*3) (.str p)).set (k*3+1) (.str c)).set (k*3+1+1) (.bool o))=bL_ (fs.set k (p,c,o)):=by
 have F:∀x:FileR,(xx_ x).length=3:=λ_=>rfl;rw[n0_,n0_,show k*3=k*3+0 from rfl,iT_ F o_ fs k hk (x':=(p,fs[k].2)) rfl];rw[show k*3+0+1=k*3+1 from rfl,iT_ F o_ (fs.set k (p,fs[k].2)) k (by simpa using hk) (x':=(p,c,fs[k].2.2)) (by rw[getElem_set_self];rfl)];rw[show k*3+1+1=k*3+2 from rfl,iT_ F o_ ((fs.set k (p,fs[k].2)).set k (p,c,fs[k].2.2)) k (by simpa using hk) (x':=(p,c,o)) (by rw[getElem_set_self];rfl),set_set,set_set]
theorem Dr_(h:cs_ is s=some i):i∈is/\i.name=s:=by
 unfold cs_ at h;exact⟨mem_of_find?_eq_some h,by simpa using find?_some h⟩
theorem wk_{ps:List (Pl × InfoR)}{i:Nat}(hi:i<ps.length)(q:Pl)(fs:List FileR):(e2_ ps).set (i*5+4) (.sl q fs.length 3)=e2_ (ps.set i (q,⟨ps[i].2.name,ps[i].2.kind,ps[i].2.parent,ps[i].2.label,fs⟩)):=
 iT_ (f:=λq:Pl × InfoR=>gy_ q.1 q.2) (λ_=>rfl) o_ ps i hi rfl
section
variable{G G1 H:Hp}{a q:Pl}{is:List InfoR}{fs:List FileR}{K b:Nat}
theorem uL_.put(h:uL_ G b a is)(hK:K<is.length)(p1:G<+:G1)(C:bR_ G1 q fs)(F:∀l o,q=some (l,o)->G.length<=l):
 ∃l cs,a=some (l,0)/\b<=l/\l<G.length/\G1[l]?=some (.row true g8_ cs)/\cs.length=is.length*5/\dD_ (G1.set l (.row true g8_ (cs.set (K*5+4) (.sl q fs.length 3)))) a (is.set K ⟨is[K].name,is[K].kind,is[K].parent,is[K].label,fs⟩):=by
 obtain⟨ps,rfl,o,hp,_⟩:=h.ex;rw[k9]at hK;rcases o with⟨_,h0,_⟩|⟨l,rfl,hb,hr,hl⟩
 .omega
 have lg:=(kC.1 hr).1;have hr1:G1[l]?=some (.row true g8_ (e2_ ps)):=by rw[a8_ p1 lg];exact hr
 refine⟨l,e2_ ps,rfl,hb,lg,hr1,by rw[lN_,k9],?_⟩;rw[wk_ hK,getElem_map,show (ps.map (·.2)).set K _=(ps.set K (q,⟨ps[K].2.name,ps[K].2.kind,ps[K].2.parent,ps[K].2.label,fs⟩)).map (·.2) from List.map_set.symm];have l1:=(kC.1 hr1).1;refine Dm_ (b:=b) (.inr ⟨l,rfl,hb,kH l1,lN_ _⟩) λx hx=>?_;obtain⟨j,hj,rfl⟩:=kK hx;rw[length_set]at hj;rw[getElem_set];split
 .exact (C.keep λm o e=>kF λz=>by have:=F m o e;omega).rd
 .obtain⟨z1,z2⟩:=hp _ (kE hj);exact (z1.keep λm o e=>by rw[kF λz=>(z2 m o e).2 0 (by rw[z]),a8_ p1 (z1.ltAt e)]).rd
theorem uL_.over (h:uL_ G b a is) (hK:K<is.length) (hl:fs.length=is[K].files.length):
 ∃l p,a=some (l,0)/\b<=l/\gt G l (K*5+4)=some (.sl p is[K].files.length 3)/\bR_ G p is[K].files/\∀m o,p=some (m,o)->b<=m/\dD_ (G.set m (.row true gL_ (bL_ fs))) a (is.set K ⟨is[K].name,is[K].kind,is[K].parent,is[K].label,fs⟩):=by
 obtain⟨ps,rfl,o,hp,pw⟩:=h.ex;rw[k9]at hK;simp only[getElem_map]at hl ⊢;rcases o with⟨_,h0,_⟩|⟨l,rfl,hb,hr,hl'⟩
 .omega
 obtain⟨y1,y2⟩:=hp _ (kE hK);refine⟨l,ps[K].1,rfl,hb,by rw[aV_ hr];exact wf_ hK 4 o_,y1,λm o e=>⟨(y2 m o e).1,?_⟩⟩;have lm:=y1.ltAt e;have z:e2_ (ps.set K (ps[K].1,⟨ps[K].2.name,ps[K].2.kind,ps[K].2.parent,ps[K].2.label,fs⟩))=e2_ ps:=by
  rw[<-wk_ hK,hl,xz_ hK];congr 1;exact lc_ (by rw[kG hK])
 rw[show (ps.map (·.2)).set K _=(ps.set K (ps[K].1,⟨ps[K].2.name,ps[K].2.kind,ps[K].2.parent,ps[K].2.label,fs⟩)).map (·.2) from List.map_set.symm];refine Dm_ (b:=b) (.inr ⟨l,rfl,hb,by rw[z,kF λq=>(y2 m o e).2 0 (by rw[q]),hr],lN_ _⟩) λx hx=>?_;obtain⟨j,hj,rfl⟩:=kK hx;rw[length_set]at hj;rw[getElem_set];split
 .refine bR_.rd (.inr ⟨m,?_,kH lm⟩);rcases y1 with⟨q,_⟩|⟨m',q,_⟩
  .rw[q]at e;cases e
  .dsimp only;rw[q]at e ⊢;cases e;rfl
 .rename_i ne;obtain⟨z1,z2⟩:=hp _ (kE hj);refine (z1.keep λr o' e'=>kF λq=>?_).rd;subst q;rcases Nat.lt_or_gt_of_ne ne with c|c
  .exact kS.1 pw K j hK hj c m o o' e e'
  .exact kS.1 pw j K hj hK c m o' o e' e
end
def cH_ (is:List InfoR) (name path content:Y_):Int:=match a2_ name 4 with
 |false=>1901
 | true=>match c4_ is name==0 with
  |false=>c4_ is name
  | true=>match a2_ path 3 with
   |false=>1907
   | true=>match leI (sz content) 6 with
    |false=>1909
    | true=>match cs_ is name with
     |none=>0
     | some i=>match i.files.any λf=>decide (f.1=path) with
      |true=>0
      |false=>match leI 4 (i.files.length:Int) with
       |true=>1910
       |false=>0
def fi_ (is:List InfoR) (name to:Y_):Int:=match a2_ name 4&&a2_ to 4 with
 |false=>1901
 | true=>match c4_ is name==0 with
  |false=>c4_ is name
  |true=>match (cs_ is to).isSome with
   |true=>1902
   |false=>0
section
variable{H:Hp}{Q:Post}
theorem ts_ {b:Nat} {a:Pl} {is:List InfoR} {name path content:Y_} (h:bV_ H b a is) (ha:hU_ is) (hf:bx_ is is.length 0=true) (hn:is.length<=900)
 (hsz:∀x∈is,x.name.size<=140737488351232/\x.files.length<=100000/\∀f∈x.files,f.1.size<=140737488351232) (hfa:∀x∈is,ht_ x.files) (hs1:name.size<=140737488351232) (hs2:path.size<=140737488351232)
 (hE:cH_ is name path content≠0->Q (.tup [yR none 0 5,nN (cH_ is name path content)]) H)
 (hQ:cH_ is name path content=0->∀H' a',H<+:H'->dD_ H' a' (gl_ is name (i8_ path content))->Q (.tup [yR a' is.length 5,nN 0]) H'):
 a0_ [nL a is.length 5,gS name,gS path,gS content] H Q:=by
 refine⟨200010,?_⟩;rw[we_];have etn:∀k:Nat,tN (k:Int)=k:=λ_=>rfl;have hrd:=h.rd;have hfl:∀i∈is,i.files.length<=100000:=λi hi=>(hsz i hi).2.1;have h0:=hE;refine ff_ hrd ha o_ hsz ?_;simp only[aN_,am_];rw[hf];refine aa_ (λe=>by cases e) λ_=>?_;refine cF_ hs1 ?_;simp only[aN_,am_];refine aa_ (λe=>by rw[show cH_ is name path content=1901 by unfold cH_;rw[el_ e]]at h0;exact h0 d_) λe=>?_;have w1:=e0_ e;refine kx_ hrd ha o_ (λe he hA=>?_) λhA hp hfi=>?_
 .simp only[aI_,aC_,bG_,ai_,ba_];refine aa_ (λ_=>?_) (λq=>by exact absurd (by simpa using q) he);rw[show cH_ is name path content=e by unfold cH_;rw[w1,hA,show (e==0)=false by simpa using he]]at h0;exact h0 he
 simp only[aI_,aC_,bG_,ai_,ba_];refine aa_ (λq=>by cases q) λ_=>?_;have hname:=(Dr_ hfi).2;generalize hK:dL_ is name=K at hp hfi hname;rw[BY_ ha hp hname]at hQ;refine ab_ rfl (ab_ (by simp<;>omega) ?_);obtain⟨l,o,p,e1,r1,r2,r3,r4,r5,r6⟩:=hrd _ hp;have hfk:=hfl _ (kE hp);have fa:=hfa _ (kE hp);have eW:cH_ is name path content=match a2_ path 3 with
  |false=>1907
  | true=>match leI (sz content) 6 with
   |false=>1909
   | true=>match is[K].files.any λf=>decide (f.1=path) with
    |true=>0
    |false=>match leI 4 (is[K].files.length:Int) with
     |true=>1910
     |false=>0:=by unfold cH_;rw[w1,hA,hfi];rfl
 have fin:cH_ is name path content=0->∀(F:Nat)(G0 G:Hp)(a0 q:Pl)(m:Nat),H<+:G0->uL_ G0 H.length a0 is->G0<+:G->Own G G0.length gL_ q (m*3) (bL_ (i8_ path content is[K].files))->m=(i8_ path content is[K].files).length->
  a0_.l29 (F+1) ((K:Nat):Int) a0 is.length q m G Q:=λe0 F G0 G a0 q m p0 hi0 p1 C hm=>by
  subst hm;obtain⟨C1,C2⟩:=zf_ C;obtain⟨l,cs,e,hb,hlg,hr,hc,rd⟩:=hi0.put hp p1 C1 C2;subst e;rw[a0_.l29_eq];refine ab_ rfl (ab_ (by simp<;>omega) ?_);simp only[ae_,etn,kN];rw[qW_ hr o_];exact hQ e0 _ _ (dM_ (p0.trans p1) hb _) rd
 have l22:cH_ is name path content=0->(∀f∈is[K].files,f.1≠path)->∀(G0:Hp)(a0:Pl),H<+:G0->uL_ G0 H.length a0 is->∀(f j F:Nat)(G:Hp)(a':Pl)(n':Nat)(xs:List FileR),f=is[K].files.length-j->j<=is[K].files.length->2*f+3<=F->G0<+:G->Own G G0.length gL_ a' (n'*3) (bL_ xs)->n'=xs.length->
  ((xs=is[K].files.take j/\∀f∈xs,blt f.1 path=true)\/(xs=i8_ path content (is[K].files.take j)/\n'=j+1/\∀i (hi:i<is[K].files.length),j<=i->blt path is[K].files[i].1=true))->
  a0_.l22 F path ((K:Nat):Int) a0 is.length path content true a' n' ((j:Nat):Int) G Q:=by
  intro e0 hno G0 a0 p0 hi0 f;obtain⟨l,p,e1,hbl,r1,r2,r3,r4,r5,r6,r7,cs0,hr0,hc0⟩:=hi0.at.src K hp;induction f with
  |zero=>
   intro j F G a' n' xs hf' hj hF hG ho hn' inv;obtain⟨F,rfl⟩:∃G,F=G+1+1:=⟨F-2,o_⟩;have hjl:j=is[K].files.length:=by omega
   rw[a0_.l22_eq];refine ab_ rfl (ab_ (by simp<;>omega) ?_);rw[e1];have r5':gt G l (K*5+4)=some (.sl p is[K].files.length 3):=cB_ hG r5;simp only[ae_,etn,kN];rw[ad_ r5',ah_];refine aa_ (λe=>by simp at e<;>omega) λ_=>?_;refine ab_ rfl (ab_ (by simp<;>omega) ?_);rw[ad_ r5',ah_,<-e1];rw[hjl,take_length]at inv;rcases inv with⟨e,hlt⟩|⟨e,hm,_⟩
   .subst e;refine aa_ (λ_=>?_) (λq=>by simp at q;omega);refine ab_ rfl ?_;refine ks_ (H0:=G0) o_ hG ho (m:=1) rfl (by unfold Lim;omega) λx' G' o' ex fr=>?_;have pe:=DZ_ (content:=content) hlt;refine fin e0 F G0 G' a0 x' _ p0 hi0 ex.pre ?_ (by rw[pe,kI];simp;omega);rw[pe,ho_];exact o'
   .subst e;exact aa_ (λq=>by simp at q;omega) λ_=>fin e0 F G0 G a0 a' _ p0 hi0 hG ho hn'
  | succ f ih=>
   intro j F G a' n' xs hf' hj hF hG ho hn' inv;have hjl:j<is[K].files.length:=by omega
   obtain⟨F,rfl⟩:∃G,F=G+1+1:=⟨F-2,o_⟩;have tk:is[K].files.take (j+1)=is[K].files.take j++[is[K].files[j]]:=by rw[take_add_one,kG hjl];rfl
   rw[a0_.l22_eq];refine ab_ rfl (ab_ (by simp<;>omega) ?_);rw[e1];have r5':gt G l (K*5+4)=some (.sl p is[K].files.length 3):=cB_ hG r5;simp only[ae_,etn,kN];rw[ad_ r5',ah_];refine aa_ (λ_=>?_) (λe=>by simp at e<;>omega);have next:∀(G:Hp)(a':Pl)(n':Nat)(xs:List FileR),G0<+:G->Own G G0.length gL_ a' (n'*3) (bL_ xs)->n'=xs.length->n'<=j+1->
    ((xs++[is[K].files[j]]=is[K].files.take (j+1)/\∀f∈xs++[is[K].files[j]],blt f.1 path=true)\/(xs++[is[K].files[j]]=i8_ path content (is[K].files.take (j+1))/\n'=j+1/\∀i (hi:i<is[K].files.length),j<=i->blt path is[K].files[i].1=true))->
    a0_.l26 (F+1) path ((K:Nat):Int) (some (l,0)) is.length path content true a' n' ((j:Nat):Int) G Q:=by
    intro G a' n' xs hG ho hn' hle inv;have r5':gt G l (K*5+4)=some (.sl p is[K].files.length 3):=cB_ hG r5;rw[a0_.l26_eq];refine ab_ rfl (ab_ (by simp<;>omega) ?_);simp only[ae_,etn,kN];rw[ad_ r5',ah_];refine ab_ rfl (ab_ (by simp<;>omega) ?_);obtain⟨l2,o2,e2,q1,q2,q3⟩:=(r6.rd.pre hG) _ hjl;rw[e2];simp only[ae_,etn];rw[ad_ q1,aq_,ad_ q2,aq_,ad_ q3,am_];refine ab_ rfl ?_;refine ks_ (H0:=G0) o_ hG ho (m:=1) rfl (by unfold Lim;omega) λx' G' o' ex fr=>?_;rw[ao_ o_,<-e1];refine ih (j+1) F G' x' _ (xs++[is[K].files[j]]) o_ hjl o_ ex.pre (by rw[ho_];exact o') s_ ?_;rcases inv with q|⟨q1,q2,q3⟩
    .exact .inl q
    .exact .inr ⟨q1,o_,λi hi hj=>q3 i hi o_⟩
   rcases inv with⟨e,hlt⟩|⟨e,hm,hgt⟩
   ·have hnj:n'=j:=by rw[hn',e,lC];omega
    refine aa_ (λ_=>?_) (λq=>by simp at q;omega);refine ab_ rfl (ab_ (by simp<;>omega) ?_);rw[ad_ r5',ah_];refine ab_ rfl (ab_ (by simp<;>omega) ?_);obtain⟨l2,o2,e2,q1,q2,q3⟩:=(r6.rd.pre hG) _ hjl;rw[e2];simp only[ae_,etn,kQ];rw[ad_ q1,aq_];have ne:=hno _ (kE hjl);refine aa_ (λc=>?_) λc=>?_
    ·have c:blt path is[K].files[j].1=true:=by
      have c:dI_ is[K].files[j].1 path=false:=by simp at c;exact c.1
      rcases gQ_ path is[K].files[j].1 with⟨z,_⟩|⟨z,_⟩|⟨z,_⟩
      .exact z
      .exact absurd z.symm ne
      .rw[<-hP_,c]at z;cases z
     refine ab_ rfl ?_;refine ks_ (H0:=G0) o_ hG ho (m:=1) rfl (by unfold Lim;omega) λx' G' o' ex fr=>?_;refine next G' x' _ (xs++[(path,content,true)]) ex.pre (by rw[ho_];exact o') s_ o_ (.inr ⟨?_,o_,λi hi hji=>?_⟩)
     .rw[tk,CB_ c,DZ_ (by rw[<-e];exact hlt),e]
     .rcases Nat.lt_or_eq_of_le hji with z|rfl
      .exact du_ c (kS.1 fa j i hjl hi z)
      .exact c
    ·refine next G a' n' xs hG ho hn' o_ (.inl ⟨by rw[tk,e],λf hf=>?_⟩);rcases kD.1 hf with z|z
     .exact hlt f z
     .rw[mem_singleton.1 z];have c:dI_ is[K].files[j].1 path=true:=by simpa[ne] using c
      rw[<-hP_];exact c
   .refine aa_ (λq=>by simp at q;omega) λ_=>next G a' n' xs hG ho hn' o_ (.inr ⟨?_,hm,hgt⟩);rw[tk,CB_ (hgt j hjl (kO _)),e]
 rw[e1];simp only[ae_,etn];have r5':gt H l (o+K*5+4)=some (.sl p is[K].files.length 3):=r5;rw[ad_ r5',ah_];refine rz_ r6 hfk (λk hk hkp=>?_) λhno=>?_
 all_goals
  simp only[aN_,ai_]
  refine fR_ hs2 ?_
  simp only[aN_,am_]
  refine aa_ (λe=>by rw[eW,el_ e]at h0;exact h0 (show (1907:Int)≠0 by decide)) λe=>?_
  rw[e0_ e]at eW
  dsimp only at eW
  refine aa_ (λe=>by rw[eW,show leI (sz content) 6=false by simp at e ⊢;omega]at h0;exact h0 (show (1909:Int)≠0 by decide)) λe=>?_
  rw[show leI (sz content) 6=true by simp at e ⊢;omega]at eW
  dsimp only at eW
 ·refine aa_ (λe=>by simp at e<;>omega) λ_=>?_;have e0:cH_ is name path content=0:=by
   rw[eW,show (is[K].files.any λf=>decide (f.1=path))=true from any_eq_true.2 ⟨_,kE hk,by simpa using hkp⟩]
  rw[<-e1];refine hj_ h hn hfl λG a0 pG hi0=>?_;simp only[aN_,ah_];refine aa_ (λ_=>?_) (λe=>by simp at e<;>omega);refine ab_ rfl (ab_ (by simp<;>omega) ?_);obtain⟨l9,p9,e9,hbl,q5,q6,q7⟩:=hi0.over hp (fs:=is[K].files.set k (path,content,true)) t_;subst e9;simp only[ae_,etn,kN];rw[ad_ q5,ah_];refine ab_ rfl (ab_ (by simp<;>omega) ?_);rcases q6 with⟨_,z⟩|⟨lf,rfl,hrf⟩
  .rw[z]at hk;cases hk
  obtain⟨hbf,rd⟩:=q7 lf 0 rfl;simp only[ae_,etn,kN];have hcl:=eG_ is[K].files;have hlt:=(kC.1 hrf).1;rw[qW_ hrf o_];rw[qW_ (kH hlt) (by rw[length_set];omega),set_set];rw[qW_ (kH hlt) (by rw[length_set,length_set];omega),set_set,AX_ hk];rw[Ik_ fa hk hkp]at rd ⊢;exact hQ e0 _ _ (dM_ pG hbf _) rd
 .refine aa_ (λ_=>?_) (λe=>by simp at e);rw[show (is[K].files.any λf=>decide (f.1=path))=false by rw[any_eq_false];intro f hf;simpa using hno f hf]at eW;dsimp only at eW;refine ab_ rfl (ab_ (by simp<;>omega) ?_);rw[ad_ r5',ah_];refine aa_ (λe=>by rw[eW,show leI 4 (is[K].files.length:Int)=true from e]at h0;exact h0 d_) λe=>?_;rw[show leI 4 (is[K].files.length:Int)=false from e]at eW;rw[<-e1];refine hj_ h hn hfl λG a0 pG hi0=>?_;simp only[aN_,ah_];refine aa_ (λe=>by simp at e) λ_=>?_;exact l22 eW hno G a0 pG hi0 _ 0 200009 G none 0 [] rfl (kP _) o_ (k8 _) (.inl ⟨rfl,rfl,rfl⟩) rfl (.inl ⟨rfl,λf hf=>by cases hf⟩)
theorem qF_ (h:bV_ H b a is) (N:hU_ is) (hf:bx_ is is.length 0=true) (Y:is.length<=900)
 (I:∀x∈is,x.name.size<=140737488351232/\x.files.length<=100000/\∀f∈x.files,f.1.size<=140737488351232) (Z:name.size<=140737488351232) (V:to.size<=140737488351232)
 (hQ:∀H' a' n',H<+:H'->Q (.tup [yR a' n' 5,nN (fi_ is name to)]) H'):
 f0_ [nL a is.length 5,gS name,gS to] H Q:=by
 refine⟨1,?_⟩;rw[u2_];have U:∀k:Nat,tN (k:Int)=k:=λ_=>rfl;have hrd:=h.rd;have W:∀i∈is,i.files.length<=100000:=λi hi=>(I i hi).2.1;have F:=hQ H none 0 (k8 _);refine ff_ hrd N o_ I ?_;rw[hf];refine cF_ Z ?_;refine aa_ (λe=>by rw[show fi_ is name to=1901 by unfold fi_;rw[el_ e,Bool.false_and]]at F;exact F) λe=>?_;have w1:=e0_ e;refine cF_ V ?_;refine aa_ (λe=>by rw[show fi_ is name to=1901 by unfold fi_;rw[el_ e,Bool.and_false]]at F;exact F) λe=>?_;have w2:=e0_ e;refine kx_ hrd N o_ (λe he hA=>?_) λhA hp hfi=>?_
 .simp only[aI_,aC_,bG_,ai_];refine aa_ (λ_=>?_) (λq=>by exact absurd (by simpa using q) he);rw[show fi_ is name to=e by unfold fi_;rw[w1,w2,hA,show (e==0)=false by simpa using he];rfl]at F;exact F
 .simp only[aI_,aC_,bG_,ai_];have eC:fi_ is name to=match (cs_ is to).isSome with|true=>1902|false=>0:=by unfold fi_;rw[w1,w2,hA];rfl
  refine g3_ hrd N o_ (λD=>?_) λD=>?_
  .simp only[aN_,ai_];refine aa_ (λ_=>?_) (λe=>by simp at e<;>omega);rw[(qX_ N).1]at D;grind
  .simp only[aN_,ai_];rw[jH_ N D]at eC;dsimp[Option.isSome_none]at eC;refine hj_ h Y W λG a0 pG J=>?_;replace J:=J.at;simp only[aN_,ah_];refine ab_ rfl (ab_ (by simp<;>omega) ?_);obtain⟨l,o,p,e1,r1,r2,r3,r4,r5,r6⟩:=J.rd _ hp;rw[e1];simp[ae_,U];rw[ad_ r1,aq_,ad_ r2,ai_,ad_ r3,aq_,ad_ r4,aq_,ad_ r5,ah_,<-e1];refine qs_ J.rd Y λG1 a1 pG1 O=>?_;simp[ah_];refine mp_ O (Nat.le_trans (length_eraseIdx_le _ _) Y) λG2 a2 n2 pG2=>?_;simp[aN_];grind
end
section
variable{H:Hp}{Q:Post}{a:Pl}{b:Nat}{is:List InfoR}
theorem Bg_ (h:bR_ H p fs) (F:fs.length<=1000) (D:fs=[]->Q (nL none 0 3) H) (A:∀cs,cs=bL_ fs->Q (nL (some (H.length,0)) fs.length 3) (H++[.row true gL_ cs])):
 bA_ [nL p fs.length 3] H Q:=by
 refine⟨1,?_⟩;rw[hr_];cases p with
 |none=>
  rw[HT_,ay_ rfl];rcases h with⟨_,rfl⟩|⟨l,e,_⟩;grind;cases e
 |some q=>
  rw[HB_,aA_ rfl,af_,er_ h.cells];exact⟨⟨by unfold Lim;omega,eG_ fs⟩,A _ rfl⟩
theorem tR_ (h:bV_ H b a is) (hn:is.length<=900) (hf:∀i∈is,i.files.length<=1000) (hQ:∀H' a',H<+:H'->bV_ H' H.length a' is->Q (nL a' is.length 5) H'):cl_ [nL a is.length 5] H Q:=by
 refine⟨is.length+2,?_⟩;rw[v6_];refine⟨1,?_⟩;rw[hs_];rcases h with⟨rfl,rfl⟩|⟨l,cs,rfl,hb,hr,hc⟩
 .rw[HT_,ay_ rfl];simp only[aN_,ah_];rw[cl_.l3_eq,aA_ t_];exact hQ _ _ (k8 _) (.inl ⟨rfl,rfl⟩)
 rw[HB_,aA_ rfl,af_,er_ (cs:=cs) (by simp[cells?,hr,hc.len];rw[<-hc.len,take_length])];refine⟨⟨by show _*80<=Lim;unfold Lim;omega,hc.len⟩,?_⟩;simp only[aN_,ah_,d4_];obtain⟨ps0,rfl,hps,hp0⟩:=hc.pis;have go:∀(f k:Nat)(G:Hp)(ps:List (Pl × InfoR)),f=is.length-k->k<=is.length->H<+:G->ps.map (·.2)=is->G[H.length]?=some (.row true g8_ (e2_ ps))->(∀q∈ps,bR_ G q.1 q.2.files)->
  (∀j (hj:j<ps.length),j<k->∀l o,ps[j].1=some (l,o)->H.length<l)->(∀q∈ps,∀l o,q.1=some (l,o)->l≠H.length)->cl_.l3 (f+1) (some (H.length,0)) is.length (nI is.length) ((k:Nat):Int) G Q:=by
  intro f;induction f with
  | zero=>
   intro k G ps hf' hk hG hm hr' hp hk' hne;rw[cl_.l3_eq,aA_ s_];have hI:dw_ G H.length (some (H.length,0)) (e2_ ps) is:=by
    rw[<-hm];refine dw_.mk λq hq=>⟨hp q hq,λl o e=>?_⟩;obtain⟨j,hj,rfl⟩:=kK hq;have hl:ps.length=is.length:=by rw[<-hm,k9]
    have:=hk' j hj o_ l o e;exact⟨o_,λo' q=>by cases q;omega⟩
   exact hQ G _ hG (.inr ⟨_,_,rfl,kO _,hr',hI⟩)
  | succ f ih=>
   intro k G ps hf' hk hG hm hr' hp hk' hne;have hl:ps.length=is.length:=by rw[<-hm,k9]
   have hi:k<ps.length:=by omega
   have etn:tN (k:Int)=k:=rfl;have e2:(ps[k]).2=is[k]'o_:=by simp only[<-hm,getElem_map]
   have hfl:=hf _ (kE (show k<is.length by omega));rw[<-e2]at hfl;have hlt:=(kC.1 hr').1;have hg:gt G H.length (k*5+4)=some (.sl ps[k].1 ps[k].2.files.length 3):=by rw[aV_ hr',wf_ hi 4 o_];rfl
   rw[cl_.l3_eq,ay_ s_];refine ab_ rfl (ab_ s_ ?_);rw[ae_,etn,kN,ad_ hg,ah_,ao_ o_];have hmem:=kE hi;have nxt:∀(p:Pl)(G1:Hp),G<+:G1->bR_ G1 p ps[k].2.files->(∀l o,p=some (l,o)->H.length<l)->rG (nL p ps[k].2.files.length 3) λv7=>dL 3 v7 λx8 n9=>chk true (chk (leI 0 (k:Int)&&ltI (k:Int) (nI is.length)) (pS (some (H.length,0)) λn10 n11=>
    wr G1 n10 (n11+tN (k:Int)*5+4) (.sl x8 n9 3) λH12=>cl_.l3 (f+1) (some (H.length,0)) is.length (nI is.length) ((k+1:Nat):Int) H12 Q)):=λp G1 p1 hp1 hpl=>by
    have hr1:=a8_ p1 hlt;rw[hr']at hr1;simp only[aN_,ah_];refine ab_ rfl (ab_ s_ ?_);rw[ae_,etn,kN];refine b7_ hr1 (by rw[lN_];omega) ?_;rw[xz_ hi];have kp:∀l,l≠H.length->(G1.set H.length (.row true g8_ (e2_ (ps.set k (p,ps[k].2)))))[l]?=G1[l]? :=λl hl=>kF (Ne.symm hl);refine ih (k+1) _ _ o_ o_ (j7_ (by have:=p1.length_le;simp;omega) λl hl=>by rw[kp l o_,a8_ p1 o_,a8_ hG hl]) ?_ (kH (by have:=p1.length_le;omega)) (λq hq=>?_) (λj hj hjk l o e=>?_) λq hq l o e=>?_
    .rw[List.map_set];simp only;rw[<-hm];exact lc_ (by rw[getElem?_map,kG hi];rfl)
    .rcases mem_or_eq_of_mem_set hq with q1|rfl
     .exact (hp q q1).keep λl o e=>by rw[kp l (hne q q1 l o e),a8_ p1 ((hp q q1).ltAt e)]
     .exact hp1.keep λl o e=>kp l (by have:=hpl l o e;omega)
    .rw[getElem_set]at e;split at e
     .exact hpl l o e
     .exact hk' j (by simpa using hj) o_ l o e
    .rcases mem_or_eq_of_mem_set hq with q1|rfl
     .exact hne q q1 l o e
     .have:=hpl l o e;omega
   refine Bg_ (hp _ hmem) o_ (λe0=>?_) λcs ecs=>?_
   .have:=nxt none G (k8 _) (.inl ⟨rfl,e0⟩) (λl o e=>by cases e);rw[e0]at this;exact this
   .exact nxt (some (G.length,0)) (G++[.row true gL_ cs]) (prefix_append _ _) (.inr ⟨_,rfl,by rw[ecs];exact getElem?_concat_length⟩) (λl o e=>by cases e;omega)
 have lq:∀q∈ps0,∀l o,q.1=some (l,o)->l<H.length:=λq hq l o e=>(hp0 q hq).1.ltAt e;have:=go is.length 0 (H++[.row true g8_ (e2_ ps0)]) ps0 rfl o_ (prefix_append _ _) hps getElem?_concat_length (λq hq=>(hp0 q hq).1.keep λl o e=>kM (lq q hq l o e)) (λj _ hj=>by omega) (λq hq l o e=>by have:=lq q hq l o e;omega);exact this
end
structure FrK(is:List InfoR):Prop where
 asc:hU_ is
 from_:bx_ is is.length 0=true
 few:is.length<=900
 sz:∀x∈is,x.name.size<=140737488351232/\x.files.length<=100000/\∀f∈x.files,f.1.size<=140737488351232
 f4:∀x∈is,x.files.length<=4/\ht_ x.files
def Dv_(nm:List Y_):Bool:=nm.all λs=>a2_ s 4
section
variable{H:Hp}{Q:Post}{a:Pl}{b l0 t:Nat}{is:List InfoR}{nm:List Y_}{s path:Y_}{ow:Bool}
theorem r0_ (h:bV_ H b a is) (k:FrK is) (I:H[l0]?=some (.row ow t (nm.map GV.str))) (hn:nm.length<=10) (N:∀s∈nm,s.size<=140737488351232)
 (Z:Dv_ nm=false->Q (.tup [yR none 0 5,nN 1901]) H) (O:Dv_ nm=true->∀H' D,H<+:H'->bV_ H' H.length D is->Q (.tup [yR D is.length 5,nN 0]) H'):
 cn_ [nL a is.length 5,nL (some (l0,0)) nm.length 1] H Q:=by
 refine⟨nm.length+2,?_⟩;rw[ut_];refine mG_ h.rd (by have:=k.few;omega) k.sz ?_;simp[aN_];rw[k.from_,bN1];have go:∀(f j),f=nm.length-j->j<=nm.length->(nm.take j).all (λs=>a2_ s 4)=true->cn_.l4 (f+1) a is.length (some (l0,0)) nm.length (nI nm.length) j H Q:=by
  intro f;induction f with
  |zero=>
   intro j V W F;rw[cn_.l4_eq,aA_ s_];refine tR_ h k.few (λi A=>by have:=(k.f4 i A).1;omega) λH' D p U=>?_;rw[show j=nm.length by omega,take_length]at F;simp[aN_];exact O F H' D p U
  |succ f J=>
   intro j V W F;have A:j<nm.length:=by omega
   have Y:gt H l0 (0+j*1)=some (.str nm[j]):=by rw[aV_ I];simp
   rw[cn_.l4_eq,ay_ s_];refine ab_ rfl (ab_ s_ ?_);rw[ae_,show tN (j:Int)=j from rfl,ad_ Y,aq_,ao_ o_];refine e5_ (N _ (kE A)) (aa_ (λe=>Z (all_eq_false.2 ⟨_,kE A,g_⟩)) λe=>J (j+1) o_ o_ ?_);rw[take_add_one,kG A,all_append,F];simpa using e
 exact go nm.length 0 rfl o_ rfl
theorem qP_ (h:bV_ H b a is) (k:FrK is) (D:H[l0]?=some (.row ow t ((s::nm).map GV.str))) (Y:nm.length<=9) (J:∀z∈s::nm,z.size<=140737488351232)
 (U:∀e,e≠0->(e=match Dv_ (s::nm) with|false=>1901|true=>match (cs_ is s).isSome with|false=>1903|true=>0)->∀H',H<+:H'->Q (.tup [.s (.sl none 0 5),.s (.int .i64 0),.s (.int .i64 e)]) H')
 (V:Dv_ (s::nm)=true->∀I:dL_ is s<is.length,cs_ is s=some is[dL_ is s]->∀H' A,H<+:H'->bV_ H' H.length (some (A,0)) is->Q (.tup [yR (some (A,0)) is.length 5,nN (dL_ is s:Int),nN 0]) H'):
 fZ_ [nL a is.length 5,nL (some (l0,0)) (nm.length+1) 1] H Q:=by
 refine⟨1,?_⟩;rw[uY_];refine r0_ h k D g_ J (λe=>?_) λe H' W p F=>?_;simp only[aI_,aC_,bG_,ah_,ai_,ba_];rw[ay_ t_];grind;simp only[aI_,aC_,bG_,ah_,ai_];refine ab_ t_ ?_;have N:gt H' l0 (0+tN 0*1)=some (.str s):=cB_ p (by rw[aV_ D];rfl);rw[ae_,ad_ N];refine jN_ F.rd k.asc (by have:=k.few;omega) ?_;simp[aI_];cases q:is.any λy=>decide (y.name=s) with
 |false=>
  exact U 1903 t_ (by rw[e,jH_ k.asc q];rfl) H' p
 |true=>
  rw[bN1];have⟨I,O⟩:=nb_ k.asc q;obtain⟨A,_,Z,_⟩:=F.src _ I;grind
def h5_ (is:List InfoR) (name path:Y_):Int:=match a2_ name 4 with
 |false=>1901
 | true=>match c4_ is name==0 with
  |false=>c4_ is name
  |true=>match a2_ path 3 with
   |false=>1907
   |true=>0
theorem lG_ (h:bV_ H b a is) (k:FrK is) (hs:s.size<=140737488351232) (U:path.size<=140737488351232)
 (Y:h5_ is s path≠0->∀H',H<+:H'->Q (.tup [yR none 0 5,.s (.ptr none),nN (h5_ is s path)]) H')
 (h2:h5_ is s path=0->∀W:dL_ is s<is.length,cs_ is s=some is[dL_ is s]->∀H' J,H<+:H'->bV_ H' H.length (some (J,0)) is->Q (.tup [yR (some (J,0)) is.length 5,.s (.ptr (some (J,dL_ is s*5))),nN 0]) H'):
 fg_ [nL a is.length 5,gS s,gS path] H Q:=by
 refine⟨1,?_⟩;have N:=b8_ H (.row false 1000003 [.str s]);rw[v9_];refine qP_ (s:=s) (t:=1000003) (ow:=false) (nm:=[]) (h.pre N) k t_ t_ g_ (λe O A H' p=>?_) λe W I H' J p Z=>?_;simp only[aI_,aC_,bG_,ah_,ai_];rw[ay_ (by simp_all)];have:h5_ is s path=e:=by
  rw[show Dv_ [s]=a2_ s 4 by simp[Dv_]]at A;unfold h5_ c4_;cases D:a2_ s 4 with
  |false=>rw[D]at A;exact A.symm
  |true=>
   rw[D]at A;cases hf:cs_ is s with
   |none=>rw[hf]at A;rw[A];rfl
   |some i=>rw[hf]at A;exact absurd A O
 rw[<-this]at O ⊢;exact Y O H' (N.trans p);simp only[aI_,aC_,bG_,ah_,ai_,ba_];have D:a2_ s 4=true:=by simpa[Dv_] using e
 have q:=N.trans p;refine ab_ s_ ?_;obtain⟨_,_,e1,hb,r1,r2,_⟩:=Z.src _ W;cases e1;rw[ae_,show tN (dL_ is s:Int)=dL_ is s from rfl,kN,ad_ r2,ai_];have eA:c4_ is s=match eqI is[dL_ is s].kind 0 with|true=>0|false=>1905:=by unfold c4_;rw[I]<;>rfl
 cases V:eqI is[dL_ is s].kind 0 with
 |false=>
  have:h5_ is s path=1905:=by unfold h5_;rw[D,eA,V];rfl
  rw[this]at Y;exact Y t_ H' q
 | true=>
  refine f8_ U ?_;simp only[aN_,am_];cases F:a2_ path 3 with
  |false=>
   rw[bN0];have:h5_ is s path=1907:=by unfold h5_;rw[D,eA,V,F];rfl
   grind
  |true=>
   rw[bN1,af_];refine ab_ s_ ?_;rw[ae_,kN];refine h2 (by unfold h5_;rw[D,eA,V,F];rfl) W I H' J q ?_;have hl:H.length<=(pu H (.row false 1000003 [.str s])).length:=N.length_le;rcases Z with⟨e,_⟩|⟨l,cs,e,z1,z2,z3⟩;cases e;exact .inr ⟨l,cs,e,o_,z2,z3.low hl⟩
end
end Go.Am
