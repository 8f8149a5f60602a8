import Derived.Test.YtdfongaafdnljaaGreatM12
set_option linter.all false
set_option autoImplicit true
set_option relaxedAutoImplicit true
namespace Go.Am
open List
structure GT (B H:Hp) (tp:Nat) (ds:List PC) (T:List Pg) (X:Nat→Prop) (off:Nat→Prop):Prop where
 pre:B<+:H
 ot:OT H B.length tPg (some (tp,0)) 48 ds T
 wo:∀ i (h:i < ds.length),WoP H B.length 1000 ds[i]
 base:∀ i (h:i < ds.length) l,(ds[i]).on l→B.length≤l
 own:∀ i (h:i < ds.length) (h':i < T.length),X i→(ds[i]).own H B.length T[i]
 ap:∀ i j (hi:i < ds.length) (hj:j < ds.length),i≠j→∀ l,(ds[i]).on l→ ¬ (ds[j]).on l
 off:∀ l,off l→B.length≤l∧l≠tp∧∀ i (h:i < ds.length),¬ (ds[i]).on l
section
variable {B H H':Hp} {tp:Nat} {ds:List PC} {T:List Pg} {X X' off off':Nat→Prop} {i:Nat} {c:PC} {p:Pg}
theorem GT.onlt (g:GT B H tp ds T X off) (i:Nat) (h:i < ds.length) (r:(ds[i]).on l):l < H.length:=g.ot.onlt (kE h) r
theorem GT.keep (g:GT B H tp ds T X off) (D:∀ l,l < H.length→ ¬ off l→H'[l]? =H[l]?) (F:H.length≤H'.length):GT B H' tp ds T X off:=by
 have on:=fun i h l r=>D l (g.onlt i h r) fun q=>(g.off l q).2.2 i h r;have ⟨U,N⟩:=g.ot.at_row;have I:=D tp (kC.1 N).1 fun q=>(g.off tp q).2.1 rfl;have A:B<+:H':=by
  rw[prefix_iff_eq_take];apply ext_getElem?;intro l;rw[getElem?_take];split
  ·rename_i r;have:=g.pre.length_le;rw[D l (by omega) (fun h=>by have:=(g.off l h).1; omega),br_ g.pre r]
  ·grind
 refine⟨A,g.ot.keep (fun l e=>by grind) (fun c O l r=> ?_),fun i h=>(g.wo i h).keepOn (on i h),g.base,fun i h G J=>(g.own i h G J).keep (on i h),g.ap,g.off⟩;obtain⟨i,V,rfl⟩:=kK O;grind
theorem GT.mono (g:GT B H tp ds T X off) (r:H<+:H'):GT B H' tp ds T X off:=g.keep (fun l A _=>br_ r A) r.length_le
theorem GT.reoff (g:GT B H tp ds T X off) (h:∀ l,off' l→B.length≤l∧l≠tp∧∀ i (h:i < ds.length),¬ (ds[i]).on l):GT B H tp ds T X off':=⟨g.pre,g.ot,g.wo,g.base,g.own,g.ap,h⟩
theorem GT.turn (g:GT B H tp ds T X off) (hi:i < ds.length) (hlen:H.length≤H'.length) (D:∀ l,l < H.length→ ¬ (ds[i]).on l→l≠tp→ ¬ off l→H'[l]? =H[l]?)
 (O:H'[tp]? =some (.row true tPg (bD_ (ds.set i c)))) (hc:c.at H' p) (hw:WoP H' B.length 1000 c)
 (I:∀ l,c.on l→l≠tp∧ ¬ off l∧B.length≤l∧∀ j (V:j < ds.length),j≠i→ ¬ (ds[j]).on l) (hX:∀ j,X' j→(j=i∧c.own H' B.length p)∨(j≠i∧X j)):
 GT B H' tp (ds.set i c) (T.set i p) X' off:=by
 have q1:=g.ot.len;have q2:=g.ot.lenT;have ⟨hb,hr⟩:=g.ot.at_row;have htp:=(kC.1 hr).1;have A:=fun j h J l r=>D l (g.onlt j h r) (g.ap j i h hi J l r) (fun e=>g.ot.off _ (kE h) l r (by rw[e])) fun q=>(g.off l q).2.2 j h r;have N:B<+:H':=by
  rw[prefix_iff_eq_take];apply ext_getElem?;intro l;rw[getElem?_take];split
  ·rename_i r;rw[D l (by omega) (fun h=>by have:=g.base i hi l h; omega) (by omega) (fun h=>by have:=(g.off l h).1; omega),br_ g.pre r]
  ·exact getElem?_eq_none (by omega)
 refine⟨N,⟨.inr ⟨tp,rfl,hb,O,by rw[ck_]; simp [q1]⟩,by simp [q1],by simp [q2],fun j F G=> ?_,fun d hd l r e=> ?_⟩,fun j h=> ?_,fun j h l r=> ?_,fun j h h' hx=> ?_,fun j k V W J l F G=> ?_,fun l r=> ?_⟩
 ·rw[getElem_set,getElem_set];by_cases e:i=j
  ·rw[if_pos e,if_pos e]; exact hc
  ·rw[if_neg e,if_neg e];simp at F G;exact (g.ot.all j F G).keep (A j F (Ne.symm e))
 ·cases e;rcases mem_or_eq_of_mem_set hd with q | q
  ·exact g.ot.off d q tp r rfl
  ·subst q; exact (I tp r).1 rfl
 ·rw[getElem_set];by_cases e:i=j
  ·rw[if_pos e]; exact hw
  ·rw[if_neg e]; simp at h; exact (g.wo j h).keepOn (A j h (Ne.symm e))
 ·rw[getElem_set] at r;by_cases e:i=j
  ·rw[if_pos e] at r; exact (I l r).2.2.1
  ·rw[if_neg e] at r; simp at h; exact g.base j h l r
 ·rw[getElem_set,getElem_set];rcases hX j hx with⟨e,ho⟩ | ⟨e,Z⟩
  ·rw[if_pos e.symm,if_pos e.symm]; exact ho
  ·rw[if_neg (Ne.symm e),if_neg (Ne.symm e)];simp at h h';exact (g.own j h h' Z).keep (A j h e)
 ·rw[getElem_set] at F G;simp at V W;by_cases Y:i=j
  ·rw[if_pos Y] at F;by_cases U:i=k
   ·omega
   ·rw[if_neg U] at G;exact (I l F).2.2.2 k W (Ne.symm U) G
  ·rw[if_neg Y] at F;by_cases U:i=k
   ·rw[if_pos U] at G;exact (I l G).2.2.2 j V (Ne.symm Y) F
   ·rw[if_neg U] at G;exact g.ap j k V W J l F G
 ·have ⟨o1,o2,o3⟩:=g.off l r;grind
theorem GT.gt (g:GT B H tp ds T X off) (hi:i < ds.length) (r:j < 5):Am.gt H tp (i*5+j)=(ds[i]).cells[j]? :=by
 rw[bw_ g.ot.at_row.2]; exact jx_ hi r
theorem GT.cells (g:GT B H tp ds T X off) (hi:i < ds.length):Am.gt H tp (0+i*5)=some (.bool ds[i].u)∧Am.gt H tp (0+i*5+1)=some (.bool ds[i].l)∧Am.gt H tp (0+i*5+2)=some (.sl ds[i].a1 ds[i].n1 1)∧Am.gt H tp (0+i*5+3)=some (.sl ds[i].a2 ds[i].n2 1)∧Am.gt H tp (0+i*5+4)=some (.sl ds[i].a3 ds[i].n3 1):=by
 rw[kN];have r:=g.gt hi (j:=0) (by omega);exact⟨r,g.gt hi (by omega),g.gt hi (by omega),g.gt hi (by omega),g.gt hi (by omega)⟩
end
def Cb_ (le:Nat) (fa:Pl) (l:Nat):Prop:=l=le∨∃ o,fa=some (l,o)
structure WM (B H:Hp) (le tp:Nat) (ds:List PC) (T:List Pg) (X:Nat→Prop) (fa:Pl) (ws:List Int):Prop where
 g:GT B H tp ds T X (Cb_ le fa)
 fre:(fa=none∧ws=[]∧H[le]? =some (.row true i4_ [.sl (some (tp,0)) 48 5,.sl none 0 1]))∨∃ lf rest,fa=some (lf,0)∧FR H le lf ws.length (.sl (some (tp,0)) 48 5) ws rest
section
variable {B H H':Hp} {le tp:Nat} {ds:List PC} {T:List Pg} {X X':Nat→Prop} {fa:Pl} {ws:List Int} {i:Nat} {c:PC} {p:Pg} {Q:Post}
theorem WM.gtE (m:WM B H le tp ds T X fa ws):Am.gt H le 0=some (.sl (some (tp,0)) 48 5):=by
 rcases m.fre with⟨_,_,h⟩ | ⟨A,r,_,h⟩
 ·rw[bw_ h]; rfl
 ·rw[bw_ h.wr]; rfl
theorem WM.le_lt (m:WM B H le tp ds T X fa ws):le < H.length:=by
 rcases m.fre with⟨_,_,h⟩ | ⟨A,r,_,h⟩
 ·grind
 ·exact (kC.1 h.wr).1
theorem WM.off_lt (m:WM B H le tp ds T X fa ws) (h:Cb_ le fa l):l < H.length:=by
 rcases h with rfl | ⟨o,e⟩
 ·exact m.le_lt
 ·rcases m.fre with⟨q,_,_⟩ | ⟨A,r,q,h⟩
  ·grind
  ·rw[q] at e; cases e; exact (kC.1 h.row).1
theorem A9_ (m:WM B H le tp ds T X fa ws) (D:∀ l,Cb_ le fa l→H'[l]? =H[l]?):
 (fa=none∧ws=[]∧H'[le]? =some (.row true i4_ [.sl (some (tp,0)) 48 5,.sl none 0 1]))∨∃ A r,fa=some (A,0)∧FR H' le A ws.length (.sl (some (tp,0)) 48 5) ws r:=by
 rcases m.fre with⟨e,F,h⟩ | ⟨A,r,e,h⟩
 ·exact .inl ⟨e,F,by rw[D le (.inl rfl)]; exact h⟩
 ·exact .inr ⟨A,r,e,⟨by rw[D le (.inl rfl)]; exact h.wr,by rw[D A (.inr ⟨0,e⟩)]; exact h.row,h.len,h.lim⟩⟩
theorem WM.mono (m:WM B H le tp ds T X fa ws) (r:H<+:H'):WM B H' le tp ds T X fa ws:=⟨m.g.mono r,A9_ m fun l A=>br_ r (m.off_lt A)⟩
theorem WM.turn (m:WM B H le tp ds T X fa ws) (hi:i < ds.length) (A:H.length≤H'.length) (r:∀ l,l < H.length→ ¬ (ds[i]).on l→l≠tp→H'[l]? =H[l]?)
 (D:H'[tp]? =some (.row true tPg (bD_ (ds.set i c)))) (V:c.at H' p) (U:WoP H' B.length 1000 c)
 (G:∀ l,c.on l→l≠tp∧ ¬ Cb_ le fa l∧B.length≤l∧∀ j (W:j < ds.length),j≠i→ ¬ (ds[j]).on l) (I:∀ j,X' j→(j=i∧c.own H' B.length p)∨(j≠i∧X j)):
 WM B H' le tp (ds.set i c) (T.set i p) X' fa ws:=
 ⟨m.g.turn hi A (fun l O N J _=>r l O N J) D V U G I,A9_ m fun l F=>r l (m.off_lt F) ((m.g.off l F).2.2 i hi) (m.g.off l F).2.1⟩
theorem WM.lay (m:WM B H le tp ds T X fa ws) (hi:i < ds.length) (V:c.at H p) (N:WoP H B.length 1000 c) (r:∀ l,c.on l→l≠tp∧ ¬ Cb_ le fa l∧B.length≤l∧∀ j (I:j < ds.length),j≠i→ ¬ (ds[j]).on l)
 (J:∀ H',WM B H' le tp (ds.set i c) (T.set i p) (fun j=>j≠i∧X j) fa ws→H'.length=H.length→(∀ l,l≠tp→H'[l]? =H[l]?)→K H'):
 wr H tp (0+i*5) (.bool c.u) fun U=>wr U tp (0+i*5+1) (.bool c.l) fun O=>wr O tp (0+i*5+1+1) (.sl c.a1 c.n1 1) fun Y=>wr Y tp (0+i*5+1+1+1) (.sl c.a2 c.n2 1) fun W=>wr W tp (0+i*5+1+1+1+1) (.sl c.a3 c.n3 1) K:=by
 have ⟨Z,G⟩:=m.g.ot.at_row;have F:=(kC.1 G).1;rw[kN];have D:∀ l,l≠tp→(H.set tp (.row true tPg (bD_ (ds.set i c))))[l]? =H[l]? :=fun l A=>by grind
 refine wr5 G hi (J _ (m.turn hi (by simp) (fun l _ _ A=>D l A) (kH F) (V.keep fun l A=>D l (r l A).1) (N.keepOn fun l A=>D l (r l A).1) r fun j I=> .inr I) (by simp) D)
end
end Go.Am
section
namespace Go.Am
open List
section
variable {B H:Hp} {le tp:Nat} {ds:List Am.PC} {T:List Pg} {X off:Nat→Prop} {fa:Pl} {ws:List Int} {Q:Post} {key v:ByteArray}
theorem CT.gt (g:CT B H tPg (some (tp,0)) 48 ds T) (A:∀ p∈T,small p):GT B H tp ds T (fun _=>True) (fun _=>False):=by
 have I:=g.ot.len;have G:=g.ot.lenT;refine⟨g.pre,g.ot,fun i h=>(g.own i h (by omega)).wo (g.ot.all i h (by omega)) (A _ (kE _)),fun i h l D=> ?_,fun i h F _=>g.own i h F,g.ap,fun l h=>h.elim⟩;have r:=g.own i h (by omega);obtain⟨o,e | e | e⟩:=D
 ·exact r.keys.above e
 ·exact r.vals.above e
 ·exact r.kids.above e
theorem GT.setVal (g:GT B H tp ds T X off) (hp:T[i]? =some p) (hX:X i) (hs:s < p.vals.length) (Z:small p) (hvs:v.size≤1000) {K:Hp→Prop}
 (hK:∀ H' W,GT B H' tp W (T.set i ⟨p.used,p.leaf,p.keys,p.vals.set s v,p.kids⟩) X off→(∀ l,off l→H'[l]? =H[l]?)→K H'):
 rd H tp (0+i*5+3) fun v21=>dL 1 v21 fun x22 n23=>chk true (chk ((leI 0 (s:Int))&&(ltI (s:Int) (nI n23))) (pS x22 fun n24 n25=>wr H n24 (n25+((tN (s:Int))*1)) (.str v) K)):=by
 have q1:=g.ot.len;have q2:=g.ot.lenT;have N:=(kC.1 hp).1;have eT:=(kC.1 hp).2;have F:i < ds.length:=by omega
 obtain⟨a0,a1,a2,a3,a4⟩:=g.cells F;have r:=g.ot.all i F N;have A:=g.own i F N hX;rw[eT] at r A;have e2:=r.vals.len;obtain⟨G,I,v2,v3,v4⟩:=ko_ A.vals (by omega);have J:(ds[i]).on G:=⟨0,.inr (.inl I)⟩;obtain⟨hb,hr⟩:=g.ot.at_row;have nvt:G≠tp:=fun e=>by grind
 have es:tN (s:Int)=s:=rfl;rw[ad_ a3,ah_,ae_];refine ab_ (by simp; omega) ?_;rw[I,af_,es,kN,Nat.mul_one];refine cr_ v3 (by simp; omega) ?_;have em:(p.vals.map GV.str).set s (.str v)=(p.vals.set s v).map GV.str:=by simp
 rw[em];have hlv:=(kC.1 v3).1;have O:∀ l,l≠G→(H.set G (.row true tS ((p.vals.set s v).map GV.str)))[l]? =H[l]? :=fun l Y=>by rw[kF (Ne.symm Y)]
 have V:(ds[i]).own (H.set G (.row true tS ((p.vals.set s v).map GV.str))) B.length ⟨p.used,p.leaf,p.keys,p.vals.set s v,p.kids⟩:=by
  refine⟨A.used,A.leaf,A.keys.keep fun l e=>O l fun q=>A.d12 l 0 0 e (by rw[I,q]),.inr ⟨G,I,v2,kH hlv,by simp; omega⟩,A.kids.keep fun l e=>O l fun q=>A.d23 G 0 0 I (by rw[e,q]),A.d12,A.d13,A.d23⟩
 have U:(ds[i]).at (H.set G (.row true tS ((p.vals.set s v).map GV.str))) ⟨p.used,p.leaf,p.keys,p.vals.set s v,p.kids⟩:=⟨r.used,r.leaf,⟨V.keys.cells,r.keys.len,r.keys.lim⟩,⟨V.vals.cells,by simp; omega,r.vals.lim⟩,⟨V.kids.cells,r.kids.len,r.kids.lim⟩⟩;have ⟨s1,s2,s3,s4,s5⟩:=Z;have sm:small ⟨p.used,p.leaf,p.keys,p.vals.set s v,p.kids⟩:=by
  refine⟨s1,fun k hk'=> ?_,s3,by simpa using s4,s5⟩;grind
 refine hK _ _ (g.turn F (by simp) (fun l h1 h2 h3 _=>O l fun q=>h2 (by rw[q]; exact J)) (by rw[O tp (Ne.symm nvt),set_getElem_self]; exact hr) U (V.wo U sm) (fun l D=> ?_) fun j hj=> ?_) fun l Y=>O l fun q=>(g.off l Y).2.2 i F (by rw[q]; exact J)
 ·exact⟨fun q=>g.ot.off _ (kE F) l D (by rw[q]),fun q=>(g.off l q).2.2 i F D,g.base i F l D,fun j hj hne=>g.ap i j F hj (Ne.symm hne) l D⟩
 ·grind
theorem DU_ (D:Sub T d a P ps) (r:T[a]? =some p) (A:p.leaf=true):(bO_ ps key).isSome=di_ p.keys key:=by
 have F:=D.may r;have ⟨N,V,G⟩:=D.leafD r A;have ⟨J,W,U⟩:=F.2.leaf A;rw[G,rG_ (cV_ F.2.rising) J];cases I:di_ p.keys key with
 | false=>rfl
 | true=>
  have ⟨O,_⟩:=n5_ I;grind
theorem uI_:(bO_ ps key).isSome=true↔∃ e∈ps,e.1=key:=by
 rw[FH_,any_eq_true];simp
theorem Ib_:isNone (none:Pl)=true:=rfl
end
section
variable {B:Hp} {le tp:Nat} {key v:ByteArray} {T:List Pg} {X off:Nat→Prop}
set_option maxRecDepth 100000 in
theorem x3_ (h3:v.size≤10) (hoff:off le):∀ (d:Nat) {H:Hp} {ds:List Am.PC} {a:Nat} {P:List Nat} {ps:KV} {Q:Post},GT B H tp ds T X off→gt H le 0=some (.sl (some (tp,0)) 48 5)→Sub T d a P ps→(∀ i∈P,X i)→(∃ e∈ps,e.1=key)→
 (hQ:∀ H' ds' i p,GT B H' tp ds' (T.set i (yB_ p key v)) X off→gt H' le 0=some (.sl (some (tp,0)) 48 5)→i∈P→T[i]? =some p→p.leaf=true→di_ p.keys key=true→Q (.g (.ptr none)) H')→
 a4_.at d [.g (.ptr (some (le,0))),.g (.int .i64 (a:Int)),.g (.str key),.g (.str v)] H Q
 | 0,H,ds,a,P,ps,Q,g,hg,hS,_,_,_=>hS.elim
 | n+1,H,ds,a,P,ps,Q,g,hg,hS,hX,hk,hQ=>by
  have q1:=g.ot.len;have q2:=g.ot.lenT;obtain⟨p,hp⟩:=hS.get;have hm:=hS.may hp;have hlt:=(kC.1 hp).1;have eTa:T[a]'hlt=p:=(kC.1 hp).2;have at_a:=g.ot.all a (by omega) hlt;rw[eTa] at at_a;obtain⟨a0,a1,a2,a3,a4⟩:=g.cells (i:=a) (by omega);have ea:tN (a:Int)=a:=rfl;have hsm:=ji_ hm;have hlf:=at_a.leaf;refine⟨1,?_⟩;rw[nm_,af_,kQ,ad_ hg,ah_,ae_];refine ab_ (by simp; omega) ?_;rw[af_,ea,ad_ a1,ak_];cases hl:p.leaf with
  | true=>
   rw[az_ (by rw[←hlf,hl])];refine⟨1,?_⟩;rw[mD_,af_,kQ,ad_ hg,ah_,ae_];refine ab_ (by simp; omega) ?_;rw[af_,ea,ad_ a2,ah_];refine hG_ at_a.keys ?_;simp only[aI_,aB_,bB_,ai_,ak_,aT_];have hb:di_ p.keys key=true:=by rw[←DU_ hS hp hl]; exact uI_.2 hk
   obtain⟨hs,_⟩:=n5_ hb;obtain⟨f1,f2,f3⟩:=hm.2.leaf hl;rw[az_ hb];refine g.setVal hp (hX a hS.head) (s:=ct_ p.keys key) (by omega) hsm (by omega) fun H' ds' g' k'=> ?_;simp only[aN_,gj_];exact hQ H' ds' a p g' (by rw[←hg]; unfold gt; rw[k' le hoff]) hS.head hp hl hb
  | false=>
   rw[aD_ (by rw[←hlf,hl])];obtain⟨d,PA,psA,Pi,psi,PC,psC,ed,kd⟩:=xZ_ (key:=key) hS hp hl;obtain rfl:n=d+1:=by omega
   obtain⟨f1,f2,f3,f4,f5⟩:=hm.2.inner hl;have hi:=kd.hi;have kr:=f4 _ (kE hi);have ek:p.kids[eq_ p.keys key]=(((p.kids[eq_ p.keys key]).toNat:Nat):Int):=by omega
   refine kJ_ (o:=0+a*5) a2 at_a.keys ?_;simp only[aN_,ai_];rw[ad_ a4,ah_,ae_,at_a.kids.rd _ rfl hi,ek];refine x3_ h3 hoff (d+1) g hg kd.kid.1 (fun i h=>hX i (by rw[kd.eP]; simp [h])) (kd.mem hk).1 fun H' ds' i p' g' hg' hiP hp' hl' hb'=> ?_;simp only[aN_,gj_];rw[Ib_,az_ rfl];exact hQ H' ds' i p' g' hg' (by rw[kd.eP]; simp [hiP]) hp' hl' hb'
end
end Go.Am
end
section
namespace Go.Am
open List
section
variable {B H:Hp} {le tp:Nat} {ds:List Am.PC} {T:List Pg} {Q:Post} {key v:ByteArray} {P:List Nat} {d:Nat}
set_option maxRecDepth 100000 in
theorem yY_ (w:g9_ T d P (cS_ T)) (hk:(bO_ (cS_ T) key).isSome=true) (h3:v.size≤10) {a2:Pl} {n3:Nat}
 (hQ:∀ H' ds' i p off',GT B H' tp ds' (T.set i (yB_ p key v)) (fun _=>True) off'→T[i]? =some p→p.leaf=true→di_ p.keys key=true→Q (.tup [.a [.sl (some (tp,0)) 48 5],.s (.int .i64 0)]) H'):
 ∀ (f k:Nat) (fa:Pl) (ws:List Int) (H:Hp),48 - k < f→k≤48→GT B H tp ds T (fun _=>True) (Cb_ le fa)→FA H B.length le (.sl (some (tp,0)) 48 5) fa ws→ws.length≤k→bC_.l8 f key v a2 n3 le 0 le 0 (some (tp,0)) 48 48 (k:Int) H Q:=by
 intro f;induction f with
 | zero=>intro k _ _ _ h; omega
 | succ f ih=>
  intro k fa ws H hf hk' g hfa hp;have q1:=g.ot.len;have q2:=g.ot.lenT;by_cases hk48:k=48
  ·subst hk48;have hg:gt H le 0=some (.sl (some (tp,0)) 48 5):=by
    rcases hfa with⟨_,_,h⟩ | ⟨lf,e,hb,h⟩
    ·rw[bw_ h]; rfl
    ·rw[bw_ h.wr]; rfl
   rw[bC_.l8_eq,aD_ (by decide)];refine⟨d,x3_ h3 (.inl rfl) d (a:=0) g hg w.sub (fun _ _=>trivial) (uI_.1 hk) fun H' ds' i p g' hg' _ hp' hl hb=> ?_⟩;simp only[aN_,gj_];rw[Ib_,aD_ (by decide),kQ,ad_ hg',ah_];exact hQ H' ds' i p _ g' hp' hl hb
  ·obtain⟨c0,c1,c2,c3,c4⟩:=g.cells (i:=k) (by omega);have etN:tN (k:Int)=k:=rfl;rw[bC_.l8_eq,az_ (by simp; omega),ae_];refine ab_ (by simp; omega) ?_;rw[af_,etN,cD_ c0 c1 c2 c3 c4,an_ (by omega)];refine aa_ (fun e=> ?_) (fun e=> ?_)
   ·rw[kN];refine vO_ hfa g.pre.length_le (by omega) fun lf ws' H' hperm hfa' hlf hlf' hkeep=> ?_;have htp:=(kC.1 g.ot.at_row.2).1;refine ih (k+1) (some (lf,0)) ws' H' (by omega) (by omega) ((g.keep (fun l hl hno=>hkeep l hl (fun q=>hno (.inl q)) (fun o q=>hno (.inr ⟨o,q⟩))) (by omega)).reoff fun l hl=> ?_) hfa' (by have:=hperm.length_eq; rw[kI,length_singleton] at this; omega);rcases hl with rfl | ⟨o,e⟩
    ·exact g.off _ (.inl rfl)
    ·have e:lf=l:=by cases e; rfl
     subst e;exact⟨by have:=g.pre.length_le; omega,by omega,fun i hi hon=>by have:=g.onlt i hi hon; omega⟩
   ·exact ih (k+1) fa ws H (by omega) (by omega) g hfa (by omega)
variable {x:Pl} {n:Nat} {cs:List Am.PC}
set_option maxRecDepth 100000 in
theorem za_ (hT:Tr H x n cs T) (hn:n*80≤140737488351232) (e0:0 < aK_ T) (hk:(bO_ (cS_ T) key).isSome=true) (k1:1≤key.size) (k2:key.size≤6) (k3:v.size≤10)
 (hQ:∀ a ds A H',H<+:H'→Tr H' a 48 ds A→0 < aK_ A→cS_ A=gu_ (cS_ T) key v→Q (.tup [.a [.sl a 48 5],.s (.int .i64 0)]) H'):
 bC_ [.agg [.sl x n 5],.g (.str key),.g (.str v)] H Q:=by
 have pA:=b7_ H (.row true 24 [(.sl x n 5)]);have g0:gt (pu H (.row true 24 [(.sl x n 5)])) (ln H) 0=some (.sl x n 5):=by simp [gt,pu,ln]
 refine⟨60,?_⟩;rw[r5_,ad_ g0,ah_];have hTA:=hT.mono pA;refine hT_ hTA fun H1 p1=> ?_;simp only[aN_,ak_];rw[decide_eq_true e0,aD_ (by decide)];refine pe_ ?_;simp only[aN_,ak_];rw[decide_eq_true k1,decide_eq_true k2,aD_ (by decide)];refine mf_ ?_;simp only[aN_,ak_];rw[decide_eq_true k3,aD_ (by decide)];obtain⟨P,w⟩:=k9_ e0;have hn48:n=48:=by have:=hT.lenT; have:=w.len; omega
 subst hn48;have hs:=tf_ e0;have g1:gt H1 (ln H) 0=some (.sl x 48 5):=b6_ p1 g0;rw[ad_ g1,ah_];refine ny_ (hTA.mono p1) fun H2 p2=> ?_;simp only[aI_,aB_,bB_,ax_,ak_,ai_,aT_];have g2:gt H2 (ln H) 0=some (.sl x 48 5):=b6_ p2 g1;have pH2:H<+:H2:=(pA.trans p1).trans p2;rw[Aq_ e0,hk,aD_ (by decide),ad_ g2,ah_];refine mk_ (hTA.mono (p1.trans p2)) (by omega) hs fun a' ds H4 g=> ?_;simp only[dE_,aV_,ah_,bi_];have q1:=g.ot.len;obtain⟨tp,ea,hb,hr,_⟩:=ko_ g.ot.own (by omega);subst ea;have pr:=b7_ H4 (.row true i4_ [(.sl (some (tp,0)) 48 5),(.sl none 0 1)]);have g4:gt (pu H4 (.row true i4_ [(.sl (some (tp,0)) 48 5),(.sl none 0 1)])) (ln H4) 0=some (.sl (some (tp,0)) 48 5):=by simp [gt,pu,ln]
 have gg:=(g.gt hs).mono pr;have htp:=(kC.1 hr).1;have G:GT H2 (pu H4 (.row true i4_ [(.sl (some (tp,0)) 48 5),(.sl none 0 1)])) tp ds T (fun _=>True) (Cb_ (ln H4) none):=gg.reoff fun l hl=>by
  rcases hl with rfl | ⟨o,e⟩
  ·refine⟨g.pre.length_le,by unfold ln; omega,fun i hi hon=> ?_⟩;have:=(g.gt hs).onlt i hi hon;unfold ln at this; omega
  ·cases e
 rw[ad_ g4,ah_];refine yY_ w hk k3 (fun H' ds' i p off' gt' hp hl hb=> ?_) 59 0 none [] _ (by omega) (by omega) G (.inl ⟨rfl,rfl,by simp [pu,ln]⟩) (kP _);have w':=(w.setVal hp hl hb k3).1;exact hQ _ _ _ _ (pH2.trans gt'.pre) gt'.ot.tr w'.pos' w'.sound.2
end
end Go.Am
end
section
namespace Go.Am
open List
section
variable {H:Hp} {Q:Post} {x:Pl} {n:Nat} {T:List Pg} {cs:List Am.PC} {key:ByteArray}
set_option maxRecDepth 100000 in
theorem AK_ (N:Tr H x n cs T) (hn:n*80≤140737488351232) (F:0 < aK_ T) (V:(bO_ (cS_ T) key).isSome=true)
 (hQ:∀ a Y T' H',H<+:H'→(∀ I:Hp,(∀ l,H.length≤l→l < H'.length→I[l]? =H'[l]?)→Tr I a 48 Y T')→0 < aK_ T'→cS_ T'=il_ (cS_ T) key→Q (.tup [.a [.sl a 48 5],.s (.bool true),.s (.int .i64 0)]) H'):
 cL_ [.agg [.sl x n 5],.g (.str key)] H Q:=by
 refine⟨2,?_⟩;rw[wC_];refine ny_ N fun H1 G=> ?_;simp [aI_];have e1:jd_ 1100 T=0:=by unfold jd_; rw[decide_eq_true F]
 rw[e1,aD_ (by simp),Aq_ F];have ⟨P,w⟩:=k9_ F;have D:n=48:=by have:=N.lenT; have:=w.len; omega
 subst D;have Z:=tf_ F;refine mk_ (N.mono G) (by omega) Z fun a' Y I g=> ?_;simp [dE_];have ⟨tp,ea,gm⟩:=g.cm Z;rw[V,az_ rfl];have ⟨v,hv⟩:=Option.isSome_iff_exists.1 V;have A:=jM_ hv;refine⟨aK_ T,xi_ (aK_ T) (a:=0) gm w.sub w.nodup (fun _ _=>trivial) ⟨_,A,rfl⟩ (by omega) fun H3 ds3 T3 X3 P3 g3 dr _=> ?_⟩;refine Dx_ g3 w dr (by have:=FY_ (ps:=cS_ T) (k:=key); have:=w.count; omega) fun H4 J T4 X4 r hw=> ?_;have ⟨d4,P4,U⟩:=hw;rw[cL_.l8_eq,kQ,ad_ r.gtE,ah_];have hb:=G.length_le;refine hQ _ J T4 _ (G.trans r.pre) (fun H5 k=>(r.ot.keep (fun l e=> ?_) fun c W l O=> ?_).tr) U.pos' U.sound.2
 ·exact k l (by have:=r.ot.own.above e; omega) (r.ot.own.lt' e)
 ·obtain⟨i,hi,rfl⟩:=kK W;exact k l (by have:=r.base i hi l O; omega) (r.ot.onlt W O)
end
end Go.Am
end
section
namespace Go.Am
open List
structure TrX (H:Hp) (x:Pl) (n:Nat) (ps:KV) (l0:Nat):Prop where
 ex:∃ cs A,0 < aK_ A∧cS_ A=ps∧∀ H':Hp,(∀ l,l < H.length→l≠l0→H'[l]? =H[l]?)→Tr H' x n cs A
theorem qo_ (h:0 < aK_ T):d3_ T=cS_ T:=by unfold d3_; rw[decide_eq_true h]
theorem CM_ {H G:Hp} (h:∀ l,l < H.length→G[l]? =H[l]?):H<+:G:=pw_ (Nat.le_of_not_lt fun q=>by
 have:=h _ q;rw[getElem?_eq_none (kO _),kG q] at this;cases this) h
section
variable {H:Hp} {Q:Post} {x:Pl} {n l0:Nat} {ps:KV} {k v:ByteArray}
theorem TrX.keep (h:TrX H x n ps l0) (J:H.length≤H'.length) (e:∀ l,l < H.length→l≠l0→H'[l]? =H[l]?):TrX H' x n ps l0:=by
 have ⟨F,A,r,D,G⟩:=h.ex;exact⟨F,A,r,D,fun I k=>G I fun l a b=>by grind⟩
theorem TrX.tr (h:TrX H x n ps l0):TrK H x n ps:=by
 have ⟨F,A,r,D,G⟩:=h.ex;exact⟨F,A,G H fun _ _ _=>rfl,r,by rw[qo_ r]; exact D⟩
theorem zs_ (r:Tr H x n cs A) (h:0 < aK_ A):n=48:=by
 have ⟨P,w⟩:=k9_ h;have:=r.lenT; have:=w.len; omega
theorem Ho_ (h:TrX H x n ps l0) (Y:l0 < H.length) (I:(bO_ ps k).isSome=true)
 (O:∀ a H',H<+:H'→TrX H' a 48 (il_ ps k) l0→Q (.tup [.a [.sl a 48 5],.s (.bool true),.s (.int .i64 0)]) H'):cL_ [.agg [.sl x n 5],.g (.str k)] H Q:=by
 have ⟨Z,A,r,F,V⟩:=h.ex;have D:=V H fun _ _ _=>rfl;subst F;refine AK_ D (by rw[zs_ D r]; omega) r I fun a U N H' p t J G=>O a H' p ⟨U,N,J,G,fun W q=>t W fun l a b=>q l b (by omega)⟩
theorem FR_ (h:TrK H x n ps) (J:(bO_ ps k).isSome=true) (O:1≤k.size) (U:k.size≤6) (Y:v.size≤10)
 (V:∀ a H',H<+:H'→TrK H' a 48 (gu_ ps k v)→Q (.tup [.a [.sl a 48 5],.s (.int .i64 0)]) H'):bC_ [.agg [.sl x n 5],.g (.str k),.g (.str v)] H Q:=by
 have ⟨Z,A,G,r,D⟩:=h.ex;rw[qo_ r] at D;subst D;refine za_ G (by rw[zs_ G r]; omega) r J O U Y fun a W N H' p t F I=>V a H' p ⟨W,N,t,F,by rw[qo_ F,I]⟩
end
theorem FC_ {ps A:KV} (F:Asc ps) (D:(A.map (·.1)).Nodup) (h:∀ k,bO_ ps k=look A k):ps.Perm A:=by
 have G:=dk_ (xl_ F);refine (perm_ext_iff_of_nodup G (dk_ D)).2 fun p=>⟨fun r=> ?_,fun r=> ?_⟩
 ·exact dr_ (by rw[←h]; exact sV_ F r)
 ·exact jM_ (by rw[h]; exact fP_ D r)
theorem x6_ {α:Type} {l:List α} (hi:i < l.length) (k:α):k∈l.take (i+1)↔k∈l.take i∨k=l[i]:=by
 rw[take_add_one,kG hi,kD]; simp
theorem sK_ {kv:KV} (hi:i < kv.length) (k:ByteArray):k∈(kv.take (i+1)).map (·.1)↔k∈(kv.take i).map (·.1)∨k=kv[i].1:=by
 rw[take_add_one,kG hi,kL,kD]; simp
theorem xR_ (A:Asc kv) (hi:i < kv.length):kv[i].1∉(kv.take i).map (·.1):=fun q=>by
 have ⟨p,D,e⟩:=mem_map.1 q;obtain⟨j,r,rfl⟩:=kK D;rw[length_take] at r;rw[getElem_take] at e;have:=pairwise_iff_getElem.1 A j i (by omega) hi (by omega);rw[e,cA_] at this; cases this
section
variable {H:Hp} {Q:Post} {sp ms ml mi:Nat} {c4:GV} {st:StD} {x:Pl} {n:Nat} {kv:KV} {E:Nat→Sm}
open Classical in
set_option maxRecDepth 100000 in
theorem tP_ (h:gL_ H sp (.sl x n 5) ms ml mi c4 st) (ok:y9_ st) (hn:st.snaps.length≤300∧st.links.length≤300∧st.inos.length≤300) (hT:TrK H x n kv) (hsub:∀ p∈kK_ st,(bO_ kv p.1).isSome=true)
 (hQ:∀ H' x' kv',H<+:H'→TrK H' x' 48 kv'→kv'.Perm (kK_ st)→Q (.agg [.sl x' 48 5]) H'):
 aM_ E [.g (.ptr (some (sp,0)))] H Q:=by
 obtain⟨cs0,A0,hT0,h0,e0⟩:=hT.ex;have hkv:ms_ kv:=by rw[←e0]; exact yW_ A0
 have hka:Asc kv:=hT.asc;have hkl:kv.length≤60:=by rw[←e0]; exact lg_ A0
 have hn48:=zs_ hT0 h0;refine⟨kv.length+1601,?_⟩;rw[oQ_];obtain⟨g0,_⟩:=h.rd;simp only[af_,kN,kQ];rw[ad_ g0,ah_];refine po_ h ok (by omega) fun H1 mw ps p1 M1 hmw hp=> ?_;simp only[aN_,dW_];rw[ad_ (d7_ p1 g0),ah_];refine⟨rfl,?_⟩;refine o1_ (hT0.mono p1) fun a m H2 p2 o2 l2=> ?_;simp only[aI_,aB_,bB_,ah_,ai_,aT_,f0_,fb_];rw[e0] at o2 l2;subst l2;have hps:ps.length≤900:=by rw[hp.length_eq]; unfold kK_; simp; omega
 have M2:=M1.keep (br_ p2 M1.lt);have nd:=M1.nodup;have look_ps:∀ k,(look ps k).isSome=true→(bO_ kv k).isSome=true:=fun k hk=>by
  obtain⟨v,e⟩:=Option.isSome_iff_exists.1 hk;exact hsub _ (hp.mem_iff.1 (dr_ e))
 have p12:H<+:H2:=p1.trans p2;have hmw2:=M2.lt;have sz_ps:∀ p∈ps,p.1.size≤6:=fun p hp'=>by
  obtain⟨v,e⟩:=Option.isSome_iff_exists.1 (hsub p (hp.mem_iff.1 hp'));exact (hkv _ (jM_ e)).1.2
 have vz_ps:∀ p∈ps,p.2.size≤10:=fun p hp'=>by
  have hq:=hp.mem_iff.1 hp';unfold kK_ at hq;simp only[kD,mem_map] at hq;rcases hq with⟨z,hz,rfl⟩ | ⟨z,hz,rfl⟩ | ⟨z,hz,rfl⟩
  ·exact C9_ (ok.snaps z hz).2
  ·show (t2_ z.2).size≤10;unfold t2_; rw[kZ_]; simp
  ·exact Cm_ (ok.inos z hz).2
 have loop13:∀ (zs:List ByteArray) (az:Pl),zs.Perm (ps.map (·.1))→∀ (f i:Nat) (G:Hp) (x':Pl) (kv':KV),zs.length - i < f→i≤zs.length→H<+:G→(∀ j (hj:j < zs.length),∃ l,az=some (l,0)∧gt G l j=some (.str zs[j]))→dO_ ekS evX G mw ps→dO_ ekS evX G H2.length kv→
  TrK G x' 48 kv'→(∀ k,bO_ kv' k=if k∈zs.take i then look ps k else if (look ps k).isSome=true then bO_ kv k else none)→
  aM_.l13 E f none 0 x' 48 (some mw) (some H2.length) az zs.length (nI zs.length) (i:Int) G Q:=by
  intro zs az hz f;induction f with
  | zero=>intro i G x' kv' h; omega
  | succ f ih=>
   intro i G x' kv' hf hi hG hr M D t hfk;have hzl:zs.length≤900:=by rw[hz.length_eq,length_map]; exact hps
   rw[aM_.l13_eq];refine aa_ (fun e=> ?_) fun e=> ?_
   ·have hi':i < zs.length:=by simpa using e
    obtain⟨l,rfl,hc⟩:=hr i hi';refine ab_ rfl (ab_ (by simp; omega) ?_);have etn:∀ k:Nat,tN (k:Int)=k:=fun _=>rfl;simp only[af_,kN,etn,Nat.mul_one];rw[ad_ hc,ax_];have hin:=hz.mem_iff.1 (kE hi');obtain⟨w,hw⟩:=(ni_ (ps:=ps) _).1 hin;have hkk:=look_ps zs[i] (by rw[hw]; rfl);obtain⟨v0,hv0⟩:=Option.isSome_iff_exists.1 hkk;have hlk:look kv zs[i]=some v0:=fP_ D.nodup (jM_ hv0);have hnt:zs[i]∉zs.take i:=fun q=>by
     obtain⟨j,hj,e⟩:=kK q;rw[length_take] at hj;rw[getElem_take] at e;exact pairwise_iff_getElem.1 (hz.nodup_iff.2 nd) j i (by omega) hi' (by omega) e
    have hcur:bO_ kv' zs[i]=some v0:=by rw[hfk,if_neg hnt,hw,if_pos (show (some w).isSome=true from rfl),hv0]
    have e2:ac_ .i64 ((i:Int)+1)=((i+1:Nat):Int):=an_ (by omega);have step:∀ (kv2:KV),(∀ k,bO_ kv2 k=if zs[i]=k then some w else bO_ kv' k)→∀ k,bO_ kv2 k=if k∈zs.take (i+1) then look ps k else if (look ps k).isSome=true then bO_ kv k else none:=fun kv2 h2 k=>by
     rw[h2];by_cases q:zs[i]=k
     ·subst q; rw[if_pos rfl,if_pos ((x6_ hi' _).2 (.inr rfl)),hw]
     ·rw[if_neg q,hfk];have:k∈zs.take (i+1)↔k∈zs.take i:=by rw[x6_ hi']; exact⟨fun z=>z.resolve_right fun w=>q w.symm,.inl⟩
      simp only[this]
    refine hl_ (ev:=evX) okS D zs[i] (fun v hv=> ?_) fun hv=>by rw[hlk] at hv; cases hv
    rw[hlk] at hv; cases hv;simp only[evX,bB_,ax_];rw[aD_ (show (!true)=false from rfl)];refine hl_ (ev:=evX) okS M zs[i] (fun v hv=> ?_) fun hv=>by rw[hw] at hv; cases hv
    rw[hw] at hv; cases hv;simp only[evX,bB_,ax_];refine aa_ (fun e=> ?_) fun e=> ?_
    ·refine hl_ (ev:=evX) okS M zs[i] (fun v hv=> ?_) fun hv=>by rw[hw] at hv; cases hv
     rw[hw] at hv; cases hv;simp only[evX,bB_,ax_];have hmem:=dr_ hw;obtain⟨v1,hv1⟩:=Option.isSome_iff_exists.1 hkk;refine FR_ t (by rw[hcur]; rfl) (hkv _ (jM_ hv1)).1.1 (sz_ps _ hmem) (vz_ps _ hmem) fun a' G2 q2 t2=> ?_;simp only[aI_,aB_,dS_,aV_,ah_,bi_,bB_,ai_,aT_];rw[e2];refine ih (i+1) G2 a' _ (by omega) (by omega) (hG.trans q2) (fun j hj=> ?_) (M.keep (br_ q2 M.lt)) (D.keep (br_ q2 D.lt)) t2 (step _ fun k=> ?_)
     ·obtain⟨l',e',c'⟩:=hr j hj;exact⟨l',e',d7_ q2 c'⟩
     ·rw[DI_ t.asc];by_cases q:zs[i]=k
      ·rw[decide_eq_true q,if_pos q]
      ·rw[decide_eq_false q,if_neg q]
    ·have e:v0=w:=by simpa using e
     rw[e2];refine ih (i+1) G x' kv' (by omega) (by omega) hG hr M D t (step _ fun k=> ?_);by_cases q:zs[i]=k
     ·subst q; rw[if_pos rfl,hcur,e]
     ·rw[if_neg q]
   ·have hi':i=zs.length:=by simp at e; omega
    refine hQ G x' kv' hG t ((FC_ t.asc nd fun k=> ?_).trans hp);rw[hfk,hi',take_length];by_cases q:k∈zs
    ·rw[if_pos q]
    ·have:look ps k=none:=by
      cases z:look ps k with
      | none=>rfl
      | some v=>exact absurd (hz.mem_iff.2 ((ni_ k).2 ⟨v,z⟩)) q
     rw[if_neg q,this]; rfl
 have loop5:∀ (f i:Nat) (G:Hp) (x':Pl) (n':Nat) (kv':KV),1500+(kv.length - i) < f→i≤kv.length→(∀ l,l < H2.length→G[l]? =H2[l]?)→H2.length < G.length→dO_ ekS evX G H2.length (kv.take i)→
  TrX G x' n' kv' H2.length→(∀ k,bO_ kv' k=if k∈(kv.take i).map (·.1)∧look ps k=none then none else bO_ kv k)→
  aM_.l5 E f none 0 x' n' (some mw) (some H2.length) a kv.length (nI kv.length) (i:Int) G Q:=by
  intro f;induction f with
  | zero=>intro i G x' n' kv' h; omega
  | succ f ih=>
   intro i G x' n' kv' hf hi hk hl D t hfk;have M:=M2.keep (hk _ hmw2);rw[aM_.l5_eq];refine aa_ (fun e=> ?_) fun e=> ?_
   ·have hi':i < kv.length:=by simpa using e
    obtain⟨l,o,rfl,q1,q2⟩:=Kv.get (H:=H2) ⟨o2.cells,rfl⟩ hi';have hlo:=o2.ltAny rfl;refine ab_ rfl (ab_ (by simp; omega) ?_);have etn:∀ k:Nat,tN (k:Int)=k:=fun _=>rfl;simp only[af_,etn];have r1:gt G l (o+i*2)=some (.str kv[i].1):=by unfold gt at q1 ⊢; rw[hk l hlo]; exact q1
    have r2:gt G l (o+i*2+1)=some (.str kv[i].2):=by unfold gt at q2 ⊢; rw[hk l hlo]; exact q2
    rw[ad_ r1,ax_,ad_ r2,ax_];refine uA_ D (fun q hq e=>xR_ hka hi' (mem_map.2 ⟨q,hq,e⟩)) fun G1 l1 k1 D1=> ?_;have e1:kv.take i++[(kv[i].1,kv[i].2)]=kv.take (i+1):=by rw[take_add_one,kG hi']; rfl
    rw[e1] at D1;have e2:ac_ .i64 ((i:Int)+1)=((i+1:Nat):Int):=an_ (by omega);rw[e2];have t1:TrX G1 x' n' kv' H2.length:=t.keep (by omega) fun l _ hne=>k1 l hne;have M':=M.keep (k1 mw (by omega));have hfi:bO_ kv kv[i].1=some kv[i].2:=sV_ hka (kE hi');have hcur:bO_ kv' kv[i].1=some kv[i].2:=by rw[hfk,if_neg fun z=>xR_ hka hi' z.1,hfi]
    refine hl_ (ev:=evX) okS M' kv[i].1 (fun w hw=> ?_) fun hw=> ?_
    ·simp only[evX,bB_,ax_];rw[aD_ (show (!true)=false from rfl)];refine ih (i+1) G1 x' n' kv' (by omega) (by omega) (fun l hl'=>by rw[k1 l (by omega),hk l hl']) (by omega) D1 t1 fun k=> ?_;rw[hfk];by_cases q:k=kv[i].1
     ·subst q; rw[if_neg (fun z=>by rw[hw] at z; cases z.2),if_neg (fun z=>by rw[hw] at z; cases z.2)]
     ·have:k∈(kv.take (i+1)).map (·.1)↔k∈(kv.take i).map (·.1):=by rw[sK_ hi']; exact⟨fun z=>z.resolve_right q,.inl⟩
      simp only[this]
    ·simp only[bB_,ax_];rw[az_ (show (!false)=true from rfl)];refine Ho_ t1 (by omega) (by rw[hcur]; rfl) fun a' G2 p' t2=> ?_;simp only[aI_,aB_,dS_,aV_,ah_,bi_,bB_,ak_,ai_,aT_];have:=p'.length_le;refine ih (i+1) G2 a' 48 _ (by omega) (by omega) (fun l hl'=>by rw[br_ p' (by omega),k1 l (by omega),hk l hl']) (by omega) (D1.keep (br_ p' D1.lt)) t2 fun k=> ?_;rw[Dq_ t1.tr.asc,hfk];by_cases q:kv[i].1=k
     ·subst q;rw[decide_eq_true rfl];show none=_;rw[if_pos ⟨(sK_ hi' _).2 (.inr rfl),hw⟩]
     ·rw[decide_eq_false q];have:k∈(kv.take (i+1)).map (·.1)↔k∈(kv.take i).map (·.1):=by rw[sK_ hi']; exact⟨fun z=>z.resolve_right fun w=>q w.symm,.inl⟩
      simp only[this]
   ·have hi':i=kv.length:=by simp at e; omega
    subst hi';rw[take_length] at D hfk;refine⟨1,?_⟩;rw[fz_];simp only[aN_,fb_,f0_];refine xS_ M (fun p hp'=>by have:=sz_ps p hp'; omega) (by omega) (.inl rfl) fun zs hz hasc G2 az q2 hr=> ?_;simp only[aN_,ah_];have t':=t.tr.mono q2;obtain⟨cs',A',hT',h',_⟩:=t.tr.ex;have:=zs_ hT' h';subst this;have hzl:zs.length≤900:=by rw[hz.length_eq,length_map]; exact hps
    refine loop13 zs az hz f 0 G2 x' kv' (by omega) (by omega) ((p12.trans (pw_ (by omega) hk)).trans q2) hr (M.keep (br_ q2 M.lt)) (D.keep (br_ q2 D.lt)) t' fun k=> ?_;rw[hfk];simp only[take_zero,not_mem_nil,if_false];cases z:look ps k with
    | some v=>simp
    | none=>
     by_cases q:k∈kv.map (·.1)
     ·simp [q]
     ·have:bO_ kv k=none:=gZ_ fun y hy e=>q (mem_map.2 ⟨y,hy,e⟩);simp [q,this]
 have tX:TrX (H2++[Obj.map [] 0]) x n kv H2.length:=⟨cs0,A0,h0,by rw[←e0,qo_ h0],fun H3 k=>hT0.mono (p12.trans (CM_ fun l hl=>by rw[k l (by simp; omega) (by omega),kM hl]))⟩;exact loop5 _ 0 _ x n kv (by omega) (by omega) (fun l hl=>by rw[kM hl]) (by simp) (lj_ H2) tX fun k=>by simp
end
end Go.Am
end
namespace Go.Am
open List
theorem Al_:∀ (f:Nat) (k:Int),(∃ j,k≤j∧j < k+f∧used j=false)→(k≤ks_ used f k∧ks_ used f k < k+f)∧used (ks_ used f k)=false
 | 0,k,⟨j,F,D,_⟩=>by omega
 | f+1,k,⟨j,F,D,A⟩=>by
  rw[ks_];cases e:used k with
  | false=>dsimp; exact⟨⟨by omega,by omega⟩,e⟩
  | true=>
   have r:j≠k:=fun q=>by grind
   have ⟨⟨a,b⟩,c⟩:=Al_ f (k+1) ⟨j,by omega,by omega,A⟩;grind
theorem z1_ {L:List Int} (N:L.length < 255) (h:∀ j,used j=true→j∈L):(1≤ks_ used 255 1∧ks_ used 255 1≤255)∧used (ks_ used 255 1)=false:=by
 have F:∃ j:Int,1≤j∧j < 1+255∧used j=false:=by
  refine Classical.byContradiction fun D=> ?_;have A:∀ x∈(List.range 255).map (fun n:Nat=>(n:Int)+1),x∈L:=fun x J=>by
   obtain⟨n,I,rfl⟩:=mem_map.1 J;have I:=mem_range.1 I;refine h _ ?_;cases e:used (n+1) with
   | true=>rfl
   | false=>exact absurd ⟨n+1,by omega,by omega,e⟩ D
  have G:((List.range 255).map (fun n:Nat=>(n:Int)+1)).Nodup:=by
   unfold Nodup;rw[pairwise_map];exact (nodup_range).imp fun r e=>r (by omega)
  have:=(dP_ L _ G A).1;grind
 have ⟨⟨a,b⟩,c⟩:=Al_ 255 1 F;exact⟨⟨a,by omega⟩,c⟩
theorem v1_ (A:st.inos.length < 255):(1≤eP_ st∧eP_ st≤255)∧∀ x∈st.inos,x.1≠eP_ st:=by
 have ⟨a,c⟩:=z1_ (used:=fun k=>st.inos.any fun x=>decide (x.1=k)) (L:=st.inos.map (·.1)) (by grind) fun j D=>by
  grind
 refine⟨a,fun x r e=> ?_⟩;have F:(st.inos.any fun x=>decide (x.1=eP_ st))=false:=c;grind
theorem n1_ (G:st.snaps.length+st.links.length < 255):(1≤dx_ st∧dx_ st≤255)∧(∀ x∈st.snaps,x.2.id≠dx_ st)∧∀ l∈st.links,l.1.1≠dx_ st:=by
 have ⟨a,c⟩:=z1_ (used:=nC_ st) (L:=st.snaps.map (fun x=>x.2.id)++st.links.map (fun l=>l.1.1)) (by grind) fun j F=>by
  unfold nC_ at F;grind
 have r:nC_ st (dx_ st)=false:=c;unfold nC_ at r;rw[Bool.or_eq_false_iff,any_eq_false,any_eq_false] at r;exact⟨a,fun x A e=>r.1 x A (by grind),fun l D e=>r.2 l D (by grind)⟩
def kO_ (st:StD) (id:Int) (path content:ByteArray):StD:=⟨st.snaps,st.links++[((id,path),(eP_ st,true))],st.inos++[(eP_ st,⟨1,content⟩)]⟩
theorem Fj_ [DecidableEq α] {k:α} {v:β} (h:look ps k=some v):look (ps++qs) k=some v:=by
 unfold look at h ⊢;rw[find?_append];cases e:ps.find? fun p=>decide (p.1=k) with
 | none=>rw[e] at h; cases h
 | some p=>rw[e] at h; exact h
theorem EU_ (h:Sto st) {id:Int} {path content:ByteArray} (h1:1≤id) (h2:id≤255) (h3:bk_ path 3=true) (Y:content.size≤6) (hn:∀ l∈st.links,l.1≠(id,path)) (J:st.inos.length < 255):Sto (kO_ st id path content):=by
 obtain⟨⟨N,O⟩,k3⟩:=v1_ J;obtain⟨F,V⟩:=cJ_.1 h.lk;refine⟨⟨h.ok.snaps,fun l r=> ?_,fun x D=> ?_⟩,⟨h.nd.snaps,?_,?_⟩,cJ_.2 ⟨fun l r=> ?_,fun x D=> ?_⟩⟩
 ·rcases kD.1 r with q | q
  ·exact h.ok.links l q
  ·grind
 ·rcases kD.1 D with q | q
  ·exact h.ok.inos x q
  ·have:x=(eP_ st,⟨1,content⟩):=by simpa using q
   subst this;refine⟨⟨N,O⟩,?_⟩;unfold ec_;simp; omega
 ·unfold kO_;rw[kL,nodup_append];refine⟨h.nd.links,by simp,fun a U b W e=> ?_⟩;grind
 ·unfold kO_;rw[kL,nodup_append];refine⟨h.nd.inos,by simp,fun a U b W e=> ?_⟩;grind
 ·unfold kO_;rcases kD.1 r with q | q
  ·obtain⟨y,A⟩:=F l q;exact⟨y,kD.2 (.inl A)⟩
  ·grind
 ·have G:∀ n,eX_ (kO_ st id path content) n=eX_ st n+(if eP_ st=n then 1 else 0):=fun n=>by
   unfold eX_ kO_;grind
  rw[G];rcases kD.1 D with q | q
  ·rw[if_neg (Ne.symm (k3 x q))];exact V x q
  ·have Z:eX_ st (eP_ st)=0:=by
    refine Nat.eq_zero_of_not_pos fun I=> ?_;obtain⟨l,r,e⟩:=countP_pos_iff.1 I;obtain⟨y,A⟩:=F l r;exact k3 _ A (by simpa using e)
   grind
theorem xN_ (h:Sto st) {id:Int} (r:st.inos.length < 255):(∀ l∈st.links,bq_ (kO_ st id path content) l=bq_ st l)∧bq_ (kO_ st id path content) ((id,path),(eP_ st,true))=(path,content,true):=by
 have ⟨_,F⟩:=v1_ r;constructor
 ·intro l A;have ⟨y,D,_⟩:=h.ino A;unfold bq_;have:look (kO_ st id path content).inos l.2.1=some y:=Fj_ D;grind
 ·unfold bq_;have:look (kO_ st id path content).inos (eP_ st)=some ⟨1,content⟩:=by
   unfold kO_ look;grind
  grind
def o0_ (st:StD) (id:Int) (path:ByteArray):Option Nat:=st.links.findIdx? fun l=>decide (l.1.1=id)&&decide (l.1.2=path)
def ho_ (st:StD) (id:Int) (path content:ByteArray):StD:=match o0_ st id path with | some i=>kO_ (kn_ st i) id path content | none=>kO_ st id path content
structure E3_ (st st':StD) (id:Int) (path content:ByteArray):Prop where
 sto:Sto st'
 snaps:st'.snaps=st.snaps
 other:∀ j,j≠id→∀ fs,cF_ st' j fs↔cF_ st j fs
 own:∀ fs fs',cF_ st id fs→cF_ st' id fs'→∀ f,f∈fs'↔f=(path,content,true)∨(f∈fs∧f.1≠path)
theorem ya_ {st0 st:StD} (h0:Sto st0) (h:Sto st) (hs:st.snaps=st0.snaps) {id:Int} {path content:ByteArray} (h1:1≤id) (h2:id≤255) (h3:bk_ path 3=true) (Y:content.size≤6) (N:st.inos.length < 255)
 (J:∀ l,l∈st.links↔l∈st0.links∧l.1≠(id,path)) (W:∀ l∈st.links,bq_ st l=bq_ st0 l):E3_ st0 (kO_ st id path content) id path content:=by
 have ⟨f1,f2⟩:=xN_ (id:=id) (path:=path) (content:=content) h N;have r:∀ l,l∈(kO_ st id path content).links↔l∈st.links∨l=((id,path),(eP_ st,true)):=fun l=>by
  show l∈st.links++[_]↔_;simp
 have key:∀ j,j≠id→∀ f,(∃ l∈(kO_ st id path content).links,l.1.1=j∧f=bq_ (kO_ st id path content) l)↔∃ l∈st0.links,l.1.1=j∧f=bq_ st0 l:=fun j I f=>by
  grind
 refine⟨EU_ h h1 h2 h3 Y (fun l F=>((J l).1 F).2) N,hs,fun j I Z=>⟨fun g=>⟨g.asc,fun f=>(g.mem f).trans (key j I f)⟩,fun g=>⟨g.asc,fun f=>(g.mem f).trans (key j I f).symm⟩⟩,fun Z V g g' f=> ?_⟩;rw[g'.mem];constructor
 ·rintro⟨l,D,A,U⟩;rcases (r l).1 D with z | z
  ·have ⟨G,O⟩:=(J l).1 z;refine .inr ⟨(g.mem f).2 ⟨l,G,A,by rw[U,f1 l z,W l z]⟩,fun e=>O ?_⟩;rw[U] at e;exact Prod.ext A e
  ·grind
 ·rintro (q | ⟨D,A⟩)
  ·grind
  ·have ⟨l,G,O,z3⟩:=(g.mem f).1 D;have z:=(J l).2 ⟨G,fun e=>A (by rw[z3]; show l.1.2=path; rw[e])⟩;grind
theorem p6_ {id:Int} (h:o0_ st id path=some i):∃ hi:i < st.links.length,st.links[i].1=(id,path):=by
 unfold o0_ at h;rw[findIdx?_eq_some_iff_getElem] at h;grind
theorem B4_ {id:Int} (h:o0_ st id path=none):∀ l∈st.links,l.1≠(id,path):=by
 unfold o0_ at h;grind
theorem AQ_ (h:Sto st) {id:Int} (A:1≤id) (G:id≤255) (F:bk_ path 3=true) (D:content.size≤6) (N:st.inos.length < 255):E3_ st (ho_ st id path content) id path content:=by
 unfold ho_;cases e:o0_ st id path with
 | none=>
  exact ya_ h h rfl A G F D N (fun l=>⟨fun q=>⟨q,B4_ e l q⟩,fun q=>q.1⟩) fun _ _=>rfl
 | some i=>
  have ⟨r,W⟩:=p6_ e;have ⟨y,V,I⟩:=gQ_ h r;refine ya_ h (n9_ h r) (by grind) A G F D ?_ (fun l=> ?_) fun l U=>wp_ h r U
  ·rw[I];refine Nat.lt_of_le_of_lt (length_filter_le _ _) ?_;unfold gi_;grind
  ·have J:=jS_ r;have O:=(J.map (·.1)).nodup_iff.2 h.nd.links;grind
def uh_ (xs:List (ByteArray × SnapR)):List InfoR:=xs.map fun x=>⟨x.1,x.2.kind,x.2.parent,x.2.label,[]⟩
theorem i1_:i∈uh_ xs↔∃ x∈xs,i=⟨x.1,x.2.kind,x.2.parent,x.2.label,[]⟩:=by
 unfold uh_;grind
theorem z7_ (F:(st.snaps.map (·.1)).Nodup) (h:cG_ st is):fi_ is p↔fi_ (uh_ st.snaps) p:=by
 constructor
 ·refine fi_.mono fun y A D=> ?_;have ⟨x,r,e,_⟩:=h.get A;refine⟨_,i1_.2 ⟨x,r,rfl⟩,?_⟩;grind
 ·refine fi_.mono fun y A D=> ?_;have ⟨x,r,e⟩:=i1_.1 A;have ⟨i,I,G,_⟩:=h.put F r;grind
theorem em_.hdr (g:em_ st) (r:cG_ st is):∀ x∈st.snaps,fi_ (uh_ st.snaps) x.2.parent:=fun x A=>by
 have ⟨i,D,e,_⟩:=r.put g.sto.nd.snaps A;have:=g.root is r i D;rw[e] at this;exact (z7_ g.sto.nd.snaps r).1 this
theorem uB_ (F:Sto st) (G:(st.snaps.map fun x=>x.2.id).Nodup) (I:st.snaps.length≤6) (D:∀ x∈st.snaps,∀ fs,cF_ st x.2.id fs→cX_ ⟨x.1,x.2.kind,x.2.parent,x.2.label,fs⟩=true) (A:∀ x∈st.snaps,fi_ (uh_ st.snaps) x.2.parent):em_ st:=
 ⟨F,G,I,D,fun is r i N=>by
  have ⟨x,J,e,_⟩:=r.get N;rw[e];exact (z7_ F.nd.snaps r).2 (A x J)⟩
theorem Hs_ {st:StD} (h:(st.snaps.map fun x=>x.2.id).Nodup) (r:x∈st.snaps) (A:y∈st.snaps) (e:x.2.id=y.2.id):x=y:=by
 obtain⟨i,D,rfl⟩:=kK r;obtain⟨j,I,rfl⟩:=kK A;have:=(getElem_inj (h₀:=by simpa using D) (h₁:=by simpa) h).1 (by grind);grind
theorem xz_ (h:fR_ is name path content=0):bk_ name 4=true∧bk_ path 3=true∧content.size≤6∧∃ i,dl_ is name=some i∧i.kind=0∧((i.files.any fun f=>decide (f.1=path))=true∨i.files.length < 4):=by
 unfold fR_ at h;cases J:bk_ name 4 with
 | false=>rw[J] at h; cases h
 | true=>
  rw[J] at h;cases O:fJ_ is name==0 with
  | false=>
   grind
  | true=>
   rw[O] at h;cases F:bk_ path 3 with
   | false=>rw[F] at h; cases h
   | true=>
    rw[F] at h;cases A:leI (sz content) 6 with
    | false=>rw[A] at h; cases h
    | true=>
     rw[A] at h;refine⟨rfl,rfl,by simp at A; omega,?_⟩;have r:fJ_ is name=0:=by grind
     unfold fJ_ at r;cases G:dl_ is name with
     | none=>rw[G] at r; cases r
     | some i=>
      rw[G] at r h;dsimp only at r h;refine⟨i,rfl,?_,?_⟩
      ·cases D:eqI i.kind 0 with
       | true=>simpa using D
       | false=>rw[D] at r; cases r
      ·cases N:i.files.any fun f=>decide (f.1=path) with
       | true=>exact .inl rfl
       | false=>
        rw[N] at h;cases I:leI 4 i.files.length with
        | true=>rw[I] at h; cases h
        | false=>simp at I; omega
theorem hX_ (h:dl_ is s=some i):i∈is∧i.name=s:=by
 unfold dl_ at h;grind
theorem pr_ (g:em_ st) (V:cG_ st is) (hm:st.inos.length < 255) (hw:fR_ is I path content=0) (hx:look st.snaps I=some x):
 em_ (ho_ st x.id path content)∧E3_ st (ho_ st x.id path content) x.id path content:=by
 have ⟨w1,w2,w3,i,hi,hk,hfew⟩:=xz_ hw;have N:=dr_ hx;have ⟨⟨b1,b2⟩,_⟩:=nG_ (g.sto.ok.snaps _ N).2;have W:=AQ_ g.sto b1 b2 w2 w3 hm;refine⟨uB_ W.sto (by rw[W.snaps]; exact g.ids) (by rw[W.snaps]; exact g.few) (fun y hy F A=> ?_) (by rw[W.snaps]; exact g.hdr V),W⟩;rw[W.snaps] at hy;by_cases e:y.2.id=x.id
 ·have:=Hs_ g.ids hy N e;subst this;have ⟨him,hin⟩:=hX_ hi;have ⟨z,hz,ez,G⟩:=V.get him;have Z:z.2=x:=by
   have:=fP_ g.sto.nd.snaps hz;grind
  rw[Z] at G ez;have J:x.kind=0:=by rw[ez] at hk; exact hk
  have hold:=g.info _ N _ G;have ⟨o1,o2,o3,o4,o5⟩:=(gr_ (i:=⟨I,x.kind,x.parent,x.label,i.files⟩) G.asc).1 hold;have D:=W.own _ _ G A;refine (gr_ A.asc).2 ⟨o1,o2,o3,fun f O=> ?_,?_⟩
  ·rcases (D f).1 O with q | q
   ·subst q;unfold ei_;rw[w2,J];simp; omega
   ·grind
  ·have Y:=A.nodup;by_cases hp:(i.files.any fun f=>decide (f.1=path))=true
   ·obtain⟨f0,hf0,e0⟩:=any_eq_true.1 hp;have e0':f0.1=path:=by grind
    have U:=(dP_ (i.files.map fun f=>f.1) (F.map fun f=>f.1) (by
     unfold Nodup; rw[pairwise_map]; exact A.asc.imp fun r q=>by rw[q,cA_] at r; cases r) fun s hs=>by
     obtain⟨f,O,rfl⟩:=mem_map.1 hs;rcases (D f).1 O with q | q
     ·subst q; exact mem_map.2 ⟨f0,hf0,e0'⟩
     ·exact mem_map.2 ⟨f,q.1,rfl⟩).1
    grind
   ·have U:=(dP_ ((path,content,true)::i.files) F Y fun f O=>by
     rcases (D f).1 O with q | q
     ·subst q; simp
     ·simp [q.1]).1
    grind
 ·exact g.info y hy F ((W.other _ e F).1 A)
end Go.Am
namespace Go.Am
open List
def hL_ (id frm:Int) (st:StD) (l:LKey × LVal):StD:=match decide (l.1.1=frm) with
 | false=>st
 | true=>match look st.inos l.2.1 with
  | none=>st
  | some y=>⟨st.snaps,st.links++[((id,l.1.2),(l.2.1,false))],gi_ st.inos l.2.1 ⟨y.links+1,y.content⟩⟩
def oX_ (st:StD) (parent:ByteArray):StD:=match decide (parent=mkS []) with
 | true=>st
 | false=>match look st.snaps parent with
  | none=>st
  | some x=>st.links.foldl (hL_ (dx_ st) x.id) st
def cW_ (st:StD) (name parent:ByteArray) (kind:Int):StD:=let s:=oX_ st parent; ⟨s.snaps++[(name,⟨dx_ st,kind,parent,mkS []⟩)],s.links,s.inos⟩
def G5_ (st:StD) (l:LKey × LVal):FileR:=(l.1.2,(bq_ st l).2.1,false)
structure Kid (st:StD) (id frm:Int) (ls:List (LKey × LVal)) (st':StD):Prop where
 sto:Sto st'
 snaps:st'.snaps=st.snaps
 len:st'.links.length≤st.links.length+ls.length
 nos:st'.inos.length=st.inos.length
 sub:∀ l,l∈st'.links↔l∈st.links∨∃ m∈ls,m.1.1=frm∧l=((id,m.1.2),(m.2.1,false))
 text:∀ k,(∃ y',(k,y')∈st'.inos)↔∃ y,(k,y)∈st.inos
 same:∀ k y' y,(k,y')∈st'.inos→(k,y)∈st.inos→y'.content=y.content
theorem zL_ {st:StD} (h:Sto st) {id frm:Int} (h1:1≤id) (h2:id≤255) (hu:∀ l∈st.links,l.1.1≠id) (hl:st.links.length≤60) {ls:List (LKey × LVal)} {l:LKey × LVal} (hin:l∈st.links) (hsub:∀ m∈ls,m∈st.links) (hnew:∀ m∈ls,m.1≠l.1) (hls:ls.length≤60) {st':StD} (k:Kid st id frm ls st'):Kid st id frm (ls++[l]) (hL_ id frm st' l):=by
 unfold hL_;cases e:decide (l.1.1=frm) with
 | false=>
  dsimp only;have e': ¬ l.1.1=frm:=by simpa using e
  refine⟨k.sto,k.snaps,by rw[kI]; have:=k.len; omega,k.nos,fun m=> ?_,k.text,k.same⟩;rw[k.sub];constructor
  ·rintro (q | ⟨x,hx,q⟩)
   ·exact .inl q
   ·exact .inr ⟨x,by simp [hx],q⟩
  ·rintro (q | ⟨x,hx,q1,q2⟩)
   ·exact .inl q
   ·rcases kD.1 hx with z | z
    ·exact .inr ⟨x,z,q1,q2⟩
    ·have:x=l:=by simpa using z
     subst this; exact absurd q1 e'
 | true=>
  dsimp only;have e':l.1.1=frm:=by simpa using e
  obtain⟨y0,_,hy0,_⟩:=h.ino hin;obtain⟨y,hy⟩:=(k.text l.2.1).2 ⟨y0,hy0⟩;have hlk:=(dp_ k.sto.nd.inos).2 hy;rw[hlk];dsimp only;obtain⟨e1,e2⟩:=cJ_.1 k.sto.lk;have hcy:=e2 _ hy;dsimp only at hcy;have hmay:=(k.sto.ok.inos _ hy).2;have hcl:eX_ st' l.2.1≤st'.links.length:=countP_le_length;have hyb:y.links≤120:=by have:=k.len; omega
  have hpm:=qZ_ k.sto.nd.inos (v:=(⟨y.links+1,y.content⟩:InoR)) hlk;have hkey:∀ m∈st'.links,m.1≠(id,l.1.2):=fun m hm q=>by
   rcases (k.sub m).1 hm with z | ⟨x,hx,z1,z2⟩
   ·exact hu m z (by rw[q])
   ·rw[z2] at q;have q2':=congrArg (fun z:LKey=>z.2) q;have q2:x.1.2=l.1.2:=q2';exact hnew x hx (Prod.ext (by rw[z1,e']) q2)
  have hc:∀ n,eX_ ⟨st'.snaps,st'.links++[((id,l.1.2),(l.2.1,false))],gi_ st'.inos l.2.1 ⟨y.links+1,y.content⟩⟩ n=eX_ st' n+(if l.2.1=n then 1 else 0):=fun n=>by
   unfold eX_;dsimp only;rw[countP_append];by_cases z:l.2.1=n<;>simp [z]
  refine⟨⟨⟨k.sto.ok.snaps,fun m hm=> ?_,fun x hx=> ?_⟩,⟨k.sto.nd.snaps,?_,vF_ k.sto.nd.inos hlk⟩,cJ_.2 ⟨fun m hm=> ?_,fun x hx=> ?_⟩⟩,k.snaps,?_,?_,fun m=> ?_,fun n=> ?_,fun n y' y'' g1 g2=> ?_⟩
  ·rcases kD.1 hm with q | q
   ·exact k.sto.ok.links m q
   ·have:m=((id,l.1.2),(l.2.1,false)):=by simpa using q
    subst this;obtain⟨_,c2,c3,c4⟩:=h.ok.links l hin;exact⟨⟨h1,h2⟩,c2,c3,c4⟩
  ·rcases (hpm x).1 hx with q | q
   ·subst q;obtain⟨c1,c2⟩:=k.sto.ok.inos _ hy;refine⟨c1,?_⟩;unfold ec_ at c2 ⊢;simp only[kR] at c2 ⊢;have c21:1≤y.links:=by simpa using c2.1.1
    exact⟨⟨by simp; omega,by simp; omega⟩,c2.2⟩
   ·exact k.sto.ok.inos x q.1
  ·dsimp only;rw[kL,nodup_append];refine⟨k.sto.nd.links,by simp,fun a ha b hb q=> ?_⟩;obtain⟨m,hm,rfl⟩:=mem_map.1 ha;have:b=(id,l.1.2):=by simpa using hb
   exact hkey m hm (by rw[q,this])
  ·dsimp only;have tomem:∀ n z,(n,z)∈st'.inos→∃ z',(n,z')∈gi_ st'.inos l.2.1 ⟨y.links+1,y.content⟩:=fun n z hz=>by
    by_cases q:n=l.2.1
    ·exact⟨_,(hpm _).2 (.inl (by rw[q]))⟩
    ·exact⟨z,(hpm _).2 (.inr ⟨hz,q⟩)⟩
   rcases kD.1 hm with q | q
   ·obtain⟨z,hz⟩:=e1 m q;exact tomem _ z hz
   ·have:m=((id,l.1.2),(l.2.1,false)):=by simpa using q
    subst this;exact tomem _ y hy
  ·rw[hc];rcases (hpm x).1 hx with q | q
   ·subst q;grind
   ·rw[if_neg (Ne.symm q.2)];exact e2 x q.1
  ·dsimp only;rw[kI,kI];have:=k.len;simp; omega
  ·dsimp only;rw[←k.nos]; unfold gi_; rw[hlk,length_map]
  ·dsimp only;rw[kD,k.sub];constructor
   ·rintro ((q | ⟨x,hx,q⟩) | q)
    ·exact .inl q
    ·exact .inr ⟨x,by simp [hx],q⟩
    ·exact .inr ⟨l,by simp,e',by simpa using q⟩
   ·rintro (q | ⟨x,hx,q1,q2⟩)
    ·exact .inl (.inl q)
    ·rcases kD.1 hx with z | z
     ·exact .inl (.inr ⟨x,z,q1,q2⟩)
     ·have:x=l:=by simpa using z
      subst this; exact .inr (by simp [q2])
  ·dsimp only;rw[←k.text];constructor
   ·rintro⟨y',q⟩;rcases (hpm _).1 q with z | z
    ·have:=congrArg Prod.fst z;dsimp only at this;exact⟨y,by rw[this]; exact hy⟩
    ·exact⟨y',z.1⟩
   ·rintro⟨y',q⟩;by_cases z:n=l.2.1
    ·exact⟨_,(hpm _).2 (.inl (by rw[z]))⟩
    ·exact⟨y',(hpm _).2 (.inr ⟨q,z⟩)⟩
  ·dsimp only at g1;rcases (hpm _).1 g1 with z | z
   ·have z1:=congrArg Prod.fst z;have z2:=congrArg Prod.snd z;dsimp only at z1 z2;rw[z2];rw[z1] at g2;exact k.same l.2.1 y y'' hy g2
   ·exact k.same n y' y'' z.1 g2
theorem Ay_ (h:Sto st) {id frm:Int} (N:1≤id) (G:id≤255) (I:∀ l∈st.links,l.1.1≠id) (J:st.links.length≤60):∀ (D ls:List (LKey × LVal)) (r:StD),st.links=ls++D→Kid st id frm ls r→Kid st id frm st.links (D.foldl (hL_ id frm) r)
 | [],ls,r,e,k=>by
  grind
 | m::D,ls,r,e,k=>by
  have O:m∈st.links:=by grind
  have A:=h.nd.links;rw[e,kL,nodup_append] at A;refine Ay_ h N G I J D (ls++[m]) _ (by grind) (zL_ h N G I J O (fun x F=>by grind) (fun x F q=> ?_) ?_ k)
  ·exact A.2.2 x.1 (mem_map.2 ⟨x,F,rfl⟩) m.1 (by simp) q
  ·grind
theorem Kid.file (h:Sto st) {id frm:Int} (k:Kid st id frm ls st') (I:l∈st.links) (G:l'.2.1=l.2.1):(bq_ st' l').2.1=(bq_ st l).2.1:=by
 have ⟨y,F,D,_⟩:=h.ino I;have ⟨J,r⟩:=(k.text l.2.1).2 ⟨y,D⟩;have A:=(dp_ k.sto.nd.inos).2 r;unfold bq_;rw[G,F,A];exact k.same _ _ _ r D
theorem v0_ (h:g8_ is name parent kind=0):bk_ name 4=true∧(parent=mkS []∨bk_ parent 4=true)∧(kind=0∨kind=1)∧dl_ is name=none∧kP_ is parent=true∧is.length < 6:=by
 unfold g8_ at h;cases F:bk_ name 4 with
 | false=>rw[F] at h; cases h
 | true=>
  rw[F] at h;cases I:decide (parent=mkS [])||bk_ parent 4 with
  | false=>rw[I] at h; cases h
  | true=>
   rw[I] at h;cases A:eqI kind 0||eqI kind 1 with
   | false=>rw[A] at h; cases h
   | true=>
    rw[A] at h;cases D:dl_ is name with
    | some i=>rw[D] at h; cases h
    | none=>
     rw[D] at h;cases G:kP_ is parent with
     | false=>rw[G] at h; cases h
     | true=>
      rw[G] at h;cases r:leI 6 is.length with
      | true=>rw[r] at h; cases h
      | false=>
       refine⟨rfl,?_,?_,rfl,rfl,by simp at r; omega⟩
       ·grind
       ·simp_all
structure Ij_ (st st':StD) (name:ByteArray) (id:Int) (kind:Int) (parent:ByteArray):Prop where
 good:em_ st'
 snaps:st'.snaps=st.snaps++[(name,⟨id,kind,parent,mkS []⟩)]
 bare:∀ fs,cF_ st' id fs→∀ f∈fs,f.2.2=false
theorem vZ_ (h:Sto st) (N:dM_ st≤60) (r:ByteArray):∃ frm ls,Kid st (dx_ st) frm ls (oX_ st r)∧(ls=[]∨(r≠mkS []∧ls=st.links∧∃ x,look st.snaps r=some x∧frm=x.id)):=by
 unfold dM_ at N;have ⟨⟨I,F⟩,_,k4⟩:=n1_ (st:=st) (by omega);have base:∀ frm,Kid st (dx_ st) frm [] st:=fun frm=>⟨h,rfl,by simp,rfl,fun l=>by simp,fun k=>Iff.rfl,fun k y U G J=>by
  have D:=(dp_ h.nd.inos).2 G;have A:=(dp_ h.nd.inos).2 J;rw[D] at A; rw[Option.some.inj A]⟩
 unfold oX_;cases e:decide (r=mkS []) with
 | true=>exact⟨0,[],base 0,.inl rfl⟩
 | false=>
  cases O:look st.snaps r with
  | none=>exact⟨0,[],base 0,.inl rfl⟩
  | some x=>
   exact⟨x.id,st.links,Ay_ h I F k4 (by omega) st.links [] st rfl (base x.id),.inr ⟨by simpa using e,rfl,x,rfl,rfl⟩⟩
theorem l6_ {st:StD} (g:em_ st) (hm:dM_ st≤60) {is:List InfoR} (his:cG_ st is) {name parent:ByteArray} {kind:Int} (hp:g8_ is name parent kind=0):Ij_ st (cW_ st name parent kind) name (dx_ st) kind parent:=by
 obtain⟨w1,w2,w3,w4,w5,w6⟩:=v0_ hp;have hm':=hm;unfold dM_ at hm';obtain⟨⟨k1,k2⟩,k3,k4⟩:=n1_ (st:=st) (by omega);obtain⟨frm,ls,K,hls⟩:=vZ_ g.sto hm parent;have hsn:(cW_ st name parent kind).snaps=st.snaps++[(name,⟨dx_ st,kind,parent,mkS []⟩)]:=by
  unfold cW_; dsimp only; rw[K.snaps]
 have hlk:(cW_ st name parent kind).links=(oX_ st parent).links:=rfl;have hin:(cW_ st name parent kind).inos=(oX_ st parent).inos:=rfl;have hfile:∀ l,bq_ (cW_ st name parent kind) l=bq_ (oX_ st parent) l:=fun l=>by unfold bq_; rw[hin]
 have hslen:is.length=st.snaps.length:=by have:=his.perm.length_eq; simpa using this
 have hnew:∀ x∈st.snaps,x.1≠name:=fun x hx e=>by
  obtain⟨i,hi,ei,_⟩:=his.put g.sto.nd.snaps hx;unfold dl_ at w4;rw[find?_eq_none] at w4;exact w4 i hi (by rw[ei]; simpa using e)
 have hlsub:∀ m∈ls,m∈st.links:=fun m h=>by
  rcases hls with q | ⟨_,q,_⟩
  ·rw[q] at h; cases h
  ·rw[q] at h; exact h
 have other:∀ j,j≠dx_ st→∀ fs,cF_ (cW_ st name parent kind) j fs↔cF_ st j fs:=fun j hj fs=>by
  have key:∀ f,(∃ l∈(cW_ st name parent kind).links,l.1.1=j∧f=bq_ (cW_ st name parent kind) l)↔∃ l∈st.links,l.1.1=j∧f=bq_ st l:=fun f=>by
   have same:∀ l∈st.links,bq_ (cW_ st name parent kind) l=bq_ st l:=fun l hl=>by
    rw[hfile];exact Prod.ext rfl (Prod.ext (K.file g.sto hl rfl) rfl)
   constructor
   ·rintro⟨l,q1,q2,q3⟩;rw[hlk] at q1;rcases (K.sub l).1 q1 with z | ⟨m,hm,z1,z2⟩
    ·exact⟨l,z,q2,by rw[q3,same l z]⟩
    ·rw[z2] at q2; exact absurd q2.symm hj
   ·rintro⟨l,q1,q2,q3⟩;exact⟨l,(K.sub l).2 (.inl q1),q2,by rw[q3,same l q1]⟩
  exact⟨fun g=>⟨g.asc,fun f=>(g.mem f).trans (key f)⟩,fun g=>⟨g.asc,fun f=>(g.mem f).trans (key f).symm⟩⟩
 have own:∀ fs,cF_ (cW_ st name parent kind) (dx_ st) fs→∀ f∈fs,∃ m∈ls,m.1.1=frm∧f=G5_ st m:=fun fs hf f hff=>by
  obtain⟨l,q1,q2,q3⟩:=(hf.mem f).1 hff;rcases (K.sub l).1 q1 with z | ⟨m,hm,z1,z2⟩
  ·exact absurd q2 (k4 l z)
  ·refine⟨m,hm,z1,?_⟩;rw[q3,hfile];unfold G5_;refine Prod.ext (by rw[z2]; rfl) (Prod.ext (K.file g.sto (hlsub m hm) (by rw[z2])) (by rw[z2]; rfl))
 have sto:Sto (cW_ st name parent kind):=by
  refine⟨⟨fun x hx=> ?_,K.sto.ok.links,K.sto.ok.inos⟩,⟨?_,K.sto.nd.links,K.sto.nd.inos⟩,?_⟩
  ·rw[hsn] at hx;rcases kD.1 hx with q | q
   ·exact g.sto.ok.snaps x q
   ·have:x=(name,⟨dx_ st,kind,parent,mkS []⟩):=by simpa using q
    subst this;refine⟨w1,?_⟩;unfold fk_;simp only[kR,Bool.or_eq_true];refine⟨⟨by simpa using k1,by simpa using k2⟩,⟨?_,?_⟩,?_,rfl⟩
    ·rcases w3 with q | q<;>rw[q]<;>rfl
    ·rcases w3 with q | q<;>rw[q]<;>rfl
    ·rcases w2 with q | q
     ·exact .inl (by simpa using q)
     ·exact .inr q
  ·rw[hsn,kL,nodup_append];refine⟨g.sto.nd.snaps,by simp,fun a ha b hb e=> ?_⟩;obtain⟨x,hx,rfl⟩:=mem_map.1 ha;have:b=name:=by simpa using hb
   exact hnew x hx (by rw[e,this])
  ·exact K.sto.lk
 have par:parent=mkS []∨∃ y,look st.snaps parent=some y∧y.kind=2:=by
  unfold kP_ at w5;rw[Bool.or_eq_true,decide_eq_true_eq] at w5;rcases w5 with q | q
  ·exact .inl q
  ·right;cases hf:dl_ is parent with
   | none=>rw[hf] at q; cases q
   | some i=>
    rw[hf] at q;obtain⟨him,hin⟩:=hX_ hf;obtain⟨z,hz,ez,_⟩:=his.get him;refine⟨z.2,?_,?_⟩
    ·have:=fP_ g.sto.nd.snaps hz;rw[show z.1=parent by rw[ez] at hin; exact hin] at this;exact this
    ·rw[ez] at q; simpa using q
 refine⟨uB_ sto ?_ ?_ (fun y hy fs hf=> ?_) (fun y hy=> ?_),hsn,fun fs hf f hff=> ?_⟩
 ·rw[hsn,kL,nodup_append];refine⟨g.ids,by simp,fun a ha b hb e=> ?_⟩;obtain⟨x,hx,rfl⟩:=mem_map.1 ha;have:b=dx_ st:=by simpa using hb
  exact k3 x hx (by rw[e,this])
 ·rw[hsn,kI]; simp; omega
 ·rw[hsn] at hy;rcases kD.1 hy with q | q
  ·exact g.info y q fs ((other _ (k3 y q) fs).1 hf)
  ·have:y=(name,⟨dx_ st,kind,parent,mkS []⟩):=by simpa using q
   subst this;dsimp only at hf ⊢;have hown:=own fs hf;rcases hls with q | ⟨hne,q,x,hx,hfrm⟩
   ·have:fs=[]:=by
     cases fs with
     | nil=>rfl
     | cons f fs=>obtain⟨m,hm,_⟩:=hown f (by simp); rw[q] at hm; cases hm
    subst this;refine (gr_ (i:=⟨name,kind,parent,mkS [],[]⟩) Pairwise.nil).2 ⟨w1,?_,kP _,(fun f hf=>absurd hf not_mem_nil),kP _⟩;dsimp only;omega
   ·obtain⟨fs0,hf0⟩:=Ah_ g.sto frm;have hold:=g.info _ (dr_ hx) fs0 (by dsimp only; rw[←hfrm]; exact hf0);obtain⟨o1,o2,o3,o4,o5⟩:=(gr_ (i:=⟨parent,x.kind,x.parent,x.label,fs0⟩) hf0.asc).1 hold;dsimp only at o1 o2 o3 o4 o5;have hmem:∀ f∈fs,∃ f0∈fs0,f=(f0.1,f0.2.1,false):=fun f hff=>by
     obtain⟨m,hm,z1,z2⟩:=hown f hff;exact⟨bq_ st m,(hf0.mem _).2 ⟨m,hlsub m hm,z1,rfl⟩,by rw[z2]; rfl⟩
    refine (gr_ (i:=⟨name,kind,parent,mkS [],fs⟩) hf.asc).2 ⟨w1,?_,kP _,fun f hff=> ?_,?_⟩
    ·dsimp only;rcases w3 with z | z<;>rw[z]<;>decide
    ·obtain⟨f0,h0,e0⟩:=hmem f hff;have:=o4 f0 h0;unfold ei_ at this ⊢;simp only[kR] at this ⊢;rw[e0];exact⟨this.1,this.2.1,by simp⟩
    ·dsimp only;have hsub:=(dP_ (fs0.map fun f=>f.1) (fs.map fun f=>f.1) (by
      unfold Nodup; rw[pairwise_map]; exact hf.asc.imp fun r q=>by rw[q,cA_] at r; cases r) fun s hs=>by
      obtain⟨f,hff,rfl⟩:=mem_map.1 hs;obtain⟨f0,h0,e0⟩:=hmem f hff;exact mem_map.2 ⟨f0,h0,by rw[e0]⟩).1
     rw[length_map,length_map] at hsub;omega
 ·have mono:∀ p,fi_ (uh_ st.snaps) p→fi_ (uh_ (cW_ st name parent kind).snaps) p:=fun p=>fi_.mono fun z hz hk=>by
   obtain⟨x,hx,e⟩:=i1_.1 hz;exact⟨z,i1_.2 ⟨x,by rw[hsn]; simp [hx],e⟩,rfl,hk,rfl⟩
  rw[hsn] at hy;rcases kD.1 hy with q | q
  ·exact mono _ (g.hdr his y q)
  ·have:y=(name,⟨dx_ st,kind,parent,mkS []⟩):=by simpa using q
   subst this;dsimp only;refine mono _ ?_;rcases par with z | ⟨p,hp1,hp2⟩
   ·rw[z]; exact .nil
   ·have hpm:=dr_ hp1;have:=fi_.step (is:=uh_ st.snaps) (y:=⟨parent,p.kind,p.parent,p.label,[]⟩) (i1_.2 ⟨_,hpm,rfl⟩) hp2 (g.hdr his _ hpm);exact this
 ·obtain⟨m,_,_,e⟩:=own fs hf f hff;rw[e]; rfl
end Go.Am
section
set_option maxRecDepth 100000
namespace Go.Am
open List
def eQ_ (st:StD) (name to:ByteArray):StD:=⟨st.snaps.map fun x=>if x.1=name then (to,⟨x.2.id,2,x.2.parent,x.2.label⟩) else x,st.links,st.inos⟩
theorem wm_ (h:eV_ is name to=0):bk_ name 4=true∧bk_ to 4=true∧(∃ i,dl_ is name=some i∧i.kind=0)∧dl_ is to=none:=by
 unfold eV_ at h;cases A:bk_ name 4&&bk_ to 4 with
 | false=>rw[A] at h; cases h
 | true=>
  rw[A] at h;rw[kR] at A;cases G:fJ_ is name==0 with
  | false=>
   grind
  | true=>
   rw[G] at h;have r:fJ_ is name=0:=by grind
   refine⟨A.1,A.2,?_,?_⟩
   ·unfold fJ_ at r;cases D:dl_ is name with
    | none=>rw[D] at r; cases r
    | some i=>
     rw[D] at r;dsimp at r;cases F:eqI i.kind 0 with
     | true=>simpa using F
     | false=>rw[F] at r; cases r
   ·cases D:dl_ is to with
    | none=>rfl
    | some i=>rw[D] at h; cases h
theorem zU_ {st:StD} (g:em_ st) {is:List InfoR} (his:cG_ st is) {name to:ByteArray} (hc:eV_ is name to=0):em_ (eQ_ st name to):=by
 obtain⟨w1,w2,⟨i,hi,hk⟩,hto⟩:=wm_ hc;have hnew:∀ x∈st.snaps,x.1≠to:=fun x hx e=>by
  obtain⟨i,hi,ei,_⟩:=his.put g.sto.nd.snaps hx;unfold dl_ at hto;grind
 have hkind:∀ x∈st.snaps,x.1=name→x.2.kind=0:=fun x hx e=>by
  obtain⟨him,hin⟩:=hX_ hi;obtain⟨z,hz,ez,_⟩:=his.get him;have h1:=fP_ g.sto.nd.snaps hz;have h2:=fP_ g.sto.nd.snaps hx;grind
 have hmem:∀ y,y∈(eQ_ st name to).snaps↔∃ x∈st.snaps,(x.1≠name∧y=x)∨(x.1=name∧y=(to,⟨x.2.id,2,x.2.parent,x.2.label⟩)):=fun y=>by
  unfold eQ_;grind
 have hids:(eQ_ st name to).snaps.map (fun x=>x.2.id)=st.snaps.map fun x=>x.2.id:=by
  unfold eQ_;rw[map_map];apply map_congr_left;grind
 have hfiles:∀ j fs,cF_ (eQ_ st name to) j fs↔cF_ st j fs:=fun j fs=>⟨fun h=>⟨h.asc,h.mem⟩,fun h=>⟨h.asc,h.mem⟩⟩;have sto:Sto (eQ_ st name to):=by
  refine⟨⟨fun y hy=> ?_,g.sto.ok.links,g.sto.ok.inos⟩,⟨?_,g.sto.nd.links,g.sto.nd.inos⟩,g.sto.lk⟩
  ·obtain⟨x,hx,⟨q,e⟩ | ⟨q,e⟩⟩:=(hmem y).1 hy
   ·rw[e]; exact g.sto.ok.snaps x hx
   ·rw[e];refine⟨w2,?_⟩;have:=(g.sto.ok.snaps x hx).2;unfold fk_ at this ⊢;simp only[kR] at this ⊢;exact⟨this.1,⟨rfl,rfl⟩,this.2.2⟩
  ·have hn:=g.sto.nd.snaps;unfold eQ_;rw[map_map];unfold Nodup at hn ⊢;rw[pairwise_map] at hn ⊢;refine hn.imp_of_mem fun {a b} ha hb hab=> ?_;grind
 refine uB_ sto (by rw[hids]; exact g.ids) (by unfold eQ_; dsimp only; rw[length_map]; exact g.few) (fun y hy fs hf=> ?_) (fun y hy=> ?_)
 ·obtain⟨x,hx,⟨q,e⟩ | ⟨q,e⟩⟩:=(hmem y).1 hy
  ·rw[e] at hf ⊢;exact g.info x hx fs ((hfiles _ fs).1 hf)
  ·rw[e] at hf ⊢;have hf':=(hfiles _ fs).1 hf;have:=g.info x hx fs hf';obtain⟨o1,o2,o3,o4,o5⟩:=(gr_ (i:=⟨x.1,x.2.kind,x.2.parent,x.2.label,fs⟩) hf'.asc).1 this;refine (gr_ (i:=⟨to,2,x.2.parent,x.2.label,fs⟩) hf'.asc).2 ⟨w2,⟨(by simp),(by simp)⟩,o3,fun f hff=> ?_,o5⟩;have:=o4 f hff;rw[hkind x hx q] at this;exact this
 ·have mono:∀ p,fi_ (uh_ st.snaps) p→fi_ (uh_ (eQ_ st name to).snaps) p:=fun p=>fi_.mono fun z hz hk=>by
   obtain⟨x,hx,e⟩:=i1_.1 hz;have hne:x.1≠name:=fun q=>by
    have:=hkind x hx q;rw[e] at hk;dsimp only at hk;omega
   exact⟨z,i1_.2 ⟨x,(hmem x).2 ⟨x,hx,.inl ⟨hne,rfl⟩⟩,e⟩,rfl,hk,rfl⟩
  obtain⟨x,hx,⟨q,e⟩ | ⟨q,e⟩⟩:=(hmem y).1 hy
  ·rw[e]; exact mono _ (g.hdr his x hx)
  ·rw[e]; exact mono _ (g.hdr his x hx)
section
variable {H:Hp} {Q:Post} {x:Pl} {n:Nat} {cs:List PC} {T:List Pg}
structure te_ (T:List Pg) (st:StD):Prop where
 of:ofD T=some st
 good:em_ st
 infos:cG_ st (aA_ st)
 asc:hB_ (aA_ st)
 from_:bA_ (aA_ st) (aA_ st).length 0=true
 many:dM_ st≤60
 size:(aA_ st).length≤900∧∀ x∈aA_ st,x.name.size≤140737488351232∧x.files.length≤100000∧∀ f∈x.files,f.1.size≤140737488351232
theorem c0_ (h:ofD T=some st):te_ T st:=by
 have ⟨I,A,D⟩:=jW_ h;have G:=kw_.2 ⟨A,D⟩;have g:=em_.of (ln_ T) G;have r:=h6_ (hV_ (ln_ T) A);have J:=Ar_ A;have F:=lg_ T;have sz:=r.sizes (of_ A) (by omega);exact⟨h,g,r,r.asc',g.forest r,by unfold dM_; omega,by omega,sz.2⟩
theorem gJ_ (h:TrK H x n ps):∃ cs T,Tr H x n cs T∧ofD T=cP_ ps:=by
 have ⟨cs,T,r,D,A⟩:=h.ex;unfold ofD;grind
theorem Bj_ {st:StD} {x:SnapR} (G:k < st.snaps.length) (e:st.snaps[k].1=s) (r:∀ j (D:j < st.snaps.length),j < k→st.snaps[j].1≠s) (A:look st.snaps s=some x):st.snaps[k].2=x:=by
 unfold look at A;have F:st.snaps.find? (fun p=>decide (p.1=s))=some st.snaps[k]:=by
  rw[find?_eq_some_iff_getElem];grind
 grind
theorem k3_ {name path content:ByteArray} (hT:Tr H x n cs T) (hs1:name.size≤140737488351232) (hs2:path.size≤140737488351232)
 (h0:ofD T=none→∀ H',H<+:H'→Q (.tup [.a [.sl none 0 5],.s (.int .i64 2000)]) H')
 (h1:∀ st e,ofD T=some st→fR_ (aA_ st) name path content=e→e≠0→∀ H',H<+:H'→Q (.tup [.a [.sl none 0 5],.s (.int .i64 e)]) H')
 (h2:∀ st y,ofD T=some st→fR_ (aA_ st) name path content=0→look st.snaps name=some y→∀ H' x',H<+:H'→TrK H' x' 48 (cc_ (e0_ (ho_ st y.id path content)))→Q (.tup [.a [.sl x' 48 5],.s (.int .i64 0)]) H'):
 b4_ [.agg [.sl x n 5],.g (.str name),.g (.str path),.g (.str content)] H Q:=by
 refine⟨3,?_⟩;rw[wy_];have etn:∀ k:Nat,tN (k:Int)=k:=fun _=>rfl;refine dR_ hT (fun e H' p hp=> ?_) (fun st e B H' sp a1 n1 a2 n2 a3 n3 hB hR=> ?_)
 ·simp only[aI_,aB_,bB_,gj_,ak_,aT_];exact aa_ (fun _=>h0 e H' hp) (fun e=>by cases e)
 ·simp only[aI_,aB_,bB_,gj_,ak_,aT_];refine aa_ (fun e=>by cases e) (fun _=> ?_);have K:=c0_ e;have hm:=K.many;unfold dM_ at hm;obtain⟨_,hd,hok⟩:=jW_ e;refine eB_ hR ⟨by omega,by omega,by omega⟩ (nT_ hok) fun G a pG ha=> ?_;simp only[aN_,ah_];refine sR_ ha K.asc K.from_ K.size.1 K.size.2 hs1 hs2 fun G1 b1 m1 pG1=> ?_;simp only[aI_,aB_,bB_,ah_,ai_,aT_];have hR1:=hR.mono (pG.trans pG1);refine aa_ (fun q=> ?_) (fun q=> ?_)
  ·exact h1 st _ e rfl (by simpa using q) G1 (hB.trans hR1.pre)
  have hw:fR_ (aA_ st) name path content=0:=by simpa using q
  obtain⟨w1,w2,w3,i,hi,hk,hfew⟩:=xz_ hw;obtain⟨him,hin⟩:=hX_ hi;obtain⟨z,hz,ez,hfz⟩:=K.infos.get him;have hy:look st.snaps name=some z.2:=by
   have:=fP_ K.good.sto.nd.snaps hz;rw[show z.1=name by rw[ez] at hin; exact hin] at this;exact this
  obtain⟨gd,W⟩:=pr_ K.good K.infos (by omega) hw hy;have back:∀ (st1:StD) (G:Hp) (a2:Pl) (n2:Nat) (a3:Pl) (n3:Nat),st1.snaps=st.snaps→st1.links.length≤100→st1.inos.length≤100→ho_ st z.2.id path content=kO_ st1 z.2.id path content→cR_ B G sp a1 n1 a2 n2 a3 n3 st1→b4_.l10 2 name path content none 0 (some (sp,0)) G Q:=by
   intro st1 G a2 n2 a3 n3 hs1 hl1 hi1 hwd hR;rw[b4_.l10_eq];refine nM_ hR (by omega) ?_;obtain⟨fr,hfr⟩:∃ fr,eP_ st1=fr:=⟨_,rfl⟩;rw[hfr];have hst:(⟨st1.snaps,st1.links++[((z.2.id,path),(fr,true))],st1.inos++[(fr,⟨1,content⟩)]⟩:StD)=ho_ st z.2.id path content:=by rw[hwd]; unfold kO_; rw[hfr]
   clear hwd;simp only[aN_,ai_,af_];obtain⟨g1,g2,g3⟩:=hR.rd;rw[ad_ g3,ah_];have hl3:=hR.l3;refine ab_ rfl ?_;refine hR.putI (fr,⟨1,content⟩) (by omega) fun a3' G2 hR2=> ?_;obtain⟨g1,g2,g3⟩:=hR2.rd;rw[ad_ g2,ah_,ad_ g1,ah_];have hsn:st1.snaps.length≤60:=by rw[hs1]; omega
   refine fx_ hR2 (by dsimp only; omega) (fun k hk ek hmin=> ?_) (fun q=> ?_)
   ·simp only[aN_,ai_];rw[ad_ g1,ah_];refine⟨rfl,?_⟩;rw[ad_ g2,ah_];refine⟨rfl,?_⟩;have hl1':=hR2.l1;have hl2':=hR2.l2;dsimp only at hl1' hl2' hk ek hmin;refine ab_ rfl (ab_ (by simp<;>omega) ?_);obtain⟨l,e1,r1,r2,_⟩:=hR2.snapG k hk;have hxk:=Bj_ (st:=st1) hk ek hmin (by rw[hs1]; exact hy);rw[e1];simp only[af_,etn,kN,kQ];rw[ad_ r2,ai_];dsimp only;rw[hxk];refine ab_ rfl ?_;refine hR2.putL ((z.2.id,path),(fr,true)) (by omega) fun a2' G3 hR3=> ?_;have hR3':cR_ B G3 sp a1 n1 a2' (n2+1) a3' (n3+1) (ho_ st z.2.id path content):=by rw[←hst]; exact hR3
    have hdl:=congrArg (fun s:StD=>s.links.length) hst;have hdi:=congrArg (fun s:StD=>s.inos.length) hst;dsimp only at hdl hdi;rw[kI] at hdl hdi;refine gT_ hR3' gd.sto ⟨?_,?_,?_⟩ (jm_ gd).2.2 fun G4 x' pG4 hT'=> ?_
    ·rw[W.snaps]; omega
    ·rw[←hdl]; simp; omega
    ·rw[←hdi]; simp; omega
    ·simp only[dE_,aV_,ah_,bi_];exact h2 st z.2 e hw hy G4 x' (hB.trans pG4) hT'
   ·obtain⟨j,hj,ej⟩:=kK hz;have:(z.1)≠name:=by
     have:=q j (by dsimp only; rw[hs1]; exact hj);dsimp only at this;simp only[hs1,ej] at this;exact this
    exact absurd (by rw[ez] at hin; exact hin) this
  refine qX_ hR1 ⟨by omega,by omega⟩ hy ?_;simp only[aN_,ai_];cases hfn:o0_ st z.2.id path with
  | none=>
   have hfo:lH_ st z.2.id path= -1:=by unfold lH_; unfold o0_ at hfn; rw[hfn]
   rw[hfo];refine aa_ (fun e=>by simp at e) (fun _=> ?_);exact back st G1 a2 n2 a3 n3 rfl (by omega) (by omega) (by unfold ho_; rw[hfn]) hR1
  | some j=>
   have hfo:lH_ st z.2.id path=((j:Nat):Int):=by unfold lH_; unfold o0_ at hfn; rw[hfn]
   rw[hfo];obtain⟨hj,ej⟩:=p6_ hfn;refine aa_ (fun _=> ?_) (fun e=>by simp at e<;>omega);refine mo_ hR1 K.good.sto ⟨by omega,by omega⟩ hj fun G2 a2' n2' a3' n3' hR2=> ?_;obtain⟨yy,hyy,eqd⟩:=gQ_ K.good.sto hj;refine back (kn_ st j) G2 a2' n2' a3' n3' (by rw[eqd]) ?_ ?_ (by unfold ho_; rw[hfn]) hR2
   ·rw[eqd]; dsimp only; have:=length_eraseIdx_le st.links j; omega
   ·rw[eqd]; dsimp only; unfold mg_;refine Nat.le_trans (length_filter_le _ _) ?_;unfold gi_;rw[hyy,length_map]; omega
end
end Go.Am
end
namespace Go.Am
open List
theorem uR_ (g:hI_ st a) (h:bu_ a=none) (l:LKey × LVal):l∈a.links↔l∈st.links∧∃ x∈st.snaps,x.2.id=l.1.1:=
 ⟨fun r=>⟨g.sub l r,by rw[←g.snaps]; exact e2_ h l r⟩,fun q=>g.all l q.1 q.2⟩
theorem vu_ (h:Sto a) (A:x∈a.inos):∃ l∈a.links,l.2.1=x.1:=by
 have F:=(cJ_.1 h.lk).2 x A;have r:=(h.ok.inos x A).2;unfold ec_ at r;simp at r;have:0 < eX_ a x.1:=by omega
 have ⟨l,D,e⟩:=countP_pos_iff.1 this;grind
theorem rU_ (A:Sto st) (g:hI_ st a) (r:x∈a.inos):∃ y,(x.1,y)∈st.inos:=by
 have ⟨l,D,e⟩:=vu_ g.sto r;have ⟨y,F⟩:=(cJ_.1 A.lk).1 l (g.sub l D);grind
structure tR_ (st c:StD):Prop where
 sto:Sto c
 none:bu_ c=none
 snaps:c.snaps.Perm st.snaps
 links:∀ l,l∈c.links↔l∈st.links∧∃ x∈st.snaps,x.2.id=l.1.1
 file:∀ l∈c.links,bq_ c l=bq_ st l
theorem rS_ (g:hI_ st a) (h:bu_ a=none):tR_ st a:=⟨g.sto,h,by rw[g.snaps],uR_ g h,g.file⟩
theorem x5_ (A:tR_ st a) (gb:tR_ st b):fU_ a b:=by
 have D:=(perm_ext_iff_of_nodup (dk_ gb.sto.nd.links) (dk_ A.sto.nd.links)).2 fun l=>by rw[A.links,gb.links]
 have one:∀ {a b:StD},tR_ st a→tR_ st b→b.links.Perm a.links→∀ x∈a.inos,x∈b.inos:=fun {a b} A gb I x G=>by
  have ⟨l,D,e⟩:=vu_ A.sto G;have F:=I.mem_iff.2 D;have ⟨y,N⟩:=(cJ_.1 gb.sto.lk).1 l F;have Y:=(cJ_.1 A.sto.lk).2 x G;have c2:=(cJ_.1 gb.sto.lk).2 _ N;have V:eX_ a x.1=eX_ b x.1:=(I.countP_eq _).symm;have J:=A.file l D;have O:=gb.file l F;have U:look a.inos l.2.1=some x.2:=(dp_ A.sto.nd.inos).2 (by grind);have k2:look b.inos l.2.1=some y:=(dp_ gb.sto.nd.inos).2 (by grind);rw[←O] at J;unfold bq_ at J;have:x=(x.1,y):=by
   have ⟨i,r⟩:=x;have ⟨n,c⟩:=r;have ⟨Z,W⟩:=y;grind
  grind
 exact⟨gb.snaps.trans A.snaps.symm,D,(perm_ext_iff_of_nodup (dk_ gb.sto.nd.inos) (dk_ A.sto.nd.inos)).2 fun x=>⟨one gb A D.symm x,one A gb D x⟩⟩
theorem GK_ (F:Asc ps) (A:Asc qs) (h:ps.Perm qs):ps=qs:=
 zg_ (fun a e=>by rw[cA_] at e; cases e) (fun a b D r=>by have:=eU_ D r; rw[cA_] at this; cases this) F A fun x=>h.mem_iff
theorem E2_ (h:fU_ a b):(kK_ b).Perm (kK_ a):=(h.snaps.map _).append ((h.links.map _).append (h.inos.map _))
theorem xE_ (h:Sto a):(cc_ a).Perm (kK_ a)∧Asc (cc_ a):=by
 have:=nD_ Pairwise.nil (by simpa using x2_ h.ok h.nd);exact⟨by simpa [cc_] using this.1,this.2⟩
theorem gV_ (h:Sto st):hI_ st (d0_ st)∧bu_ (d0_ st)=none:=by
 have ⟨A,r⟩:=kg_ st.links.length (hI_.refl h);exact⟨A,r (kO _)⟩
theorem EJ_ (h:Sto st) (g:hI_ st a) (G:bu_ a=none) (D:Asc kv) (A:kv.Perm (kK_ a)):kv=cc_ (d0_ st):=by
 have ⟨r,J⟩:=gV_ h;have ⟨I,F⟩:=xE_ r.sto;exact GK_ D F (A.trans ((E2_ (x5_ (rS_ r J) (rS_ g G))).trans I.symm))
theorem FU_ (D:Sto st) (N:el_ kv=some st) (g:hI_ st a):∀ p∈kK_ a,(bO_ kv p.1).isSome=true:=by
 have ⟨U,I⟩:=iv_ N;have key:∀ p∈kv,∀ k,p.1=k→(bO_ kv k).isSome=true:=fun p A k e=>uI_.2 ⟨p,A,e⟩;intro q F;unfold kK_ at F;simp only[kD,mem_map] at F;rcases F with⟨z,r,rfl⟩ | ⟨z,r,rfl⟩ | ⟨z,r,rfl⟩
 ·rw[g.snaps] at r;have O:=(D.ok.snaps z r).1;rw[I] at r;have ⟨p,A,e⟩:=mem_filterMap.1 r;exact key p A _ (zR_ (mX_ e).1 (gY_ O))
 ·have r:=g.sub z r;have ⟨⟨G,J⟩,c3,_⟩:=D.ok.links z r;rw[I] at r;have ⟨p,A,e⟩:=mem_filterMap.1 r;exact key p A _ (wD_ (jz_ e).1 (h7_ G J c3))
 ·have ⟨y,r⟩:=rU_ D g r;have ⟨⟨G,J⟩,_⟩:=D.ok.inos _ r;rw[I] at r;have ⟨p,A,e⟩:=mem_filterMap.1 r;exact key p A _ (C1_ (qx_ e).1 (lt_ G J))
theorem v5_ (h:Sto st):(d0_ st).snaps.length=st.snaps.length∧(d0_ st).links.length≤st.links.length∧(d0_ st).inos.length≤st.inos.length:=by
 have ⟨g,_⟩:=gV_ h;refine⟨by rw[g.snaps],?_,?_⟩
 ·exact (dP_ st.links (d0_ st).links (dk_ g.sto.nd.links) g.sub).1
 ·have:=(dP_ (st.inos.map (·.1)) ((d0_ st).inos.map (·.1)) g.sto.nd.inos fun k r=>by
   obtain⟨x,D,rfl⟩:=mem_map.1 r;have ⟨y,A⟩:=rU_ h g D;exact mem_map.2 ⟨_,A,rfl⟩).1
  grind
end Go.Am
namespace Go.Am
open List
theorem Er_ (st:StD):ltI (hx_ st) 0=(bu_ st).isNone:=by
 unfold hx_ bu_;cases st.links.findIdx? fun l=> !(st.snaps.any fun x=>decide (x.2.id=l.1.1)) with
 | none=>rfl
 | some i=>simp
section
variable {H:Hp} {Q:Post} {x:Pl} {n:Nat} {cs:List PC} {T:List Pg} {E:Nat→Sm}
def hR_ (T:List Pg):Bool:=match ofD T with | none=>false | some st=>(bu_ st).isNone
theorem lq_ (G:Tr H x n cs T) (D:∀ H',H<+:H'→Q (.g (.bool (hR_ T))) H'):ev_ [.agg [.sl x n 5]] H Q:=by
 refine⟨1,?_⟩;rw[uT_];refine dR_ G (fun h A p I=> ?_) fun st h B A W Y Z U V J O F r=> ?_
 ·simp only[aI_,aB_,bB_,gj_,ak_,aT_];rw[aD_ rfl];have:=D A I;unfold hR_ at this;grind
 ·have k:=(c0_ h).many;unfold dM_ at k;refine f5_ r (by omega) ?_;simp only[aN_,ai_];have:=D A (F.trans r.pre);unfold hR_ at this;rw[h] at this;rw[Er_]; exact this
theorem dJ_ (J:Tr H x n cs T) (A:∀ H',H<+:H'→Q (.g (.bool (hR_ T))) H'):cn_ E [.agg [.sl x n 5]] H Q:=by
 refine⟨1,?_⟩;rw[uH_];refine o9_ J (fun h D p N=> ?_) fun st h D V O W Z b a o=> ?_
 ·simp [aI_];have:=A D N;unfold hR_ at this;simp_all
 ·simp [aI_,gj_];have k:=(c0_ h).many;unfold dM_ at k;refine⟨1,?_⟩;rw[nF_];refine jt_ o.at_ (by omega) fun G U F I Y _=> ?_;simp only[aN_,ah_,ak_];have:=A G (o.pre.trans I);unfold hR_ at this;rw[h] at this;have e:eqI (nI F.length) 0=(bu_ st).isNone:=by
   rw[Bool.eq_iff_iff];unfold bu_;rw[Option.isNone_iff_eq_none,findIdx?_eq_none_iff];constructor
   ·intro q l r;have q:F.length=0:=by simp_all
    cases z:jY_ st l.1.1 with
    | true=>unfold jY_ at z; rw[z]; rfl
    | false=>
     have:l∈El_ st:=mem_filter.2 ⟨r,by rw[z]; rfl⟩;grind
   ·intro q;have:El_ st=[]:=filter_eq_nil_iff.2 fun l r z=>by
     have:=q l r;unfold jY_ at z;grind
    simp_all
  grind
theorem k6_ (N:Tr H x n cs T)
 (h1:ofD T=none→∀ H',H<+:H'→Q (.tup [.a [.sl none 0 5],.s (.int .i64 2000)]) H')
 (I:∀ st,ofD T=some st→∀ H' x',H<+:H'→TrK H' x' 48 (cc_ (d0_ st))→Q (.tup [.a [.sl x' 48 5],.s (.int .i64 0)]) H'):gd_ [.agg [.sl x n 5]] H Q:=by
 refine⟨1,?_⟩;rw[uX_];refine dR_ N (fun h G p p1=> ?_) fun st h B G sp a1 n1 a2 Z U Y F r=> ?_
 ·simp_all
 ·have A:=c0_ h;have k:=A.many;unfold dM_ at k;have ⟨m1,V,m3⟩:=v5_ A.good.sto;have ⟨g,_⟩:=gV_ A.good.sto;refine⟨st.links.length+2,lf_ st.links.length r A.good.sto (by omega) (by omega) (by omega) (kO _) fun W b2 k2 b3 k3 D=>iH_ D g.sto.ok (show (d0_ st).snaps.length+(d0_ st).links.length+(d0_ st).inos.length≤60 by omega) fun J x' O t=> ?_⟩;simp [dE_];exact I st h J x' ((F.trans D.pre).trans O) t
theorem cO_ (hT:Tr H x n cs T)
 (h1:ofD T=none→∀ H',H<+:H'→Q (.tup [.a [.sl none 0 5],.s (.int .i64 2000)]) H')
 (h2:∀ st,ofD T=some st→∀ H' x',H<+:H'→TrK H' x' 48 (cc_ (d0_ st))→Q (.tup [.a [.sl x' 48 5],.s (.int .i64 0)]) H'):bY_ [.agg [.sl x n 5]] H Q:=by
 refine⟨1,?_⟩;rw[u1_];refine⟨1,?_⟩;rw[xc_];refine o9_ hT (fun h H1 p p1=> ?_) fun st h H1 sp ms ml mi b a o=> ?_
 ·simp only[aI_,aB_,bB_,gj_,ak_,aT_];rw[az_ (show (!false)=true from rfl)];simp only[aI_,aB_,dS_,aV_,ah_,bi_,bB_,ai_,aT_];exact h1 h H1 p1
 ·simp only[aI_,aB_,bB_,gj_,ak_,aT_,af_,kN];rw[aD_ (show (!true)=false from rfl)];have kn:=c0_ h;have sto:=kn.good.sto;have k:=kn.many;unfold dM_ at k;obtain⟨q0,q1,q2,q3,q4⟩:=o.at_.rd;rw[ad_ q4,ah_];show ez_ [.g (.sl a (aA_ st).length 5)] H1 _;refine⟨1,?_⟩;rw[rP_];simp only[aN_,ai_];rw[aD_ (by decide)];show ba_ [.g (.ptr (some (sp,0)))] H1 _;refine sH_ o.at_ sto (by omega) fun H2 st' kp hl S g ho=> ?_;have pH:H<+:H2:=CM_ fun l hl'=>by
   have:=o.low; have:=o.pre.length_le;rw[kp l (by omega) (by omega) (by omega),br_ o.pre hl']
  have c1:st'.snaps.length=st.snaps.length:=by rw[g.snaps]
  have c2:st'.links.length≤st.links.length:=(dP_ st.links st'.links (dk_ g.sto.nd.links) g.sub).1;have c3:st'.inos.length≤st.inos.length:=by
   have:=(dP_ (st.inos.map (·.1)) (st'.inos.map (·.1)) g.sto.nd.inos fun k hk=>by
    obtain⟨x,hx,rfl⟩:=mem_map.1 hk;obtain⟨y,hy⟩:=rU_ sto g hx;exact mem_map.2 ⟨_,hy,rfl⟩).1
   simpa using this
  obtain⟨q0,q1,q2,q3,q4⟩:=S.rd;refine⟨1,?_⟩;rw[ot_];simp only[af_,kN];rw[ad_ q1,dW_];refine lJ_ S.snaps ?_;rw[ad_ q2,dW_];refine lJ_ S.links ?_;rw[ad_ q3,dW_];refine lJ_ S.inos ?_;simp only[aN_,ai_,iI_];rw[cy_ (n:=(st'.snaps.length:Int)+st'.links.length) (by omega) (by omega),cy_ (by omega) (by omega)];refine aa_ (fun e=>by simp at e; omega) fun _=> ?_;obtain⟨hpos,hdec,_⟩:=jW_ h;have hTK:TrK H2 x n (d3_ T):=⟨cs,T,hT.mono pH,hpos,rfl⟩;refine tP_ S g.sto.ok (by omega) hTK (FU_ sto hdec g) fun H3 x' kv' p3 t hp=> ?_;simp only[dE_,aV_,ah_,bi_,aI_,aB_,dS_,bB_,ai_,aT_];refine h2 st h H3 x' (pH.trans p3) ?_;rw[←EJ_ sto g ho t.asc hp]; exact t
end
end Go.Am
section
set_option maxRecDepth 100000
namespace Go.Am
open List
theorem map_set {α β:Type} [DecidableEq α] {ps:List (α × β)} (r:(ps.map (·.1)).Nodup) {k:α} {g:α × β→α × β} (D:m < ps.length) (h:ps[m].1=k):(ps.map fun x=>if x.1=k then g x else x)=ps.set m (g ps[m]):=by
 apply ext_getElem (by simp);intro j A I;rw[getElem_map,getElem_set];have G:j < ps.length:=by grind
 by_cases e:m=j
 ·grind
 ·rw[if_neg e,if_neg];intro q;apply e;exact (getElem_inj (h₀:=by grind) (h₁:=by simpa) r).1 (by grind)
section
variable {B H:Hp} {Q:Post} {sp n1 n2 n3:Nat} {a1 a2 a3:Pl} {st:StD}
theorem cR_.updS (h:cR_ B H sp (some (A,0)) n1 a2 n2 a3 n3 st) (V:m < st.snaps.length) (Y:j < 5) (N:(wu_ st.snaps[m]).set j v=wu_ x')
 (W:∀ D,D.length=H.length→cR_ B D sp (some (A,0)) n1 a2 n2 a3 n3 { st with snaps:=st.snaps.set m x' }→K D):wr H A (m*5+j) v K:=by
 have ⟨t,Z⟩:=h.row;have O:=h.l1;rcases h.snaps with⟨q,_⟩ | ⟨l,e,J,r,U⟩
 ·cases q
 ·cases e;refine cr_ r (by omega) ?_;have I:=u6_ (m:=5) (fun _=>rfl) Y st.snaps m V N;have F:=(kC.1 r).1;rw[I];refine W _ (by simp) ⟨⟨t,by grind⟩,ej_ h.pre J _,h.base,.inr ⟨A,rfl,J,by rw[kH F],by rw[←I]; simp [U]⟩,h.links.set (fun e=>h.d12 A rfl e) _,h.inos.set (fun e=>h.d13 A rfl e) _,by simpa using h.l1,h.l2,h.l3,h.d12,h.d13,h.d23,h.s1,h.s2,h.s3⟩
end
section
variable {H:Hp} {Q:Post} {x:Pl} {n:Nat} {cs:List PC} {T:List Pg}
theorem q5_ {A F:ByteArray} (hT:Tr H x n cs T) (Z:A.size≤140737488351232) (Y:F.size≤140737488351232)
 (h0:ofD T=none→∀ H',H<+:H'→Q (.tup [.a [.sl none 0 5],.s (.int .i64 2000)]) H')
 (h1:∀ st e,ofD T=some st→eV_ (aA_ st) A F=e→e≠0→∀ H',H<+:H'→Q (.tup [.a [.sl none 0 5],.s (.int .i64 e)]) H')
 (h2:∀ st,ofD T=some st→eV_ (aA_ st) A F=0→∀ H' x',H<+:H'→TrK H' x' 48 (cc_ (e0_ (eQ_ st A F)))→Q (.tup [.a [.sl x' 48 5],.s (.int .i64 0)]) H'):
 eZ_ [.agg [.sl x n 5],.g (.str A),.g (.str F)] H Q:=by
 refine⟨2,?_⟩;rw[ue_];have I:∀ k:Nat,tN (k:Int)=k:=fun _=>rfl;refine dR_ hT (fun e H' p hp=> ?_) (fun st e B H' sp a1 n1 a2 n2 a3 n3 hB hR=> ?_)
 ·simp only[aI_,aB_,bB_,gj_,ak_,aT_];exact aa_ (fun _=>h0 e H' hp) (fun e=>by cases e)
 ·simp only[aI_,aB_,bB_,gj_,ak_,aT_];refine aa_ (fun e=>by cases e) (fun _=> ?_);have K:=c0_ e;have hm:=K.many;unfold dM_ at hm;have ⟨_,hd,hok⟩:=jW_ e;refine eB_ hR ⟨by omega,by omega,by omega⟩ (nT_ hok) fun G a pG ha=> ?_;simp only[aN_,ah_];refine qD_ ha K.asc K.from_ K.size.1 K.size.2 Z Y fun G1 b1 m1 pG1=> ?_;simp only[aI_,aB_,bB_,ah_,ai_,aT_];have D:=hR.mono (pG.trans pG1);refine aa_ (fun q=> ?_) (fun q=> ?_)
  ·exact h1 st _ e rfl (by simpa using q) G1 (hB.trans D.pre)
  have hw:eV_ (aA_ st) A F=0:=by simpa using q
  obtain⟨w1,w2,⟨i,hi,O⟩,hto⟩:=wm_ hw;have ⟨him,J⟩:=hX_ hi;obtain⟨z,hz,ez,hfz⟩:=K.infos.get him;have hz1:z.1=A:=by rw[ez] at J; exact J
  have gd:=zU_ K.good K.infos hw;refine fx_ D (by omega) (fun k O ek hmin=> ?_) (fun q=> ?_)
  ·simp only[aN_,ai_,af_];obtain⟨W,g2,g3⟩:=D.rd;rw[ad_ W,ah_];have hl1:=D.l1;refine ab_ rfl (ab_ (by simp<;>omega) ?_);obtain⟨l,e1,r1,r2,r3,r4,r5⟩:=D.snapG k O;subst e1;simp only[af_,I,kN];refine D.updS O (by omega) (x':=(F,st.snaps[k].2)) rfl fun G2 hG2 V=> ?_;obtain⟨W,g2,g3⟩:=V.rd;rw[kQ] at W;rw[ad_ W,ah_];refine ab_ rfl (ab_ (by simp<;>omega) ?_);simp only[af_,I,kN];have U:k < (st.snaps.set k (F,st.snaps[k].2)).length:=by rw[length_set]; exact O
   have hgk:=getElem_set_self U;refine V.updS (j:=2) U (by omega) (x':=(F,⟨st.snaps[k].2.id,2,st.snaps[k].2.parent,st.snaps[k].2.label⟩)) (by dsimp only; rw[hgk]; rfl) fun G3 hG3 hR3=> ?_;have hst:(⟨(st.snaps.set k (F,st.snaps[k].2)).set k (F,⟨st.snaps[k].2.id,2,st.snaps[k].2.parent,st.snaps[k].2.label⟩),st.links,st.inos⟩)=eQ_ st A F:=by
    unfold eQ_;rw[map_set K.good.sto.nd.snaps O ek,set_set]
   have N:cR_ B G3 sp (some (l,0)) n1 a2 n2 a3 n3 (eQ_ st A F):=by rw[←hst]; exact hR3
   refine gT_ N gd.sto ⟨?_,?_,?_⟩ (jm_ gd).2.2 fun G4 x' pG4 hT'=> ?_
   ·unfold eQ_; dsimp only; rw[length_map]; omega
   ·unfold eQ_; dsimp only; omega
   ·unfold eQ_; dsimp only; omega
   ·simp only[dE_,aV_,ah_,bi_];exact h2 st e hw G4 x' (hB.trans pG4) hT'
  ·obtain⟨j,hj,ej⟩:=kK hz;have:=q j hj;rw[ej] at this;exact absurd hz1 this
theorem Fo_ {id frm:Int} (e:l.1.1=frm) (r:look st.inos l.2.1=some y):hL_ id frm st l=⟨st.snaps,st.links++[((id,l.1.2),(l.2.1,false))],gi_ st.inos l.2.1 ⟨y.links+1,y.content⟩⟩:=by
 unfold hL_;grind
theorem EL_ {id frm:Int} (e: ¬ l.1.1=frm):hL_ id frm st l=st:=by
 unfold hL_;grind
theorem jD_ {name parent:ByteArray} {kind:Int} (hT:Tr H x n cs T) (hs1:name.size≤140737488351232) (hs2:parent.size≤140737488351232)
 (h0:ofD T=none→∀ H',H<+:H'→Q (.tup [.a [.sl none 0 5],.s (.int .i64 2000)]) H')
 (h1:∀ st e,ofD T=some st→g8_ (aA_ st) name parent kind=e→e≠0→∀ H',H<+:H'→Q (.tup [.a [.sl none 0 5],.s (.int .i64 e)]) H')
 (h2:∀ st,ofD T=some st→g8_ (aA_ st) name parent kind=0→∀ H' x',H<+:H'→TrK H' x' 48 (cc_ (e0_ (cW_ st name parent kind)))→Q (.tup [.a [.sl x' 48 5],.s (.int .i64 0)]) H'):
 a0_ [.agg [.sl x n 5],.g (.str name),.g (.str parent),.g (.int .i64 kind)] H Q:=by
 refine⟨100,?_⟩;rw[rL_];have etn:∀ k:Nat,tN (k:Int)=k:=fun _=>rfl;refine dR_ hT (fun e H' p hp=> ?_) (fun st e B H' sp a1 n1 a2 n2 a3 n3 hB hR=> ?_)
 ·simp only[aI_,aB_,bB_,gj_,ak_,aT_];exact aa_ (fun _=>h0 e H' hp) (fun e=>by cases e)
 ·simp only[aI_,aB_,bB_,gj_,ak_,aT_];refine aa_ (fun e=>by cases e) (fun _=> ?_);have K:=c0_ e;have hm:=K.many;have hm':=hm;unfold dM_ at hm;obtain⟨_,hd,hok⟩:=jW_ e;refine eB_ hR ⟨by omega,by omega,by omega⟩ (nT_ hok) fun G a pG ha=> ?_;simp only[aN_,ah_];refine pv_ ha K.asc K.from_ K.size.1 K.size.2 hs1 hs2 fun G1 b1 m1 pG1=> ?_;simp only[aI_,aB_,bB_,ah_,ai_,aT_];have hR1:=hR.mono (pG.trans pG1);refine aa_ (fun q=> ?_) (fun q=> ?_)
  ·exact h1 st _ e rfl (by simpa using q) G1 (hB.trans hR1.pre)
  have hw:g8_ (aA_ st) name parent kind=0:=by simpa using q
  obtain⟨w1,w2,w3,w4,w5,w6⟩:=v0_ hw;have P:=l6_ K.good hm' K.infos hw;have gd:=P.good;obtain⟨⟨k1,k2⟩,k3,k4⟩:=n1_ (st:=st) (by omega);refine qp_ hR1 ⟨by omega,by omega⟩ ?_;simp only[aN_,ai_];obtain⟨frm0,ls0,KK,_⟩:=vZ_ K.good.sto hm' parent;have hks:=KK.snaps;have hpd:cW_ st name parent kind=⟨(oX_ st parent).snaps++[(name,⟨dx_ st,kind,parent,mkS []⟩)],(oX_ st parent).links,(oX_ st parent).inos⟩:=rfl;have hkl:(oX_ st parent).links.length≤200∧(oX_ st parent).inos.length≤100:=by
   obtain⟨frm,ls,KK,hls⟩:=vZ_ K.good.sto hm' parent;have h1:=KK.len;have h2:=KK.nos;have:ls.length≤60:=by
    rcases hls with q | ⟨_,q,_⟩
    ·rw[q]; simp
    ·rw[q]; omega
   omega
  obtain⟨fid,hfid⟩:∃ fid,dx_ st=fid:=⟨_,rfl⟩;rw[hfid] at k1 k2 k3 k4 hpd ⊢;generalize hkid:oX_ st parent=S at hpd hkl hks;have l18:∀ (F:Nat) (G:Hp) (a2:Pl) (n2:Nat) (a3:Pl) (n3:Nat),cR_ B G sp a1 n1 a2 n2 a3 n3 S→a0_.l18 (F+1) name parent kind none 0 (some (sp,0)) fid G Q:=by
   intro F G a2 n2 a3 n3 hR;rw[a0_.l18_eq];obtain⟨g1,g2,g3⟩:=hR.rd;simp only[af_];rw[ad_ g1,ah_];have hl1:=hR.l1;refine ab_ rfl ?_;refine hR.putS (name,⟨fid,kind,parent,mkS []⟩) (by rw[hl1,hks]; omega) fun a1' G2 hR2=> ?_;have hR2':cR_ B G2 sp a1' (n1+1) a2 n2 a3 n3 (cW_ st name parent kind):=by rw[hpd]; exact hR2
   refine gT_ hR2' gd.sto ⟨?_,?_,?_⟩ (jm_ gd).2.2 fun G4 x' pG4 hT'=> ?_
   ·rw[P.snaps,kI]; simp; omega
   ·rw[hpd]; dsimp only; omega
   ·rw[hpd]; dsimp only; omega
   ·simp only[dE_,aV_,ah_,bi_];exact h2 st e hw G4 x' (hB.trans pG4) hT'
  refine aa_ (fun e=> ?_) (fun e=> ?_)
  ·have hne: ¬ parent=mkS []:=by simpa using e
   simp only[af_];obtain⟨g1,g2,g3⟩:=hR1.rd;rw[ad_ g1,ah_];have hl1:=hR1.l1;have hl2:=hR1.l2;have hpar:∃ y,look st.snaps parent=some y:=by
    unfold kP_ at w5;rw[decide_eq_false hne,Bool.false_or] at w5;cases hf:dl_ (aA_ st) parent with
    | none=>rw[hf] at w5; cases w5
    | some i=>
     obtain⟨him,hin⟩:=hX_ hf;obtain⟨z,hz,ez,_⟩:=K.infos.get him;refine⟨z.2,?_⟩;have:=fP_ K.good.sto.nd.snaps hz;rw[show z.1=parent by rw[ez] at hin; exact hin] at this;exact this
   obtain⟨px,hpx⟩:=hpar;have hS:S=st.links.foldl (hL_ fid px.id) st:=by
    rw[←hkid,←hfid];unfold oX_;rw[decide_eq_false hne];dsimp only;rw[hpx]
   refine fx_ hR1 (by omega) (fun k hk ek hmin=> ?_) (fun q=> ?_)
   ·simp only[aN_,ai_];rw[ad_ g1,ah_];refine⟨rfl,ab_ rfl (ab_ (by simp<;>omega) ?_)⟩;obtain⟨l,e1,r1,r2,_⟩:=hR1.snapG k hk;have hxk:=Bj_ (st:=st) hk ek hmin hpx;rw[e1];simp only[af_,etn,kN,kQ];rw[ad_ r2,ai_,hxk];have g2':gt G1 sp 1=some (.sl a2 n2 4):=by simpa using g2
    rw[ad_ g2',ah_];have l12:∀ (f i F:Nat) (G:Hp) (a2:Pl) (n2':Nat) (a3:Pl) (n3':Nat),f=st.links.length - i→i≤st.links.length→f+2≤F→Kid st fid px.id (st.links.take i) ((st.links.take i).foldl (hL_ fid px.id) st)→st.links<+:((st.links.take i).foldl (hL_ fid px.id) st).links→cR_ B G sp a1 n1 a2 n2' a3 n3' ((st.links.take i).foldl (hL_ fid px.id) st)→
     a0_.l12 F name parent kind none 0 (some (sp,0)) fid px.id ((st.links.length:Nat):Int) ((i:Nat):Int) G Q:=by
     intro f;induction f with
     | zero=>
      intro i F G a2 n2' a3 n3' hf hi hF hK hpre hR;obtain⟨F,rfl⟩:∃ G,F=G+1+1:=⟨F - 2,by omega⟩;rw[a0_.l12_eq];refine aa_ (fun e=>by simp at e<;>omega) (fun _=> ?_);rw[take_of_length_le (by omega),←hS] at hR;exact l18 F G a2 n2' a3 n3' hR
     | succ f ih=>
      intro i F G a2 n2' a3 n3' hf hi hF hK hpre hR;have hil:i < st.links.length:=by omega
      obtain⟨F,rfl⟩:∃ G,F=G+1:=⟨F - 1,by omega⟩;have hfold:(st.links.take (i+1)).foldl (hL_ fid px.id) st=hL_ fid px.id ((st.links.take i).foldl (hL_ fid px.id) st) st.links[i]:=by
       rw[take_add_one,kG hil,Option.toList_some,foldl_append]; rfl
      generalize hS1:(st.links.take i).foldl (hL_ fid px.id) st=S1 at hK hpre hR hfold;have hnd:∀ m∈st.links.take i,m.1≠st.links[i].1:=fun m hm q=>by
       obtain⟨j,hj,rfl⟩:=kK hm;rw[getElem_take] at q;have hj':j < i:=by rw[length_take] at hj; omega
       have:=(getElem_inj (h₀:=by rw[length_map]; omega) (h₁:=by rw[length_map]; omega) K.good.sto.nd.links).1 (show (st.links.map (·.1))[j]'(by rw[length_map]; omega)=(st.links.map (·.1))[i]'(by rw[length_map]; omega) by rw[getElem_map,getElem_map]; exact q);omega
      have hstep:=zL_ K.good.sto k1 k2 k4 (by omega) (ls:=st.links.take i) (l:=st.links[i]) (kE hil) (fun m hm=>mem_of_mem_take hm) hnd (by rw[length_take]; omega) hK;have htk:st.links.take i++[st.links[i]]=st.links.take (i+1):=by rw[take_add_one,kG hil]; rfl
      rw[htk] at hstep;have hlen1:=hK.len;rw[length_take] at hlen1;have hno1:=hK.nos;have hil1:i < S1.links.length:=by have:=hpre.length_le; omega
      have hli:S1.links[i]=st.links[i]:=by
       obtain⟨r,hr⟩:=hpre;have:S1.links[i]? =st.links[i]? :=by rw[←hr,kM hil]
       rw[kG hil1,kG hil] at this;exact Option.some.inj this
      have hl2':=hR.l2;rw[a0_.l12_eq];refine aa_ (fun _=> ?_) (fun e=>by simp at e<;>omega);obtain⟨g1,g2,g3⟩:=hR.rd;simp only[af_];rw[ad_ g2,ah_];refine ab_ rfl (ab_ (by simp<;>omega) ?_);obtain⟨lk,e2,q1,q2,q3,q4,_⟩:=hR.linkG i hil1;rw[hli] at q1 q2 q3 q4;rw[e2];simp only[af_,etn,kN];rw[ad_ q1,ai_,ad_ q2,ax_,ad_ q3,ai_,ad_ q4,ak_];have w1:ac_ .i64 (((i:Nat):Int)+1)=((i+1:Nat):Int):=an_ (by omega);refine aa_ (fun e=> ?_) (fun e=> ?_)
      ·have e':st.links[i].1.1=px.id:=by simpa using e
       obtain⟨y0,_,hy0,_⟩:=K.good.sto.ino (kE hil);obtain⟨y,hym⟩:=(hK.text st.links[i].2.1).2 ⟨y0,hy0⟩;have hy:=(dp_ hK.sto.nd.inos).2 hym;have heq:=Fo_ (id:=fid) (frm:=px.id) e' hy;rw[ad_ (show gt G sp 1=some (.sl a2 n2' 4) by simpa using g2),ah_];refine ab_ rfl ?_;refine hR.putL ((fid,st.links[i].1.2),(st.links[i].2.1,false)) (by omega) fun a2' G2 hR2=> ?_;obtain⟨g1',g2',g3'⟩:=hR2.rd;rw[ad_ (show gt G2 sp 2=some (.sl a3 n3' 3) by simpa using g3'),ah_];refine fo_ hR2 (by dsimp only; omega) ?_;simp only[aN_,ai_];obtain⟨mm,hmm,em,ey⟩:=sn_ hy;rw[em,ad_ (show gt G2 sp 2=some (.sl a3 n3' 3) by simpa using g3'),ah_];have hl3':=hR2.l3;dsimp only at hl3';refine⟨rfl,ab_ rfl (ab_ (by simp<;>omega) ?_)⟩;obtain⟨lr,e3,z1,z2,z3⟩:=hR2.inoG mm hmm;subst e3;simp only[af_,etn,kN,kQ];rw[ad_ z2,ai_];refine ab_ rfl (ab_ (by simp<;>omega) ?_);have hcy:=(cJ_.1 hK.sto.lk).2 _ hym;dsimp only at hcy;have hcl:eX_ S1 st.links[i].2.1≤S1.links.length:=countP_le_length;rw[ey];dsimp only;rw[cy_ (n:=y.links+1) (by omega) (by omega)];refine hR2.updI hmm _ fun G3 hG3 hR3=> ?_;rw[w1];have hfin:(⟨S1.snaps,S1.links++[((fid,st.links[i].1.2),(st.links[i].2.1,false))],S1.inos.set mm (S1.inos[mm].1,⟨y.links+1,S1.inos[mm].2.content⟩)⟩:StD)=hL_ fid px.id S1 st.links[i]:=by
        rw[heq,v6_ hK.sto.nd.inos hmm ey,ey]
       have hR3':cR_ B G3 sp a1 n1 a2' (n2'+1) (some (lr,0)) n3' (hL_ fid px.id S1 st.links[i]):=by rw[←hfin]; exact hR3
       refine ih (i+1) F G3 a2' _ _ n3' (by omega) hil (by omega) (by rw[hfold]; exact hstep) ?_ (by rw[hfold]; exact hR3');rw[hfold,heq];exact hpre.trans (prefix_append _ _)
      ·have e': ¬ st.links[i].1.1=px.id:=by simpa using e
       have heq:=EL_ (id:=fid) (frm:=px.id) (st:=S1) e';rw[heq] at hfold hstep;rw[w1];exact ih (i+1) F G a2 n2' a3 n3' (by omega) hil (by omega) (by rw[hfold]; exact hstep) (by rw[hfold]; exact hpre) (by rw[hfold]; exact hR)
    rw[hl2];refine l12 _ 0 99 G1 a2 n2 a3 n3 rfl (kP _) (by omega) ?_ (prefix_refl _) hR1;exact⟨K.good.sto,rfl,by simp,rfl,fun l=>by simp,fun k=>Iff.rfl,fun k y y' g1 g2=>by
     have e1:=(dp_ K.good.sto.nd.inos).2 g1;have e2:=(dp_ K.good.sto.nd.inos).2 g2;rw[e1] at e2; rw[Option.some.inj e2]⟩
   ·obtain⟨j,hj,ej⟩:=kK (dr_ hpx);have:=q j hj;rw[ej] at this;exact absurd rfl this
  ·have hpe:parent=mkS []:=by simpa using e
   have hS:S=st:=by rw[←hkid]; unfold oX_; rw[decide_eq_true hpe]
   rw[←hS] at hR1;exact l18 98 G1 a2 n2 a3 n3 hR1
end
end Go.Am
end
namespace Go.Am
open List
def d4_ (is:List InfoR) (name:ByteArray):Int:=match bk_ name 4 with
 | false=>1901
 | true=>match (dl_ is name).isSome with
  | false=>1903
  | true=>match is.any (fun y=>decide (y.parent=name)) with
   | true=>1906
   | false=>0
def fG_ (st:StD) (name:ByteArray):StD:=⟨ps_ st.snaps name,st.links,st.inos⟩
theorem pU_ (h:d4_ is name=0):bk_ name 4=true∧(∃ i,dl_ is name=some i)∧∀ y∈is,y.parent≠name:=by
 unfold d4_ at h;cases w:bk_ name 4 with
 | false=>rw[w] at h; cases h
 | true=>
  rw[w] at h;cases f:dl_ is name with
  | none=>rw[f] at h; cases h
  | some i=>
   grind
theorem GL_ [DecidableEq α] {x:α × β}:x∈ps_ ps k↔x∈ps∧x.1≠k:=by
 unfold ps_; simp
theorem nv_ (g:em_ st) (F:cG_ st is) (W:d4_ is name=0):em_ (fG_ st name):=by
 have ⟨w,_,Y⟩:=pU_ W;have G:∀ x∈st.snaps,x.2.parent≠name:=fun x A=>by
  have ⟨i,Z,e,_⟩:=F.put g.sto.nd.snaps A;grind
 have sub:(fG_ st name).snaps.Sublist st.snaps:=filter_sublist;have D:∀ p,fi_ (uh_ st.snaps) p→p≠name→fi_ (uh_ (fG_ st name).snaps) p:=fun p r=>by
  induction r with
  | nil=>exact fun _=> .nil
  | step V N _ O=>
   intro I;have ⟨x,A,e⟩:=i1_.1 V;subst e;exact fi_.step (i1_.2 ⟨x,GL_.2 ⟨A,I⟩,rfl⟩) N (O (G x A))
 exact uB_ ⟨⟨fun x A=>g.sto.ok.snaps x (sub.mem A),g.sto.ok.links,g.sto.ok.inos⟩,⟨g.sto.nd.snaps.sublist (sub.map _),g.sto.nd.links,g.sto.nd.inos⟩,g.sto.lk⟩ (g.ids.sublist (sub.map _)) (Nat.le_trans sub.length_le g.few) (fun x A U J=>g.info x (sub.mem A) U ⟨J.asc,J.mem⟩) fun x A=>D _ (g.hdr F x (sub.mem A)) (G x (sub.mem A))
section
variable {H:Hp} {Q:Post}
theorem qJ_ {b:Nat} {a:Pl} {is:List InfoR} {name:ByteArray} (h:cH_ H b a is) (ha:hB_ is) (hf:bA_ is is.length 0=true) (hn:is.length≤900)
 (hsz:∀ x∈is,x.name.size≤140737488351232∧x.files.length≤100000∧∀ f∈x.files,f.1.size≤140737488351232) (hs1:name.size≤140737488351232)
 (hQ:∀ H' a' n',H<+:H'→Q (.tup [.s (.sl a' n' 5),.s (.int .i64 (d4_ is name))]) H'):
 ce_ [.g (.sl a is.length 5),.g (.str name)] H Q:=by
 refine⟨is.length+2,?_⟩;rw[t7_];have etn:∀ k:Nat,tN (k:Int)=k:=fun _=>rfl;have hrd:=h.rd;have hfl:∀ i∈is,i.files.length≤100000:=fun i hi=>(hsz i hi).2.1;have h0:=hQ H none 0 (prefix_refl _);have main:∀ i3:Int,(i3 < 0→dl_ is name=none)→(0≤i3→∃ k:Nat,i3=k∧(dl_ is name).isSome=true)→
  (cl aU_ [(.g (.sl a is.length 5))] H fun r4 H5=>rG r4 fun v6=>dB v6 fun b7=>b2_ (!b7) (Q (.tup [(.s (.sl none 0 5)),(.s (.int .i64 1900))]) H5)
   (cl bg_ [(.g (.str name))] H5 fun r8 H9=>rG r8 fun v10=>dB v10 fun b11=>b2_ (!b11) (Q (.tup [(.s (.sl none 0 5)),(.s (.int .i64 1901))]) H9)
    (b2_ (ltI i3 0) (Q (.tup [(.s (.sl none 0 5)),(.s (.int .i64 1903))]) H9) (ce_.l9 (is.length+1) a is.length name i3 0 H9 Q)))):=fun i3 hA hB=>by
  refine dU_ hrd ha (by omega) hsz ?_;rw[hf];refine cb_ hs1 ?_;refine aa_ (fun e=>by rw[show d4_ is name=1901 by unfold d4_; rw[dY_ e]] at h0; exact h0) (fun e=> ?_);have w1:=eE_ e;refine aa_ (fun e=> ?_) fun e=> ?_
  ·rw[show d4_ is name=1903 by unfold d4_; rw[w1,hA (by simpa using e)]; rfl] at h0; exact h0
  obtain⟨k,rfl,hs⟩:=hB (by simp at e; omega);have eR:d4_ is name=match is.any (fun y=>decide (y.parent=name)) with | true=>1906 | false=>0:=by unfold d4_; rw[w1,hs]
  have loop:∀ (f i:Nat),is.length - i < f→i≤is.length→(∀ j (hj:j < is.length),j < i→is[j].parent≠name)→ce_.l9 f a is.length name ((k:Nat):Int) ((i:Nat):Int) H Q:=by
   intro f;induction f with
   | zero=>omega
   | succ f ih=>
    intro i hf' hi hp;rw[ce_.l9_eq];refine aa_ (fun e=> ?_) fun e=> ?_
    ·have hi':i < is.length:=by simpa using e
     refine ab_ rfl (ab_ (by simp; omega) ?_);obtain⟨l,o,p,e1,r1,r2,r3,r4,r5,r6⟩:=hrd _ hi';rw[e1];simp [af_,etn];rw[show o+i*5+2=o+i*5+1+1 from rfl,ad_ r3,ax_];refine aa_ (fun e=> ?_) fun e=> ?_
     ·rw[show is.any (fun y=>decide (y.parent=name))=true from any_eq_true.2 ⟨_,kE hi',by simpa using e⟩] at eR;rw[eR] at h0; exact h0
     ·have e: ¬ is[i].parent=name:=by simpa using e
      rw[an_ (by omega),←e1];refine ih (i+1) (by omega) hi' fun j hj hji=> ?_;rcases Nat.lt_or_eq_of_le (Nat.le_of_lt_succ hji) with q | q
      ·exact hp j hj q
      ·subst q; exact e
    ·have hi':i=is.length:=by simp at e; omega
     have:is.any (fun y=>decide (y.parent=name))=false:=by
      rw[any_eq_false];intro y hy;obtain⟨j,hj,rfl⟩:=kK hy;simpa using hp j hj (by omega)
     rw[this] at eR;refine fT_ h hn hfl fun G a0 pG hi0=> ?_;simp [aN_,ah_];refine j2_ hi0.rd hn fun G1 a1 pG1 hr1=> ?_;simp [aN_,ah_];have:=hQ G1 a1 (is.eraseIdx k).length (pG.trans pG1);rw[eR] at this;omega
  exact loop _ 0 (by omega) (kP _) fun j _ h=>by omega
 refine fH_ hrd ha (by omega) (fun hin=> ?_) (fun hin=> ?_)
 ·simp [aN_,ai_];rw[(jX_ ha).1] at hin;exact main _ (fun h=>by omega) fun _=>⟨_,rfl,hin⟩
 ·simp only[aN_,ai_];exact main _ (fun _=>k8_ ha hin) fun h=>by omega
end
section
variable {B H:Hp} {Q:Post} {sp n1 n2 n3:Nat} {a1 a2 a3:Pl} {st:StD}
theorem cR_.setS (h:cR_ B H sp a1 n1 a2 n2 a3 n3 st) {G:Hp} (p:H<+:G) (o:Own G H.length y1_ a' (n'*5) (ls.flatMap wu_)) (O:n'=ls.length)
 (J:∀ I,cR_ B I sp a' n' a2 n2 a3 n3 { st with snaps:=ls }→K I):wr G sp (0+0) (.sl a' n' 5) K:=by
 have r:=h.mono p;have ⟨t,N⟩:=r.row;have V:=h.spl;refine cr_ N (by simp) ?_;have A:a'≠some (sp,0):=fun e=>by have:=o.above e; omega
 have U:=ej_ r.pre r.base (.row true t ([.sl a1 n1 5,.sl a2 n2 4,.sl a3 n3 3].set (0+0) (.sl a' n' 5)));refine J _ ⟨⟨t,by grind⟩,U,r.base,?_,r.links.set h.s2 _,r.inos.set h.s3 _,O,h.l2,h.l3,?_,?_,h.d23,A,h.s2,h.s3⟩
 ·exact Own.set (o.base h.pre.length_le) A _
 ·intro l D F;have:=h.links.lt' F;have:=o.above D;omega
 ·intro l D F;have:=h.inos.lt' F;have:=o.above D;omega
end
section
variable {H:Hp} {Q:Post} {x:Pl} {n:Nat} {cs:List PC} {T:List Pg}
theorem hv_ {name:ByteArray} (hT:Tr H x n cs T) (hs1:name.size≤140737488351232)
 (h0:ofD T=none→∀ H',H<+:H'→Q (.tup [.a [.sl none 0 5],.s (.int .i64 2000)]) H')
 (h1:∀ st e,ofD T=some st→d4_ (aA_ st) name=e→e≠0→∀ H',H<+:H'→Q (.tup [.a [.sl none 0 5],.s (.int .i64 e)]) H')
 (h2:∀ st,ofD T=some st→d4_ (aA_ st) name=0→∀ H' x',H<+:H'→TrK H' x' 48 (cc_ (e0_ (fG_ st name)))→Q (.tup [.a [.sl x' 48 5],.s (.int .i64 0)]) H'):
 bL_ [.agg [.sl x n 5],.g (.str name)] H Q:=by
 refine⟨1000,?_⟩;rw[ud_];have etn:∀ k:Nat,tN (k:Int)=k:=fun _=>rfl;refine dR_ hT (fun e H' p hp=> ?_) (fun st hst B H' sp a1 n1 a2 n2 a3 n3 hB hR=> ?_)
 ·simp only[aI_,aB_,bB_,gj_,ak_,aT_];exact aa_ (fun _=>h0 e H' hp) (fun e=>by cases e)
 ·simp only[aI_,aB_,bB_,gj_,ak_,aT_];refine aa_ (fun e=>by cases e) (fun _=> ?_);have K:=c0_ hst;have hm:=K.many;unfold dM_ at hm;obtain⟨_,hd,hok⟩:=jW_ hst;refine eB_ hR ⟨by omega,by omega,by omega⟩ (nT_ hok) fun G a pG ha=> ?_;simp only[aN_,ah_];refine qJ_ ha K.asc K.from_ K.size.1 K.size.2 hs1 fun G1 b1 m1 pG1=> ?_;simp only[aI_,aB_,bB_,ah_,ai_,aT_];have hR1:=hR.mono (pG.trans pG1);refine aa_ (fun q=> ?_) (fun q=> ?_)
  ·exact h1 st _ hst rfl (by simpa using q) G1 (hB.trans hR1.pre)
  have hw:d4_ (aA_ st) name=0:=by simpa using q
  obtain⟨w1,⟨i,hi⟩,hpn⟩:=pU_ hw;obtain⟨him,hin⟩:=hX_ hi;obtain⟨z,hz,ez,hfz⟩:=K.infos.get him;have hz1:z.1=name:=by rw[ez] at hin; exact hin
  have gd:=nv_ K.good K.infos hw;refine fx_ hR1 (by omega) (fun k hk ek hmin=> ?_) (fun q=> ?_)
  ·simp only[aN_,ai_];have hdel:ps_ st.snaps name=st.snaps.eraseIdx k:=qA_ (v:=st.snaps[k].2) K.good.sto.nd.snaps (by rw[kG hk,←ek]);have hl1:=hR1.l1;have go:∀ (f j F:Nat) (G2:Hp) (a':Pl) (n':Nat),f=st.snaps.length - j→j≤st.snaps.length→f+1≤F→G1<+:G2→Own G2 G1.length y1_ a' (n'*5) (((st.snaps.take j).eraseIdx k).flatMap wu_)→n'=((st.snaps.take j).eraseIdx k).length→
    bL_.l10 F none 0 (some (sp,0)) ((k:Nat):Int) a' n' ((j:Nat):Int) G2 Q:=by
    intro f;induction f with
    | zero=>
     intro j F G2 a' n' hf hj hF hG ho hn';obtain⟨F,rfl⟩:∃ G,F=G+1:=⟨F - 1,by omega⟩;obtain⟨g1,g2,g3⟩:=(hR1.mono hG).rd;rw[bL_.l10_eq];simp only[af_];rw[ad_ g1,ah_];refine aa_ (fun e=>by simp at e; omega) (fun e=> ?_);rw[take_of_length_le (by omega)] at ho hn';refine hR1.setS hG ho hn' fun G3 hR3=> ?_;rw[←hdel] at hR3;have hsub:(ps_ st.snaps name).length≤st.snaps.length:=length_filter_le _ _;refine gT_ (st:=fG_ st name) hR3 gd.sto ⟨?_,?_,?_⟩ (jm_ gd).2.2 fun G4 x' pG4 hT'=> ?_
     ·unfold fG_; dsimp only; omega
     ·unfold fG_; dsimp only; omega
     ·unfold fG_; dsimp only; omega
     ·simp only[dE_,aV_,ah_,bi_];exact h2 st hst hw G4 x' (hB.trans pG4) hT'
    | succ f ih=>
     intro j F G2 a' n' hf hj hF hG ho hn';have hjl:j < st.snaps.length:=by omega
     obtain⟨F,rfl⟩:∃ G,F=G+1:=⟨F - 1,by omega⟩;have hR2:=hR1.mono hG;obtain⟨g1,g2,g3⟩:=hR2.rd;rw[bL_.l10_eq];simp only[af_];rw[ad_ g1,ah_];refine aa_ (fun e=> ?_) (fun e=>by simp at e; omega);have w1:ac_ .i64 (((j:Nat):Int)+1)=((j+1:Nat):Int):=an_ (by omega);have ht:=pY_ (i:=k) hjl;have hnl:((st.snaps.take j).eraseIdx k).length≤1000:=Nat.le_trans (length_eraseIdx_le _ _) (by rw[length_take]; omega);refine aa_ (fun e=> ?_) (fun e=> ?_)
     ·have e': ¬ j=k:=by simp at e; omega
      rw[if_neg e'] at ht;rw[ad_ g1,ah_];refine ab_ rfl (ab_ (by simp; omega) ?_);obtain⟨l,e1,r1,r2,r3,r4,r5⟩:=hR2.snapG j hjl;rw[e1];simp only[af_,etn,kN,kQ];rw[ad_ r1,ax_,ad_ r2,ai_,ad_ r3,ai_,ad_ r4,ax_,ad_ r5,ax_];refine ab_ rfl ?_;refine kb_ (H0:=G1) (by omega) hG ho (m:=1) rfl (by unfold Lim; omega) fun x' G'' o' ex fr=> ?_;rw[w1];refine ih (j+1) F G'' x' _ (by omega) hjl (by omega) ex.pre ?_ ?_
      ·rw[ht,flatMap_append,flatMap_singleton];exact o'
      ·rw[ht,kI]; simp; omega
     ·have e':j=k:=by simp at e; omega
      rw[if_pos e'] at ht;rw[w1];exact ih (j+1) F G2 a' n' (by omega) hjl (by omega) hG (by rw[ht]; exact ho) (by rw[ht]; exact hn')
   exact go _ 0 _ G1 none 0 rfl (kP _) (by omega) (prefix_refl _) (.inl ⟨rfl,rfl,rfl⟩) rfl
  ·obtain⟨j,hj,ej⟩:=kK hz;have:=q j hj;rw[ej] at this;exact absurd hz1 this
end
end Go.Am
section
namespace Go.Am
open List
def xv_ (kv:KV) (name parent:ByteArray) (kind:Int):Option KV:=match cP_ kv with
 | none=>none
 | some st=>match g8_ (aA_ st) name parent kind==0 with | true=>some (cc_ (e0_ (cW_ st name parent kind))) | false=>none
def sE_ (kv:KV) (name path content:ByteArray):Option KV:=match cP_ kv with
 | none=>none
 | some st=>match fR_ (aA_ st) name path content==0 with
  | true=>(match look st.snaps name with | some y=>some (cc_ (e0_ (ho_ st y.id path content))) | none=>none)
  | false=>none
def ut_ (kv:KV) (name to:ByteArray):Option KV:=match cP_ kv with
 | none=>none
 | some st=>match eV_ (aA_ st) name to==0 with | true=>some (cc_ (e0_ (eQ_ st name to))) | false=>none
def sW:ByteArray:=mkS [119]
def Cx_:ByteArray:=mkS [98,97,115,101]
def pd_:ByteArray:=mkS [119,111,114,107]
def IN_:Option KV:=xv_ [] sW (mkS []) 0
def IK_:Option KV:=IN_.bind fun k=>sE_ k sW (mkS [97]) (mkS [111,110,101])
def IO_:Option KV:=IK_.bind fun k=>ut_ k sW Cx_
def IP_:Option KV:=IO_.bind fun k=>xv_ k pd_ Cx_ 0
def It_:Option KV:=IP_.bind fun k=>sE_ k pd_ (mkS [98]) (mkS [116,119,111])
set_option maxRecDepth 1000000 in
def G2_:Bool:=match It_ with
 | none=>false
 | some k5=>match cP_ k5 with
  | none=>false
  | some st=>(bu_ st).isNone&&((d4_ (aA_ st) pd_==0)&&match cP_ (cc_ (e0_ (fG_ st pd_))) with
   | none=>false
   | some s6=> !(bu_ s6).isNone&&match cP_ (cc_ (d0_ s6)) with
    | none=>false
    | some s7=>(bu_ s7).isNone)
theorem Fy_:G2_=true:=by decide+kernel
end Go.Am
end
section
set_option maxRecDepth 100000
namespace Go.Am
open List
section
variable {H:Hp} {Q:Post} {x:Pl} {n:Nat} {kv kv':KV}
theorem x9_ (h:TrK H x n kv) (e:xv_ kv name parent kind=some kv') (r:name.size≤140737488351232) (D:parent.size≤140737488351232)
 (Y:∀ H' x',H<+:H'→TrK H' x' 48 kv'→Q (.tup [.a [.sl x' 48 5],.s (.int .i64 0)]) H'):a0_ [.agg [.sl x n 5],.g (.str name),.g (.str parent),.g (.int .i64 kind)] H Q:=by
 have ⟨W,T,G,N⟩:=gJ_ h;unfold xv_ at e;cases F:cP_ kv with
 | none=>rw[F] at e; cases e
 | some st=>
  rw[F] at e N;dsimp at e;cases I:g8_ (aA_ st) name parent kind==0 with
  | false=>rw[I] at e; cases e
  | true=>
   refine jD_ G r D (fun q=> ?_) (fun A U O J V=> ?_) (fun A O J H' x' p t=> ?_)
   ·grind
   ·grind
   ·grind
theorem vB_ (h:TrK H x n kv) (e:sE_ kv name path content=some kv') (r:name.size≤140737488351232) (D:path.size≤140737488351232)
 (Z:∀ H' x',H<+:H'→TrK H' x' 48 kv'→Q (.tup [.a [.sl x' 48 5],.s (.int .i64 0)]) H'):b4_ [.agg [.sl x n 5],.g (.str name),.g (.str path),.g (.str content)] H Q:=by
 have ⟨Y,T,J,U⟩:=gJ_ h;unfold sE_ at e;cases G:cP_ kv with
 | none=>rw[G] at e; cases e
 | some st=>
  rw[G] at e U;dsimp at e;cases F:fR_ (aA_ st) name path content==0 with
  | false=>rw[F] at e; cases e
  | true=>
   rw[F] at e;cases I:look st.snaps name with
   | none=>rw[I] at e; cases e
   | some y=>
    refine k3_ J r D (fun q=> ?_) (fun A W V O N=> ?_) (fun A y' V O N H' x' p t=> ?_)
    ·grind
    ·grind
    ·grind
theorem AM_ (h:TrK H x n kv) (e:ut_ kv name to=some kv') (r:name.size≤140737488351232) (D:to.size≤140737488351232)
 (Y:∀ H' x',H<+:H'→TrK H' x' 48 kv'→Q (.tup [.a [.sl x' 48 5],.s (.int .i64 0)]) H'):eZ_ [.agg [.sl x n 5],.g (.str name),.g (.str to)] H Q:=by
 have ⟨W,T,G,N⟩:=gJ_ h;unfold ut_ at e;cases F:cP_ kv with
 | none=>rw[F] at e; cases e
 | some st=>
  rw[F] at e N;dsimp at e;cases I:eV_ (aA_ st) name to==0 with
  | false=>rw[I] at e; cases e
  | true=>
   refine q5_ G r D (fun q=> ?_) (fun A U O J V=> ?_) (fun A O J H' x' p t=> ?_)
   ·grind
   ·grind
   ·grind
theorem GX_:∃ J F N I D st A G,xv_ [] sW (mkS []) 0=some J∧sE_ J sW (mkS [97]) (mkS [111,110,101])=some F∧ut_ F sW Cx_=some N∧xv_ N pd_ Cx_ 0=some I∧sE_ I pd_ (mkS [98]) (mkS [116,119,111])=some D∧cP_ D=some st∧
 (bu_ st).isNone=true∧d4_ (aA_ st) pd_=0∧cP_ (cc_ (e0_ (fG_ st pd_)))=some A∧(bu_ A).isNone=false∧cP_ (cc_ (d0_ A))=some G∧(bu_ G).isNone=true:=by
 have h:=Fy_;unfold G2_ at h;cases U:It_ with
 | none=>rw[U] at h; cases h
 | some D=>
  rw[U] at h;have r:=U;have ⟨I,V,r⟩:=Option.bind_eq_some_iff.1 r;have ⟨N,Z,V⟩:=Option.bind_eq_some_iff.1 V;have ⟨F,O,Z⟩:=Option.bind_eq_some_iff.1 Z;have ⟨J,e1,O⟩:=Option.bind_eq_some_iff.1 O;dsimp at h;cases Y:cP_ D with
  | none=>rw[Y] at h; cases h
  | some st=>
   rw[Y] at h;simp only[kR,beq_iff_eq] at h;cases W:cP_ (cc_ (e0_ (fG_ st pd_))) with
   | none=>rw[W] at h; cases h.2.2
   | some A=>
    rw[W] at h;simp only[kR,Bool.not_eq_true'] at h;cases h7:cP_ (cc_ (d0_ A)) with
    | none=>rw[h7] at h; cases h.2.2.2
    | some G=>
     rw[h7] at h;exact⟨J,F,N,I,D,st,A,G,e1,O,Z,V,r,Y,h.1,h.2.1,W,h.2.2.1,h7,h.2.2.2⟩
theorem id_ (H:Hp):Tr H none 0 [] []:=⟨rfl,rfl,rfl,fun i h=>by simp⟩
theorem z6_:ofD []=none:=by
 have:decide (0 < aK_ [])=false:=by decide+kernel
 unfold ofD;grind
theorem oi_ (h:ofD T=some st) (e:(bu_ st).isNone=b):hR_ T=b:=by
 unfold hR_; rw[h]; exact e
theorem eC_ {E:Nat→Sm} (hQ:∀ H',H<+:H'→Q (.g (.bool true)) H'):cd_ E [] H Q:=by
 obtain⟨k1,k2,k3,k4,k5,st,s6,s7,e1,e2,e3,e4,e5,e6,u1,u2,u3,u4,u5,u6⟩:=GX_;refine⟨1,?_⟩;rw[u5_];have sz:∀ l:List UInt8,l.length≤100→(mkS l).size≤140737488351232:=fun l h=>by rw[kZ_]; omega
 refine⟨1,?_⟩;rw[t0_];refine ic_ fun H1 p1 o1=> ?_;simp only[dE_,aV_,ah_,bi_];have T0:TrK H1 (some (H.length,0)) 48 []:=⟨r0_,newT,o1.tr,by rw[Hi_]; omega,Ct_⟩;refine x9_ T0 e1 (sz _ (by decide)) (sz _ (by decide)) fun H2 x2 p2 t2=> ?_;simp only[aI_,aB_,dS_,aV_,ah_,bi_,bB_,ai_,aT_];refine vB_ t2 e2 (sz _ (by decide)) (sz _ (by decide)) fun H3 x3 p3 t3=> ?_;simp only[aI_,aB_,dS_,aV_,ah_,bi_,bB_,ai_,aT_];refine AM_ t3 e3 (sz _ (by decide)) (sz _ (by decide)) fun H4 x4 p4 t4=> ?_;simp only[aI_,aB_,dS_,aV_,ah_,bi_,bB_,ai_,aT_];refine x9_ t4 e4 (sz _ (by decide)) (sz _ (by decide)) fun H5 x5 p5 t5=> ?_;simp only[aI_,aB_,dS_,aV_,ah_,bi_,bB_,ai_,aT_];refine vB_ t5 e5 (sz _ (by decide)) (sz _ (by decide)) fun H6 x6 p6 t6=> ?_;simp only[aI_,aB_,dS_,aV_,ah_,bi_,bB_,ai_,aT_,dE_];obtain⟨cs,T,hT,ho⟩:=gJ_ t6;rw[e6] at ho;have pp:H<+:H6:=p1.trans (p2.trans (p3.trans (p4.trans (p5.trans p6))));refine hv_ hT (sz _ (by decide)) (fun q=>by rw[ho] at q; cases q) (fun st' e q q2 q3=> ?_) fun st' q q2 H7 x7 p7 t7=> ?_
 ·rw[ho] at q; cases q;rw[show d4_ (aA_ st) (mkS [119,111,114,107])=0 from u2] at q2;exact absurd q2.symm q3
 rw[ho] at q; cases q;simp only[aI_,aB_,dS_,aV_,ah_,bi_,bB_,ai_,aT_];obtain⟨c7,T7,hT7,ho7⟩:=gJ_ t7;rw[show cc_ (e0_ (fG_ st (mkS [119,111,114,107])))=cc_ (e0_ (fG_ st pd_)) from rfl,u3] at ho7;refine cO_ hT7 (fun q=>by rw[ho7] at q; cases q) fun st' q H8 x8 p8 t8=> ?_;rw[ho7] at q; cases q;simp only[aI_,aB_,dS_,aV_,ah_,bi_,bB_,ai_,aT_];obtain⟨c8,T8,hT8,ho8⟩:=gJ_ t8;rw[u5] at ho8;refine cO_ (id_ H8) (fun _ H9 p9=> ?_) (fun st' q=>by rw[z6_] at q; cases q);simp only[aI_,aB_,dS_,aV_,ah_,bi_,bB_,ai_,aT_];have p69:=p7.trans (p8.trans p9);refine dJ_ (hT.mono p69) fun Ha pa=> ?_;rw[oi_ ho u1];simp only[aN_,ak_];refine aa_ (fun _=> ?_) (fun e=>by cases e);refine dJ_ (hT7.mono ((p8.trans p9).trans pa)) fun Hb pb=> ?_;rw[oi_ ho7 u4];simp only[aN_,ak_];refine aa_ (fun _=> ?_) (fun e=>by cases e);refine cM_ ?_;simp only[aN_,ai_];refine aa_ (fun _=> ?_) (fun e=>by cases e);refine lq_ (hT8.mono (p9.trans (pa.trans pb))) fun Hc pc=> ?_;rw[oi_ ho8 u6];simp only[aN_,ak_];refine aa_ (fun _=> ?_) (fun e=>by cases e);refine cM_ ?_;simp only[aN_,ai_];refine aa_ (fun _=> ?_) (fun e=>by cases e);refine dJ_ (id_ Hc) fun Hd pd=> ?_;have:hR_ []=false:=by unfold hR_; rw[z6_]
 rw[this];simp only[aN_,ak_];exact hQ Hd (pp.trans (p69.trans (pa.trans (pb.trans (pc.trans pd)))))
end
end Go.Am
end
section
set_option maxRecDepth 100000
namespace Go.Am
open List
def law22_CleansN:Sm:=hz_ au_
theorem sM_:ao_ Go.Proofs.Tryz.prog 3 law22_CleansN:=tU_ au_ (lo_ _)
theorem H5_ (e:Int) (h:0 < aK_ T):jd_ e T=0:=by unfold jd_; rw[decide_eq_true h]
section
variable {H:Hp} {Q:Post} {x:Pl} {n:Nat} {cs:List PC} {T:List Pg}
theorem n6_ (h:TrK H x n kv) (G:∀ a H',H<+:H'→Kv H' a kv.length kv→Q (.tup [.s (.sl a kv.length 2),.s (.int .i64 0)]) H'):eg_ [.agg [.sl x n 5]] H Q:=by
 have ⟨I,A,r,F,D⟩:=h.ex;refine pb_ r fun a m H' p o l=> ?_;subst D;subst l;have:=G a H' p (o.kv rfl);rwa [H5_ _ F]
theorem qb_ (hT:Tr H x n cs T) (hn:n*80≤140737488351232) (hQ:∀ H',Q (.g (.bool true)) H'):law22_CleansN [.agg [.sl x n 5]] H Q:=by
 refine⟨1,?_⟩;rw[tZ_];refine se_ hT hn fun a' ds H1 C=> ?_;simp only[dE_,aV_,ah_,bi_];have p1:=C.pre;have hC:=C.ot.tr;have V:∀ (e:Int) (N xb:Pl) (J nb:Nat) (G:Hp),H1<+:G→(e≠0∧N=none∧J=0∨e=0∧∃ kv,TrK G N J kv∧TrK G xb nb kv)→
  cl dd_ [(.g (.int .i64 e))] G fun r35 H36=>rG r35 fun v37=>dI .i64 v37 fun i38=>b2_ (!(eqI i38 e)) (Q (.g (.bool false)) H36)
   (cl (cn_ au_) [(.agg [(.sl a' n 5)])] H36 fun r39 H40=>rG r39 fun v41=>dB v41 fun b42=>cl ev_ [(.agg [(.sl x n 5)])] H40 fun r43 O=>rG r43 fun v45=>dB v45 fun b46=>
    b2_ (!(eqB b42 b46)) (Q (.g (.bool false)) O)
    (cl bb_ [(.agg [(.sl a' n 5)]),(.agg [(.sl x n 5)])] O fun r47 I=>rG r47 fun v49=>dB v49 fun b50=>b2_ (!b50) (Q (.g (.bool false)) I)
     (b2_ (!(eqI e 0))
      (cl bb_ [(.agg [(.sl N J 5)]),(.agg [(.sl none 0 5)])] I fun r51 H52=>rG r51 fun v53=>dB v53 fun b54=>b2_ b54
       (cl (cd_ au_) [] H52 fun r55 H56=>rG r55 fun v57=>dB v57 fun b58=>Q (.g (.bool b58)) H56) (Q (.g (.bool false)) H52))
      (cl eg_ [(.agg [(.sl N J 5)])] I fun r59 H60=>rT r59 fun c61=>uR c61 fun q62 c63=>rS q62 fun v64=>dL 2 v64 fun x65 n66=>uR c63 fun q67 c68=>rS q67 fun v69=>dI .i64 v69 fun i70=>
       uE c68 (cl eg_ [(.agg [(.sl xb nb 5)])] H60 fun r71 U=>rT r71 fun c73=>uR c73 fun q74 c75=>rS q74 fun v76=>dL 2 v76 fun x77 n78=>uR c75 fun q79 c80=>rS q79 fun v81=>dI .i64 v81 fun i82=>
       uE c80 (b2_ (eqI i70 0)
       (cl bP_ [(.g (.sl x65 n66 2)),(.g (.sl x77 n78 2))] U fun r83 W=>rG r83 fun v85=>dB v85 fun b86=>b2_ b86
        (cl (cd_ au_) [] W fun r87 H88=>rG r87 fun v89=>dB v89 fun b90=>Q (.g (.bool b90)) H88) (Q (.g (.bool false)) W))
       (Q (.g (.bool false)) U))))))):=by
  intro e N xb J nb G pG hr;refine cM_ ?_;simp only[aN_,ai_];rw[aD_ (by simp)];refine dJ_ (hC.mono pG) fun G1 q1=> ?_;simp only[aN_,ak_];refine lq_ (hT.mono (p1.trans (pG.trans q1))) fun G2 q2=> ?_;simp only[aN_,ak_];rw[aD_ (by simp)];have D:=q1.trans q2;refine dA_ (hC.mono (pG.trans D)) (hT.mono (p1.trans (pG.trans D))) (by omega) fun b Z=> ?_;rw[Z.2 rfl];simp only[aN_,ak_];rw[aD_ (show (!true)=false from rfl)];rcases hr with⟨h1,rfl,rfl⟩ | ⟨rfl,kv,t1,t2⟩
  ·rw[az_ (by simp_all)];refine dA_ (id_ _) (id_ _) (by omega) fun b Z=> ?_;rw[Z.2 rfl];simp only[aN_,ak_];rw[az_ rfl];refine eC_ fun G3 _=> ?_;simp_all
  ·rw[aD_ (by simp)];refine n6_ (t1.mono D) fun a1 G3 q3 k1=> ?_;simp only[aI_,aB_,bB_,ah_,ai_,aT_];refine n6_ (t2.mono (D.trans q3)) fun a2 G4 q4 k2=> ?_;simp only[aI_,aB_,bB_,ah_,ai_,aT_];rw[az_ (by simp)];refine oL_ (k1.mono q4) k2 (by have:=t1.ex; obtain⟨_,A,_,_,e⟩:=this; have:=lg_ A; rw[e] at this; omega) fun b Z=> ?_;rw[Z.2 rfl];simp only[aN_,ak_];rw[az_ rfl];refine eC_ fun G3 _=> ?_;simp_all
 refine cO_ hC (fun h H2 Y=> ?_) fun st h H2 x2 Y t2=> ?_
 ·simp only[aI_,aB_,dS_,aV_,ah_,bi_,bB_,ai_,aT_];refine k6_ (hT.mono (p1.trans Y)) (fun _ H3 p3=> ?_) fun st F=>by rw[h] at F; cases F
  simp only[aI_,aB_,dS_,aV_,ah_,bi_,bB_,ai_,aT_];exact V _ _ none _ 0 H3 (Y.trans p3) (.inl ⟨by decide,rfl,rfl⟩)
 ·simp only[aI_,aB_,dS_,aV_,ah_,bi_,bB_,ai_,aT_];refine k6_ (hT.mono (p1.trans Y)) (fun F=>by rw[h] at F; cases F) fun st' F H3 x3 p3 t3=> ?_;rw[h] at F; cases F;simp only[aI_,aB_,dS_,aV_,ah_,bi_,bB_,ai_,aT_];exact V _ _ _ _ _ H3 (Y.trans p3) (.inr ⟨rfl,_,t2.mono p3,t3⟩)
end
end Go.Am
end
section
set_option maxRecDepth 100000
namespace Go.Am
open List
def law22_CleanTwiceN:Sm:=fu_ au_
theorem nt_:ao_ Go.Proofs.Tryz.prog 5 law22_CleanTwiceN:=oE_ au_ (lo_ _)
theorem s4_ (h:∀ l∈st.links,∃ x∈st.snaps,x.2.id=l.1.1):bu_ st=none:=by
 unfold bu_;grind
theorem uS_ (h:fU_ a b) (A:bu_ a=none):bu_ b=none:=s4_ fun l D=>by
 have ⟨x,r,e⟩:=e2_ A l (h.links.mem_iff.1 D);exact⟨x,h.snaps.mem_iff.2 r,e⟩
theorem jK_ (K:te_ T st):∃ r,cP_ (cc_ (d0_ st))=some r∧fU_ (d0_ st) r∧aA_ r=aA_ st∧bu_ r=none:=by
 have ⟨g,D⟩:=gV_ K.good.sto;have ⟨r,G,A,F,_⟩:=lb_ (g.good K.good);exact⟨r,G,A,(g.infos.1 F).unique K.infos,uS_ A D⟩
theorem tr_ (h:ofD T=some st) (e:bu_ st=none):hR_ T=true:=oi_ h (by grind)
section
variable {H:Hp} {Q:Post} {x:Pl} {n:Nat} {cs:List PC} {T:List Pg}
theorem lQ_ (hT:Tr H x n cs T) (hn:n*80≤140737488351232) (hQ:∀ H',Q (.g (.bool true)) H'):law22_CleanTwiceN [.agg [.sl x n 5]] H Q:=by
 refine⟨1,?_⟩;rw[oG_];refine eC_ fun H1 p1=> ?_;simp only[aN_,ak_];rw[aD_ (show (!true)=false from rfl)];refine cO_ (hT.mono p1) (fun h H2 p2=> ?_) fun st h H2 x2 p2 t2=> ?_
 ·simp only[aI_,aB_,dS_,aV_,ah_,bi_,bB_,ai_,aT_];refine cM_ ?_;simp only[aN_,ai_];rw[az_ (by simp)];refine dA_ (id_ _) (id_ _) (by omega) fun b hb=> ?_;simp_all
 simp only[aI_,aB_,dS_,aV_,ah_,bi_,bB_,ai_,aT_];refine cM_ ?_;simp only[aN_,ai_];rw[aD_ (by simp)];have K:=c0_ h;obtain⟨s2,b1,b2,b3,b4⟩:=jK_ K;obtain⟨c2,T2,F,G⟩:=gJ_ t2;rw[b1] at G;have K2:=c0_ G;obtain⟨s3,d1,d2,d3,d4⟩:=jK_ K2;refine cO_ F (fun r=>by grind) fun D r H3 x3 Y t3=> ?_;rw[G] at r; cases r;simp only[aI_,aB_,dS_,aV_,ah_,bi_,bB_,ai_,aT_];obtain⟨c3,T3,J,O⟩:=gJ_ t3;rw[d1] at O;have Z:=p1.trans (p2.trans Y);refine c9_ (hT.mono Z) (fun r=>by simp_all) fun D r H4 e4 a4 W _ i4=> ?_;rw[h] at r; cases r;simp only[aI_,aB_,bB_,ah_,ai_,aT_];refine c9_ (F.mono (Y.trans W)) (fun r=>by rw[G] at r; cases r) fun D r H5 e5 a5 U _ V=> ?_;rw[G] at r; cases r;simp only[aI_,aB_,bB_,ah_,ai_,aT_];refine c9_ (J.mono (W.trans U)) (fun r=>by rw[O] at r; cases r) fun D r H6 e6 a6 N _ i6=> ?_;rw[O] at r; cases r;simp only[aI_,aB_,bB_,ah_,ai_,aT_];refine cM_ ?_;simp only[aN_,ai_];rw[az_ (by simp)];have I:=W.trans (U.trans N);refine dJ_ (F.mono (Y.trans I)) fun H7 p7=> ?_;rw[tr_ G b4];simp only[aN_,ak_];rw[az_ rfl];refine dJ_ (J.mono (I.trans p7)) fun H8 p8=> ?_;rw[tr_ O d4];simp only[aN_,ak_];rw[az_ rfl,az_ (by simp),az_ (by simp),az_ (by decide)];rw[b3] at V;rw[d3,b3] at i6;rw[d3,b3];have A:=p7.trans p8;have hf:∀ i∈aA_ st,i.files.length≤100000:=fun i hi=>(K.size.2 i hi).2.1;refine gH_ (i4.rd.pre (U.trans (N.trans A))) (V.rd.pre (N.trans A)) (by have:=K.size.1; omega) hf ?_;simp only[aN_,ak_];rw[az_ rfl];refine gH_ (V.rd.pre (N.trans A)) (i6.rd.pre A) (by have:=K.size.1; omega) hf ?_;simp only[aN_,ak_];exact hQ _
end
end Go.Am
end
section
set_option maxRecDepth 100000
namespace Go.Am
open List
def law22_CleanLessN:Sm:=b3_ au_
theorem or_:ao_ Go.Proofs.Tryz.prog 6 law22_CleanLessN:=pS_ au_ (lo_ _)
theorem CE_ {α:Type} (f g:α→Nat):∀ l:List α,(l.map fun i=>f i+g i).sum=(l.map f).sum+(l.map g).sum
 | []=>rfl
 | x::l=>by simp [CE_ f g l]; omega
theorem Cj_:∀ {s:List Int},s.Nodup→k∈s→(s.map fun i=>if k=i then 1 else 0).sum=1
 | i::s,r,A=>by
  have r:=nodup_cons.1 r;rw[map_cons,sum_cons];by_cases e:k=i
  ·have:∀ s:List Int,k∉s→(s.map fun i=>if k=i then 1 else 0).sum=0:=fun s=>by
    induction s with
    | nil=>intro _; rfl
    | cons j s D=>
     grind
   grind
  ·rw[if_neg e,Cj_ r.2 ((mem_cons.1 A).resolve_left e)]
theorem xO_ {s:List Int} (r:s.Nodup):∀ {ks:List Int},(∀ k∈ks,k∈s)→(s.map fun i=>ks.countP fun k=>decide (k=i)).sum=ks.length
 | [],_=>by
  have:∀ s:List Int,(s.map fun _=>0).sum=0:=fun s=>by
   induction s with
   | nil=>rfl
   | cons _ s D=>simpa
  simp_all
 | k::ks,h=>by
  have e:(s.map fun i=>(k::ks).countP fun k=>decide (k=i))=s.map fun i=>(ks.countP fun k=>decide (k=i))+(if k=i then 1 else 0):=map_congr_left fun i _=>by
   grind
  rw[e,CE_,xO_ r fun k A=>h k (by grind),Cj_ r (h k (by simp))]; rfl
def rl_ (is:List InfoR):Nat:=(is.map fun i=>i.files.length).sum
theorem By_ (hi:(st.snaps.map fun x=>x.2.id).Nodup) (F:bu_ st=none):rl_ (aA_ st)=st.links.length:=by
 have h:=xO_ hi (ks:=st.links.map (·.1.1)) fun k r=>by
  obtain⟨l,D,rfl⟩:=mem_map.1 r;have ⟨x,A,e⟩:=e2_ F l D;grind
 rw[length_map] at h;rw[←h];unfold rl_ aA_;rw[map_map,map_map];congr 1;refine map_congr_left fun x A=> ?_;show (nQ_ st x.2.id).length=(st.links.map (·.1.1)).countP fun k=>decide (k=x.2.id);unfold nQ_;rw[length_map,countP_map,countP_eq_length_filter];rfl
section
variable {H:Hp} {Q:Post} {x:Pl} {n:Nat} {cs:List PC} {T:List Pg}
theorem mt_ (hT:Tr H x n cs T) (hn:n*80≤140737488351232) (hQ:∀ H',Q (.g (.bool true)) H'):law22_CleanLessN [.agg [.sl x n 5]] H Q:=by
 refine⟨902,?_⟩;rw[pQ_];refine eC_ fun H1 p1=> ?_;simp only[aN_,ak_];rw[aD_ (show (!true)=false from rfl)];refine cO_ (hT.mono p1) (fun h H2 p2=> ?_) fun st h H2 x2 p2 t2=> ?_
 ·simp only[aI_,aB_,dS_,aV_,ah_,bi_,bB_,ai_,aT_];refine cM_ ?_;simp only[aN_,ai_];rw[az_ (by decide)];refine dA_ (id_ _) (id_ _) (by omega) fun b hb=> ?_;rw[hb.2 rfl];simp only[aN_,ak_];exact hQ _
 simp only[aI_,aB_,dS_,aV_,ah_,bi_,bB_,ai_,aT_];refine cM_ ?_;simp only[aN_,ai_];rw[aD_ (by decide)];have K:=c0_ h;obtain⟨s2,b1,b2,b3,b4⟩:=jK_ K;obtain⟨c2,T2,hT2,o2⟩:=gJ_ t2;rw[b1] at o2;have K2:=c0_ o2;obtain⟨m1,m2,m3⟩:=v5_ K.good.sto;have l1:=b2.snaps.length_eq;have l2:=b2.links.length_eq;have l3:=b2.inos.length_eq;have hm:=K.many;unfold dM_ at hm;refine dR_ (hT.mono (p1.trans p2)) (fun h'=>by rw[h] at h'; cases h') fun st' h' B3 H3 sp a1 n1 a2 n2 a3 n3 q3 r3=> ?_;rw[h] at h'; cases h';simp only[aI_,aB_,bB_,gj_,ak_,aT_];have p3:=q3.trans r3.pre;refine dR_ (hT2.mono p3) (fun h'=>by rw[o2] at h'; cases h') fun st' h' B4 H4 sp' b1 m1' b2' m2' b3' m3' q4 r4=> ?_;rw[o2] at h'; cases h';simp only[aI_,aB_,bB_,gj_,ak_,aT_];have p4:=q4.trans r4.pre;refine c9_ (hT2.mono (p3.trans p4)) (fun h'=>by rw[o2] at h'; cases h') fun st' h' H5 e5 a5 p5 _ i5=> ?_;rw[o2] at h'; cases h';simp only[aI_,aB_,bB_,ah_,ai_,aT_];have etn:∀ k:Nat,tN (k:Int)=k:=fun _=>rfl;have hfm:=By_ K2.good.ids b4;have hil:=K2.size.1;have hR3:=r3.mono (p4.trans p5);have hR4:=r4.mono p5;have take:∀ i,rl_ ((aA_ s2).take i)≤s2.links.length:=fun i=>by
  rw[←hfm];have:=congrArg rl_ (take_append_drop i (aA_ s2));unfold rl_ at this ⊢;simp only[kL,sum_append] at this;omega
 have loop:∀ (f i:Nat),(aA_ s2).length - i < f→i≤(aA_ s2).length→b3_.l11 au_ f (some (sp,0)) (some (sp',0)) true a5 (aA_ s2).length 0 ((rl_ ((aA_ s2).take i):Nat):Int) (i:Int) H5 Q:=by
  intro f;induction f with
  | zero=>intro i h; omega
  | succ f ih=>
   intro i hf hi;rw[b3_.l11_eq];refine aa_ (fun e=> ?_) fun e=> ?_
   ·have hi':i < (aA_ s2).length:=by simpa using e
    refine ab_ rfl (ab_ (by simp; omega) ?_);obtain⟨l,o,p,e1,_,_,_,_,r5,_⟩:=i5.rd _ hi';rw[e1];simp only[af_,etn];rw[show o+i*5+4=o+i*5+1+1+1+1 from rfl,ad_ r5,ah_,an_ (by omega),←e1];have e2:rl_ ((aA_ s2).take (i+1))=rl_ ((aA_ s2).take i)+(aA_ s2)[i].files.length:=by
     unfold rl_;rw[take_add_one,kG hi',kL,sum_append]; rfl
    have t1:=take i;have t2:=take (i+1);rw[iI_,cy_ (by omega) (by omega)];have:=ih (i+1) (by omega) hi';rw[e2] at this;simpa using this
   ·have hi':i=(aA_ s2).length:=by simp at e; omega
    rw[hi',take_length,hfm];obtain⟨x1,x2,x3⟩:=hR3.rd;obtain⟨y1,y2,y3⟩:=hR4.rd;rw[kN] at x2 x3 y2 y3;simp only[af_,kN];rw[kN] at x1 y1;rw[az_ rfl,az_ (by decide),ad_ y2,ah_,az_ (by simp [r4.l2]),ad_ y1,ah_,ad_ x1,ah_,az_ (by simp [r4.l1,r3.l1]; omega),ad_ y2,ah_,ad_ x2,ah_,az_ (by simp [r4.l2,r3.l2]; omega),ad_ y3,ah_,ad_ x3,ah_];have:leI (nI m3') (nI n3)=true:=by simp [r4.l3,r3.l3]; omega
    rw[this];exact hQ _
 exact loop _ 0 (by omega) (kP _)
end
end Go.Am
end
section
set_option maxRecDepth 100000
namespace Go.Am
open List
def law22_CleanNoneN:Sm:=aO_ au_
theorem oz_:ao_ Go.Proofs.Tryz.prog 4 law22_CleanNoneN:=pq_ au_ (lo_ _)
theorem D7_ (h:0 < aK_ A) (e:cS_ A=[]):A=newT:=by
 have ⟨P,w⟩:=k9_ h;rw[e] at w;have ⟨p,G⟩:=w.sub.get;have N:=w.sub.may G;have D:p=⟨true,true,[],[],[]⟩∧P=[0]:=by
  cases I:p.leaf with
  | true=>
   have ⟨_,h2,h3⟩:=w.sub.leafD G I;have ⟨f1,f2,_⟩:=N.2.leaf I;have hu:=N.2.used;have ⟨u,l,F,V,is⟩:=p;have:F=[]:=by
    cases F with
    | nil=>rfl
    | cons k F=>
     cases V with
     | nil=>cases f1
     | cons v V=>cases h3
   grind
  | false=>
   exfalso;have hs:=w.sub;revert hs;cases hd:aK_ A with
   | zero=>exact fun h=>h
   | succ d=>
    rintro⟨q,U,_,⟨_,O,_⟩ | ⟨_,P',_,W⟩⟩
    ·grind
    ·rw[G] at U; cases U;have r:=(N.2.inner I).1;revert W;cases hks:p.kids with
     | nil=>exact fun h=>h
     | cons k F=>
      cases J:p.keys with
      | nil=>rw[J] at r; simp at r
      | cons s ss=>
       rintro⟨P1,ps1,P2,ps2,O,_,_,Y,_⟩;exact ea_.ne O (append_eq_nil_iff.1 Y.symm).1
 obtain⟨rfl,rfl⟩:=D;apply ext_getElem?;intro i;cases i with
 | zero=>rw[G]; rfl
 | succ i=>
  by_cases Z:i+1 < 48
  ·have hA:A[i+1]? =some (A[i+1]'(by rw[w.len]; exact Z)):=kG _;rw[hA,vv_ (w.rest _ _ hA (by simp))];show _=(replicate 47 noPg)[i]?;grind
  ·rw[getElem?_eq_none (by rw[w.len]; omega)];show _=(replicate 47 noPg)[i]?;grind
inductive tm_ (is:List InfoR):Nat→ByteArray→Prop
 | nil:tm_ is 0 (mkS [])
 | step {y:InfoR} {n:Nat}:y∈is→tm_ is n y.parent→tm_ is (n+1) y.name
theorem EM_ (r:fi_ is p):∃ n,tm_ is n p:=by
 induction r with
 | nil=>exact⟨0,.nil⟩
 | step D _ _ A=>have ⟨n,h⟩:=A; exact⟨n+1,.step D h⟩
theorem FI_ (F:∀ i∈is,i.name≠mkS []) (I:∀ i∈is,∀ j∈is,i.name=j.name→i=j) (r:tm_ is a p):∀ {b:Nat},tm_ is b p→a=b:=by
 induction r with
 | nil=>
  intro b h;generalize A:mkS []=p at h;cases h with
  | nil=>rfl
  | step D _=>exact absurd A.symm (F _ D)
 | @step y n D N G=>
  intro b h;generalize A:y.name=p at h;cases h with
  | nil=>exact absurd A (F _ D)
  | @step z m J O=>
   grind
theorem most {α:Type} (f:α→Nat):∀ {l:List α},l≠[]→∃ i∈l,∀ j∈l,f j≤f i
 | [x],_=>⟨x,by simp,fun j r=>by rw[mem_singleton.1 r]; exact kO _⟩
 | x::y::l,_=>by
  have ⟨i,A,h⟩:=most f (l:=y::l) (by simp);grind
theorem Dd_ (D:hB_ is):∀ i∈is,∀ j∈is,i.name=j.name→i=j:=fun i F j G e=>by
 obtain⟨a,r,rfl⟩:=kK F;obtain⟨b,A,rfl⟩:=kK G;rcases Nat.lt_trichotomy a b with q | q | q
 ·have:=pairwise_iff_getElem.1 D a b r A q;rw[e,cA_] at this; cases this
 ·grind
 ·have:=pairwise_iff_getElem.1 D b a A r q;rw[e,cA_] at this; cases this
theorem Ga_ (K:te_ T st) (A:aA_ st≠[]):∃ i∈aA_ st,d4_ (aA_ st) i.name=0:=by
 have G:=fun i r=>tg_ (wc_ K.from_ i r);have I:∀ i∈aA_ st,i.name≠mkS []:=fun i r e=>by have:=do_ (G i r); rw[e] at this; simp at this
 have N:=fun i r=>EM_ (K.good.root _ K.infos i r)
 let f:InfoR→Nat:=fun i=>Classical.epsilon fun n=>tm_ (aA_ st) n i.parent
 have D:∀ i∈aA_ st,tm_ (aA_ st) (f i) i.parent:=fun i r=>Classical.epsilon_spec (N i r);have ⟨i,r,h⟩:=most f A;have U:(dl_ (aA_ st) i.name).isSome=true:=by
  rw[←(jX_ K.asc).1]; exact any_eq_true.2 ⟨i,r,by simp⟩
 have O:(aA_ st).any (fun y=>decide (y.parent=i.name))=false:=by
  rw[any_eq_false];intro y J e;have e:y.parent=i.name:=by grind
  have F:=D y J;rw[e] at F;have:=FI_ I (Dd_ K.asc) F (.step r (D i r));grind
 unfold d4_;grind
section
variable {H:Hp} {Q:Post} {x:Pl} {n:Nat} {cs:List PC} {T:List Pg}
theorem ES_ (U:Tr H x n cs T) (h:ofD T=some st) (D:aA_ st=[]) (hQ:∀ H',Q (.g (.bool true)) H') (f:Nat) (a:Pl):aO_.l6 au_ (f+1) x n a (aA_ st).length H Q:=by
 rw[aO_.l6_eq,D,aD_ (by simp)];refine cO_ U (fun r=>by grind) fun O r H2 x2 p2 I=> ?_;rw[h] at r; cases r;simp [aI_];refine cM_ ?_;simp [aN_];have K:=c0_ h;have ⟨g,ho⟩:=gV_ K.good.sto;have s0:st.snaps=[]:=map_eq_nil_iff.1 D;have l0:=eq_nil_iff_forall_not_mem.2 fun l G=>by
  have ⟨_,x,N,_⟩:=(uR_ g ho l).1 G;grind
 have W:=eq_nil_iff_forall_not_mem.2 fun x N=>by
  have ⟨l,G,_⟩:=vu_ g.sto N;grind
 have Y:cc_ (d0_ st)=[]:=by unfold cc_ kK_; rw[g.snaps,s0,l0,W]; rfl
 rw[Y] at I;have ⟨c2,A,hA,J,F⟩:=I.ex;rw[qo_ J] at F;have:=D7_ J F;refine ic_ fun H3 Z V=> ?_;simp [dE_];refine dA_ (hA.mono Z) V.tr (by omega) fun b hb=> ?_;simp_all
theorem xM_ (hQ:∀ H',Q (.g (.bool true)) H'):∀ (m:Nat) {F:Nat} {H:Hp} {x:Pl} {n:Nat} {cs:List PC} {T:List Pg} {st:StD} {a:Pl},(aA_ st).length=m→10*(m+1)≤F→Tr H x n cs T→ofD T=some st→dT_ H a (aA_ st)→aO_.l6 au_ F x n a (aA_ st).length H Q
 | 0,F,H,x,n,cs,T,st,a,hm,hF,hT,h,hi=>by
  obtain⟨F,rfl⟩:∃ G,F=G+1:=⟨F - 1,by omega⟩;exact ES_ hT h (length_eq_zero_iff.1 hm) hQ F a
 | m+1,F,H,x,n,cs,T,st,a,hm,hF,hT,h,hi=>by
  obtain⟨F,rfl⟩:∃ G,F=G+1:=⟨F - 1,by omega⟩;have K:=c0_ h;have hfew:(aA_ st).length≤6:=by unfold aA_; rw[length_map]; exact K.good.few
  rw[aO_.l6_eq,az_ (by simp; omega)];obtain⟨i0,hi0,h0⟩:=Ga_ K (fun e=>by rw[e] at hm; cases hm);obtain⟨k0,hk0,rfl⟩:=kK hi0;have next:∀ (st':StD) {f:Nat} {G:Hp} {x':Pl} {n':Nat} {cs':List PC} {T':List Pg},Tr G x' n' cs' T'→ofD T'=some st'→(aA_ st').length=m→10*(m+1)+1≤f→∀ i:Int,aO_.l9 au_ f x' n' a (aA_ st).length true i G Q:=by
   intro st' f G x' n' cs' T' hT' h' hm' hf i;obtain⟨f,rfl⟩:∃ g,f=g+1:=⟨f - 1,by omega⟩;have go:(cl b8_ [(.agg [(.sl x' n' 5)])] G fun r18 H19=>rT r18 fun c20=>uR c20 fun q21 c22=>rS q21 fun v23=>dL 5 v23 fun x24 n25=>uR c22 fun q26 c27=>rS q26 fun v28=>dI .i64 v28 fun i29=>
    uE c27 (aO_.l6 au_ f x' n' x24 n25 H19 Q)):=by
    refine c9_ hT' (fun e=>by rw[h'] at e; cases e) fun st2 e H3 b3 a3 p3 _ i3=> ?_;rw[h'] at e; cases e;simp only[aI_,aB_,bB_,ah_,ai_,aT_];exact xM_ hQ m hm' (by omega) (hT'.mono p3) h' i3.rd
   rw[aO_.l9_eq];refine aa_ (fun _=> ?_) fun _=> ?_
   ·rw[aD_ (show (!true)=false from rfl),aD_ (show (!true)=false from rfl)]; exact go
   ·rw[aD_ (show (!true)=false from rfl)]; exact go
  have loop:∀ (f i:Nat) (G:Hp),(aA_ st).length - i+(10*(m+1)+1) < f→i≤k0→H<+:G→aO_.l9 au_ f x n a (aA_ st).length false (i:Int) G Q:=by
   intro f;induction f with
   | zero=>intro i G h; omega
   | succ f ih=>
    intro i G hf hik pG;rw[aO_.l9_eq,az_ (by simp; omega),az_ (show (!false)=true from rfl)];refine ab_ rfl (ab_ (by simp; omega) ?_);have etn:∀ k:Nat,tN (k:Int)=k:=fun _=>rfl;obtain⟨l,o,p,e1,r1,_⟩:=(hi.pre pG) i (by omega);rw[e1];simp only[af_,etn,kQ];rw[ad_ r1,ax_,←e1];have hmem:(aA_ st)[i]'(by omega)∈aA_ st:=kE _;refine hv_ (hT.mono pG) (K.size.2 _ hmem).1 (fun e=>by rw[h] at e; cases e) (fun st' e q q2 q3 G2 p2=> ?_) fun st' q q2 G2 x2 p2 t2=> ?_
    ·rw[h] at q; cases q;simp only[aI_,aB_,dS_,aV_,ah_,bi_,bB_,ai_,aT_];rw[aD_ (by simpa using q3),an_ (by omega)];have hne:i≠k0:=fun z=>by
      subst z;rw[h0] at q2; exact q3 q2.symm
     exact ih (i+1) G2 (by omega) (by omega) (pG.trans p2)
    ·rw[h] at q; cases q;simp only[aI_,aB_,dS_,aV_,ah_,bi_,bB_,ai_,aT_];rw[az_ (by decide)];have g2:=nv_ K.good K.infos q2;obtain⟨s2,d1,d2,d3,_⟩:=sk_ g2;obtain⟨c2,T2,hT2,o2⟩:=gJ_ t2;rw[d1] at o2;have hlen:(aA_ s2).length=m:=by
      have l1:=d3.length_eq;obtain⟨_,⟨i1,hi1⟩,_⟩:=pU_ q2;obtain⟨z,hz,ez,_⟩:=K.infos.get hmem;obtain⟨k,hk,ek⟩:=kK hz;have hz1:z.1=((aA_ st)[i]'(by omega)).name:=by rw[ez]
      have e2:=qA_ (v:=z.2) K.good.sto.nd.snaps (k:=((aA_ st)[i]'(by omega)).name) (j:=k) (by rw[kG hk,ek,←hz1]);have l2:(fG_ st ((aA_ st)[i]'(by omega)).name).snaps.length=st.snaps.length - 1:=by
       show (ps_ st.snaps _).length=_;rw[e2,length_eraseIdx_of_lt hk]
      have l3:(aA_ st).length=st.snaps.length:=by unfold aA_; rw[length_map]
      unfold aA_;rw[length_map,l1,l2]; omega
     exact next s2 hT2 o2 hlen (by omega) _
  exact loop F 0 H (by omega) (kP _) (prefix_refl _)
theorem mA_ (r:Tr H x n cs T) (N:n*80≤140737488351232) (I:∀ H',Q (.g (.bool true)) H'):law22_CleanNoneN [.agg [.sl x n 5]] H Q:=by
 refine⟨1001,?_⟩;rw[p0_];refine eC_ fun J A=>c9_ (r.mono A) (fun h F D=> ?_) fun st h F U V D _ G=> ?_
 ·simp [aI_];refine dJ_ (r.mono (A.trans D)) fun O W=> ?_;have:hR_ T=false:=by unfold hR_; rw[h]
  simp_all
 ·simp [aI_];have K:=c0_ h;exact xM_ I _ rfl (by have:=K.good.few; unfold aA_; rw[length_map]; omega) (r.mono (A.trans D)) h G.rd
end
end Go.Am
end
section
set_option maxRecDepth 100000
namespace Go.Am
open List
def law22_CleanAfterN:Sm:=bV_ au_
theorem nO_:ao_ Go.Proofs.Tryz.prog 7 law22_CleanAfterN:=oP_ au_ (lo_ _)
theorem tR_.sam (h:fU_ st st') (nd:wM_ st) (g:tR_ st' c):tR_ st c:=
 ⟨g.sto,g.none,g.snaps.trans h.snaps,fun l=>by rw[g.links,h.links.mem_iff]; exact and_congr_right fun _=>⟨fun⟨x,r,e⟩=>⟨x,h.snaps.mem_iff.1 r,e⟩,fun⟨x,r,e⟩=>⟨x,h.snaps.mem_iff.2 r,e⟩⟩,fun l A=>by rw[g.file l A,h.file nd]⟩
theorem tR_.less (h:hI_ st st') (g:tR_ st' c):tR_ st c:=
 ⟨g.sto,g.none,by rw[←h.snaps]; exact g.snaps,fun l=>by rw[g.links,h.snaps]; exact⟨fun⟨a,b⟩=>⟨h.sub l a,b⟩,fun⟨a,b⟩=>⟨h.all l a b,b⟩⟩,fun l r=>by rw[g.file l r]; exact h.file l ((g.links l).1 r).1⟩
theorem xD_ (h:bu_ st=none):e0_ st=st:=by
 unfold e0_;cases decide (60 < dM_ st) with
 | false=>rfl
 | true=>
  show kQ_ _ st=st;cases st.links.length with
  | zero=>rfl
  | succ n=>unfold kQ_; rw[h]
structure Aft (a c:StD) (name:ByteArray) (y:SnapR):Prop where
 snaps:c.snaps.Perm (a.snaps++[(name,y)])
 par:y.parent=mkS []
 new:∀ x∈a.snaps,x.2.id≠y.id
 up:∀ l∈a.links,l∈c.links
 down:∀ l∈c.links,l∈a.links∨l.1.1=y.id
 file:∀ l∈a.links,bq_ c l=bq_ a l
theorem Aft.core (g:Aft a c name y) (I:Sto a) (F:bu_ a=none) (J:∀ x∈a.snaps,x.1≠name):tR_ (fG_ c name) a:=by
 have D:(ps_ c.snaps name).Perm a.snaps:=by
  have h:=g.snaps.filter fun p=> !decide (p.1=name);have e:a.snaps.filter (fun p=> !decide (p.1=name))=a.snaps:=filter_eq_self.2 fun x r=>by grind
  rw[filter_append,e] at h;simpa [ps_] using h
 refine⟨I,F,D.symm,fun l=>⟨fun A=>⟨g.up l A,?_⟩,fun⟨G,x,r,e⟩=> ?_⟩,fun l A=>(g.file l A).symm⟩
 ·have ⟨x,r,e⟩:=e2_ F l A;exact⟨x,D.mem_iff.2 r,e⟩
 ·rcases g.down l G with q | q
  ·exact q
  ·exact absurd (by omega) (g.new x (D.mem_iff.1 r))
theorem rX_ (r:x∈st.snaps):(⟨x.1,x.2.kind,x.2.parent,x.2.label,nQ_ st x.2.id⟩:InfoR)∈aA_ st:=mem_map.2 ⟨x,r,rfl⟩
theorem Aft.remove (g:Aft a c name y) (K:te_ T c) (D:bk_ name 4=true) (J:∀ x∈a.snaps,x.2.parent≠name):d4_ (aA_ c) name=0:=by
 have A:(name,y)∈c.snaps:=g.snaps.mem_iff.2 (by simp);have N:(dl_ (aA_ c) name).isSome=true:=by
  rw[←(jX_ K.asc).1]; exact any_eq_true.2 ⟨_,rX_ A,by simp⟩
 have I:(aA_ c).any (fun y=>decide (y.parent=name))=false:=by
  rw[any_eq_false];intro i r e;have e:i.parent=name:=by grind
  obtain⟨x,G,rfl⟩:=mem_map.1 r;rcases kD.1 (g.snaps.mem_iff.1 G) with q | q
  ·grind
  ·have:x=(name,y):=by grind
   subst this;have F:=do_ D;rw[←e,g.par] at F;simp_all
 unfold d4_;grind
theorem HN_ (K:te_ T st) (N:bk_ name 4=true) (I:dl_ (aA_ st) name=none):(∀ x∈st.snaps,x.1≠name)∧∀ x∈st.snaps,x.2.parent≠name:=by
 have A:∀ i∈aA_ st,i.name≠name:=fun i O e=>by
  unfold dl_ at I;grind
 refine⟨fun x D=>A _ (rX_ D),fun x D e=> ?_⟩;have r:=K.good.root _ K.infos _ (rX_ D);have r:fi_ (aA_ st) x.2.parent:=r;rw[e] at r;generalize F:name=p at r;cases r with
 | nil=>have G:=do_ N; rw[F] at G; simp at G
 | step J _ _=>exact A _ J F.symm
theorem FE_ {T2 T3:List Pg} (K:te_ T2 a) (U:bu_ a=none) (V:g8_ (aA_ a) name (mkS []) 0=0) (I:cP_ (cc_ (e0_ (cW_ a name (mkS []) 0)))=some c):
 Aft a c name ⟨dx_ a,0,mkS [],mkS []⟩∧bu_ c=none∧∀ l∈c.links,l∈a.links:=by
 have O:=K.many;unfold dM_ at O;have ⟨_,N,_⟩:=n1_ (st:=a) (by omega);have J:cW_ a name (mkS []) 0=⟨a.snaps++[(name,⟨dx_ a,0,mkS [],mkS []⟩)],a.links,a.inos⟩:=by
  have:oX_ a (mkS [])=a:=by unfold oX_; rw[decide_eq_true rfl]
  unfold cW_; rw[this]
 have g:=(l6_ K.good K.many K.infos V).good;have A:bu_ (cW_ a name (mkS []) 0)=none:=s4_ fun l r=>by
  have ⟨x,W,e⟩:=e2_ U l r;grind
 rw[xD_ A] at I;have ⟨Y,G,D,_⟩:=lb_ g;rw[I] at G; cases G;have F:∀ l∈c.links,l∈a.links:=fun l r=>by have:=D.links.mem_iff.1 r; exact this
 refine⟨⟨?_,rfl,N,fun l r=> ?_,fun l r=> .inl (F l r),fun l r=> ?_⟩,uS_ D A,F⟩
 ·have:=D.snaps; exact this
 ·exact D.links.mem_iff.2 (by grind)
 ·rw[D.file g.sto.nd,J]; rfl
theorem DA_ (K:te_ T b) (U:bu_ a=none) (W:bu_ b=none) (g:Aft a b name y) (Y:∀ l∈b.links,l∈a.links) (hw:fR_ (aA_ b) name path content=0) (N:look b.snaps name=some z)
 (I:cP_ (cc_ (e0_ (ho_ b z.id path content)))=some c):Aft a c name y:=by
 have G:(name,y)∈b.snaps:=g.snaps.mem_iff.2 (by simp);rw[fP_ K.good.sto.nd.snaps G] at N;cases N;have V:=K.many;unfold dM_ at V;have O:∀ l∈b.links,l.1.1≠y.id:=fun l r e=>by
  have ⟨x,Z,e2⟩:=e2_ U l (Y l r);exact g.new x Z (by omega)
 have eW:ho_ b y.id path content=kO_ b y.id path content:=by
  unfold ho_;cases h:o0_ b y.id path with
  | none=>rfl
  | some i=>
   have ⟨hi,e⟩:=p6_ h;grind
 have F:=(pr_ K.good K.infos (by omega) hw (fP_ K.good.sto.nd.snaps G)).1;rw[eW] at I F;have D:bu_ (kO_ b y.id path content)=none:=s4_ fun l r=>by
  rcases kD.1 r with q | q
  ·exact e2_ W l q
  ·have:l=((y.id,path),(eP_ b,true)):=by grind
   subst this;exact⟨_,G,rfl⟩
 rw[xD_ D] at I;have ⟨c',J,A,_⟩:=lb_ F;rw[I] at J; cases J;refine⟨A.snaps.trans g.snaps,g.par,g.new,fun l r=> ?_,fun l r=> ?_,fun l r=> ?_⟩
 ·exact A.links.mem_iff.2 (kD.2 (.inl (g.up l r)))
 ·rcases kD.1 (A.links.mem_iff.1 r) with q | q
  ·grind
  ·grind
 ·rw[A.file F.sto.nd,(xN_ K.good.sto (by omega)).1 l (g.up l r),g.file l r]
section
variable {H:Hp} {Q:Post} {x:Pl} {n:Nat} {cs:List PC} {T:List Pg}
theorem Ew_ (h:Sto st):(cc_ st).length=dM_ st:=by
 rw[(xE_ h).1.length_eq]; unfold kK_ dM_; simp; omega
theorem fU_.many (h:fU_ a b):dM_ b=dM_ a:=by unfold dM_; rw[h.snaps.length_eq,h.links.length_eq,h.inos.length_eq]
theorem xH_ {st a c:StD} {x2 x3:Pl} {name:ByteArray} {y:SnapR} {T2 T3:List Pg} {c3:List PC} (g0:Sto st) (t2:TrK H x2 48 (cc_ (d0_ st))) (hab:fU_ (d0_ st) a) (h2:cP_ (cc_ (d0_ st))=some a) (K2:te_ T2 a) (ho:bu_ a=none)
 (hT3:Tr H x3 48 c3 T3) (h3:ofD T3=some c) (g:Aft a c name y) (hw:bk_ name 4=true) (hn:(∀ x∈a.snaps,x.1≠name)∧∀ x∈a.snaps,x.2.parent≠name) (hs:name.size≤140737488351232) (hQ:∀ H',Q (.g (.bool true)) H') (f:Nat):
 bV_.l12 au_ (f+1) name x2 48 x3 48 H Q:=by
 have K3:=c0_ h3;have hr:=g.remove K3 hw hn.2;rw[bV_.l12_eq];refine hv_ hT3 hs (fun e=>by grind) (fun st' e q q2 q3=> ?_) fun st' q q2 H4 x4 p4 t4=> ?_
 ·grind
 rw[h3] at q; cases q;simp only[aI_,aB_,dS_,aV_,ah_,bi_,bB_,ai_,aT_];have gr:=nv_ K3.good K3.infos hr;obtain⟨g1,g2,_⟩:=jm_ gr;obtain⟨s5,e1,e2,_⟩:=lb_ g2;obtain⟨c5,T5,hT5,o5⟩:=gJ_ t4;rw[e1] at o5;have K5:=c0_ o5;refine cO_ hT5 (fun e=>by grind) fun st' q H6 x6 p6 t6=> ?_;rw[o5] at q; cases q;simp only[aI_,aB_,dS_,aV_,ah_,bi_,bB_,ai_,aT_];obtain⟨l5,n5⟩:=gV_ K5.good.sto;have core:fU_ a (d0_ s5):=x5_ (g.core K2.good.sto ho hn.1) (((rS_ l5 n5).sam e2 g2.sto.nd).less g1);obtain⟨s6,b1,b2,b3,b4⟩:=jK_ K5;obtain⟨c6,T6,hT6,o6⟩:=gJ_ t6;rw[b1] at o6;have K6:=c0_ o6;have hi:aA_ s6=aA_ a:=by
  have h1:=(b2.infos l5.sto.nd).1 K6.infos;exact ((core.infos K2.good.sto.nd).1 h1).unique K2.infos
 have hl:(cc_ (d0_ st)).length=(cc_ (d0_ s5)).length:=by
  rw[Ew_ (gV_ g0).1.sto,Ew_ l5.sto,core.many,hab.many]
 have p46:=p4.trans p6;refine n6_ (t2.mono p46) fun a7 H7 p7 k7=> ?_;simp only[aI_,aB_,bB_,ah_,ai_,aT_];refine n6_ (t6.mono p7) fun a8 H8 p8 k8=> ?_;simp only[aI_,aB_,bB_,ah_,ai_,aT_];have p78:=p7.trans p8;obtain⟨c2,T2',hT2,o2⟩:=gJ_ t2;rw[h2] at o2;refine c9_ (hT2.mono (p46.trans p78)) (fun e=>by rw[o2] at e; cases e) fun st' q H9 b9 a9 p9 _ i9=> ?_;rw[o2] at q; cases q;simp only[aI_,aB_,bB_,ah_,ai_,aT_];refine c9_ (hT6.mono (p78.trans p9)) (fun e=>by rw[o6] at e; cases e) fun st' q Ha ba aa pa _ ia=> ?_;rw[o6] at q; cases q;simp only[aI_,aB_,bB_,ah_,ai_,aT_];refine cM_ ?_;simp only[aN_,ai_];rw[az_ (by simp),az_ (by simp),az_ (by decide),az_ (by simp [hl]),hi];rw[hi] at ia;refine gH_ (i9.rd.pre pa) ia.rd (by have:=K2.size.1; omega) (fun i hi'=>(K2.size.2 i hi').2.1) ?_;simp_all
theorem lZ_ {D path content:ByteArray} (hT:Tr H x n cs T) (hn:n*80≤140737488351232) (A:D.size≤140737488351232) (hs2:path.size≤140737488351232) (Z:∀ H',Q (.g (.bool true)) H'):law22_CleanAfterN [.agg [.sl x n 5],.g (.str D),.g (.str path),.g (.str content)] H Q:=by
 refine⟨3,?_⟩;rw[oD_];refine eC_ fun H1 p1=> ?_;simp only[aN_,ak_];rw[aD_ (show (!true)=false from rfl)];refine cO_ (hT.mono p1) (fun h H2 p2=> ?_) fun st h H2 x2 p2 t2=> ?_
 ·simp only[aI_,aB_,dS_,aV_,ah_,bi_,bB_,ai_,aT_];refine cM_ ?_;simp only[aN_,ai_];rw[az_ (by decide)];refine dA_ (id_ _) (id_ _) (by omega) fun b hb=> ?_;rw[hb.2 rfl];simp only[aN_,ak_];exact Z _
 simp only[aI_,aB_,dS_,aV_,ah_,bi_,bB_,ai_,aT_];refine cM_ ?_;simp only[aN_,ai_];rw[aD_ (by decide)];have K:=c0_ h;have ⟨a,b1,b2,b3,W⟩:=jK_ K;have ⟨c2,T2,hT2,N⟩:=gJ_ t2;rw[b1] at N;have G:=c0_ N;refine jD_ hT2 A (by rw[kZ_]; simp) (fun e=>by rw[N] at e; cases e) (fun F e q O q3 H3 p3=> ?_) fun F q O H3 x3 p3 t3=> ?_
 ·simp only[aI_,aB_,dS_,aV_,ah_,bi_,bB_,ai_,aT_];rw[az_ (by simpa using q3)];exact Z _
 rw[N] at q; cases q;simp only[aI_,aB_,dS_,aV_,ah_,bi_,bB_,ai_,aT_];rw[aD_ (by decide)];have ⟨w1,_,_,w4,_,_⟩:=v0_ O;have np:=HN_ G w1 w4;have gd:=(l6_ G.good G.many G.infos O).good;have ⟨b,d1,_⟩:=sk_ gd;have ⟨c3,T3,J,I⟩:=gJ_ t3;rw[d1] at I;have V:=c0_ I;have ⟨af,ob,hb⟩:=FE_ (T3:=T3) G W O d1;refine k3_ J A hs2 (fun e=>by rw[I] at e; cases e) (fun F e q r2 Y H4 U=> ?_) fun F y q r2 Y H4 x4 U t4=> ?_
 ·simp only[aI_,aB_,dS_,aV_,ah_,bi_,bB_,ai_,aT_];rw[az_ (by simpa using Y)];exact xH_ K.good.sto (t2.mono (p3.trans U)) b2 b1 G W (J.mono U) I af w1 np A Z _
 rw[I] at q; cases q;simp only[aI_,aB_,dS_,aV_,ah_,bi_,bB_,ai_,aT_];rw[aD_ (by decide)];have hm:=V.many;unfold dM_ at hm;have ⟨c,e1,_⟩:=sk_ (pr_ V.good V.infos (by omega) r2 Y).1;have ⟨c4,T4,hT4,o4⟩:=gJ_ t4;rw[e1] at o4;exact xH_ K.good.sto (t2.mono (p3.trans U)) b2 b1 G W hT4 o4 (DA_ V W ob af hb r2 Y e1) w1 np A Z _
end
end Go.Am
end
