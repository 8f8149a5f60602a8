import Derived.Test.YtdfongaafdnljaaGreatM9
set_option linter.all false
set_option autoImplicit true
set_option relaxedAutoImplicit true
namespace Go.Am
def PC.on (c:PC) (l:Nat):Prop:=∃ o,c.a1=some (l,o)∨c.a2=some (l,o)∨c.a3=some (l,o)
theorem PC.at.lt {c:PC} (h:c.at H p) {l:Nat} (A:c.on l):l < H.length:=by
 obtain⟨o,r | r | r⟩:=A
 ·have:=h.keys.cells; rw[r] at this; exact rj_ this
 ·have:=h.vals.cells; rw[r] at this; exact rj_ this
 ·have:=h.kids.cells; rw[r] at this; exact rj_ this
theorem PC.at.keep {c:PC} (h:c.at H p) (A:∀ l,c.on l→H'[l]? =H[l]?):c.at H' p:=by
 have ⟨F,G,r,D,C⟩:=h;refine⟨F,G,⟨?_,r.len,r.lim⟩,⟨?_,D.len,D.lim⟩,⟨?_,C.len,C.lim⟩⟩
 ·rw[←r.cells]; exact iF_ fun l o e=>A l ⟨o,.inl e⟩
 ·rw[←D.cells]; exact iF_ fun l o e=>A l ⟨o,.inr (.inl e)⟩
 ·rw[←C.cells]; exact iF_ fun l o e=>A l ⟨o,.inr (.inr e)⟩
theorem kb_ {H0 H:Hp} {t z C:Nat} (Y:1≤z) (D:H0<+:H) (h:Own H H0.length t a (n*z) cs) (F:ds.length=m*z) (N:(n+m)*C≤Lim)
 (I:∀ O H',Own H' H0.length t O ((n+m)*z) (cs++ds)→Ex H0 a H H'→(∀ l o,O=some (l,o)→H.length≤l∧o=0)→K O (n+m) H'):ap H t z C a n ds m K:=by
 unfold ap app?;rw[if_pos ⟨N,F⟩];rcases h with⟨rfl,hn,rfl⟩ | ⟨l,rfl,V,A,r⟩
 ·have J:n=0:=by rcases Nat.eq_zero_or_pos n with e | e; exact e; have:=Nat.mul_le_mul e Y; omega
  subst J;simp at I ⊢;by_cases G:m=0
  ·subst G;rw[Nat.zero_mul] at F;obtain rfl:ds=[]:=List.eq_nil_of_length_eq_zero F;exact I none H (.inl ⟨rfl,by omega,rfl⟩) ⟨D,kO _,fun _ _ _=>rfl⟩ (fun _ _ e=>by cases e)
  ·simp [if_neg G];refine I _ _ (.inr ⟨H.length,rfl,ra_ D,by simp,F⟩) ⟨D.trans (List.prefix_append _ _),by simp,fun l N _=>by rw[kM N]⟩ (fun _ _ e=>by cases e; exact⟨kO _,rfl⟩)
 ·simp only[A];rw[if_pos ⟨trivial,trivial,r⟩];refine I _ _ (.inr ⟨H.length,rfl,ra_ D,by simp,by rw[kI,r,F,Nat.add_mul]⟩) ⟨(ej_ D V .dead).trans (List.prefix_append _ _),by simp,fun Z U W=> ?_⟩ (fun _ _ e=>by cases e; exact⟨kO _,rfl⟩);grind
structure OT (H:Hp) (b:Nat) (t:TypeId) (a:Pl) (n:Nat) (cs:List PC) (T:List Pg):Prop where
 own:Own H b t a (n*5) (bD_ cs)
 len:cs.length=n
 lenT:T.length=n
 all:∀ i (h:i < cs.length) (h':i < T.length),(cs[i]).at H T[i]
 off:∀ c∈cs,∀ l,c.on l→a≠some (l,0)
section
variable {H0 H H':Hp} {b:Nat} {t:TypeId} {a:Pl} {n:Nat} {cs:List PC} {T:List Pg} {c:PC} {p:Pg}
theorem OT.tr (h:OT H b t a n cs T):Tr H a n cs T:=⟨h.own.cells,h.len,h.lenT,h.all⟩
theorem OT.nil (H:Hp) (b:Nat) (t:TypeId):OT H b t none 0 [] []:=⟨.inl ⟨rfl,rfl,rfl⟩,rfl,rfl,fun i h=>(by simp),fun c h=>(by simp)⟩
theorem OT.keep (h:OT H b t a n cs T) (A:∀ l,a=some (l,0)→H'[l]? =H[l]?) (C:∀ c∈cs,∀ l,c.on l→H'[l]? =H[l]?):OT H' b t a n cs T:=
 ⟨h.own.keep A,h.len,h.lenT,fun i r D=>(h.all i r D).keep (C _ (kE r)),h.off⟩
theorem OT.onlt (h:OT H b t a n cs T) (r:c∈cs) (A:c.on l):l < H.length:=by
 obtain⟨i,C,rfl⟩:=kK r;exact (h.all i C (by have:=h.len; have:=h.lenT; omega)).lt A
theorem OT.mono (h:OT H b t a n cs T) (r:H<+:H'):OT H' b t a n cs T:=h.keep (fun l e=>br_ r (h.own.lt' e)) (fun c A l C=>br_ r (h.onlt A C))
theorem OT.ex (h:OT H b t a n cs T) (r:Ex H0 x H H') (D:Dj x a) (F:∀ c∈cs,∀ l,c.on l→x≠some (l,0)):OT H' b t a n cs T:=
 h.keep (fun l e=>r.row l (h.own.lt' e) fun G=>D l G e) (fun c A l C=>r.row l (h.onlt A C) (F c A l C))
theorem OT.add (h:OT H H0.length t a n cs T) (F:H0<+:H) (D:c.at H p) (A:∀ l,c.on l→a≠some (l,0)) (r:(n+1)*80≤Lim)
 (G:∀ C H',OT H' H0.length t C (n+1) (cs++[c]) (T++[p])→Ex H0 a H H'→(∀ l o,C=some (l,o)→H.length≤l∧o=0)→K C (n+1) H'):ap H t 5 80 a n [.bool c.u,.bool c.l,.sl c.a1 c.n1 1,.sl c.a2 c.n2 1,.sl c.a3 c.n3 1] 1 K:=by
 refine kb_ (by omega) F h.own rfl r fun C H' o x f=>G C H' ⟨by simpa [bD_,PC.cells] using o,by simp [h.len],by simp [h.lenT],fun i O J=> ?_,fun d I l r e=> ?_⟩ x f
 ·rw[List.getElem_append,List.getElem_append];have U:=h.len;have N:=h.lenT;by_cases e:i < n
  ·rw[dif_pos (by omega),dif_pos (by omega)];exact (h.all i (by omega) (by omega)).keep fun l r=>x.row l (h.onlt (kE _) r) (h.off _ (kE _) l r)
  ·rw[dif_neg (by omega),dif_neg (by omega)];simp;exact D.keep fun l r=>x.row l (D.lt r) (A l r)
 ·have:=(f l 0 e).1;rcases kD.1 I with q | q
  ·have:=h.onlt q r; omega
  ·rw[List.mem_singleton.1 q] at r;have:=D.lt r; omega
end
structure PC.own (c:PC) (H:Hp) (b:Nat) (p:Pg):Prop where
 used:p.used=c.u
 leaf:p.leaf=c.l
 keys:Own H b tS c.a1 c.n1 (p.keys.map GV.str)
 vals:Own H b tS c.a2 c.n2 (p.vals.map GV.str)
 kids:Own H b tI c.a3 c.n3 (p.kids.map (GV.int .i64))
 d12:Dr c.a1 c.a2
 d13:Dr c.a1 c.a3
 d23:Dr c.a2 c.a3
theorem PC.own.keep {c:PC} (h:c.own H b p) (r:∀ l,c.on l→H'[l]? =H[l]?):c.own H' b p:=
 ⟨h.used,h.leaf,h.keys.keep fun l e=>r l ⟨0,.inl e⟩,h.vals.keep fun l e=>r l ⟨0,.inr (.inl e)⟩,h.kids.keep fun l e=>r l ⟨0,.inr (.inr e)⟩,h.d12,h.d13,h.d23⟩
section
variable {H:Hp} {Q:Post} {c:PC} {p:Pg}
theorem rb_ (h:c.at H p) (hQ:∀ d:PC,∀ H',H<+:H'→d.at H' p→d.own H' H.length p→(∀ l,d.on l→H.length≤l)→d.u=c.u→d.l=c.l→Q (.agg [.bool d.u,.bool d.l,.sl d.a1 d.n1 1,.sl d.a2 d.n2 1,.sl d.a3 d.n3 1]) H'):
 ff_ [.agg [.bool c.u,.bool c.l,.sl c.a1 c.n1 1,.sl c.a2 c.n2 1,.sl c.a3 c.n3 1]] H Q:=by
 have ⟨J,W,C,G,F⟩:=h;have O:=C.len;have D:=G.len;have I:=F.len;have l1:=C.lim;have l2:=G.lim;have l3:=F.lim;refine⟨1,?_⟩;rw[sx_,ae_,Nat.mul_one,dX_ C.cells];refine p7_ (by unfold Lim; omega) (by grind) ?_;have V:=b7_ H (.row true tS (p.keys.map GV.str));rw[ae_,Nat.mul_one,dX_ (G.mono V).cells];refine p7_ (by unfold Lim; omega) (by simp [D]) ?_;have p2:=V.trans (b7_ (H++[.row true tS (p.keys.map GV.str)]) (.row true tS (p.vals.map GV.str)));rw[ae_,Nat.mul_one,dX_ (F.mono p2).cells];refine p7_ (by unfold Lim; omega) (by simp [I]) ?_;have N:Own (((H++[Obj.row true tS (p.keys.map GV.str)])++[Obj.row true tS (p.vals.map GV.str)])++[Obj.row true tI (p.kids.map (GV.int .i64))]) H.length tS (some (H.length,0)) c.n1 (p.keys.map GV.str):= .inr ⟨_,rfl,kO _,by simp,by simp [O]⟩;have Z:Own (((H++[Obj.row true tS (p.keys.map GV.str)])++[Obj.row true tS (p.vals.map GV.str)])++[Obj.row true tI (p.kids.map (GV.int .i64))]) H.length tS (some ((H++[Obj.row true tS (p.keys.map GV.str)]).length,0)) c.n2 (p.vals.map GV.str):= .inr ⟨_,rfl,by simp,by simp,by simp [D]⟩;have Y:Own (((H++[Obj.row true tS (p.keys.map GV.str)])++[Obj.row true tS (p.vals.map GV.str)])++[Obj.row true tI (p.kids.map (GV.int .i64))]) H.length tI (some (((H++[Obj.row true tS (p.keys.map GV.str)])++[Obj.row true tS (p.vals.map GV.str)]).length,0)) c.n3 (p.kids.map (GV.int .i64)):= .inr ⟨_,rfl,by simp,by simp,by simp [I]⟩;refine hQ ⟨c.u,c.l,some (H.length,0),c.n1,some ((H++[Obj.row true tS (p.keys.map GV.str)]).length,0),c.n2,some (((H++[Obj.row true tS (p.keys.map GV.str)])++[Obj.row true tS (p.vals.map GV.str)]).length,0),c.n3⟩ _ (p2.trans (List.prefix_append _ _)) ⟨J,W,⟨N.cells,O,l1⟩,⟨Z.cells,D,l2⟩,⟨Y.cells,I,l3⟩⟩ ⟨J,W,N,Z,Y,?_,?_,?_⟩ ?_ rfl rfl
 ·intro l o U A r; simp at A r; omega
 ·intro l o U A r; simp at A r; omega
 ·intro l o U A r; simp at A r; omega
 ·rintro l ⟨o,q | q | q⟩<;>simp at q<;>omega
end
section
variable {H:Hp} {Q:Post} {a:Pl} {n:Nat} {cs:List PC} {T:List Pg}
theorem pt_ (hT:Tr H a n cs T) (hn:n*80≤140737488351232)
 (hQ:∀ a' ds H',H<+:H'→OT H' H.length tPg a' n ds T→(∀ i (h:i < ds.length) (h':i < T.length),(ds[i]).own H' H.length T[i])→(∀ i j (hi:i < ds.length) (hj:j < ds.length),i≠j→∀ l,(ds[i]).on l→ ¬ (ds[j]).on l)→Q (.agg [.sl a' n 5]) H'):
 b0_ [.agg [.sl a n 5]] H Q:=by
 have hlT:=hT.lenT;have loop:∀ (f k:Nat) (a':Pl) (ds:List PC) (H':Hp),n - k < f→k≤n→H<+:H'→OT H' H.length tPg a' k ds (T.take k)→(∀ i (h:i < ds.length) (h':i < T.length),(ds[i]).own H' H.length T[i])→
  (∀ i j (hi:i < ds.length) (hj:j < ds.length),i≠j→∀ l,(ds[i]).on l→ ¬ (ds[j]).on l)→b0_.l3 f a n none 0 a' k (k:Int) H' Q:=by
  intro f;induction f with
  | zero=>intro k _ _ _ h; omega
  | succ f ih=>
   intro k a' ds H' hf hk hp ho hown hap;rw[b0_.l3_eq];by_cases hkn:k < n
   ·obtain⟨l,o,c,p,rfl,hc,hpp,hpc,g0,g1,g2,g3,g4⟩:=(hT.mono hp).get hkn;have etN:tN (k:Int)=k:=rfl;rw[az_ (by simp; omega),ae_];refine ab_ (by simp; omega) ?_;rw[af_,etN,cD_ g0 g1 g2 g3 g4];refine rb_ hpc fun d H2 p2 hd hdo hfr hu hl=> ?_;simp only[dE_,aV_,ak_,ah_,bi_];rw[ae_];have ho2:=ho.mono p2;have hlen:=ho.len;refine ho2.add (hp.trans p2) hd (fun l hl e=>by have:=hfr l hl; have:=ho.own.lt' e; omega) (by unfold Lim; have:=Nat.mul_le_mul_right 80 (show k+1≤n by omega); omega) fun a'' H3 o3 x3 f3=> ?_;rw[an_ (by omega)];have hTk:T.take k++[p]=T.take (k+1):=by
     rw[List.take_add_one,hpp]; rfl
    rw[hTk] at o3;have hpk:∀ (h:k < T.length),T[k]=p:=fun h=>by rw[kG h] at hpp; exact Option.some.inj hpp
    have keepA:∀ i (h:i < ds.length) (l:Nat),(ds[i]).on l→H3[l]? =H'[l]? :=fun i h l hl=>by
     rw[x3.row l (ho2.onlt (kE h) hl) (ho2.off _ (kE h) l hl),br_ p2 (ho.onlt (kE h) hl)]
    refine ih (k+1) a'' _ H3 (by omega) (by omega) x3.pre o3 (fun i h1 h2=> ?_) (fun i j h1 h2 hne l hl1 hl2=> ?_)
    ·rw[List.getElem_append];by_cases e:i < k
     ·rw[dif_pos (by omega)];exact (hown i (by omega) h2).keep fun l hl=>keepA i (by omega) l hl
     ·have e':i=k:=by simp [hlen] at h1; omega
      subst e';rw[dif_neg (by omega)];simp only[List.getElem_singleton];rw[hpk h2];have hdo':d.own H3 H'.length p:=hdo.keep fun l hl=>x3.row l (hd.lt hl) (fun e=>by have:=hfr l hl; have:=ho.own.lt' e; omega);have hb:∀ {t:TypeId} {x:Pl} {m:Nat} {es:List GV},Own H3 H'.length t x m es→Own H3 H.length t x m es:=fun h=>by
       have:=hp.length_le;rcases h with h | ⟨q,q1,q2,q3⟩
       ·exact .inl h
       ·exact .inr ⟨q,q1,by omega,q3⟩
      exact⟨hdo'.used,hdo'.leaf,hb hdo'.keys,hb hdo'.vals,hb hdo'.kids,hdo'.d12,hdo'.d13,hdo'.d23⟩
    ·simp only[kI,List.length_singleton] at h1 h2;rw[List.getElem_append] at hl1 hl2;by_cases e1:i < k
     ·rw[dif_pos (by omega)] at hl1;by_cases e2:j < k
      ·rw[dif_pos (by omega)] at hl2;exact hap i j (by omega) (by omega) hne l hl1 hl2
      ·rw[dif_neg (by omega)] at hl2;simp only[List.getElem_singleton] at hl2;have:=hfr l hl2;have:=ho.onlt (kE (by omega:i < ds.length)) hl1;omega
     ·rw[dif_neg (by omega)] at hl1;simp only[List.getElem_singleton] at hl1;by_cases e2:j < k
      ·rw[dif_pos (by omega)] at hl2;have:=hfr l hl1;have:=ho.onlt (kE (by omega:j < ds.length)) hl2;omega
      ·omega
   ·obtain rfl:k=n:=by omega
    rw[aD_ (by simp)];rw[List.take_of_length_le (by omega)] at ho;exact hQ a' ds H' hp ho hown hap
 refine⟨n+2,?_⟩;rw[s3_];exact loop (n+1) 0 none [] H (by omega) (kP _) (List.prefix_refl _) (OT.nil _ _ _) (fun i h=>(by simp at h)) (fun i j h=>(by simp at h))
theorem dA_ {a2:Pl} {n2:Nat} {cs2:List PC} {T2:List Pg} (h1:Tr H a n cs T) (h2:Tr H a2 n2 cs2 T2) (hn:n≤4611686018427387904) (hQ:∀ b,(b=true↔T=T2)→Q (.g (.bool b)) H):bb_ [.agg [.sl a n 5],.agg [.sl a2 n2 5]] H Q:=by
 have q1:=h1.lenT;have q2:=h2.lenT;refine⟨n+2,?_⟩;rw[rD_];refine aa_ (fun e=>hQ _ ⟨fun q=>(by cases q),fun q=> ?_⟩) (fun e=> ?_)
 ·subst q; simp at e; omega
 have hnn:n=n2:=by simp at e; omega
 subst hnn;have loop:∀ f k:Nat,n - k < f→k≤n→(∀ i (h:i < T.length) (h':i < T2.length),i < k→T[i]=T2[i])→bb_.l4 f a n a2 n (k:Int) H Q:=by
  intro f;induction f with
  | zero=>intro k h; omega
  | succ f ih=>
   intro k hf hk he;rw[bb_.l4_eq];by_cases hkn:k < n
   ·obtain⟨l,o,c,p,rfl,hc,hp,hpc,g0,g1,g2,g3,g4⟩:=h1.get hkn;obtain⟨l',o',c',p',rfl,hc',hp',hpc',g0',g1',g2',g3',g4'⟩:=h2.get hkn;have etN:tN (k:Int)=k:=rfl;rw[az_ (by simp; omega),ae_];refine ab_ (by simp; omega) ?_;rw[af_,etN,cD_ g0 g1 g2 g3 g4,ae_];refine ab_ (by simp; omega) ?_;rw[af_,cD_ g0' g1' g2' g3' g4'];refine p2_ hpc hpc' fun b hb=> ?_;simp only[aN_,ak_];have e1:∀ h:k < T.length,T[k]=p:=fun h=>by rw[kG h] at hp; exact Option.some.inj hp
    have e2:∀ h:k < T2.length,T2[k]=p':=fun h=>by rw[kG h] at hp'; exact Option.some.inj hp'
    refine aa_ (fun eb=>hQ _ ⟨fun q=>(by cases q),fun q=> ?_⟩) (fun eb=> ?_)
    ·have:p=p':=by rw[←e1 (by omega),←e2 (by omega)]; congr 1
     rw[hb.2 this] at eb; cases eb
    ·rw[an_ (by omega)];refine ih (k+1) (by omega) (by omega) fun i hi1 hi2 hik=> ?_;by_cases e:i < k
     ·exact he i hi1 hi2 e
     ·have e':i=k:=by omega
      subst e';rw[e1 hi1,e2 hi2];exact hb.1 (by cases b<;>simp_all)
   ·rw[aD_ (by simp; omega)];exact hQ _ ⟨fun _=>List.ext_getElem (by omega) fun i hi1 hi2=>he i hi1 hi2 (by omega),fun _=>rfl⟩
 exact loop _ 0 (by omega) (kP _) (fun i _ _ h=>by omega)
end
end Go.Am
namespace Go.Am
open List
def aP_ (n k i:Nat):Nat:=n*i / k
def kOf (n most:Nat):Nat:=max 1 ((n+most - 1) / most)
theorem lI_ (r:i≤k) (A:0 < k):aP_ n k i≤n:=Nat.div_le_of_le_mul (by rw[Nat.mul_comm]; exact Nat.mul_le_mul_right _ r)
theorem k1_ (n k i:Nat):aP_ n k i≤aP_ n k (i+1):=Nat.div_le_div_right (Nat.mul_le_mul_left _ (by omega))
theorem fW_ (n k:Nat):aP_ n k 0=0:=by simp [aP_]
theorem m6_ (h:0 < k):aP_ n k k=n:=Nat.mul_div_cancel _ h
theorem GV_ (r:i < k) (A:0 < n):aP_ n k i < n:=by
 unfold aP_;rw[Nat.div_lt_iff_lt_mul (by omega)];simp_all
theorem i3_ (n most:Nat):0 < kOf n most:=by unfold kOf; omega
def go_ (n most:Nat):List Nat:=(List.range (kOf n most)).map fun i=>aP_ n (kOf n most) (i+1) - aP_ n (kOf n most) i
abbrev Lvl:=List (Pg × ByteArray)
def hu_ (ps:List (ByteArray × ByteArray)) (k i:Nat):Pg × ByteArray:=
 (⟨true,true,((ps.drop (aP_ ps.length k i)).take (aP_ ps.length k (i+1) - aP_ ps.length k i)).map (·.1),((ps.drop (aP_ ps.length k i)).take (aP_ ps.length k (i+1) - aP_ ps.length k i)).map (·.2),[]⟩,
  match decide (0 < aP_ ps.length k (i+1) - aP_ ps.length k i) with | true=>(ps[aP_ ps.length k i]?.map (·.1)).getD (mkS []) | false=>mkS [])
def cB_ (ps:List (ByteArray × ByteArray)):Lvl:=(List.range (kOf ps.length 4)).map (hu_ ps (kOf ps.length 4))
def py_ (xs:Lvl) (next k i:Nat):Pg × ByteArray:=
 (⟨true,false,((xs.drop (aP_ xs.length k i+1)).take (aP_ xs.length k (i+1) - (aP_ xs.length k i+1))).map (·.2),[],(List.range (aP_ xs.length k (i+1) - aP_ xs.length k i)).map fun j=>((next+(aP_ xs.length k i+j):Nat):Int)⟩,
  (xs[aP_ xs.length k i]?.map (·.2)).getD (mkS []))
def upD (xs:Lvl) (next:Nat):Lvl:=(List.range (kOf xs.length 5)).map (py_ xs next (kOf xs.length 5))
def er_ (T:List Pg) (xs:Lvl) (next:Nat):Nat→List Pg
 | 0=>T
 | j+1=>(er_ T xs next j).set (next+j) ((xs[j]?.map (·.1)).getD noPg)
def newT:List Pg:=⟨true,true,[],[],[]⟩::replicate 47 noPg
def hh_:Nat→List Pg→Nat→Lvl→List Pg
 | 0,T,_,_=>T
 | f+1,T,next,xs=>match decide (1 < xs.length) with
  | true=>hh_ f (er_ T xs next xs.length) (next+xs.length) (upD xs next)
  | false=>T.set 0 ((xs[0]?.map (·.1)).getD noPg)
def nr_ (ps:List (ByteArray × ByteArray)):List Pg:=hh_ 64 newT 1 (cB_ ps)
section
variable {H:Hp} {Q:Post}
theorem z0_ (a b:Nat):Int.tdiv (a:Int) (b:Int)=((a / b:Nat):Int):=(Int.ofNat_tdiv a b).symm
theorem mp_ {n most:Nat} (hn:n≤1000) (h1:1≤most) (h2:most≤1000) (hQ:∀ a' H',H<+:H'→Own H' H.length tI a' (kOf n most) (((go_ n most).map fun (x:Nat)=>(x:Int)).map (GV.int .i64))→Is H' a' (kOf n most) ((go_ n most).map fun (x:Nat)=>(x:Int))→Q (.g (.sl a' (kOf n most) 1)) H'):
 cI_ [.g (.int .i64 (n:Int)),.g (.int .i64 (most:Int))] H Q:=by
 have hk:=i3_ n most;have hk1:kOf n most≤2000:=by
  unfold kOf;have:(n+most - 1) / most≤n+most - 1:=Nat.div_le_self _ _;omega
 have hm:mxI 1 (ac_ .i64 (Int.tdiv (ac_ .i64 ((ac_ .i64 ((n:Int)+(most:Int))) - 1)) (most:Int)))=(kOf n most:Int):=by
  rw[cy_ (n:=(n:Int)+(most:Int)) (by omega) (by omega),cy_ (n:=(n:Int)+(most:Int) - 1) (by omega) (by omega)];have e:(n:Int)+(most:Int) - 1=((n+most - 1:Nat):Int):=by omega
  have hq:(n+most - 1) / most≤n+most - 1:=Nat.div_le_self _ _;rw[e,z0_];unfold kOf mxI;generalize (n+most - 1) / most=q at*;rw[cy_ (by omega) (by omega)];split<;>omega
 refine⟨kOf n most+2,?_⟩;rw[wS_,hm];refine ab_ (by rw[ij_]; simp; omega) ?_;generalize hkk:kOf n most=k at*;have hcut:∀ i,i≤k→ac_ .i64 (Int.tdiv (ac_ .i64 ((n:Int)*(i:Int))) (k:Int))=(aP_ n k i:Int):=by
  intro i hi;have hb:n*i≤1000*2000:=Nat.mul_le_mul hn (by omega);have e:(n:Int)*(i:Int)=((n*i:Nat):Int):=by simp
  rw[e,cy_ (n:=((n*i:Nat):Int)) (by omega) (by omega),z0_];have hd:n*i / k≤n*i:=Nat.div_le_self _ _;unfold aP_;generalize n*i / k=q at*;generalize n*i=q2 at*;rw[cy_ (by omega) (by omega)]
 have loop:∀ (f i:Nat) (a':Pl) (H':Hp),k - i < f→i≤k→H<+:H'→Own H' H.length tI a' i ((((List.range i).map fun i=>aP_ n k (i+1) - aP_ n k i).map fun (x:Nat)=>(x:Int)).map (GV.int .i64))→cI_.l4 f (n:Int) (k:Int) a' i (i:Int) H' Q:=by
  intro f;induction f with
  | zero=>intro i _ _ h; omega
  | succ f ih=>
   intro i a' H' hf hi hp ho;rw[cI_.l4_eq];by_cases hik:i < k
   ·rw[az_ (by simp; omega)];refine ab_ (by rw[ij_]; simp; omega) (ab_ (by rw[ij_]; simp; omega) ?_);rw[ae_,an_ (by omega),hcut (i+1) (by omega),hcut i (by omega)];have hmono:=k1_ n k i;have hle:=lI_ (n:=n) (k:=k) (i:=i+1) (by omega) (by omega);have e:ac_ .i64 ((aP_ n k (i+1):Int) - (aP_ n k i:Int))=((aP_ n k (i+1) - aP_ n k i:Nat):Int):=by rw[cy_ (by omega) (by omega)]; omega
    rw[e];refine kH_ hp ho rfl (by unfold Lim; omega) fun a'' H'' o x _=> ?_;refine ih (i+1) a'' H'' (by omega) (by omega) x.pre ?_;rw[range_succ,kL,kL,kL];exact o
   ·obtain rfl:i=k:=by omega
    rw[aD_ (by simp)];have hs:go_ n most=(List.range i).map fun j=>aP_ n i (j+1) - aP_ n i j:=by unfold go_; rw[hkk]
    refine hQ a' H' hp (by rw[hs]; exact ho) ⟨?_,?_,by omega⟩
    ·rw[hs]; exact ho.cells
    ·rw[hs]; simp
 exact loop _ 0 none H (by omega) (kP _) (prefix_refl _) (.inl ⟨rfl,rfl,rfl⟩)
def r0_:List PC:=⟨true,true,none,0,none,0,none,0⟩::replicate 47 ⟨false,false,none,0,none,0,none,0⟩
theorem qV_ {cs:List GV} (r:j < cs.length) (A:K (H++[.row true t (cs.set j v)])):wr (H++[.row true t cs]) H.length j v K:=by
 refine cr_ (own:=t) (by simp) r ?_;grind
theorem Fs_ (i:Nat) (h:i < r0_.length):r0_[i]'h=if i=0 then ⟨true,true,none,0,none,0,none,0⟩ else ⟨false,false,none,0,none,0,none,0⟩:=by
 cases i with
 | zero=>rfl
 | succ i=>exact getElem_replicate (by have:i+1 < 48:=h; simp; omega)
theorem Eq_ (i:Nat) (h:i < newT.length):newT[i]'h=if i=0 then ⟨true,true,[],[],[]⟩ else noPg:=by
 cases i with
 | zero=>rfl
 | succ i=>exact getElem_replicate (by have:i+1 < 48:=h; simp; omega)
theorem FV_ (H:Hp):∀ i (h:i < r0_.length) (h':i < newT.length),(r0_[i]'h).at H (newT[i]'h'):=by
 intro i h h';rw[Fs_ i h,Eq_ i h'];split
 ·exact⟨rfl,rfl,.nil _,.nil _,.nil _⟩
 ·exact Ci_ _
theorem uP_:∀ c∈r0_,∀ l,¬ c.on l:=by
 intro c r l ⟨o,h⟩;unfold r0_ at r;grind
theorem Hy_ (H:Hp):OT (H++[.row true tPg (bD_ r0_)]) H.length tPg (some (H.length,0)) 48 r0_ newT:=
 ⟨.inr ⟨H.length,rfl,kO _,by simp,by rfl⟩,rfl,rfl,FV_ _,fun c A l r=>(uP_ c A l r).elim⟩
theorem ic_ (r:∀ H',H<+:H'→OT H' H.length tPg (some (H.length,0)) 48 r0_ newT→Q (.agg [.sl (some (H.length,0)) 48 5]) H'):fv_ [] H Q:=by
 refine⟨1,?_⟩;rw[z9_,ae_];have A:(ls_ (tN 48) [GV.bool false,.bool false,.sl none 0 1,.sl none 0 1,.sl none 0 1]).length=240:=rfl;exact qV_ (by simp_all) (qV_ (by simp_all) (qV_ (by simp_all) (qV_ (by simp_all) (qV_ (by simp_all) (r _ (b7_ _ _) (Hy_ H))))))
end
end Go.Am
namespace Go.Am
open List
abbrev KV:=List (ByteArray × ByteArray)
def bW_ (ps:KV):List GV:=ps.flatMap fun x=>[.str x.1,.str x.2]
theorem na_ (ps:KV):(bW_ ps).length=ps.length*2:=by
 unfold bW_;induction ps with
 | nil=>rfl
 | cons c A r=>simp [r]; omega
theorem AA_ {i:Nat} (hi:i < ps.length):(bW_ ps)[i*2]? =some (.str ps[i].1)∧(bW_ ps)[i*2+1]? =some (.str ps[i].2):=by
 unfold bW_;induction ps generalizing i with
 | nil=>simp at hi
 | cons c A r=>
  cases i with
  | zero=>simp
  | succ i=>
   grind
structure Kv (H:Hp) (a:Pl) (n:Nat) (ps:KV):Prop where
 cells:cells? H a (n*2)=some (bW_ ps)
 len:ps.length=n
theorem Kv.mono {H H':Hp} (r:H<+:H') (h:Kv H a n ps):Kv H' a n ps:=⟨l3_ r h.cells,h.len⟩
theorem Kv.get (h:Kv H a n ps) (hi:i < ps.length):∃ l o,a=some (l,o)∧gt H l (o+i*2)=some (.str ps[i].1)∧gt H l (o+i*2+1)=some (.str ps[i].2):=by
 have r:=h.cells;have D:=h.len;cases a with
 | none=>simp [cells?] at r; omega
 | some q=>
  have ⟨l,o⟩:=q;have ⟨A,C⟩:=AA_ hi;refine⟨l,o,rfl,?_,?_⟩
  ·rw[jk_ r (by omega),A]
  ·rw[Nat.add_assoc,jk_ r (by omega),C]
structure LJ (B H:Hp) (x:Pl) (m:Nat) (cs:List PC) (T:List Pg) (y:Pl) (ls:List ByteArray) (k:Pl) (ks:List ByteArray) (v:Pl) (vs:List ByteArray):Prop where
 pre:B<+:H
 X:OT H B.length tPg x m cs T
 Y:Own H B.length tS y m (ls.map GV.str)
 K:Own H B.length tS k ks.length (ks.map GV.str)
 V:Own H B.length tS v vs.length (vs.map GV.str)
 xy:Dj x y
 xk:Dj x k
 xv:Dj x v
 yk:Dj y k
 yv:Dj y v
 kv:Dj k v
 yo:∀ c∈cs,∀ l,c.on l→y≠some (l,0)
 ko:∀ c∈cs,∀ l,c.on l→k≠some (l,0)
 vo:∀ c∈cs,∀ l,c.on l→v≠some (l,0)
 lo:∀ c∈cs,∀ l,c.on l→B.length≤l
section
variable {B H:Hp} {x:Pl} {m:Nat} {cs:List PC} {T:List Pg} {y:Pl} {ls:List ByteArray} {k:Pl} {ks:List ByteArray} {v:Pl} {vs:List ByteArray}
theorem OT.offNew {a r:Pl} (h:OT H b t a n cs T) (f:∀ l o,r=some (l,o)→H.length≤l):∀ c∈cs,∀ l,c.on l→r≠some (l,0):=fun c C l A e=>by
 have:=f l 0 e; have:=h.onlt C A; omega
theorem LJ.key (g:LJ B H x m cs T y ls k ks v vs) (s:ByteArray) (C:ks.length≤1000) {K:Pl→Nat→Hp→Prop} (A:∀ r H',LJ B H' x m cs T y ls r (ks++[s]) v vs→K r (ks.length+1) H'):ap H tS 1 16 k ks.length [.str s] 1 K:=
 kH_ g.pre g.K rfl (by unfold Lim; omega) fun r H' o e f=>A r H' ⟨e.pre,g.X.ex e g.xk.symm g.ko,g.Y.after g.yk.symm e,by grind,g.V.after g.kv e,
  g.xy,(Dj.fresh g.X.own f).symm,g.xv,(Dj.fresh g.Y f).symm,g.yv,Dj.fresh g.V f,g.yo,g.X.offNew f,g.vo,g.lo⟩
theorem LJ.val (g:LJ B H x m cs T y ls k ks v vs) (s:ByteArray) (C:vs.length≤1000) {K:Pl→Nat→Hp→Prop} (A:∀ r H',LJ B H' x m cs T y ls k ks r (vs++[s])→K r (vs.length+1) H'):ap H tS 1 16 v vs.length [.str s] 1 K:=
 kH_ g.pre g.V rfl (by unfold Lim; omega) fun r H' o e f=>A r H' ⟨e.pre,g.X.ex e g.xv.symm g.vo,g.Y.after g.yv.symm e,g.K.after g.kv.symm e,by grind,
  g.xy,g.xk,(Dj.fresh g.X.own f).symm,g.yk,(Dj.fresh g.Y f).symm,(Dj.fresh g.K f).symm,g.yo,g.ko,g.X.offNew f,g.lo⟩
theorem LJ.page (g:LJ B H x m cs T y ls k ks v vs) (hks:ks.length≤1000) (hvs:vs.length≤1000) (hm:m≤1000) (s:ByteArray) {K:Pl→Nat→Hp→Pl→Nat→Hp→Prop}
 (hK:∀ x' C D F c,LJ B F x' (m+1) (cs++[c]) (T++[⟨true,true,ks,vs,[]⟩]) D (ls++[s]) none [] none []→K x' (m+1) C D (m+1) F):
 ap H tPg 5 80 x m [.bool true,.bool true,.sl k ks.length 1,.sl v vs.length 1,.sl none 0 1] 1 fun x' n' C=>ap C tS 1 16 y m [.str s] 1 fun D n2 F=>K x' n' C D n2 F:=by
 have A:∀ l,(⟨true,true,k,ks.length,v,vs.length,none,0⟩:PC).on l→k=some (l,0)∨v=some (l,0):=by
  rintro l ⟨o,q | q | q⟩
  ·rcases g.K with⟨e,_⟩ | ⟨N,e,_⟩
   ·grind
   ·grind
  ·rcases g.V with⟨e,_⟩ | ⟨N,e,_⟩
   ·grind
   ·grind
  ·cases q
 have U:(⟨true,true,k,ks.length,v,vs.length,none,0⟩:PC).at H ⟨true,true,ks,vs,[]⟩:=
  ⟨rfl,rfl,⟨g.K.cells,rfl,by grind⟩,⟨g.V.cells,rfl,by show vs.length*16≤_; omega⟩,.nil _⟩
 refine g.X.add g.pre U (fun l r e=>by rcases A l r with q | q; exact g.xk l e q; exact g.xv l e q) (by unfold Lim; omega) fun x' C W Z f1=> ?_;have I:∀ c∈cs++[(⟨true,true,k,ks.length,v,vs.length,none,0⟩)],∀ l,c.on l→y≠some (l,0):=by
  intro c G l r e;rcases kD.1 G with q | q
  ·exact g.yo c q l r e
  ·rw[mem_singleton.1 q] at r;rcases A l r with q | q
   ·exact g.yk l e q
   ·exact g.yv l e q
 have J:=fun l o e=>(f1 l o e).1;refine kH_ Z.pre (g.Y.after g.xy Z) rfl (by unfold Lim; omega) fun D F o2 e2 f2=>hK x' C D F _ ⟨e2.pre,W.ex e2 (Dj.fresh g.Y J).symm I,by grind,.inl ⟨rfl,rfl,rfl⟩,.inl ⟨rfl,rfl,rfl⟩,
  (Dj.fresh W.own f2).symm,fun _ _ e=>(by cases e),fun _ _ e=>(by cases e),fun _ _ e=>(by cases e),fun _ _ e=>(by cases e),fun _ e=>(by cases e),W.offNew f2,fun c G l r e=>(by cases e),fun c G l r e=>(by cases e),fun c G l r=>by
   rcases kD.1 G with q | q
   ·exact g.lo c q l r
   ·rw[mem_singleton.1 q] at r;rcases A l r with q | q
    ·rcases g.K with⟨e,_⟩ | ⟨N,e,O,_⟩
     ·rw[q] at e; cases e
     ·rw[q] at e; cases e; exact O
    ·rcases g.V with⟨e,_⟩ | ⟨N,e,O,_⟩
     ·rw[q] at e; cases e
     ·rw[q] at e; cases e; exact O⟩
end
section
variable {H0:Hp} {Q:Post} {a:Pl} {n:Nat} {ps:KV}
theorem s0_ (hp:Kv H0 a n ps) (hn:n≤1000)
 (hQ:∀ x y cs H',H0<+:H'→OT H' H0.length tPg x (cB_ ps).length cs ((cB_ ps).map (·.1))→Own H' H0.length tS y (cB_ ps).length (((cB_ ps).map (·.2)).map GV.str)→Dj x y→(∀ c∈cs,∀ l,c.on l→y≠some (l,0))→(∀ c∈cs,∀ l,c.on l→H0.length≤l)→
  Q (.agg [.sl x (cB_ ps).length 5,.sl y (cB_ ps).length 1]) H'):a7_ [.g (.sl a n 2)] H0 Q:=by
 have hpl:=hp.len;refine⟨n+3*kOf ps.length 4+5,?_⟩;rw[vr_];have enI:nI n=((ps.length:Nat):Int):=by rw[iI_,hpl]
 rw[enI];refine mp_ (n:=ps.length) (most:=4) (by omega) (by omega) (by omega) fun sa B pB _ hS=> ?_;simp only[aN_,ah_];have hk:=i3_ ps.length 4;have hD:cB_ ps=(List.range (kOf ps.length 4)).map (hu_ ps (kOf ps.length 4)):=rfl;have hSD:go_ ps.length 4=(List.range (kOf ps.length 4)).map fun i=>aP_ ps.length (kOf ps.length 4) (i+1) - aP_ ps.length (kOf ps.length 4) i:=rfl;have hk2:kOf ps.length 4≤1001:=by
  unfold kOf;have:(ps.length+4 - 1) / 4≤ps.length:=by omega
  omega
 generalize kOf ps.length 4=k at*;have hDl:(cB_ ps).length=k:=by rw[hD]; simp
 have hsl:((go_ ps.length 4).map fun (x:Nat)=>(x:Int)).length=k:=by rw[hSD]; simp
 have hsg:∀ i (h:i < ((go_ ps.length 4).map fun (x:Nat)=>(x:Int)).length),((go_ ps.length 4).map fun (x:Nat)=>(x:Int))[i]=((aP_ ps.length k (i+1) - aP_ ps.length k i:Nat):Int):=fun i h=>by
  simp only[hSD,getElem_map,getElem_range]
 have loop:∀ (F i:Nat) (H:Hp) (x:Pl) (cs:List PC) (y:Pl),n+3*(k - i)+1 < F+aP_ ps.length k i→i≤k→LJ B H x i cs (((List.range i).map (hu_ ps k)).map (·.1)) y (((List.range i).map (hu_ ps k)).map (·.2)) none [] none []→
  a7_.l5 F a n none 0 none 0 x i y i sa k ((aP_ ps.length k i:Nat):Int) (i:Int) H Q:=by
  intro F;induction F using Nat.strongRecOn with
  | _ F ihF=>
   intro i H x cs y hF hi g;have hci:=lI_ (n:=ps.length) (k:=k) (i:=i) hi hk;obtain⟨F,rfl⟩:∃ F',F=F'+1:=⟨F - 1,by omega⟩;rw[a7_.l5_eq];by_cases hik:i < k
   ·rw[az_ (by simp; omega)];have hmono:=k1_ ps.length k i;have hci1:=lI_ (n:=ps.length) (k:=k) (i:=i+1) (by omega) hk;have inner:∀ (d G:Nat) (j:Nat) (H:Hp) (kk:Pl) (v:Pl),aP_ ps.length k (i+1) - j=d→aP_ ps.length k i≤j→j≤aP_ ps.length k (i+1)→n+3*(k - i) < G+j→G≤F→
     LJ B H x i cs (((List.range i).map (hu_ ps k)).map (·.1)) y (((List.range i).map (hu_ ps k)).map (·.2)) kk (((ps.drop (aP_ ps.length k i)).take (j - aP_ ps.length k i)).map (·.1)) v (((ps.drop (aP_ ps.length k i)).take (j - aP_ ps.length k i)).map (·.2))→
     a7_.l9 G a n none 0 none 0 x i y i sa k ((aP_ ps.length k i:Nat):Int) (i:Int) true true kk (((ps.drop (aP_ ps.length k i)).take (j - aP_ ps.length k i)).map (·.1)).length v (((ps.drop (aP_ ps.length k i)).take (j - aP_ ps.length k i)).map (·.2)).length none 0 (j:Int) H Q:=by
     intro d;induction d with
     | zero=>
      intro G j H kk v hd hj1 hj2 hG hGF g;obtain rfl:j=aP_ ps.length k (i+1):=by omega
      obtain⟨G,rfl⟩:∃ G',G=G'+2:=⟨G - 2,by omega⟩;have hS':=hS.mono g.pre;rw[a7_.l9_eq,ae_,hS'.rd i rfl (by rw[hsl]; exact hik),hsg];have w1:ac_ .i64 (((aP_ ps.length k i:Nat):Int)+((aP_ ps.length k (i+1) - aP_ ps.length k i:Nat):Int))=((aP_ ps.length k (i+1):Nat):Int):=by rw[cy_ (by omega) (by omega)]; omega
      rw[w1,aD_ (by simp),ae_,hS'.rd i rfl (by rw[hsl]; exact hik),hsg];have hle:((ps.drop (aP_ ps.length k i)).take (aP_ ps.length k (i+1) - aP_ ps.length k i)).length≤1000:=by simp; omega
      have fin:∀ s,s=(hu_ ps k i).2→a7_.l16 (G+1) a n none 0 none 0 x i y i sa k ((aP_ ps.length k i:Nat):Int) (i:Int) true true kk (((ps.drop (aP_ ps.length k i)).take (aP_ ps.length k (i+1) - aP_ ps.length k i)).map (·.1)).length v (((ps.drop (aP_ ps.length k i)).take (aP_ ps.length k (i+1) - aP_ ps.length k i)).map (·.2)).length none 0 s H Q:=by
       intro s hs;rw[a7_.l16_eq,ae_];refine g.page (by simpa using hle) (by simpa using hle) (by omega) s (K:=fun x0 n1 H2 x3 n4 H5=>chk true (chk ((leI 0 (i:Int))&&(ltI (i:Int) (nI k))) (pS sa fun n6 n7=>rd H5 n6 (n7+((tN (i:Int))*1)) fun v8=>dI .i64 v8 fun i9=>a7_.l5 G a n none 0 none 0 x0 n1 x3 n4 sa k (ac_ .i64 (((aP_ ps.length k i:Nat):Int)+i9)) (ac_ .i64 ((i:Int)+1)) H5 Q))) ?_;intro x' H1 y' H2 c g2;have hS2:=hS.mono g2.pre;rw[ae_,hS2.rd i rfl (by rw[hsl]; exact hik),hsg,w1,an_ (by omega)];refine ihF G (by omega) (i+1) H2 x' (cs++[c]) y' (by omega) (by omega) ?_;rw[range_succ,kL,kL,kL];rw[hs] at g2;exact g2
      refine aa_ (fun e=> ?_) (fun e=> ?_)
      ·have h0:0 < aP_ ps.length k (i+1) - aP_ ps.length k i:=by simp at e; omega
       have hlt:aP_ ps.length k i < ps.length:=by omega
       obtain⟨l,o,ea,hg1,hg2⟩:=(hp.mono (pB.trans g.pre)).get hlt;subst ea;rw[ae_];refine ab_ (by simp; omega) ?_;have etN:tN ((aP_ ps.length k i:Nat):Int)=aP_ ps.length k i:=rfl;rw[af_,etN,ad_ (v:= .str ps[aP_ ps.length k i].1) (by exact hg1),ax_];exact fin _ (by unfold hu_; rw[decide_eq_true h0]; simp [hlt])
      ·have h0: ¬ 0 < aP_ ps.length k (i+1) - aP_ ps.length k i:=by simp at e; omega
       exact fin _ (by unfold hu_; rw[decide_eq_false h0])
     | succ d ihd=>
      intro G j H kk v hd hj1 hj2 hG hGF g;obtain⟨G,rfl⟩:∃ G',G=G'+1:=⟨G - 1,by omega⟩;have hS':=hS.mono g.pre;have hjl:j < ps.length:=by omega
      rw[a7_.l9_eq,ae_,hS'.rd i rfl (by rw[hsl]; exact hik),hsg];have w1:ac_ .i64 (((aP_ ps.length k i:Nat):Int)+((aP_ ps.length k (i+1) - aP_ ps.length k i:Nat):Int))=((aP_ ps.length k (i+1):Nat):Int):=by rw[cy_ (by omega) (by omega)]; omega
      rw[w1,az_ (by simp; omega),ae_];obtain⟨l,o,ea,hg1,hg2⟩:=(hp.mono pB).get hjl;subst ea;have etN:tN (j:Int)=j:=rfl;have hlen:((ps.drop (aP_ ps.length k i)).take (j - aP_ ps.length k i)).length≤1000:=by simp; omega
      have hnext:(ps.drop (aP_ ps.length k i)).take (j+1 - aP_ ps.length k i)=(ps.drop (aP_ ps.length k i)).take (j - aP_ ps.length k i)++[ps[j]]:=by
       have e1:j+1 - aP_ ps.length k i=(j - aP_ ps.length k i)+1:=by omega
       rw[e1,take_succ_eq_append_getElem (by simp; omega)];congr 1;simp;congr 1;omega
      refine ab_ (by simp; omega) ?_;rw[af_,etN,ad_ (v:= .str ps[j].1) (by exact b6_ g.pre hg1),ax_,ae_];refine g.key ps[j].1 (by simpa using hlen) fun k' H1 g1=> ?_;rw[ae_];refine ab_ (by simp; omega) ?_;rw[af_,ad_ (v:= .str ps[j].2) (by exact b6_ g1.pre hg2),ax_,ae_];refine g1.val ps[j].2 (by simpa using hlen) fun v' H2 g2=> ?_;rw[an_ (by omega)];have:=ihd G (j+1) H2 k' v' (by omega) (by omega) (by omega) (by omega) (by omega) (by rw[hnext,kL,kL]; exact g2);rw[hnext,kL,kL,kI,kI] at this;exact this
    have:=inner _ F (aP_ ps.length k i) H none none rfl (kO _) hmono (by omega) (kO _) (by simpa using g);simpa using this
   ·obtain rfl:i=k:=by omega
    rw[aD_ (by simp)];have:=hQ x y cs H (pB.trans g.pre);rw[hDl,hD] at this;have hbl:=pB.length_le;refine this ⟨?_,g.X.len,g.X.lenT,g.X.all,g.X.off⟩ ?_ g.xy g.yo (fun c hc l hl=>by have:=g.lo c hc l hl; omega)
    ·rcases g.X.own with h | ⟨l,h1,h2,h3⟩
     ·exact .inl h
     ·exact .inr ⟨l,h1,by omega,h3⟩
    ·rcases g.Y with h | ⟨l,h1,h2,h3⟩
     ·exact .inl h
     ·exact .inr ⟨l,h1,by omega,h3⟩
 have:=loop (n+3*k+4) 0 B none [] none (by rw[fW_]; omega) (kP _) ⟨prefix_refl _,OT.nil _ _ _,.inl ⟨rfl,rfl,rfl⟩,.inl ⟨rfl,rfl,rfl⟩,.inl ⟨rfl,rfl,rfl⟩,fun _ e=>(by cases e),fun _ e=>(by cases e),fun _ e=>(by cases e),fun _ e=>(by cases e),fun _ e=>(by cases e),fun _ e=>(by cases e),fun c hc=>(by simp at hc),fun c hc=>(by simp at hc),fun c hc=>(by simp at hc),fun c hc=>(by simp at hc)⟩;rw[fW_] at this;exact this
end
end Go.Am
namespace Go.Am
open List
structure Sp (H:Hp) (M F:List Pl) (P:List PC):Prop where
 mm:∀ i j,i≠j→Dj (M.getD i none) (M.getD j none)
 mf:∀ i,∀ b∈F,Dj (M.getD i none) b
 mp:∀ i,∀ c∈P,∀ l,c.on l→M.getD i none≠some (l,0)
 lm:∀ i l o,M.getD i none=some (l,o)→l < H.length
 lf:∀ b∈F,∀ l o,b=some (l,o)→l < H.length
 lp:∀ c∈P,∀ l,c.on l→l < H.length
section
variable {H H':Hp} {M F:List Pl} {P:List PC} {B:Hp}
theorem no_ (M:List Pl) (j:Nat) (a:Pl) (i:Nat):(M.set j a).getD i none=a∨(M.set j a).getD i none=M.getD i none:=by
 grind
theorem Sp.grow (h:Sp H M F P) (r:H.length≤H'.length):Sp H' M F P:=
 ⟨h.mm,h.mf,h.mp,fun i l o e=>Nat.lt_of_lt_of_le (h.lm i l o e) r,fun b A l o e=>Nat.lt_of_lt_of_le (h.lf b A l o e) r,fun c C l e=>Nat.lt_of_lt_of_le (h.lp c C l e) r⟩
theorem Sp.step (h:Sp H M F P) (C:H.length≤H'.length) (j:Nat) {a:Pl} (f:∀ l o,a=some (l,o)→H.length≤l∧l < H'.length):Sp H' (M.set j a) F P:=by
 refine⟨fun i k I l r A=> ?_,fun i b D l r A=> ?_,fun i c G l C e=> ?_,fun i l o e=> ?_,fun b D l o e=>Nat.lt_of_lt_of_le (h.lf b D l o e) C,fun c G l e=>Nat.lt_of_lt_of_le (h.lp c G l e) C⟩
 ·by_cases N:(M.set j a).getD i none=M.getD i none
  ·by_cases J:(M.set j a).getD k none=M.getD k none
   ·rw[N] at r; rw[J] at A; exact h.mm i k I l r A
   ·rcases no_ M j a k with q | q
    ·rw[q] at A; rw[N] at r;have:=f l 0 A; have:=h.lm i l 0 r; omega
    ·grind
  ·by_cases J:(M.set j a).getD k none=M.getD k none
   ·rcases no_ M j a i with q | q
    ·rw[q] at r; rw[J] at A;have:=f l 0 r; have:=h.lm k l 0 A; omega
    ·grind
   ·grind
 ·rcases no_ M j a i with q | q
  ·rw[q] at r; have:=f l 0 r; have:=h.lf b D l 0 A; omega
  ·rw[q] at r; exact h.mf i b D l r A
 ·rcases no_ M j a i with q | q
  ·rw[q] at e; have:=f l 0 e; have:=h.lp c G l C; omega
  ·rw[q] at e; exact h.mp i c G l C e
 ·rcases no_ M j a i with q | q
  ·grind
  ·rw[q] at e; exact Nat.lt_of_lt_of_le (h.lm i l o e) C
end
theorem BW_ (cs:List PC) (i:Nat) (c:PC) (hi:i < cs.length):(((((bD_ cs).set (i*5) (.bool c.u)).set (i*5+1) (.bool c.l)).set (i*5+1+1) (.sl c.a1 c.n1 1)).set (i*5+1+1+1) (.sl c.a2 c.n2 1)).set (i*5+1+1+1+1) (.sl c.a3 c.n3 1)=bD_ (cs.set i c):=by
 induction cs generalizing i with
 | nil=>simp at hi
 | cons d cs G=>
  have e:bD_ (d::cs)=d.cells++bD_ cs:=rfl;cases i with
  | zero=>rfl
  | succ i=>
   rw[e];have s:∀ (x:List GV) (k:Nat) (v:GV),(d.cells++x).set (i*5+5+k) v=d.cells++x.set (i*5+k) v:=fun x k v=>by
    rw[set_append_right _ _ (by simp; omega)];congr 2;simp; omega
   have A:(i+1)*5=i*5+5+0:=by omega
   have C:(i+1)*5+1=i*5+5+1:=by omega
   have F:(i+1)*5+1+1=i*5+5+(1+1):=by omega
   have r:(i+1)*5+1+1+1=i*5+5+(1+1+1):=by omega
   have D:(i+1)*5+1+1+1+1=i*5+5+(1+1+1+1):=by omega
   rw[D,r,F,C,A,s,s,s,s,s];show d.cells++_=d.cells++bD_ (cs.set i c);grind
theorem wr5 (h:H[l]? =some (.row true t (bD_ cs))) (hi:i < cs.length) (F:K (H.set l (.row true t (bD_ (cs.set i c))))):
 wr H l (i*5) (.bool c.u) fun G=>wr G l (i*5+1) (.bool c.l) fun D=>wr D l (i*5+1+1) (.sl c.a1 c.n1 1) fun C=>wr C l (i*5+1+1+1) (.sl c.a2 c.n2 1) fun I=>wr I l (i*5+1+1+1+1) (.sl c.a3 c.n3 1) K:=by
 have r:=(kC.1 h).1;have A:=ck_ cs;refine cr_ h (by omega) (cr_ (kH r) (by grind) ?_);rw[set_set];refine cr_ (kH r) (by grind) ?_;rw[set_set];refine cr_ (kH r) (by grind) ?_;rw[set_set];refine cr_ (kH r) (by grind) ?_;rw[set_set,BW_ cs i c hi];exact F
theorem OT.place {B H:Hp} (h:OT H B.length t (some (tp,0)) n cs T) (hi:i < n) (N:c.at H p) (G:∀ l,c.on l→l≠tp):
 OT (H.set tp (.row true t (bD_ (cs.set i c)))) B.length t (some (tp,0)) n (cs.set i c) (T.set i p):=by
 have F:=h.len;have O:=h.lenT;rcases h.own with⟨e,_⟩ | ⟨l,e,V,U,r⟩
 ·cases e
 cases e;have C:=(kC.1 U).1;have A:∀ d∈cs,∀ l,d.on l→l≠tp:=fun d D l r e=>h.off d D l r (by rw[e]);refine⟨.inr ⟨tp,rfl,V,kH C,by rw[ck_]; simp [F]⟩,by simp [F],by simp [O],fun j I J=> ?_,fun d D l r e=> ?_⟩
 ·rw[getElem_set,getElem_set];by_cases e:i=j
  ·rw[if_pos e,if_pos e];exact N.keep fun l r=>by grind
  ·rw[if_neg e,if_neg e];simp at I J;exact (h.all j I J).keep fun l r=>by grind
 ·grind
end Go.Am
namespace Go.Am
open List
section
variable {H:Hp} {M F:List Pl} {P P':List PC} {c:PC}
theorem Sp.sub (h:Sp H M F P) (A:∀ c∈P',c∈P):Sp H M F P':=⟨h.mm,h.mf,fun i c r=>h.mp i c (A c r),h.lm,h.lf,fun c r=>h.lp c (A c r)⟩
theorem Sp.addP (h:Sp H M F P) (D:∀ i l,c.on l→M.getD i none≠some (l,0)) (C:∀ l,c.on l→l < H.length):Sp H M F (P++[c]):=
 ⟨h.mm,h.mf,fun i d A l r=>by
  rcases kD.1 A with q | q
  ·exact h.mp i d q l r
  ·rw[mem_singleton.1 q] at r; exact D i l r,h.lm,h.lf,fun d A l r=>by
  rcases kD.1 A with q | q
  ·exact h.lp d q l r
  ·rw[mem_singleton.1 q] at r; exact C l r⟩
theorem Own.ltAny (h:Own H b t a n cs) (e:a=some (l,o)):l < H.length:=by
 rcases h with⟨q,_⟩ | ⟨m,q,_,r,_⟩
 ·grind
 ·grind
theorem Own.zero (h:Own H b t a n cs) (e:a=some (l,o)):a=some (l,0):=by
 rcases h with⟨q,_⟩ | ⟨m,q,_,r,_⟩
 ·grind
 ·grind
end
structure BJ (B H:Hp) (tp:Nat) (tcs:List PC) (T:List Pg) (x:Pl) (n:Nat) (xcs:List PC) (xT:List Pg) (y:Pl) (yls:List ByteArray) (sa:Pl) (k:Nat) (ss:List Int)
 (up:Pl) (m:Nat) (ucs:List PC) (uT:List Pg) (ul:Pl) (m2:Nat) (uls:List ByteArray) (kk:Pl) (ks:List ByteArray) (ii:Pl) (is:List Int):Prop where
 pre:B<+:H
 TP:OT H B.length tPg (some (tp,0)) 48 tcs T
 X:OT H B.length tPg x n xcs xT
 Y:Own H B.length tS y n (yls.map GV.str)
 S:Own H B.length tI sa k (ss.map (GV.int .i64))
 UP:OT H B.length tPg up m ucs uT
 UL:Own H B.length tS ul m2 (uls.map GV.str)
 K:Own H B.length tS kk ks.length (ks.map GV.str)
 I:Own H B.length tI ii is.length (is.map (GV.int .i64))
 sp:Sp H [some (tp,0),up,ul,kk,ii] [x,y,sa] (tcs++xcs++ucs)
section
variable {B H:Hp} {tp:Nat} {tcs:List PC} {T:List Pg} {x:Pl} {n:Nat} {xcs:List PC} {xT:List Pg} {y:Pl} {yls:List ByteArray} {sa:Pl} {k:Nat} {ss:List Int}
 {up:Pl} {m:Nat} {ucs:List PC} {uT:List Pg} {ul:Pl} {m2:Nat} {uls:List ByteArray} {kk:Pl} {ks:List ByteArray} {ii:Pl} {is:List Int}
theorem BJ.kid (g:BJ B H tp tcs T x n xcs xT y yls sa k ss up m ucs uT ul m2 uls kk ks ii is) (s:Int) (F:is.length≤1000) {K:Pl→Nat→Hp→Prop}
 (D:∀ i' H',BJ B H' tp tcs T x n xcs xT y yls sa k ss up m ucs uT ul m2 uls kk ks i' (is++[s])→K i' (is.length+1) H'):ap H tI 1 8 ii is.length [.int .i64 s] 1 K:=
 kH_ g.pre g.I rfl (by unfold Lim; omega) fun i' H' o e f=>D i' H'
  ⟨e.pre,g.TP.ex e (g.sp.mm 4 0 (by simp)) (fun c A l r=>g.sp.mp 4 c (by grind) l r),g.X.ex e (g.sp.mf 4 x (by simp)) (fun c A l r=>g.sp.mp 4 c (by grind) l r),g.Y.after (g.sp.mf 4 y (by simp)) e,g.S.after (g.sp.mf 4 sa (by simp)) e,
   g.UP.ex e (g.sp.mm 4 1 (by simp)) (fun c A l r=>g.sp.mp 4 c (by grind) l r),g.UL.after (g.sp.mm 4 2 (by simp)) e,g.K.after (g.sp.mm 4 3 (by simp)) e,by grind,
   g.sp.step e.len 4 (fun l C q=>⟨f l C q,o.ltAny q⟩)⟩
theorem BJ.key (g:BJ B H tp tcs T x n xcs xT y yls sa k ss up m ucs uT ul m2 uls kk ks ii is) (s:ByteArray) (J:ks.length≤1000) {K:Pl→Nat→Hp→Prop}
 (G:∀ C H',BJ B H' tp tcs T x n xcs xT y yls sa k ss up m ucs uT ul m2 uls C (ks++[s]) ii is→K C (ks.length+1) H'):ap H tS 1 16 kk ks.length [.str s] 1 K:=
 kH_ g.pre g.K rfl (by unfold Lim; omega) fun F H' o e f=>G F H'
  ⟨e.pre,g.TP.ex e (g.sp.mm 3 0 (by simp)) (fun c A l r=>g.sp.mp 3 c (by grind) l r),g.X.ex e (g.sp.mf 3 x (by simp)) (fun c A l r=>g.sp.mp 3 c (by grind) l r),g.Y.after (g.sp.mf 3 y (by simp)) e,g.S.after (g.sp.mf 3 sa (by simp)) e,
   g.UP.ex e (g.sp.mm 3 1 (by simp)) (fun c A l r=>g.sp.mp 3 c (by grind) l r),g.UL.after (g.sp.mm 3 2 (by simp)) e,by grind,g.I.after (g.sp.mm 3 4 (by simp)) e,
   g.sp.step e.len 3 (fun l D q=>⟨f l D q,o.ltAny q⟩)⟩
theorem BJ.least (g:BJ B H tp tcs T x n xcs xT y yls sa k ss up m ucs uT ul m2 uls kk ks ii is) (s:ByteArray) (J:m2≤1000) {K:Pl→Nat→Hp→Prop}
 (G:∀ C H',BJ B H' tp tcs T x n xcs xT y yls sa k ss up m ucs uT C (m2+1) (uls++[s]) kk ks ii is→K C (m2+1) H'):ap H tS 1 16 ul m2 [.str s] 1 K:=
 kH_ g.pre g.UL rfl (by unfold Lim; omega) fun F H' o e f=>G F H'
  ⟨e.pre,g.TP.ex e (g.sp.mm 2 0 (by simp)) (fun c A l r=>g.sp.mp 2 c (by grind) l r),g.X.ex e (g.sp.mf 2 x (by simp)) (fun c A l r=>g.sp.mp 2 c (by grind) l r),g.Y.after (g.sp.mf 2 y (by simp)) e,g.S.after (g.sp.mf 2 sa (by simp)) e,
   g.UP.ex e (g.sp.mm 2 1 (by simp)) (fun c A l r=>g.sp.mp 2 c (by grind) l r),by grind,g.K.after (g.sp.mm 2 3 (by simp)) e,g.I.after (g.sp.mm 2 4 (by simp)) e,
   g.sp.step e.len 2 (fun l D q=>⟨f l D q,o.ltAny q⟩)⟩
theorem BJ.page (g:BJ B H tp tcs T x n xcs xT y yls sa k ss up m ucs uT ul m2 uls kk ks C is) (hks:ks.length≤1000) (his:is.length≤1000) (hm:m≤1000) {K:Pl→Nat→Hp→Prop}
 (Z:∀ G H' c,BJ B H' tp tcs T x n xcs xT y yls sa k ss G (m+1) (ucs++[c]) (uT++[⟨true,false,ks,[],is⟩]) ul m2 uls none [] none []→K G (m+1) H'):
 ap H tPg 5 80 up m [.bool true,.bool false,.sl kk ks.length 1,.sl none 0 1,.sl C is.length 1] 1 K:=by
 have F:∀ l,(⟨true,false,kk,ks.length,none,0,C,is.length⟩:PC).on l→kk=some (l,0)∨C=some (l,0):=by
  rintro l ⟨o,q | q | q⟩
  ·exact .inl (g.K.zero q)
  ·cases q
  ·exact .inr (g.I.zero q)
 have D:(⟨true,false,kk,ks.length,none,0,C,is.length⟩:PC).at H ⟨true,false,ks,[],is⟩:=
  ⟨rfl,rfl,⟨g.K.cells,rfl,by grind⟩,.nil _,⟨g.I.cells,rfl,by show is.length*8≤_; omega⟩⟩
 refine g.UP.add g.pre D (fun l r e=>by rcases F l r with q | q; exact g.sp.mm 1 3 (by simp) l e q; exact g.sp.mm 1 4 (by simp) l e q) (by unfold Lim; omega) fun G H1 V A W=>Z G H1 ⟨true,false,kk,ks.length,none,0,C,is.length⟩ ?_;have N:Sp H [some (tp,0),up,ul,none,none] [x,y,sa] (tcs++xcs++ucs):=(g.sp.step (kO _) 3 (fun _ _ q=>by cases q)).step (kO _) 4 (fun _ _ q=>by cases q);have O:=N.addP (fun i l r e=>by
  rcases F l r with q | q
  ·match i,e with
   | 0,e=>exact g.sp.mm 0 3 (by simp) l e q
   | 1,e=>exact g.sp.mm 1 3 (by simp) l e q
   | 2,e=>exact g.sp.mm 2 3 (by simp) l e q
   | 3,e=>cases e
   | 4,e=>cases e
   | i+5,e=>simp at e
  ·match i,e with
   | 0,e=>exact g.sp.mm 0 4 (by simp) l e q
   | 1,e=>exact g.sp.mm 1 4 (by simp) l e q
   | 2,e=>exact g.sp.mm 2 4 (by simp) l e q
   | 3,e=>cases e
   | 4,e=>cases e
   | i+5,e=>simp at e) (fun l r=>D.lt r)
 have U:=(O.sub (P':=tcs++xcs++(ucs++[⟨true,false,kk,ks.length,none,0,C,is.length⟩])) (fun c J=>by grind)).step A.len 1 (fun l o q=>⟨(W l o q).1,V.own.ltAny q⟩);exact⟨A.pre,g.TP.ex A (g.sp.mm 1 0 (by simp)) (fun c J l r=>g.sp.mp 1 c (by grind) l r),g.X.ex A (g.sp.mf 1 x (by simp)) (fun c J l r=>g.sp.mp 1 c (by simp [J]) l r),g.Y.after (g.sp.mf 1 y (by simp)) A,g.S.after (g.sp.mf 1 sa (by simp)) A,
  V,g.UL.after (g.sp.mm 1 2 (by simp)) A,.inl ⟨rfl,rfl,rfl⟩,.inl ⟨rfl,rfl,rfl⟩,U⟩
theorem BJ.place (g:BJ B H tp tcs T x n xcs xT y yls sa k ss up m ucs uT ul m2 uls kk ks ii is) {i j:Nat} (hi:i < 48) (D:xcs[j]? =some c) (V:xT[j]? =some p) {K:Hp→Prop}
 (W:∀ H' C,BJ B H' tp C (T.set i p) x n xcs xT y yls sa k ss up m ucs uT ul m2 uls kk ks ii is→K H'):
 wr H tp (i*5) (.bool c.u) fun Z=>wr Z tp (i*5+1) (.bool c.l) fun O=>wr O tp (i*5+1+1) (.sl c.a1 c.n1 1) fun U=>wr U tp (i*5+1+1+1) (.sl c.a2 c.n2 1) fun H4=>wr H4 tp (i*5+1+1+1+1) (.sl c.a3 c.n3 1) K:=by
 obtain⟨hj,rfl⟩:=kC.1 D;obtain⟨F,rfl⟩:=kC.1 V;have J:=g.X.all j hj F;have r:=g.TP.len;rcases g.TP.own with⟨e,_⟩ | ⟨l,e,hb,hr,N⟩
 ·cases e
 cases e;have A:∀ l,(xcs[j]).on l→l≠tp:=fun l r e=>g.sp.mp 0 _ (by simp) l r (by grind);refine wr5 hr (by omega) ?_;have e:Ex B (some (tp,0)) H (H.set tp (.row true tPg (bD_ (tcs.set i xcs[j])))):=⟨ej_ g.pre hb _,by simp,fun l _ G=>by rw[kF]; intro q; subst q; exact G rfl⟩;refine W _ (tcs.set i xcs[j]) ⟨e.pre,g.TP.place hi J A,g.X.ex e (g.sp.mf 0 x (by simp)) (fun c D l r=>g.sp.mp 0 c (by grind) l r),g.Y.after (g.sp.mf 0 y (by simp)) e,g.S.after (g.sp.mf 0 sa (by simp)) e,
  g.UP.ex e (g.sp.mm 0 1 (by simp)) (fun c D l r=>g.sp.mp 0 c (by grind) l r),g.UL.after (g.sp.mm 0 2 (by simp)) e,g.K.after (g.sp.mm 0 3 (by simp)) e,g.I.after (g.sp.mm 0 4 (by simp)) e,(g.sp.grow e.len).sub fun c D=> ?_⟩
 grind
end
end Go.Am
namespace Go.Am
open List
theorem Own.base (h:Own H b t a n cs) (D:b'≤b):Own H b' t a n cs:=by
 rcases h with h | ⟨l,r,C,A⟩
 ·exact .inl h
 ·exact .inr ⟨l,r,by omega,A⟩
theorem Own.above (h:Own H b t a n cs) (e:a=some (l,o)):b≤l:=by
 rcases h with⟨h,_⟩ | ⟨A,r,C,_⟩
 ·grind
 ·grind
structure BS (B H:Hp) (tp:Nat) (tcs:List PC) (T:List Pg) (x:Pl) (n:Nat) (xcs:List PC) (xT:List Pg) (y:Pl) (yls:List ByteArray):Prop where
 pre:B<+:H
 TP:OT H B.length tPg (some (tp,0)) 48 tcs T
 X:OT H B.length tPg x n xcs xT
 Y:Own H B.length tS y n (yls.map GV.str)
 sp:Sp H [some (tp,0)] [x,y] (tcs++xcs)
section
variable {B H H':Hp} {tp:Nat} {tcs:List PC} {T:List Pg} {x:Pl} {n:Nat} {xcs:List PC} {xT:List Pg} {y:Pl} {yls:List ByteArray} {sa:Pl} {k:Nat} {ss:List Int}
 {up:Pl} {m:Nat} {ucs:List PC} {uT:List Pg} {ul:Pl} {uls:List ByteArray}
theorem BS.start (g:BS B H tp tcs T x n xcs xT y yls) (A:H<+:H') (F:Own H' H.length tI sa k (ss.map (GV.int .i64))):BJ B H' tp tcs T x n xcs xT y yls sa k ss none 0 [] [] none 0 [] none [] none []:=by
 have G:=g.pre.length_le;have V:=A.length_le;refine⟨g.pre.trans A,g.TP.mono A,g.X.mono A,g.Y.mono A,F.base G,OT.nil _ _ _,.inl ⟨rfl,rfl,rfl⟩,.inl ⟨rfl,rfl,rfl⟩,.inl ⟨rfl,rfl,rfl⟩,?_⟩;have I:∀ i l o,([some (tp,0),none,none,none,none]).getD i none=some (l,o)→i=0∧l=tp∧o=0:=by
  intro i l o e
  match i,e with
  | 0,e=>cases e; exact⟨rfl,rfl,rfl⟩
  | 1,e=>cases e
  | 2,e=>cases e
  | 3,e=>cases e
  | 4,e=>cases e
  | i+5,e=>simp at e
 have O:=g.sp.lm 0 tp 0 rfl;refine⟨fun i j N l J D=> ?_,fun i b C l J D=> ?_,fun i c U l r e=> ?_,fun i l o e=> ?_,fun b C l o e=> ?_,fun c U l r=> ?_⟩
 ·grind
 ·have ⟨_,rfl,_⟩:=I i l 0 J;simp [mem_cons] at C;rcases C with rfl | rfl | rfl
  ·exact g.sp.mf 0 _ (by simp) l rfl D
  ·exact g.sp.mf 0 _ (by simp) l rfl D
  ·have:=F.above D; omega
 ·have ⟨_,rfl,_⟩:=I i l 0 e;exact g.sp.mp 0 c (by grind) l r rfl
 ·grind
 ·simp [mem_cons] at C;rcases C with rfl | rfl | rfl
  ·have:=g.sp.lf _ (by simp) l o e; omega
  ·have:=g.sp.lf _ (by simp) l o e; omega
  ·exact F.ltAny e
 ·have:=g.sp.lp c (by grind) l r; omega
theorem BJ.done (g:BJ B H tp tcs T x n xcs xT y yls sa k ss up m ucs uT ul m uls none [] none []):BS B H tp tcs T up m ucs uT ul uls:=by
 have C:∀ i l o,([some (tp,0)]).getD i none=some (l,o)→i=0∧l=tp∧o=0:=by
  intro i l o e
  match i,e with
  | 0,e=>cases e; exact⟨rfl,rfl,rfl⟩
  | i+1,e=>simp at e
 refine⟨g.pre,g.TP,g.UP,g.UL,fun i j I l F D=> ?_,fun i b A l F D=> ?_,fun i c G l r e=> ?_,fun i l o e=> ?_,fun b A l o e=> ?_,fun c G l r=> ?_⟩
 ·grind
 ·have ⟨_,rfl,_⟩:=C i l 0 F;simp [mem_cons] at A;rcases A with rfl | rfl
  ·exact g.sp.mm 0 1 (by simp) l rfl D
  ·exact g.sp.mm 0 2 (by simp) l rfl D
 ·have ⟨_,rfl,_⟩:=C i l 0 e;refine g.sp.mp 0 c ?_ l r rfl;grind
 ·have ⟨_,rfl,_⟩:=C i l o e;exact g.sp.lm 0 l 0 rfl
 ·simp [mem_cons] at A;rcases A with rfl | rfl
  ·exact g.sp.lm 1 l o e
  ·exact g.sp.lm 2 l o e
 ·refine g.sp.lp c ?_ l r;grind
end
section
variable {B:Hp} {Q:Post} {tp:Nat}
theorem Fv_ {xs:Lvl} {next0:Nat} {T0:List Pg} {x y:Pl} {xcs:List PC} {sa:Pl} {REST:Nat} (hn2:2≤xs.length) (hb:next0+xs.length≤48)
 (hK:∀ (F:Nat) (H:Hp) (tcs:List PC) (up:Pl) (ucs:List PC) (ul:Pl),REST≤F→BS B H tp tcs (er_ T0 xs next0 xs.length) up (upD xs next0).length ucs ((upD xs next0).map (·.1)) ul ((upD xs next0).map (·.2))→
  bc_.l4 F none 0 (some (tp,0)) 48 up (upD xs next0).length ul (upD xs next0).length ((next0+xs.length:Nat):Int) H Q):
 ∀ (F i:Nat) (H:Hp) (tcs:List PC) (up:Pl) (ucs:List PC) (ul:Pl),xs.length+3*(kOf xs.length 5 - i)+REST < F+aP_ xs.length (kOf xs.length 5) i→i≤kOf xs.length 5→
  BJ B H tp tcs (er_ T0 xs next0 (aP_ xs.length (kOf xs.length 5) i)) x xs.length xcs (xs.map (·.1)) y (xs.map (·.2)) sa (kOf xs.length 5) ((go_ xs.length 5).map fun (x:Nat)=>(x:Int)) up i ucs (((List.range i).map (py_ xs next0 (kOf xs.length 5))).map (·.1)) ul i (((List.range i).map (py_ xs next0 (kOf xs.length 5))).map (·.2)) none [] none []→
  bc_.l9 F none 0 (some (tp,0)) 48 x xs.length y xs.length ((next0+aP_ xs.length (kOf xs.length 5) i:Nat):Int) up i ul i sa (kOf xs.length 5) ((aP_ xs.length (kOf xs.length 5) i:Nat):Int) (i:Int) H Q:=by
 have hk:=i3_ xs.length 5;have hSD:go_ xs.length 5=(List.range (kOf xs.length 5)).map fun i=>aP_ xs.length (kOf xs.length 5) (i+1) - aP_ xs.length (kOf xs.length 5) i:=rfl;have hUD:upD xs next0=(List.range (kOf xs.length 5)).map (py_ xs next0 (kOf xs.length 5)):=rfl;have hk2:kOf xs.length 5≤48:=by
  unfold kOf;have:(xs.length+5 - 1) / 5≤xs.length:=by omega
  omega
 generalize kOf xs.length 5=k at*;have hUl:(upD xs next0).length=k:=by rw[hUD]; simp
 rw[hUl] at hK;have hsl:((go_ xs.length 5).map fun (x:Nat)=>(x:Int)).length=k:=by rw[hSD]; simp
 have hsg:∀ i (h:i < ((go_ xs.length 5).map fun (x:Nat)=>(x:Int)).length),((go_ xs.length 5).map fun (x:Nat)=>(x:Int))[i]=((aP_ xs.length k (i+1) - aP_ xs.length k i:Nat):Int):=fun i h=>by
  simp only[hSD,getElem_map,getElem_range]
 intro F;induction F using Nat.strongRecOn with
 | _ F ihF=>
  intro i H tcs up ucs ul hF hi g;have hci:=lI_ (n:=xs.length) (k:=k) (i:=i) hi hk;obtain⟨F,rfl⟩:∃ F',F=F'+1:=⟨F - 1,by omega⟩;rw[bc_.l9_eq];by_cases hik:i < k
  ·rw[az_ (by simp; omega)];have hmono:=k1_ xs.length k i;have hci1:=lI_ (n:=xs.length) (k:=k) (i:=i+1) (by omega) hk;have hclt:=GV_ (n:=xs.length) hik (by omega);have isS:∀ {H tcs T up m ucs uT ul m2 uls kk ks ii is},BJ B H tp tcs T x xs.length xcs (xs.map (·.1)) y (xs.map (·.2)) sa k ((go_ xs.length 5).map fun (x:Nat)=>(x:Int)) up m ucs uT ul m2 uls kk ks ii is→Is H sa k ((go_ xs.length 5).map fun (x:Nat)=>(x:Int)):=fun g=>⟨g.S.cells,hsl.symm,by omega⟩;have isY:∀ {H tcs T up m ucs uT ul m2 uls kk ks ii is},BJ B H tp tcs T x xs.length xcs (xs.map (·.1)) y (xs.map (·.2)) sa k ((go_ xs.length 5).map fun (x:Nat)=>(x:Int)) up m ucs uT ul m2 uls kk ks ii is→Ss H y xs.length (xs.map (·.2)):=fun g=>⟨g.Y.cells,by simp,by omega⟩;have w1:ac_ .i64 (((aP_ xs.length k i:Nat):Int)+((aP_ xs.length k (i+1) - aP_ xs.length k i:Nat):Int))=((aP_ xs.length k (i+1):Nat):Int):=by rw[cy_ (by omega) (by omega)]; omega
   have inner:∀ (d G j:Nat) (H:Hp) (tcs:List PC) (kk ii:Pl),aP_ xs.length k (i+1) - j=d→aP_ xs.length k i≤j→j≤aP_ xs.length k (i+1)→xs.length+3*(k - i)+REST < G+j+1→G≤F→
    BJ B H tp tcs (er_ T0 xs next0 j) x xs.length xcs (xs.map (·.1)) y (xs.map (·.2)) sa k ((go_ xs.length 5).map fun (x:Nat)=>(x:Int)) up i ucs (((List.range i).map (py_ xs next0 k)).map (·.1)) ul i (((List.range i).map (py_ xs next0 k)).map (·.2))
     kk (((xs.drop (aP_ xs.length k i+1)).take (j - (aP_ xs.length k i+1))).map (·.2)) ii ((List.range (j - aP_ xs.length k i)).map fun r=>((next0+(aP_ xs.length k i+r):Nat):Int))→
    bc_.l13 G none 0 (some (tp,0)) 48 x xs.length y xs.length ((next0+j:Nat):Int) up i ul i sa k ((aP_ xs.length k i:Nat):Int) (i:Int) true false kk (((xs.drop (aP_ xs.length k i+1)).take (j - (aP_ xs.length k i+1))).map (·.2)).length none 0 ii ((List.range (j - aP_ xs.length k i)).map fun r=>((next0+(aP_ xs.length k i+r):Nat):Int)).length (j:Int) H Q:=by
    intro d;induction d with
    | zero=>
     intro G j H tcs kk ii hd hj1 hj2 hG hGF g;obtain rfl:j=aP_ xs.length k (i+1):=by omega
     obtain⟨G,rfl⟩:∃ G',G=G'+1:=⟨G - 1,by omega⟩;rw[bc_.l13_eq,ae_,(isS g).rd i rfl (by rw[hsl]; exact hik),hsg,w1,aD_ (by simp),ae_];refine g.page (by simp; omega) (by simp; omega) (by omega) fun u' H1 c g1=> ?_;rw[ae_,(isY g1).rd (aP_ xs.length k i) rfl (by simp; omega),ae_];refine g1.least _ (by omega) fun ul' H2 g2=> ?_;rw[ae_,(isS g2).rd i rfl (by rw[hsl]; exact hik),hsg,w1,an_ (by omega)];refine ihF G (by omega) (i+1) H2 tcs u' (ucs++[c]) ul' (by omega) (by omega) ?_;rw[range_succ,kL,kL,kL];have e2:(py_ xs next0 k i).2=(xs.map (·.2))[aP_ xs.length k i]'(by simp; omega):=by
      unfold py_;dsimp only;rw[kG hclt,getElem_map];rfl
     show BJ B H2 tp tcs (er_ T0 xs next0 (aP_ xs.length k (i+1))) x xs.length xcs (xs.map (·.1)) y (xs.map (·.2)) sa k _ u' (i+1) (ucs++[c]) (_++[(py_ xs next0 k i).1]) ul' (i+1) (_++[(py_ xs next0 k i).2]) none [] none [];rw[e2];exact g2
    | succ d ihd=>
     intro G j H tcs kk ii hd hj1 hj2 hG hGF g;obtain⟨G,rfl⟩:∃ G',G=G'+1:=⟨G - 1,by omega⟩;have hjl:j < xs.length:=by omega
     rw[bc_.l13_eq,ae_,(isS g).rd i rfl (by rw[hsl]; exact hik),hsg,w1,az_ (by simp; omega),ae_];refine ab_ (by simp; omega) ?_;obtain⟨l,o,c,p,ex,hc,hp,hpc,g0,g1,g2,g3,g4⟩:=g.X.tr.get hjl;have etN:tN (j:Int)=j:=rfl;have etN2:0+tN ((next0+j:Nat):Int)*5=(next0+j)*5:=by rw[kN]; rfl
     have px:∀ K:Nat→Nat→Prop,pS x K=K l o:=fun K=>by rw[ex]; rfl
     rw[px,etN,cD_ g0 g1 g2 g3 g4,ae_];refine ab_ (by simp; omega) ?_;rw[af_,etN2];refine g.place (i:=next0+j) (by omega) hc hp fun H1 tcs1 h1=> ?_;have hpl:er_ T0 xs next0 (j+1)=(er_ T0 xs next0 j).set (next0+j) p:=by
      show (er_ T0 xs next0 j).set (next0+j) _=_;have:((xs[j]?.map (·.1)).getD noPg)=p:=by
       rw[getElem?_map] at hp;rw[hp]; rfl
      rw[this]
     rw[←hpl] at h1;rw[ae_];refine h1.kid _ (by simp; omega) fun ii' H2 h2=> ?_;have hr:(List.range (j+1 - aP_ xs.length k i)).map (fun r=>((next0+(aP_ xs.length k i+r):Nat):Int))=(List.range (j - aP_ xs.length k i)).map (fun r=>((next0+(aP_ xs.length k i+r):Nat):Int))++[((next0+j:Nat):Int)]:=by
      rw[show j+1 - aP_ xs.length k i=(j - aP_ xs.length k i)+1 by omega,range_succ,kL];simp;omega
     rw[←hr] at h2;have hrl:((List.range (j - aP_ xs.length k i)).map (fun r=>((next0+(aP_ xs.length k i+r):Nat):Int))).length+1=((List.range (j+1 - aP_ xs.length k i)).map (fun r=>((next0+(aP_ xs.length k i+r):Nat):Int))).length:=by simp; omega
     rw[hrl];have wn:ac_ .i64 (((next0+j:Nat):Int)+1)=((next0+(j+1):Nat):Int):=by rw[cy_ (by omega) (by omega)]; omega
     rw[wn,an_ (by omega)];refine aa_ (fun e=> ?_) (fun e=> ?_)
     ·have hlj:aP_ xs.length k i < j:=by simpa using e
      have r:=fun K=>(isY h2).rd j (i:=(j:Int)) rfl (by simp; omega) K;rw[etN] at r;rw[ae_,r,ae_];refine h2.key _ (by simp; omega) fun kk' H3 h3=> ?_;have hks:((xs.drop (aP_ xs.length k i+1)).take (j+1 - (aP_ xs.length k i+1))).map (·.2)=((xs.drop (aP_ xs.length k i+1)).take (j - (aP_ xs.length k i+1))).map (·.2)++[(xs.map (·.2))[j]'(by simp; omega)]:=by
       rw[show j+1 - (aP_ xs.length k i+1)=(j - (aP_ xs.length k i+1))+1 by omega,take_succ_eq_append_getElem (by simp; omega),kL];congr 1;simp;congr 2;omega
      rw[←hks] at h3;have hkl:(((xs.drop (aP_ xs.length k i+1)).take (j - (aP_ xs.length k i+1))).map (·.2)).length+1=(((xs.drop (aP_ xs.length k i+1)).take (j+1 - (aP_ xs.length k i+1))).map (·.2)).length:=by rw[hks,kI]; rfl
      rw[hkl];exact ihd G (j+1) H3 tcs1 kk' ii' (by omega) (by omega) (by omega) (by omega) (by omega) h3
     ·have hlj:aP_ xs.length k i=j:=by simp at e; omega
      have hks:((xs.drop (aP_ xs.length k i+1)).take (j+1 - (aP_ xs.length k i+1))).map (·.2)=((xs.drop (aP_ xs.length k i+1)).take (j - (aP_ xs.length k i+1))).map (·.2):=by
       rw[show j+1 - (aP_ xs.length k i+1)=0 by omega,show j - (aP_ xs.length k i+1)=0 by omega]
      rw[←hks] at h2;rw[←hks];exact ihd G (j+1) H2 tcs1 kk ii' (by omega) (by omega) (by omega) (by omega) (by omega) h2
   have hstart:=inner _ F (aP_ xs.length k i) H tcs none none rfl (kO _) hmono (by omega) (kO _) (by
    rw[show aP_ xs.length k i - (aP_ xs.length k i+1)=0 by omega,show aP_ xs.length k i - aP_ xs.length k i=0 by omega];exact g)
   rw[show aP_ xs.length k i - (aP_ xs.length k i+1)=0 by omega,show aP_ xs.length k i - aP_ xs.length k i=0 by omega] at hstart;exact hstart
  ·obtain rfl:i=k:=by omega
   rw[aD_ (by simp)];rw[m6_ hk] at g hF ⊢;have hd:=g.done;rw[←hUD] at hd;exact hK F H tcs up ucs ul (by omega) hd
end
end Go.Am
namespace Go.Am
open List
theorem OT.base (h:OT H b t a n cs T) (r:b'≤b):OT H b' t a n cs T:=⟨h.own.base r,h.len,h.lenT,h.all,h.off⟩
section
variable {B:Hp} {Q:Post} {tp:Nat}
theorem E4_:∀ (D:Nat) (xs:Lvl) (next:Nat) (T:List Pg) (F:Nat) (H:Hp) (tcs:List PC) (x:Pl) (xcs:List PC) (y:Pl),xs.length≤D→1≤xs.length→next+2*xs.length≤48→8*xs.length+8≤F→
 BS B H tp tcs T x xs.length xcs (xs.map (·.1)) y (xs.map (·.2))→(∀ H' tcs',B<+:H'→OT H' B.length tPg (some (tp,0)) 48 tcs' (hh_ D T next xs)→Q (.agg [.sl (some (tp,0)) 48 5]) H')→
 bc_.l4 F none 0 (some (tp,0)) 48 x xs.length y xs.length (next:Int) H Q:=by
 intro D;induction D with
 | zero=>intro xs _ _ _ _ _ _ _ _ h1 h2; omega
 | succ D ih=>
  intro xs next T F H tcs x xcs y hD h1 hb hF g hQ;obtain⟨F,rfl⟩:∃ F',F=F'+1:=⟨F - 1,by omega⟩;rw[bc_.l4_eq];refine aa_ (fun e=> ?_) (fun e=> ?_)
  ·have h2:2≤xs.length:=by simp at e; omega
   have hk2:2*kOf xs.length 5≤xs.length:=by
    unfold kOf;have:2*((xs.length+5 - 1) / 5)≤xs.length:=by omega
    omega
   have hk0:=i3_ xs.length 5;have hUl:(upD xs next).length=kOf xs.length 5:=by unfold upD; simp
   refine mp_ (n:=xs.length) (most:=5) (by omega) (by omega) (by omega) fun sa H1 p1 oS _=> ?_;simp only[aN_,ah_];have hst:=g.start p1 oS;have:=Fv_ (Q:=Q) (B:=B) (tp:=tp) (xs:=xs) (next0:=next) (T0:=T) (x:=x) (y:=y) (xcs:=xcs) (sa:=sa) (REST:=8*kOf xs.length 5+8) h2 (by omega) (fun F2 H2 tcs2 up ucs ul hF2 g2=>by
    refine ih (upD xs next) (next+xs.length) (er_ T xs next xs.length) F2 H2 tcs2 up ucs ul (by omega) (by omega) (by omega) (by omega) g2 fun H' tcs' hp ho=> ?_;refine hQ H' tcs' hp ?_;have e2:hh_ (D+1) T next xs=hh_ D (er_ T xs next xs.length) (next+xs.length) (upD xs next):=by
     show (match decide (1 < xs.length) with | true=>_ | false=>_)=_;rw[decide_eq_true (by omega)]
    rw[e2];exact ho) F 0 H1 tcs none [] none (by rw[fW_]; omega) (kP _) (by rw[fW_]; exact hst)
   rw[fW_] at this;exact this
  ·have h11:xs.length=1:=by simp at e; omega
   rw[ae_];refine ab_ (by simp; omega) ?_;obtain⟨l,o,c,p,ex,hc,hp,hpc,g0,g1,g2,g3,g4⟩:=g.X.tr.get (i:=0) (by omega);have px:∀ K:Nat→Nat→Prop,pS x K=K l o:=fun K=>by rw[ex]; rfl
   have et0:tN 0=0:=rfl;rw[px,et0,cD_ g0 g1 g2 g3 g4,ae_];refine ab_ (by simp) ?_;have e0:0+0*5=0*5:=by omega
   rw[af_,e0];refine (g.start (sa:=none) (k:=0) (ss:=[]) (prefix_refl _) (.inl ⟨rfl,rfl,rfl⟩)).place (i:=0) (by omega) hc hp fun H' tcs' g'=> ?_;refine hQ H' tcs' g'.pre ?_;have e2:hh_ (D+1) T next xs=T.set 0 p:=by
    show (match decide (1 < xs.length) with | true=>_ | false=>_)=_;rw[decide_eq_false (by omega)];dsimp only;rw[getElem?_map] at hp;rw[hp]; rfl
   rw[e2];exact g'.TP
theorem ui_ (hp:Kv H a n ps) (hn:n≤64) (hQ:∀ H' tp cs,H<+:H'→OT H' H.length tPg (some (tp,0)) 48 cs (nr_ ps)→Q (.agg [.sl (some (tp,0)) 48 5]) H'):bc_ [.g (.sl a n 2)] H Q:=by
 have hpl:=hp.len;refine⟨8*17+20,?_⟩;rw[w1_];refine ic_ fun H1 F Y=> ?_;simp [dE_];refine s0_ (hp.mono F) (by omega) fun x y cs Z O D G hxy hyo N=> ?_;simp [dE_];have hL:(cB_ ps).length=kOf ps.length 4:=by unfold cB_; simp
 have hk:kOf ps.length 4≤17:=by unfold kOf; omega
 have hk0:=i3_ ps.length 4;have l1:=F.length_le;have htp:=Y.own.ltAny rfl;have l2:=O.length_le;have o2:=Y.mono O;have J:∀ i l o,([some (H.length,0)]).getD i none=some (l,o)→i=0∧l=H.length∧o=0:=by
  intro i l o e
  match i,e with
  | 0,e=>cases e; exact⟨rfl,rfl,rfl⟩
  | i+1,e=>simp at e
 have g:BS H Z H.length r0_ newT x (cB_ ps).length cs ((cB_ ps).map (·.1)) y ((cB_ ps).map (·.2)):=by
  refine⟨F.trans O,o2,D.base l1,G.base l1,fun i j hne l W V=> ?_,fun i b C l W V=> ?_,fun i c I l r e=> ?_,fun i l o e=> ?_,fun b C l o e=> ?_,fun c I l r=> ?_⟩
  ·grind
  ·obtain⟨_,rfl,_⟩:=J i l 0 W;simp [mem_cons] at C;rcases C with rfl | rfl
   ·have:=D.own.above V; omega
   ·have:=G.above V; omega
  ·obtain⟨_,rfl,_⟩:=J i l 0 e;rcases kD.1 I with q | q
   ·exact uP_ c q _ r
   ·have:=N c q _ r; omega
  ·obtain⟨_,rfl,_⟩:=J i l o e; omega
  ·simp [mem_cons] at C;rcases C with rfl | rfl
   ·exact D.own.ltAny e
   ·exact G.ltAny e
  ·rcases kD.1 I with q | q
   ·exact (uP_ c q _ r).elim
   ·exact D.onlt q r
 exact E4_ 64 (cB_ ps) 1 newT (8*17+19) Z r0_ x cs y (by omega) (by omega) (by omega) (by omega) g fun H' A U ho=>hQ H' H.length A U ho
end
end Go.Am
namespace Go.Am
open List
structure CT (B H:Hp) (t:TypeId) (a:Pl) (n:Nat) (ds:List PC) (T:List Pg):Prop where
 pre:B<+:H
 ot:OT H B.length t a n ds T
 own:∀ i (h:i < ds.length) (h':i < T.length),(ds[i]).own H B.length T[i]
 ap:∀ i j (hi:i < ds.length) (hj:j < ds.length),i≠j→∀ l,(ds[i]).on l→ ¬ (ds[j]).on l
section
variable {B H H':Hp} {t:TypeId} {a:Pl} {n:Nat} {ds:List PC} {T:List Pg}
theorem CT.mono (g:CT B H t a n ds T) (r:H<+:H'):CT B H' t a n ds T:=
 ⟨g.pre.trans r,g.ot.mono r,fun i h A=>(g.own i h A).keep fun l C=>br_ r (g.ot.onlt (kE h) C),g.ap⟩
theorem CT.setRow (g:CT B H t a n ds T) (hi:i < ds.length) (J:i < T.length) (C:(ds[i]).on l) (x:Obj) (U:B.length≤l) (p:Pg)
 (V:(ds[i]).at (H.set l x) p) (O:(ds[i]).own (H.set l x) B.length p):CT B (H.set l x) t a n ds (T.set i p):=by
 have G:=g.ot.len;have W:=g.ot.lenT;have r:∀ j (h:j < ds.length),j≠i→∀ m,(ds[j]).on m→(H.set l x)[m]? =H[m]? :=fun j h F m N=>by
  rw[kF];intro e; subst e;exact g.ap i j hi h (Ne.symm F) l C N
 refine⟨ej_ g.pre U x,⟨g.ot.own.keep fun m e=> ?_,G,by grind,fun j A D=> ?_,g.ot.off⟩,fun j A D=> ?_,g.ap⟩
 ·rw[kF];intro I; subst I;exact g.ot.off _ (kE hi) l C e
 ·rw[getElem_set];by_cases e:i=j
  ·grind
  ·rw[if_neg e];simp at D;exact (g.ot.all j A D).keep (r j A (Ne.symm e))
 ·rw[getElem_set];by_cases e:i=j
  ·grind
  ·rw[if_neg e];simp at D;exact (g.own j A D).keep (r j A (Ne.symm e))
theorem CT.key (g:CT B H t a n ds T) (hi:i < ds.length) (D:i < T.length) (Y:j < (T[i]).keys.length) (s:ByteArray)
 (U:∀ H',CT B H' t a n ds (T.set i { T[i] with keys:=(T[i]).keys.set j s })→K H'):∃ l,(ds[i]).a1=some (l,0)∧wr H l j (.str s) K:=by
 have A:=g.own i hi D;have r:=g.ot.all i hi D;rcases A.keys with⟨_,h,_⟩ | ⟨l,e,N,I,Z⟩
 ·simp_all
 have F:=(kC.1 I).1;have G:(ds[i]).on l:=⟨0,.inl e⟩;refine⟨l,e,cr_ I (by grind) ?_⟩;rw[←List.map_set];have keep:∀ {J:TypeId} {x:Pl} {m:Nat} {O:List GV} (y:Obj),Own H B.length J x m O→Dr (ds[i]).a1 x→Own (H.set l y) B.length J x m O:=fun y h W=>h.keep fun m V=>by
  rw[kF]; intro q; subst q; exact W l 0 0 e V
 have C:(ds[i]).own (H.set l (.row true tS (((T[i]).keys.set j s).map GV.str))) B.length { T[i] with keys:=(T[i]).keys.set j s }:=
  ⟨A.used,A.leaf,.inr ⟨l,e,N,kH F,by grind⟩,keep _ A.vals A.d12,keep _ A.kids A.d13,A.d12,A.d13,A.d23⟩
 refine U _ (g.setRow hi D G _ N _ ⟨r.used,r.leaf,⟨C.keys.cells,?_,r.keys.lim⟩,⟨C.vals.cells,r.vals.len,r.vals.lim⟩,⟨C.kids.cells,r.kids.len,r.kids.lim⟩⟩ C);grind
theorem CT.kid (g:CT B H t a n ds T) (hi:i < ds.length) (D:i < T.length) (Y:j < (T[i]).kids.length) (s:Int)
 (U:∀ H',CT B H' t a n ds (T.set i { T[i] with kids:=(T[i]).kids.set j s })→K H'):∃ l,(ds[i]).a3=some (l,0)∧wr H l j (.int .i64 s) K:=by
 have A:=g.own i hi D;have r:=g.ot.all i hi D;rcases A.kids with⟨_,h,_⟩ | ⟨l,e,N,I,Z⟩
 ·simp_all
 have F:=(kC.1 I).1;have G:(ds[i]).on l:=⟨0,.inr (.inr e)⟩;refine⟨l,e,cr_ I (by grind) ?_⟩;rw[←List.map_set];have keep:∀ {J:TypeId} {x:Pl} {m:Nat} {O:List GV} (y:Obj),Own H B.length J x m O→Dr x (ds[i]).a3→Own (H.set l y) B.length J x m O:=fun y h W=>h.keep fun m V=>by
  rw[kF]; intro q; subst q; exact W l 0 0 V e
 have C:(ds[i]).own (H.set l (.row true tI (((T[i]).kids.set j s).map (GV.int .i64)))) B.length { T[i] with kids:=(T[i]).kids.set j s }:=
  ⟨A.used,A.leaf,keep _ A.keys A.d13,keep _ A.vals A.d23,.inr ⟨l,e,N,kH F,by grind⟩,A.d12,A.d13,A.d23⟩
 refine U _ (g.setRow hi D G _ N _ ⟨r.used,r.leaf,⟨C.keys.cells,r.keys.len,r.keys.lim⟩,⟨C.vals.cells,r.vals.len,r.vals.lim⟩,⟨C.kids.cells,?_,r.kids.lim⟩⟩ C);grind
theorem se_ (D:Tr H a n cs T) (F:n*80≤140737488351232) (I:∀ r A H',CT H H' tPg r n A T→Q (.agg [.sl r n 5]) H'):b0_ [.agg [.sl a n 5]] H Q:=
 pt_ D F fun r A H' p J G C=>I r A H' ⟨p,J,G,C⟩
end
theorem Hi_:aK_ newT=1:=by decide+kernel
section
variable {H:Hp} {Q:Post}
end
end Go.Am
namespace Go.Am
open List
section
variable {H:Hp} {Q:Post}
end
theorem Own.kv (h:Own H b t a (n*2) (bW_ ps)) (r:ps.length=n):Kv H a n ps:=⟨h.cells,r⟩
end Go.Am
namespace Go.Am
open List
theorem h1_ (h:cells? H a n=some cs) (k m:Nat) (A:k+m≤n):cells? H (shf a k) m=some ((cs.drop k).take m):=by
 cases a with
 | none=>simp [cells?] at h; simp [cells?]; omega
 | some p=>
  have ⟨l,o⟩:=p;unfold cells? at h;simp at h;cases r:H[l]? with
  | none=>rw[r] at h; cases h
  | some x=>
   rw[r] at h;cases x with
   | row own t C=>
    simp only at h;split at h
    ·cases h;simp only[wF_,cells?,r];rw[if_pos (by omega),drop_take,take_take,drop_drop,Nat.min_eq_left (by omega)]
    ·cases h
   | _=>cases h
theorem Ss.part (h:Ss H a n xs) (k m:Nat) (r:k+m≤n):Ss H (shf a k) m ((xs.drop k).take m):=by
 have A:=h.len;have C:=h.lim;refine⟨?_,by grind,by omega⟩;rw[h1_ h.cells k m r,map_take,map_drop]
theorem ix_ (cs:List PC) (i j:Nat) (v:GV) (c:PC) (hi:i < cs.length) (C:j < 5) (A:c.cells=(cs[i].cells).set j v):(bD_ cs).set (i*5+j) v=bD_ (cs.set i c):=by
 induction cs generalizing i with
 | nil=>simp at hi
 | cons d cs r=>
  have e:bD_ (d::cs)=d.cells++bD_ cs:=rfl;cases i with
  | zero=>
   rw[e,Nat.zero_mul,kN,set_append_left _ _ (by simp_all)];show _=c.cells++bD_ cs;grind
  | succ i=>
   rw[e,set_append_right _ _ (by simp; omega)];show _=d.cells++bD_ (cs.set i c);rw[←r i (by grind) (by grind)];congr 2;simp; omega
section
variable {B H:Hp} {t:TypeId} {tp:Nat} {n:Nat} {cs:List PC} {T:List Pg} {i:Nat} {c:PC} {p:Pg}
theorem OT.at_row (h:OT H B.length t (some (tp,0)) n cs T):B.length≤tp∧H[tp]? =some (.row true t (bD_ cs)):=by
 rcases h.own with⟨e,_⟩ | ⟨l,e,r,C,A⟩
 ·cases e
 grind
theorem OT.gt (h:OT H B.length t (some (tp,0)) n cs T) (hi:i < cs.length) (r:j < 5):Am.gt H tp (i*5+j)=(cs[i].cells)[j]? :=by
 rw[bw_ h.at_row.2,jx_ hi r]
theorem OT.cell (h:OT H B.length t (some (tp,0)) n cs T) (hi:i < n) (C:i < cs.length) (I:j < 5) (r:c.cells=(cs[i].cells).set j v) (D:c.at H p) (A:∀ l,c.on l→l≠tp)
 (F:∀ H',(∀ B',B'<+:H→B'.length≤tp→B'<+:H')→OT H' B.length t (some (tp,0)) n (cs.set i c) (T.set i p)→K H'):wr H tp (i*5+j) v K:=by
 have ⟨O,J⟩:=h.at_row;refine cr_ J (by rw[ck_]; omega) ?_;rw[ix_ cs i j v c C I r];exact F _ (fun B' N G=>ej_ N G _) (h.place hi D A)
theorem Tr.take (h:Tr H a n cs T) (D:m≤n):Tr H (shf a 0) m (cs.take m) (T.take m):=by
 have F:=h.len;have C:=h.lenT;refine⟨?_,by grind,by simp; omega,fun i A r=> ?_⟩
 ·have e:bD_ (cs.take m)=(bD_ cs).take (m*5):=by
   have:=pi_ (cs.take m) (cs.drop m);rw[take_append_drop] at this;rw[this,List.take_left' (by rw[ck_]; simp; omega)]
  rw[e,h1_ h.cells 0 (m*5) (by omega),drop_zero]
 ·simp at A r;rw[getElem_take,getElem_take];exact h.all i (by omega) (by omega)
end
end Go.Am
namespace Go.Am
theorem zW_ (h:0 < aK_ T):∃ st,T.length=48∧cC_ T 49 0 1 (mkS []) (mkS []) ws0=some st∧g6_ T st.met=true∧st.count≤60∧aK_ T=st.deep:=by
 unfold aK_ at h ⊢;grind
theorem zG_ (h:cC_ T 49 0 1 (mkS []) (mkS []) ws0=none):aK_ T=0:=by
 unfold aK_;cases decide (T.length=48) with
 | false=>rfl
 | true=>rw[h]
theorem Aw_ (h:cC_ T 49 0 1 (mkS []) (mkS []) ws0=some st) (r:g6_ T st.met=false):aK_ T=0:=by
 unfold aK_;cases decide (T.length=48) with
 | false=>rfl
 | true=>rw[h]; dsimp; rw[r]; rfl
theorem l1_ (i:Nat) (h:i < 48):ws0.met[i]? =some false:=by
 show (List.replicate 48 false)[i]? =some false;grind
theorem lN_ (h:okD p a lo hi st=true):st.met[a]? =some false∧kv_ p=true∧(0 < a→2≤p.keys.length)∧f4_ lo hi p.keys=true:=by
 unfold okD at h;grind
theorem h3_ (h:leafD p deep st=some st'):st'.met=st.met∧st'.count=st.count+p.keys.length∧st'.deep=deep∧(st.deep=0∨st.deep=deep):=by
 unfold leafD at h;grind
theorem fI_ (h:cC_ T (f+1) a deep lo hi st=some st'):∃ p,T[a]? =some p∧okD p a lo hi st=true∧
 ((p.leaf=true∧leafD p deep ⟨st.met.set a true,st.deep,st.count⟩=some st')∨(p.leaf=false∧ga_ (fun k i s=>cC_ T f k.toNat (deep+1) (loK p lo i) (hiK p hi i) s) p.kids 0 ⟨st.met.set a true,st.deep,st.count⟩=some st')):=by
 cases A:T[a]? with
 | none=>unfold cC_ at h; rw[A] at h; cases h
 | some p=>
  rw[jF_ T f a deep lo hi st A] at h;refine⟨p,rfl,?_⟩;cases r:okD p a lo hi st with
  | false=>rw[r] at h; cases h
  | true=>
   rw[r] at h;cases C:p.leaf with
   | true=>rw[C] at h; exact⟨rfl,.inl ⟨rfl,h⟩⟩
   | false=>rw[C] at h; exact⟨rfl,.inr ⟨rfl,h⟩⟩
theorem DL_ {R:WS→WS→Prop} {P:List Int→WS→WS→Prop} (D:∀ s,P [] s s) (A:∀ k ks i s C r,rec k i s=some C→ga_ rec ks (i+1) C=some r→P ks C r→P (k::ks) s r):
 ∀ (ks:List Int) (i:Nat) (s r:WS),ga_ rec ks i s=some r→P ks s r:=by
 intro ks;induction ks with
 | nil=>intro i s r h; cases h; exact D s
 | cons k ks G=>
  intro i s r h;rw[e9_] at h;cases F:rec k i s with
  | none=>rw[F] at h; cases h
  | some C=>rw[F] at h; exact A k ks i s C r F h (G (i+1) C r h)
theorem lS_ {P:List Int→WS→WS→Prop} (C:∀ s,P [] s s) (A:∀ k ks i s D r,rec k i s=some D→P ks D r→P (k::ks) s r):
 ∀ (ks:List Int) (i:Nat) (s r:WS),ga_ rec ks i s=some r→P ks s r:=
 DL_ (R:=fun _ _=>True) C fun k ks i s D r h _ F=>A k ks i s D r h F
theorem jf_ (T:List Pg):∀ (f a C:Nat) (lo hi:ByteArray) (st A:WS),cC_ T f a C lo hi st=some A→(∀ j:Nat,st.met[j]? =some true→A.met[j]? =some true)∧A.met[a]? =some true∧
 (∀ j,A.met[j]? =some true→st.met[j]? =some true∨∃ p,T[j]? =some p∧kv_ p=true∧(0 < j→2≤p.keys.length)):=by
 intro f;induction f with
 | zero=>intro _ _ _ _ _ _ h; cases h
 | succ f ih=>
  intro a C lo hi st A h;have ⟨p,hp,O,D⟩:=fI_ h;have ⟨hm,N,h2,_⟩:=lN_ O;have J:=(kC.1 hm).1;have G:∀ j,st.met[j]? =some true→(st.met.set a true)[j]? =some true:=fun j r=>by
   by_cases e:a=j
   ·subst e; exact kH J
   ·rw[kF e]; exact r
  have I:(st.met.set a true)[a]? =some true:=kH J;have F:∀ j,(st.met.set a true)[j]? =some true→st.met[j]? =some true∨∃ p,T[j]? =some p∧kv_ p=true∧(0 < j→2≤p.keys.length):=fun j r=>by
   by_cases e:a=j
   ·subst e; exact .inr ⟨p,hp,N,h2⟩
   ·rw[kF e] at r; exact .inl r
  rcases D with⟨hl,V⟩ | ⟨hl,Z⟩
  ·have ⟨e1,_⟩:=h3_ V;rw[e1];exact⟨G,I,F⟩
  ·have key:=lS_ (P:=fun _ s U=>(∀ j,s.met[j]? =some true→U.met[j]? =some true)∧(∀ j,U.met[j]? =some true→s.met[j]? =some true∨∃ p,T[j]? =some p∧kv_ p=true∧(0 < j→2≤p.keys.length)))
    (fun s=>⟨fun j r=>r,fun j r=> .inl r⟩) (fun k ks i s s1 U hr W=>by
     have ⟨Y,_,q3⟩:=ih _ _ _ _ _ _ hr;refine⟨fun j r=>W.1 j (Y j r),fun j r=> ?_⟩;rcases W.2 j r with q | q
     ·exact q3 j q
     ·exact .inr q) _ _ _ _ Z
   grind
theorem uF_ (T T':List Pg) (i:Nat) (hT:∀ j,j≠i→T'[j]? =T[j]?):∀ (f a r:Nat) (lo hi:ByteArray) (st A:WS),cC_ T f a r lo hi st=some A→A.met[i]? ≠some true→cC_ T' f a r lo hi st=some A:=by
 intro f;induction f with
 | zero=>intro _ _ _ _ _ _ h; cases h
 | succ f ih=>
  intro a r lo hi st A h N;have ⟨m1,m2,_⟩:=jf_ T _ _ _ _ _ _ _ h;obtain⟨p,U,J,D⟩:=fI_ h;have ha:a≠i:=fun e=>N (by grind);rw[jF_ T' f a r lo hi st (by rw[hT a ha]; exact U),J];rcases D with⟨hl,hlf⟩ | ⟨hl,hk⟩
  ·grind
  ·have key:∀ F n (s C),ga_ (fun k i s=>cC_ T f k.toNat (r+1) (loK p lo i) (hiK p hi i) s) F n s=some C→C.met[i]? ≠some true→ga_ (fun k i s=>cC_ T' f k.toNat (r+1) (loK p lo i) (hiK p hi i) s) F n s=some C:=by
    intro F;induction F with
    | nil=>exact fun n s C h _=>h
    | cons k F ihk=>
     intro n s C h hne;rw[e9_] at h ⊢;cases G:cC_ T f k.toNat (r+1) (loK p lo n) (hiK p hi n) s with
     | none=>rw[G] at h; cases h
     | some O=>
      rw[G] at h;have mono:∀ j,O.met[j]? =some true→C.met[j]? =some true:=
       lS_ (rec:=fun k i s=>cC_ T f k.toNat (r+1) (loK p lo i) (hiK p hi i) s) (P:=fun _ s C=>∀ j,s.met[j]? =some true→C.met[j]? =some true) (fun s j I=>I) (fun k F i s O C G hP j I=>hP j ((jf_ T _ _ _ _ _ _ _ G).1 j I)) _ _ _ _ h
      grind
   grind
theorem DR_ (T T':List Pg) (i:Nat) (Y:∀ j,j≠i→T'[j]? =T[j]?) (hq:T'[i]? =some q) (D:∀ lo hi st,okD q i lo hi st=false):∀ (f a r:Nat) (lo hi:ByteArray) (st C:WS),cC_ T f a r lo hi st=some C→st.met[i]? ≠some true→C.met[i]? =some true→cC_ T' f a r lo hi st=none:=by
 intro f;induction f with
 | zero=>intro _ _ _ _ _ _ h; cases h
 | succ f ih=>
  intro a r lo hi st C h h1 h2;by_cases Z:a=i
  ·subst Z;rw[jF_ T' f a r lo hi st hq,D]
  have ⟨p,hp,N,A⟩:=fI_ h;rw[jF_ T' f a r lo hi st (by rw[Y a Z]; exact hp),N];rcases A with⟨hl,O⟩ | ⟨hl,hk⟩
  ·have ⟨e1,_⟩:=h3_ O;grind
  ·have key:∀ G n (s F),ga_ (fun k i s=>cC_ T f k.toNat (r+1) (loK p lo i) (hiK p hi i) s) G n s=some F→s.met[i]? ≠some true→F.met[i]? =some true→ga_ (fun k i s=>cC_ T' f k.toNat (r+1) (loK p lo i) (hiK p hi i) s) G n s=none:=by
    intro G;induction G with
    | nil=>intro n s F h V U; cases h; exact (V U).elim
    | cons k G I=>
     intro n s F h V U;rw[e9_] at h ⊢;cases J:cC_ T f k.toNat (r+1) (loK p lo n) (hiK p hi n) s with
     | none=>rw[J] at h; cases h
     | some W=>
      rw[J] at h;by_cases e:W.met[i]? =some true
      ·grind
      ·rw[uF_ T T' i Y _ _ _ _ _ _ _ J e];exact I (n+1) W F h e U
   grind
end Go.Am
namespace Go.Am
theorem us_ (h:g6_ T met=true) (hi:i < T.length) (r:T[i]? =some p):met[i]?.getD true=true∨cY_ p=true:=by
 unfold g6_ at h;grind
theorem BO_ (hi:i < T.length) (A:T[i]? =some p) (r:met[i]? =some false) (C:cY_ p=false):g6_ T met=false:=by
 unfold g6_;grind
structure SF (T:List Pg) (st:WS):Prop where
 len:T.length=48
 walk:cC_ T 49 0 1 (mkS []) (mkS []) ws0=some st
 rest:g6_ T st.met=true
 count:st.count≤60
 height:aK_ T=st.deep
 metlen:st.met.length=48
theorem SF.of (h:0 < aK_ T):∃ st,SF T st:=by
 have ⟨st,C,r,F,D,A⟩:=zW_ h;exact⟨st,C,r,F,D,A,(ir_ T _ _ _ _ _ _ _ r).2.1⟩
section
variable {T:List Pg} {st:WS}
theorem SF.used (s:SF T st) (r:T[i]? =some p) (D:p.used=true):st.met[i]? =some true∧kv_ p=true∧(0 < i→2≤p.keys.length):=by
 have A:i < 48:=by have:=(kC.1 r).1; have:=s.len; omega
 have C:st.met[i]? =some true:=by
  rcases us_ s.rest (by grind) r with h | h
  ·rw[kG (by rw[s.metlen]; exact A)];grind
  ·unfold cY_ at h; rw[D] at h; simp at h
 rcases (jf_ T _ _ _ _ _ _ _ s.walk).2.2 i C with h | ⟨q,I,G,F⟩
 ·rw[l1_ i A] at h; cases h
 ·grind
theorem SF.free (s:SF T st) {i:Nat} (A:T[i]? =some p) (r:st.met[i]? =some false):p.used=false:=by
 cases C:p.used with
 | false=>rfl
 | true=>rw[(s.used A C).1] at r; cases r
theorem SF.more (s:SF T st) (hi:i < 48) (D:T[i]? =some p) (G:p.used=false) (r:cY_ q=false):aK_ (T.set i q)=0:=by
 have A:st.met[i]? =some false:=by
  rw[kG (by rw[s.metlen]; exact hi)];cases e:st.met[i]'(by rw[s.metlen]; exact hi) with
  | false=>rfl
  | true=>
   have A:st.met[i]? =some true:=by grind
   rcases (jf_ T _ _ _ _ _ _ _ s.walk).2.2 i A with h | ⟨q,r,C,_⟩
   ·rw[l1_ i hi] at h; cases h
   ·rw[D] at r; cases r;have:=((ef_ p).1 C).2.used;grind
 refine Aw_ (uF_ T _ i (fun j F=>kF (Ne.symm F)) _ _ _ _ _ _ _ s.walk (by grind)) ?_;exact BO_ (by grind) (kH (by grind)) A r
theorem SF.less (s:SF T st) (I:0 < i) (r:T[i]? =some p) (C:p.used=true) (G:q.keys.length < 2):aK_ (T.set i q)=0:=by
 have A:i < 48:=by have:=(kC.1 r).1; have:=s.len; omega
 refine zG_ (DR_ T _ i (fun j D=>kF (Ne.symm D)) (kH (by grind)) (fun F A st=> ?_) _ _ _ _ _ _ _ s.walk (by rw[l1_ i A]; simp) (s.used r C).1);unfold okD;grind
end
end Go.Am
namespace Go.Am
open List
section
variable {a b c:ByteArray}
theorem hq_ (a b:ByteArray):(blt a b=true∧a≠b∧blt b a=false)∨(a=b∧blt a b=false∧blt b a=false)∨(blt b a=true∧a≠b∧blt a b=false):=by
 unfold blt;rcases u4_ (bs a) (bs b) with⟨C,A,r⟩ | ⟨C,A,r⟩ | ⟨C,A,r⟩
 ·grind
 ·exact .inr (.inl ⟨iM_ C,A,r⟩)
 ·grind
theorem cA_ (a:ByteArray):blt a a=false:=by
 rcases hq_ a a with h | h | h
 ·grind
 ·grind
 ·grind
theorem et_ (h:blt a b=true):blt b a=false:=by
 rcases hq_ a b with q | q | q
 ·grind
 ·grind
 ·grind
theorem rK_ (A:blt b a=false) (r:blt b c=true):blt a c=true:=by
 rcases hq_ a b with q | q | q
 ·exact eU_ q.1 r
 ·grind
 ·grind
theorem kE_ (r:blt a b=true) (A:blt c b=false):blt a c=true:=by
 rcases hq_ b c with q | q | q
 ·exact eU_ r q.1
 ·grind
 ·grind
theorem xw_ (A:blt b a=false) (r:blt c b=false):blt c a=false:=by
 cases e:blt c a with
 | false=>rfl
 | true=>rw[kE_ e A] at r; cases r
theorem lP_ (h:blt a b=true):a≠b:=fun e=>by rw[e,cA_] at h; cases h
theorem Fe_ (a:ByteArray):blt a (mkS [])=false:=by
 unfold blt;cases bs a<;>rfl
end
def allD (T:List Pg):Nat→Nat→KV
 | 0,_=>[]
 | f+1,a=>match T[a]? with
  | none=>[]
  | some p=>p.keys.zip p.vals++p.kids.flatMap fun k=>allD T f k.toNat
theorem ss_ (r:T[a]? =some p) (A:p.kids=[]):allD T (f+1) a=p.keys.zip p.vals:=by
 rw[allD,r]; dsimp; rw[A]; simp
theorem pM_ (r:T[a]? =some p) (A:p.vals=[]):allD T (f+1) a=p.kids.flatMap fun k=>allD T f k.toNat:=by
 rw[allD,r]; dsimp; rw[A]; simp
def Asc (ps:KV):Prop:=ps.Pairwise fun x y=>blt x.1 y.1=true
def Win (lo hi:ByteArray) (ps:KV):Prop:=∀ x∈ps,blt x.1 lo=false∧(hi.size=0∨blt x.1 hi=true)
def ms_ (ps:KV):Prop:=∀ x∈ps,(1≤x.1.size∧x.1.size≤6)∧x.2.size≤10
theorem cV_ (h:h4_ ks):ks.Pairwise fun a b=>blt a b=true:=by
 rw[pairwise_iff_getElem];intro i j C A r;obtain⟨d,rfl⟩:∃ d,j=i+d+1:=⟨j - i - 1,by omega⟩;exact ob_ h i d A
theorem yh_ (h:h4_ ks) (r:vs.length=ks.length):Asc (ks.zip vs):=by
 have:=cV_ h;rw[←map_fst_zip (l₁:=ks) (l₂:=vs) (by omega),pairwise_map] at this;exact this
theorem ve_ (h:f4_ lo hi ks=true) (r:k∈ks):blt k lo=false∧(hi.size=0∨blt k hi=true):=by
 unfold f4_ at h;grind
theorem if_ {ks vs:List ByteArray} (h:x∈ks.zip vs):x.1∈ks∧x.2∈vs:=⟨(of_mem_zip h).1,(of_mem_zip h).2⟩
theorem va_ (h:i < p.keys.length):loK p lo (i+1)=p.keys[i]:=by
 unfold loK; simp [h]
theorem zh_ (h:i < p.keys.length):hiK p hi i=p.keys[i]:=by
 unfold hiK; rw[kG h]; rfl
theorem CO_ (h:p.keys.length≤i):hiK p hi i=hi:=by
 unfold hiK; rw[getElem?_eq_none h]; rfl
def G1_ (T:List Pg) (f:Nat):Prop:=∀ (a deep:Nat) (lo hi:ByteArray) (st st':WS),cC_ T f a deep lo hi st=some st'→
 Asc (allD T f a)∧Win lo hi (allD T f a)∧ms_ (allD T f a)∧st'.count=st.count+(allD T f a).length
theorem xY_ (ih:G1_ T f) {D:Nat} (C:k2_ p) (hh:f4_ lo hi p.keys=true):
 ∀ (ks:List Int) (i:Nat),i+ks.length=p.keys.length+1→∀ (s N:WS),ga_ (fun k i s=>cC_ T f k.toNat (D+1) (loK p lo i) (hiK p hi i) s) ks i s=some N→
  Asc (ks.flatMap fun k=>allD T f k.toNat)∧Win (loK p lo i) hi (ks.flatMap fun k=>allD T f k.toNat)∧ms_ (ks.flatMap fun k=>allD T f k.toNat)∧N.count=s.count+(ks.flatMap fun k=>allD T f k.toNat).length:=by
 have F:=C.keys;intro ks;induction ks with
 | nil=>intro i _ s N h; cases h; exact⟨Pairwise.nil,fun x G=>(by grind),fun x G=>(by simp_all),rfl⟩
 | cons k ks W=>
  intro i V s N h;rw[e9_] at h;cases U:cC_ T f k.toNat (D+1) (loK p lo i) (hiK p hi i) s with
  | none=>rw[U] at h; cases h
  | some s1=>
   rw[U] at h;have ⟨a1,a2,a3,a4⟩:=ih _ _ _ _ _ _ U;obtain⟨b1,b2,b3,b4⟩:=W (i+1) (by simp at V; omega) s1 N h;rw[flatMap_cons];have J:∀ y,y∈ks.flatMap (fun k=>allD T f k.toNat)→i < p.keys.length:=fun y Y=>by
    grind
   refine⟨pairwise_append.2 ⟨a1,b1,fun x G y Y=> ?_⟩,fun x G=> ?_,fun x G=> ?_,by grind⟩
   ·have r:=J y Y;have Z:=(a2 x G).2;have O:=(b2 y Y).1;rw[va_ r] at O;rw[zh_ r] at Z;have:=(F _ (kE r)).1;rcases Z with q | q
    ·omega
    ·exact kE_ q O
   ·rcases kD.1 G with q | q
    ·have ⟨I,A⟩:=a2 x q;refine⟨I,?_⟩;rcases Nat.lt_or_ge i p.keys.length with r | r
     ·rw[zh_ r] at A;have hk1:=(F _ (kE r)).1;rcases A with A | A
      ·omega
      ·rcases (ve_ hh (kE r)).2 with z | z
       ·omega
       ·exact .inr (eU_ A z)
     ·rw[CO_ r] at A; exact A
    ·have r:=J x q;obtain⟨I,A⟩:=b2 x q;refine⟨?_,A⟩;rw[va_ r] at I;rcases Nat.eq_zero_or_pos i with e | e
     ·subst e;exact xw_ (ve_ hh (kE r)).1 I
     ·obtain⟨j,rfl⟩:∃ j,i=j+1:=⟨i - 1,by omega⟩;rw[va_ (show j < p.keys.length by omega)];exact xw_ (et_ (ob_ C.rising j 0 (by omega))) I
   ·rcases kD.1 G with q | q
    ·exact a3 x q
    ·exact b3 x q
theorem r9_ (T:List Pg):∀ f,G1_ T f:=by
 intro f;induction f with
 | zero=>intro _ _ _ _ _ _ h; cases h
 | succ f ih=>
  intro a O lo hi st Y h;have ⟨p,N,J,A⟩:=fI_ h;have ⟨hm,C,h2,U⟩:=lN_ J;have r:=((ef_ p).1 C).2;have D:=r.keys;rcases A with⟨I,G⟩ | ⟨I,Z⟩
  ·have ⟨e1,e2,_⟩:=h3_ G;have ⟨V,v2,v3⟩:=r.leaf I;rw[ss_ N v2];refine⟨yh_ r.rising V,fun x F=>ve_ U (if_ F).1,fun x F=>⟨D _ (if_ F).1,v3 _ (if_ F).2⟩,?_⟩;grind
  ·have ⟨k1,W,k3,k4,k5⟩:=r.inner I;rw[pM_ N W];have:=xY_ ih r U p.kids 0 (by omega) _ _ Z;exact this
def wt (g:Pg→Nat):List Pg→List Bool→Nat
 | p::T,b::met=>(match b with | true=>g p | false=>0)+wt g T met
 | _,_=>0
theorem BQ_ (g:Pg→Nat):∀ {T:List Pg} {met:List Bool} {i:Nat} {p:Pg},T[i]? =some p→met[i]? =some false→wt g T (met.set i true)=wt g T met+g p
 | [],_,i,p,h,_=>by grind
 | _::_,[],i,p,_,h=>by grind
 | q::T,b::met,0,p,A,r=>by
  simp at A r; subst A; subst r;simp [wt]; omega
 | q::T,b::met,i+1,p,A,r=>by
  simp at A r;simp [wt];have:=BQ_ g A r;omega
theorem CG_ (g:Pg→Nat):∀ (T:List Pg) (n:Nat),wt g T (replicate n false)=0
 | [],n=>by cases n<;>rfl
 | p::T,0=>rfl
 | p::T,n+1=>by simp [replicate_succ,wt]; rw[CG_ g T n]
def ux_ (g:Pg→Nat) (T:List Pg):Nat:=(T.map fun (p:Pg)=>match p.used with | true=>g p | false=>0).sum
theorem Da_ (g:Pg→Nat):∀ {T:List Pg} {met:List Bool},met.length=T.length→(∀ (i:Nat) (p:Pg),T[i]? =some p→met[i]? =some p.used)→wt g T met=ux_ g T
 | [],[],_,_=>rfl
 | [],_::_,h,_=>by grind
 | _::_,[],h,_=>by grind
 | p::T,b::met,D,h=>by
  have r:=h 0 p rfl;simp at r;subst r;have A:=Da_ g (T:=T) (met:=met) (by grind) fun i q C=>by have:=h (i+1) q (by grind); simpa
  unfold wt ux_;rw[map_cons,sum_cons,A];rfl
def gK (p:Pg):Nat:=match p.leaf with | true=>p.keys.length | false=>0
def gL (p:Pg):Nat:=match p.leaf with | true=>1 | false=>0
theorem Do_ (T:List Pg):∀ (f a A:Nat) (lo hi:ByteArray) (st r:WS),cC_ T f a A lo hi st=some r→r.count+wt gK T st.met=st.count+wt gK T r.met:=by
 intro f;induction f with
 | zero=>intro _ _ _ _ _ _ h; cases h
 | succ f Z=>
  intro a A lo hi st r h;have ⟨p,V,G,C⟩:=fI_ h;have ⟨N,J,h2,hh⟩:=lN_ G;have hw:=BQ_ gK V N;rcases C with⟨F,D⟩ | ⟨F,Y⟩
  ·have ⟨U,W,_⟩:=h3_ D;rw[U,W];dsimp at*;have:gK p=p.keys.length:=by unfold gK; rw[F]
   omega
  ·have:gK p=0:=by unfold gK; rw[F]
   have key:=lS_ (P:=fun _ s I=>I.count+wt gK T s.met=s.count+wt gK T I.met) (fun s=>rfl) (fun k ks i s s1 I O hP=>by
    have:=Z _ _ _ _ _ _ O;omega) _ _ _ _ Y
   grind
theorem uQ_ (T:List Pg):∀ (f a deep:Nat) (lo hi:ByteArray) (st st':WS),cC_ T f a deep lo hi st=some st'→1≤deep→(st.deep=0∨st.deep=st'.deep)∧deep≤st'.deep∧
 (0 < a→wt gL T st.met+3 ^ (st'.deep - deep)≤wt gL T st'.met∧st.count+2*3 ^ (st'.deep - deep)≤st'.count)∧
 ((st'.deep=deep∧wt gL T st'.met=wt gL T st.met+1)∨(deep < st'.deep∧wt gL T st.met+2*3 ^ (st'.deep - (deep+1))≤wt gL T st'.met∧st.count+4*3 ^ (st'.deep - (deep+1))≤st'.count)):=by
 intro f;induction f with
 | zero=>intro _ _ _ _ _ _ h; cases h
 | succ f ih=>
  intro a deep lo hi st st' h hd;obtain⟨p,hp,hok,hcase⟩:=fI_ h;obtain⟨hm,hmay,h2,hh⟩:=lN_ hok;have hw:=BQ_ gL hp hm;rcases hcase with⟨hl,hlf⟩ | ⟨hl,hk⟩
  ·obtain⟨e1,e2,e3,e4⟩:=h3_ hlf;have hg:gL p=1:=by unfold gL; rw[hl]
   rw[e1,e2,e3];dsimp only at*;rw[Nat.sub_self,Nat.pow_zero];exact⟨e4,kO _,fun h0=>⟨by omega,by have:=h2 h0; omega⟩,.inl ⟨rfl,by omega⟩⟩
  ·have hg:gL p=0:=by unfold gL; rw[hl]
   obtain⟨k1,k2,k3,k4,k5⟩:=((ef_ p).1 hmay).2.inner hl;have key:∀ (ks:List Int),(∀ k∈ks,1≤k)→∀ (i:Nat) (s s':WS),ga_ (fun k i s=>cC_ T f k.toNat (deep+1) (loK p lo i) (hiK p hi i) s) ks i s=some s'→
    (s.deep=0∨s.deep=s'.deep)∧(ks≠[]→deep+1≤s'.deep)∧wt gL T s.met+ks.length*3 ^ (s'.deep - (deep+1))≤wt gL T s'.met∧s.count+2*(ks.length*3 ^ (s'.deep - (deep+1)))≤s'.count:=by
    intro ks;induction ks with
    | nil=>intro _ i s s' h; cases h; exact⟨.inr rfl,fun h=>(h rfl).elim,by simp,by simp⟩
    | cons k ks ihk=>
     intro hks i s s' h;rw[e9_] at h;cases hr:cC_ T f k.toNat (deep+1) (loK p lo i) (hiK p hi i) s with
     | none=>rw[hr] at h; cases h
     | some s1=>
      rw[hr] at h;dsimp only at h;obtain⟨q1,q2,q3,_⟩:=ih _ _ _ _ _ _ hr (by omega);obtain⟨q4,q5⟩:=q3 (by have:=hks k (by simp); omega);obtain⟨r1,r2,r3,r4⟩:=ihk (fun k' hk'=>hks k' (by simp [hk'])) (i+1) s1 s' h;have e:s1.deep=s'.deep:=by rcases r1 with r | r; omega; exact r
      rw[e] at q1 q2 q4 q5;simp only[length_cons,Nat.add_mul,Nat.one_mul];generalize 3 ^ (s'.deep - (deep+1))=X at*;generalize ks.length*X=Y at*;exact⟨q1,fun _=>q2,by omega,by omega⟩
   obtain⟨c1,c2,c3,c4⟩:=key p.kids (fun k hk=>(k4 k hk).1) _ _ _ hk;have hdeep:=c2 (fun e=>by rw[e] at k3; simp at k3);dsimp only at*;obtain⟨X,hX⟩:∃ X,3 ^ (st'.deep - (deep+1))=X:=⟨_,rfl⟩;have hX3:3 ^ (st'.deep - deep)=X*3:=by rw[←hX,←Nat.pow_succ]; congr 1; omega
   rw[hX] at c3 c4 ⊢;rw[hX3];have m2:2*X≤p.kids.length*X:=Nat.mul_le_mul_right X (by omega);refine⟨c1,by omega,fun h0=> ?_,.inr ⟨by omega,by omega,by omega⟩⟩;have m3:3*X≤p.kids.length*X:=Nat.mul_le_mul_right X (by have:=h2 h0; omega);exact⟨by omega,by omega⟩
def cS_ (T:List Pg):KV:=allD T 49 0
section
variable {T:List Pg} {st:WS}
theorem SF.ents (s:SF T st):Asc (cS_ T)∧ms_ (cS_ T)∧(cS_ T).length=st.count∧(cS_ T).length≤60:=by
 have ⟨D,_,A,C⟩:=r9_ T _ _ _ _ _ _ _ s.walk;have r:ws0.count=0:=rfl;have:=s.count;unfold cS_;grind
theorem SF.metU (s:SF T st) {i:Nat} (A:T[i]? =some p):st.met[i]? =some p.used:=by
 have r:i < 48:=by have:=(kC.1 A).1; have:=s.len; omega
 cases F:p.used with
 | true=>exact (s.used A F).1
 | false=>
  rw[kG (by rw[s.metlen]; exact r)];cases e:st.met[i]'(by rw[s.metlen]; exact r) with
  | false=>rfl
  | true=>
   have D:st.met[i]? =some true:=by grind
   rcases (jf_ T _ _ _ _ _ _ _ s.walk).2.2 i D with h | ⟨q,C,G,_⟩
   ·rw[l1_ i r] at h; cases h
   ·rw[A] at C; cases C;have:=((ef_ p).1 G).2.used;grind
theorem SF.sums (s:SF T st):ux_ gK T=(cS_ T).length∧(aK_ T=1↔ux_ gL T=1)∧1≤aK_ T∧aK_ T≤4:=by
 have D:∀ g,wt g T ws0.met=0:=fun g=>CG_ g T 48;have G:=fun g=>Da_ g (by rw[s.metlen,s.len]) fun i p I=>s.metU I;have N:=Do_ T _ _ _ _ _ _ _ s.walk;have ⟨_,V,_,r⟩:=uQ_ T _ _ _ _ _ _ _ s.walk (kO _);rw[D,G] at N r;have F:ws0.count=0:=rfl;have U:=s.ents.2.2.1;have J:=s.count;rw[s.height];refine⟨by omega,?_,by omega,?_⟩
 ·grind
 ·rcases r with⟨C,A⟩ | ⟨C,A,O⟩
  ·omega
  ·simp at A O;rcases Nat.lt_or_ge st.deep 5 with h | h
   ·omega
   ·have:3 ^ 3≤3 ^ (st.deep - 2):=Nat.pow_le_pow_right (by omega) (by omega);omega
end
end Go.Am
namespace Go.Am
open List
def bN_ (R:Nat→List Nat→KV→Prop):List Int→List ByteArray→List Nat→KV→Prop
 | [],_,_,_=>False
 | k::ks,ss,P,ps=>match ss with
  | []=>ks=[]∧R k.toNat P ps
  | s::ss=>∃ P1 ps1 P2 ps2,R k.toNat P1 ps1∧bN_ R ks ss P2 ps2∧P=P1++P2∧ps=ps1++ps2∧(∀ x∈ps1,blt x.1 s=true)∧(∀ y∈ps2,blt y.1 s=false)
def Sub (T:List Pg):Nat→Nat→List Nat→KV→Prop
 | 0,_,_,_=>False
 | d+1,a,P,ps=>∃ p,T[a]? =some p∧fS_ p∧
  ((d=0∧p.leaf=true∧P=[a]∧ps=p.keys.zip p.vals)∨
   (p.leaf=false∧∃ P',P=a::P'∧bN_ (fun k P ps=>Sub T d k P ps∧∃ q,T[k]? =some q∧2≤q.keys.length) p.kids p.keys P' ps))
def ea_ (T:List Pg) (d k:Nat) (P:List Nat) (ps:KV):Prop:=Sub T d k P ps∧∃ q,T[k]? =some q∧2≤q.keys.length
theorem bN_.imp:∀ {ks:List Int} {ss:List ByteArray} {P:List Nat} {ps:KV},(∀ k P' r,R k P' r→(∀ i∈P',i∈P)→R' k P' r)→bN_ R ks ss P ps→bN_ R' ks ss P ps
 | [],_,_,_,_,h=>h.elim
 | k::ks,[],P,ps,f,h=>⟨h.1,f _ _ _ h.2 fun i A=>A⟩
 | k::ks,s::ss,P,ps,f,⟨O,C,U,D,I,W,G,V,N,J⟩=>by
  subst G;exact⟨O,C,U,D,f _ _ _ I fun i A=>kD.2 (.inl A),bN_.imp (fun k P' r h F=>f k P' r h fun i A=>kD.2 (.inr (F i A))) W,rfl,V,N,J⟩
theorem bN_.len:∀ {ks:List Int} {ss:List ByteArray} {P:List Nat} {ps:KV},bN_ R ks ss P ps→ks.length=ss.length+1
 | [],_,_,_,h=>h.elim
 | k::ks,[],P,ps,h=>by rw[h.1]; rfl
 | k::ks,s::ss,P,ps,⟨G,A,D,r,F,C,_⟩=>by simp [bN_.len C]
theorem Sub.head (h:Sub T d a P ps):a∈P:=by
 cases d with
 | zero=>exact h.elim
 | succ d=>
  obtain⟨p,_,_,⟨_,_,e,_⟩ | ⟨_,r,e,_⟩⟩:=h<;>simp [e]
theorem Sub.keep:∀ {d a:Nat} {P:List Nat} {ps:KV},Sub T d a P ps→(∀ i∈P,T'[i]? =T[i]?)→Sub T' d a P ps
 | 0,_,_,_,h,_=>h.elim
 | d+1,a,P,ps,h,r=>by
  have ⟨p,O,J,h⟩:=h;refine⟨p,by grind,J,?_⟩;rcases h with h | ⟨D,F,e,N⟩
  ·grind
  ·subst e;refine .inr ⟨D,F,rfl,N.imp fun k Q U ⟨A,q,I,G⟩ C=>⟨Sub.keep A fun i V=>r i (by grind),q,?_,G⟩⟩;rw[r k (by simp [C k A.head])]; exact I
theorem ea_.keep (h:ea_ T d a P ps) (r:∀ i∈P,T'[i]? =T[i]?):ea_ T' d a P ps:=by
 have ⟨A,q,D,C⟩:=h;exact⟨A.keep r,q,by rw[r a A.head]; exact D,C⟩
theorem bN_.allD (r:∀ k P ps,R k P ps→Am.allD T f k=ps):∀ {ks:List Int} {ss:List ByteArray} {P:List Nat} {ps:KV},bN_ R ks ss P ps→(ks.flatMap fun k=>Am.allD T f k.toNat)=ps
 | [],_,_,_,h=>h.elim
 | k::ks,[],P,ps,h=>by rw[h.1]; simp [r _ _ _ h.2]
 | k::ks,s::ss,P,ps,⟨J,D,I,A,F,C,_,G,_⟩=>by rw[flatMap_cons,r _ _ _ F,bN_.allD r C,G]
theorem Sub.allD:∀ {d f a:Nat} {P:List Nat} {ps:KV},Sub T d a P ps→d≤f→Am.allD T f a=ps
 | 0,_,_,_,_,h,_=>h.elim
 | d+1,0,_,_,_,_,A=>by omega
 | d+1,f+1,a,P,ps,h,A=>by
  obtain⟨p,hp,hm,⟨_,r,_,e⟩ | ⟨r,D,_,C⟩⟩:=h
  ·rw[ss_ hp (hm.2.leaf r).2.1,e]
  ·rw[pM_ hp (hm.2.inner r).2.1];exact bN_.allD (fun k P ps h=>Sub.allD h.1 (by omega)) C
theorem zx_ (A:∀ k P ps,R k P ps→Asc ps∧ms_ ps):∀ {ks:List Int} {ss:List ByteArray} {P:List Nat} {ps:KV},bN_ R ks ss P ps→Asc ps∧ms_ ps
 | [],_,_,_,h=>h.elim
 | k::ks,[],P,ps,h=>A _ _ _ h.2
 | k::ks,s::ss,P,ps,⟨Z,J,P2,U,D,Y,_,O,G,F⟩=>by
  have ⟨N,C⟩:=A _ _ _ D;have ⟨W,V⟩:=zx_ A Y;subst O;exact⟨pairwise_append.2 ⟨N,W,fun x r y I=>kE_ (G x r) (F y I)⟩,fun x r=>(kD.1 r).elim (C x) (V x)⟩
theorem Sub.asc:∀ {d a:Nat} {P:List Nat} {ps:KV},Sub T d a P ps→Asc ps∧ms_ ps
 | 0,_,_,_,h=>h.elim
 | d+1,a,P,ps,h=>by
  obtain⟨p,hp,r,⟨_,C,_,e⟩ | ⟨C,I,_,F⟩⟩:=h
  ·have ⟨G,J,D⟩:=r.2.leaf C;subst e;exact⟨yh_ r.2.rising G,fun x A=>⟨r.2.keys _ (if_ A).1,D _ (if_ A).2⟩⟩
  ·exact zx_ (fun k P ps h=>Sub.asc h.1) F
theorem sG_ (r:∀ k P ps,R k P ps→m≤ps.length):∀ {ks:List Int} {ss:List ByteArray} {P:List Nat} {ps:KV},bN_ R ks ss P ps→ks.length*m≤ps.length
 | [],_,_,_,h=>h.elim
 | k::ks,[],P,ps,h=>by rw[h.1]; have:=r _ _ _ h.2; simpa
 | k::ks,s::ss,P,ps,⟨O,D,I,A,F,C,_,G,J,N⟩=>by
  have:=r _ _ _ F;have:=sG_ r C;subst G;rw[length_cons,kI,Nat.add_mul];omega
theorem ea_.size:∀ {d a:Nat} {P:List Nat} {ps:KV},ea_ T d a P ps→2*d≤ps.length
 | 0,_,_,_,h=>by omega
 | d+1,a,P,ps,⟨h,q,G,I⟩=>by
  obtain⟨p,hp,hm,⟨N,F,_,e⟩ | ⟨F,U,_,A⟩⟩:=h
  ·have:=(hm.2.leaf F).1;grind
  ·rw[hp] at G; cases G;have r:=A.len;have:=sG_ (fun k P ps h=>ea_.size h) A;have N:1≤d:=by
    cases d with
    | zero=>cases C:q.kids with
     | nil=>rw[C] at r; simp at r
     | cons k O=>
      rw[C] at A
      cases D:q.keys with
      | nil=>rw[D] at I; simp at I
      | cons s V=>rw[D] at A; have ⟨_,_,_,_,J,_⟩:=A; exact J.1.elim
    | succ d=>omega
   have:2*(2*d)≤q.kids.length*(2*d):=Nat.mul_le_mul_right _ (by omega);omega
theorem ea_.ne (h:ea_ T d a P ps):ps≠[]:=by
 intro e;have:=h.size;subst e;cases d with
 | zero=>exact h.1.elim
 | succ d=>simp at this
def f9_ (met:List Bool) (P:List Nat):List Bool:=P.foldl (fun m i=>m.set i true) met
theorem lO_:∀ {met:List Bool} {i:Nat},i∉P→(f9_ met P)[i]? =met[i]? :=by
 unfold f9_;induction P with
 | nil=>intro met i _; rfl
 | cons j P r=>
  grind
theorem xq_:∀ {met:List Bool} {i:Nat},i∈P→i < met.length→(f9_ met P)[i]? =some true:=by
 unfold f9_;induction P with
 | nil=>intro met i h; simp at h
 | cons j P C=>
  intro met i h A;by_cases r:i∈P
  ·grind
  ·have:=lO_ (met:=met.set i true) r;unfold f9_ at this;grind
theorem o7_ (met:List Bool) (P Q:List Nat):f9_ met (P++Q)=f9_ (f9_ met P) Q:=by unfold f9_; rw[foldl_append]
theorem tE_ (met:List Bool) (a:Nat) (P:List Nat):f9_ met (a::P)=f9_ (met.set a true) P:=rfl
theorem xy_ {R:Nat→List Nat→KV→Prop} (r:∀ k P ps,R k P ps→ps≠[]):∀ {ks:List Int} {ss:List ByteArray} {P:List Nat} {ps:KV},bN_ R ks ss P ps→ps≠[]∧(Win lo hi ps→∀ s∈ss,blt s lo=false∧(hi.size=0∨blt s hi=true))
 | [],_,_,_,h=>h.elim
 | k::ks,[],P,ps,h=>⟨r _ _ _ h.2,fun _ s A=>by grind⟩
 | k::ks,s::ss,P,ps,⟨P1,O,P2,Y,G,h2,_,W,J,I⟩=>by
  have D:=r _ _ _ G;obtain⟨n2,ih⟩:=xy_ r h2;subst W;refine⟨by simp [D],fun w U A=> ?_⟩;have ⟨x,C⟩:=exists_mem_of_ne_nil _ D;have ⟨y,F⟩:=exists_mem_of_ne_nil _ n2;have Z:=w x (kD.2 (.inl C));have V:=w y (kD.2 (.inr F));rcases mem_cons.1 A with e | e
  ·subst e;refine⟨?_,?_⟩
   ·exact xw_ Z.1 (et_ (J x C))
   ·rcases V.2 with q | q
    ·grind
    ·exact .inr (rK_ (I y F) q)
  ·exact ih (fun z N=>w z (kD.2 (.inr N))) U e
theorem zT_ (h:∀ s∈ks,blt s lo=false∧(hi.size=0∨blt s hi=true)):f4_ lo hi ks=true:=by
 unfold f4_;grind
theorem Sub.walk (T:List Pg):∀ (d f a:Nat) (P:List Nat) (ps:KV) (deep:Nat) (lo hi:ByteArray) (st:WS),Sub T d a P ps→d≤f→(0 < a→∃ q,T[a]? =some q∧2≤q.keys.length)→P.Nodup→(∀ i∈P,st.met[i]? =some false)→Win lo hi ps→
 (st.deep=0∨st.deep+1=deep+d)→1≤deep→cC_ T f a deep lo hi st=some ⟨f9_ st.met P,deep+d - 1,st.count+ps.length⟩
 | 0,_,_,_,_,_,_,_,_,h,_,_,_,_,_,_,_=>h.elim
 | d+1,0,_,_,_,_,_,_,_,_,hf,_,_,_,_,_,_=>by omega
 | d+1,f+1,a,P,ps,deep,lo,hi,st,h,hf,ha,hnd,hm,hw,hdp,hd1=>by
  have hma:=hm a h.head;obtain⟨p,hp,hmay,hcase⟩:=h;have hbig:(decide (0 < a)&&decide (p.keys.length < 2))=false:=by
   rw[Bool.and_eq_false_iff,decide_eq_false_iff_not,decide_eq_false_iff_not];rcases Nat.eq_zero_or_pos a with e | e
   ·exact .inl (by omega)
   ·obtain⟨q,hq,h2⟩:=ha e;rw[hp] at hq; cases hq;exact .inr (by omega)
  have hok:f4_ lo hi p.keys=true→okD p a lo hi st=true:=fun hh=>by
   unfold okD;rw[hma,(ef_ p).2 hmay,hbig,hh]; rfl
  rw[jF_ T f a deep lo hi st hp];rcases hcase with⟨e0,hl,e1,e2⟩ | ⟨hl,P',e1,hk⟩
  ·subst e0; subst e1; subst e2;have v1:=(hmay.2.leaf hl).1;have hh:f4_ lo hi p.keys=true:=zT_ fun s hs=>by
    obtain⟨i,hi',e⟩:=kK hs;have:(p.keys.zip p.vals)[i]'(by rw[length_zip]; omega)∈p.keys.zip p.vals:=kE _;have:=hw _ this;rw[getElem_zip,e] at this;exact this
   rw[hok hh];dsimp only;rw[hl];dsimp only;unfold leafD;dsimp only;have hz:(p.keys.zip p.vals).length=p.keys.length:=by rw[length_zip]; omega
   rw[hz];rcases hdp with q | q
   ·rw[decide_eq_true q]; rfl
   ·have q':st.deep=deep:=by omega
    rw[decide_eq_false (by omega),decide_eq_true q']; rfl
  ·subst e1;have hh:f4_ lo hi p.keys=true:=zT_ ((xy_ (fun k P ps h=>ea_.ne h) hk).2 hw);rw[hok hh];dsimp only;rw[hl];dsimp only;have hlen:=hk.len;obtain⟨k1,k2,k3,k4,k5⟩:=hmay.2.inner hl;rw[nodup_cons] at hnd;have loop:∀ (ks:List Int) (i:Nat) (ss:List ByteArray) (P:List Nat) (ps:KV) (s:WS),(∀ k∈ks,1≤k)→p.keys.drop i=ss→i+ss.length=p.keys.length→bN_ (fun k P ps=>Sub T d k P ps∧∃ q,T[k]? =some q∧2≤q.keys.length) ks ss P ps→
    P.Nodup→(∀ i∈P,s.met[i]? =some false)→Win (loK p lo i) hi ps→(s.deep=0∨s.deep=deep+d)→
    ga_ (fun k i s=>cC_ T f k.toNat (deep+1) (loK p lo i) (hiK p hi i) s) ks i s=some ⟨f9_ s.met P,deep+d,s.count+ps.length⟩:=by
    intro ks;induction ks with
    | nil=>intro i ss P ps s _ _ _ h; exact h.elim
    | cons k ks ihk=>
     intro i ss P ps s hk1 hss hlen' hR hnd hm hw hdp;have hk0:=hk1 k (by simp);cases ss with
     | nil=>
      obtain⟨e,hs⟩:=hR;subst e;have hend:p.keys.length≤i:=by simp at hlen'; omega
      rw[e9_];have:=Sub.walk T d f k.toNat P ps (deep+1) (loK p lo i) (hiK p hi i) s hs.1 (by omega) (fun _=>hs.2) hnd hm (by rw[CO_ hend]; exact hw) (by rcases hdp with q | q; exact .inl q; exact .inr (by omega)) (by omega);rw[this];dsimp only;have e:deep+1+d - 1=deep+d:=by omega
      rw[e]; rfl
     | cons s0 ss=>
      obtain⟨P1,ps1,P2,ps2,h1,h2,e1,e2,h3,h4⟩:=hR;subst e1; subst e2;simp only[length_cons] at hlen';have hi1:i < p.keys.length:=by omega
      have hs0:p.keys[i]=s0:=by
       rw[drop_eq_getElem_cons hi1] at hss;exact (List.cons.inj hss).1
      have hss':p.keys.drop (i+1)=ss:=by
       rw[drop_eq_getElem_cons hi1] at hss;exact (List.cons.inj hss).2
      rw[e9_];rw[nodup_append] at hnd;obtain⟨d1,d2,d3⟩:=hnd;have hw1:Win (loK p lo i) (hiK p hi i) ps1:=fun x hx=>⟨(hw x (kD.2 (.inl hx))).1,.inr (by rw[zh_ hi1,hs0]; exact h3 x hx)⟩;have:=Sub.walk T d f k.toNat P1 ps1 (deep+1) (loK p lo i) (hiK p hi i) s h1.1 (by omega) (fun _=>h1.2) d1 (fun j hj=>hm j (kD.2 (.inl hj))) hw1 (by rcases hdp with q | q; exact .inl q; exact .inr (by omega)) (by omega);rw[this];dsimp only;have e:deep+1+d - 1=deep+d:=by omega
      rw[e];have:=ihk (i+1) ss P2 ps2 ⟨f9_ s.met P1,deep+d,s.count+ps1.length⟩ (fun k' hk'=>hk1 k' (by simp [hk'])) hss' (by omega) h2 d2 (fun j hj=>by
       dsimp only;rw[lO_ (fun q=>d3 j q j hj rfl)];exact hm j (kD.2 (.inr hj)))
       (fun y hy=>⟨by rw[va_ hi1,hs0]; exact h4 y hy,(hw y (kD.2 (.inr hy))).2⟩) (.inr rfl)
      rw[this];dsimp only;rw[o7_,kI,Nat.add_assoc]
   have:=loop p.kids 0 p.keys P' ps ⟨st.met.set a true,st.deep,st.count⟩ (fun k hk=>(k4 k hk).1) rfl (by omega) hk hnd.2 (fun j hj=>by
    dsimp only;rw[kF (fun e=>hnd.1 (by rw[e]; exact hj))];exact hm j (by simp [hj])) hw (by dsimp only; rcases hdp with q | q; exact .inl q; exact .inr (by omega))
   rw[this,tE_];dsimp only;congr 2
end Go.Am
namespace Go.Am
theorem Db_ (T:List Pg):∀ (f a deep:Nat) (lo hi:ByteArray) (st st':WS),cC_ T f a deep lo hi st=some st'→1≤deep→
 ∃ d P,st'.deep+1=deep+d∧Sub T d a P (allD T f a)∧st'.met=f9_ st.met P∧P.Nodup∧(∀ i∈P,st.met[i]? =some false):=by
 intro f;induction f with
 | zero=>intro _ _ _ _ _ _ h; cases h
 | succ f ih=>
  intro a deep lo hi st st' h hd1;obtain⟨p,hp,hok,hcase⟩:=fI_ h;obtain⟨hm,hmay,h2,hh⟩:=lN_ hok;have hM:=(ef_ p).1 hmay;have hfit:=hM.2;have hlt:=(kC.1 hm).1;rcases hcase with⟨hl,hlf⟩ | ⟨hl,hk⟩
  ·obtain⟨e1,e2,e3,_⟩:=h3_ hlf;refine⟨1,[a],by omega,⟨p,hp,hM,.inl ⟨rfl,hl,rfl,ss_ hp (hfit.leaf hl).2.1⟩⟩,by rw[e1]; rfl,by simp,fun i hi=>by rw[List.mem_singleton.1 hi]; exact hm⟩
  ·obtain⟨k1,k2,k3,k4,k5⟩:=hfit.inner hl;have loop:∀ (ks:List Int) (i:Nat) (ss:List ByteArray) (s s':WS),(∀ k∈ks,1≤k)→p.keys.drop i=ss→i+ss.length=p.keys.length→ks.length=ss.length+1→
    ga_ (fun k i s=>cC_ T f k.toNat (deep+1) (loK p lo i) (hiK p hi i) s) ks i s=some s'→
    ∃ d P,s'.deep+1=deep+1+d∧bN_ (ea_ T d) ks ss P (ks.flatMap fun k=>allD T f k.toNat)∧s'.met=f9_ s.met P∧P.Nodup∧(∀ i∈P,s.met[i]? =some false)∧(s.deep=0∨s.deep=s'.deep):=by
    intro ks;induction ks with
    | nil=>intro i ss s s' _ _ _ h; simp at h
    | cons k ks ihk=>
     intro i ss s s' hk1 hss hlen hkl h;have hk0:=hk1 k (by simp);rw[e9_] at h;cases hr:cC_ T f k.toNat (deep+1) (loK p lo i) (hiK p hi i) s with
     | none=>rw[hr] at h; cases h
     | some s1=>
      rw[hr] at h;dsimp only at h;obtain⟨d1,P1,e1,S1,m1,n1,u1⟩:=ih _ _ _ _ _ _ hr (by omega);obtain⟨q1,_⟩:=uQ_ T _ _ _ _ _ _ _ hr (by omega);have B1:ea_ T d1 k.toNat P1 (allD T f k.toNat):=by
       obtain⟨q,hq,hqo,_⟩:=fI_ (f:=f - 1) (by
        cases f with
        | zero=>cases hr
        | succ f=>exact hr)
       exact⟨S1,q,hq,(lN_ hqo).2.2.1 (by omega)⟩
      cases ss with
      | nil=>
       have:ks=[]:=by simpa using hkl
       subst this;cases h;exact⟨d1,P1,e1,⟨rfl,by simpa using B1⟩,m1,n1,u1,q1⟩
      | cons s0 ss=>
       simp only[List.length_cons] at hlen hkl;have hi1:i < p.keys.length:=by omega
       have hs0:p.keys[i]=s0:=by
        rw[List.drop_eq_getElem_cons hi1] at hss;exact (List.cons.inj hss).1
       have hss':p.keys.drop (i+1)=ss:=by
        rw[List.drop_eq_getElem_cons hi1] at hss;exact (List.cons.inj hss).2
       obtain⟨d2,P2,e2,K2,m2,n2,u2,z2⟩:=ihk (i+1) ss s1 s' (fun k' hk'=>hk1 k' (by simp [hk'])) hss' (by omega) (by omega) h;have hd12:d1=d2:=by rcases z2 with z | z<;>omega
       subst hd12;have w1:=(r9_ T f _ _ _ _ _ _ hr).2.1;have w2:=(xY_ (r9_ T f) hfit hh ks (i+1) (by omega) _ _ h).2.1;rw[va_ hi1,hs0] at w2;rw[zh_ hi1,hs0] at w1;have hsz:1≤s0.size:=by rw[←hs0]; exact (hfit.keys _ (kE hi1)).1
       have u2':∀ j∈P2,j∉P1:=fun j hj q=>by
        have:=u2 j hj;have hjl:=(kC.1 (u1 j q)).1;rw[m1,xq_ q hjl] at this;cases this
       refine⟨d1,P1++P2,e2,⟨P1,_,P2,_,B1,K2,rfl,by rw[List.flatMap_cons],fun x hx=> ?_,fun y hy=>(w2 y hy).1⟩,by rw[m2,m1,o7_],?_,fun j hj=> ?_,?_⟩
       ·rcases (w1 x hx).2 with z | z
        ·omega
        ·exact z
       ·rw[List.nodup_append];exact⟨n1,n2,fun j hj j' hj' e=>u2' j' hj' (by rw[←e]; exact hj)⟩
       ·rcases kD.1 hj with q | q
        ·exact u1 j q
        ·have:=u2 j q;rw[m1,lO_ (u2' j q)] at this;exact this
       ·rcases q1 with q | q
        ·exact .inl q
        ·rcases z2 with z | z
         ·omega
         ·exact .inr (by omega)
   obtain⟨d,P,e,K,m,n,u,_⟩:=loop p.kids 0 p.keys _ _ (fun k hk=>(k4 k hk).1) rfl (by omega) k3 hk;dsimp only at m u;have haP:a∉P:=fun q=>by
    have:=u a q;rw[kH hlt] at this;cases this
   refine⟨d+1,a::P,by omega,⟨p,hp,hM,.inr ⟨hl,P,rfl,by rw[pM_ hp k2]; exact K⟩⟩,by rw[m,tE_],List.nodup_cons.2 ⟨haP,n⟩,fun j hj=> ?_⟩;rcases List.mem_cons.1 hj with q | q
   ·rw[q]; exact hm
   ·have:=u j q;rw[kF (fun z=>haP (by rw[z]; exact q))] at this;exact this
theorem Sub.inT:∀ {d a:Nat} {P:List Nat} {ps:KV},Sub T d a P ps→∀ i∈P,i < T.length
 | 0,_,_,_,h=>h.elim
 | d+1,a,P,ps,h=>by
  have ⟨p,O,N,h⟩:=h;rcases h with⟨_,_,e,_⟩ | ⟨_,W,e,D⟩
  ·grind
  ·subst e;intro i r;rcases List.mem_cons.1 r with q | q
   ·grind
   ·have key:∀ {A:List Int} {C:List ByteArray} {P:List Nat} {ps:KV},bN_ (ea_ T d) A C P ps→∀ i∈P,i < T.length:=by
     intro A;induction A with
     | nil=>intro _ _ _ h; exact h.elim
     | cons k A U=>
      intro C P ps h i r;cases C with
      | nil=>exact Sub.inT h.2.1 i r
      | cons s C=>
       have ⟨V,I,Y,F,J,D,G,_⟩:=h;subst G;rcases kD.1 r with q | q
       ·exact Sub.inT J.1 i q
       ·grind
    exact key D i q
theorem Sub.low (h:Sub T d a P ps):2*d≤ps.length+2:=by
 cases d with
 | zero=>exact h.elim
 | succ d=>
  obtain⟨p,hp,hm,⟨A,_,_,_⟩ | ⟨_,D,_,r⟩⟩:=h
  ·grind
  ·have:=sG_ (fun k P ps h=>ea_.size h) r;have C:=r.len;have:1*(2*d)≤p.kids.length*(2*d):=Nat.mul_le_mul_right _ (by omega);omega
structure g9_ (T:List Pg) (d:Nat) (P:List Nat) (ps:KV):Prop where
 len:T.length=48
 sub:Sub T d 0 P ps
 nodup:P.Nodup
 rest:∀ (i:Nat) p,T[i]? =some p→i∉P→cY_ p=true
 count:ps.length≤60
section
variable {T:List Pg} {d:Nat} {P:List Nat} {ps:KV}
theorem g9_.pos (w:g9_ T d P ps):1≤d:=by
 cases d with
 | zero=>exact w.sub.elim
 | succ d=>omega
theorem g9_.sound (w:g9_ T d P ps):aK_ T=d∧cS_ T=ps:=by
 have D:=w.sub.low;have G:=w.count;have J:=Sub.walk T d 49 0 P ps 1 (mkS []) (mkS []) ws0 w.sub (by omega) (fun h=>by omega) w.nodup (fun i r=>l1_ i (by have:=w.sub.inT i r; rw[w.len] at this; exact this))
  (fun x _=>⟨Fe_ _,.inl rfl⟩) (.inl rfl) (kO _)
 refine⟨?_,w.sub.allD (by omega)⟩;unfold aK_;rw[decide_eq_true w.len];have F:g6_ T (f9_ ws0.met P)=true:=by
  unfold g6_;rw[List.all_eq_true];intro i r;have r:=List.mem_range.1 r;have C:i < 48:=by rw[w.len] at r; exact r
  by_cases A:i∈P
  ·rw[xq_ A (by show i < (List.replicate 48 false).length; simpa)]; rfl
  ·rw[w.rest i (T[i]?.getD noPg) (by grind) A]; simp
 have I:ws0.count=0:=rfl;grind
theorem g9_.pos' (w:g9_ T d P ps):0 < aK_ T:=by rw[w.sound.1]; exact w.pos
theorem SF.whole (s:SF T st):∃ P,g9_ T (aK_ T) P (cS_ T):=by
 have ⟨d,P,e,S,m,n,u⟩:=Db_ T _ _ _ _ _ _ _ s.walk (kO _);have F:d=aK_ T:=by rw[s.height]; omega
 subst F;refine⟨P,s.len,S,n,fun i p C D=> ?_,s.ents.2.2.2⟩;have r:=(kC.1 C).1;have A:i < 48:=by rw[s.len] at r; exact r
 have G:st.met[i]? =some false:=by rw[m,lO_ D,l1_ i A]
 rcases us_ s.rest r C with h | h
 ·grind
 ·exact h
theorem k9_ (h:0 < aK_ T):∃ P,g9_ T (aK_ T) P (cS_ T):=by
 have ⟨st,s⟩:=SF.of h;exact s.whole
end
end Go.Am
namespace Go.Am
open List
def ct_ (ks:List ByteArray) (key:ByteArray):Nat:=ks.countP fun s=>blt s key
def di_ (ks:List ByteArray) (key:ByteArray):Bool:=decide (ks[ct_ ks key]? =some key)
def eq_ (ks:List ByteArray) (key:ByteArray):Nat:=ct_ ks key+(match di_ ks key with | true=>1 | false=>0)
def bO_:KV→ByteArray→Option ByteArray
 | [],_=>none
 | x::ps,key=>match decide (x.1=key) with | true=>some x.2 | false=>bO_ ps key
abbrev Pw (ks:List ByteArray):Prop:=ks.Pairwise fun a b=>blt a b=true
section
variable {s key:ByteArray} {ks:List ByteArray}
theorem DZ_:ct_ [] key=0:=rfl
theorem DH_:di_ [] key=false:=by simp [di_]
theorem lC_ (h:blt s key=true):ct_ (s::ks) key=ct_ ks key+1∧di_ (s::ks) key=di_ ks key:=by
 have e:ct_ (s::ks) key=ct_ ks key+1:=by unfold ct_; rw[countP_cons_of_pos (by omega)]
 unfold di_;grind
theorem vp_ (h:∀ t∈ks,blt t key=false):ct_ ks key=0:=by
 unfold ct_;grind
theorem ki_ (A:Pw (s::ks)) (h:blt s key=false):ct_ (s::ks) key=0∧di_ (s::ks) key=decide (s=key):=by
 have e:ct_ (s::ks) key=0:=vp_ fun t r=>by
  rcases mem_cons.1 r with q | q
  ·grind
  ·exact xw_ h (et_ ((pairwise_cons.1 A).1 t q))
 unfold di_;grind
theorem Ca_ (h:∀ t∈ks,blt key t=true):eq_ ks key=0:=by
 have e:=vp_ fun t r=>et_ (h t r);have A:di_ ks key=false:=by
  unfold di_;rw[e,decide_eq_false_iff_not];intro q;have:=h key (mem_of_getElem? q);rw[cA_] at this; cases this
 unfold eq_;grind
theorem gl_ (x:ByteArray × ByteArray) (ps:KV) (key:ByteArray):bO_ (x::ps) key=match decide (x.1=key) with | true=>some x.2 | false=>bO_ ps key:=rfl
theorem gZ_ (h:∀ x∈ps,x.1≠key):bO_ ps key=none:=by
 induction ps with
 | nil=>rfl
 | cons x ps r=>
  unfold bO_;grind
theorem ja_:bO_ (ps++qs) key=match bO_ ps key with | some v=>some v | none=>bO_ qs key:=by
 induction ps with
 | nil=>rfl
 | cons x ps r=>
  show (match decide (x.1=key) with | true=>some x.2 | false=>bO_ (ps++qs) key)=match (match decide (x.1=key) with | true=>some x.2 | false=>bO_ ps key) with | some v=>some v | none=>bO_ qs key
  cases decide (x.1=key) with
  | true=>rfl
  | false=>exact r
theorem BE_ (h:∀ x∈qs,x.1≠key):bO_ (ps++qs) key=bO_ ps key:=by
 rw[ja_,gZ_ h];grind
theorem ku_ (h:∀ x∈ps,x.1≠key):bO_ (ps++qs) key=bO_ qs key:=by
 rw[ja_,gZ_ h]
theorem rG_:∀ {ks vs:List ByteArray},Pw ks→vs.length=ks.length→bO_ (ks.zip vs) key=match di_ ks key with | true=>vs[ct_ ks key]? | false=>none
 | [],vs,_,_=>by rfl
 | s::ks,[],_,h=>by grind
 | s::ks,v::vs,r,h=>by
  have C:=(pairwise_cons.1 r).2;have A:=(pairwise_cons.1 r).1;rw[zip_cons_cons];unfold bO_;cases e:blt s key with
  | true=>
   rw[(lC_ e).1,(lC_ e).2,decide_eq_false (lP_ e),rG_ C (by grind)];rfl
  | false=>
   rw[(ki_ r e).1,(ki_ r e).2];by_cases q:s=key
   ·grind
   ·rw[decide_eq_false q];refine gZ_ fun x D F=> ?_;have:=A x.1 (if_ D).1;grind
theorem xG_:∀ {ks:List Int} {ss:List ByteArray} {P:List Nat} {ps:KV},bN_ R ks ss P ps→Pw ss→
 ∃ k J r,ks[eq_ ss key]? =some k∧R k.toNat J r∧bO_ ps key=bO_ r key
 | [],_,_,_,h,_=>h.elim
 | k::ks,[],P,ps,h,_=>⟨k,P,ps,by rfl,h.2,rfl⟩
 | k::ks,s::ss,P,ps,⟨J,r,P2,F,Y,U,e1,V,h3,h4⟩,C=>by
  have G:=(pairwise_cons.1 C).2;have N:=(pairwise_cons.1 C).1;subst V;have right:eq_ (s::ss) key=eq_ ss key+1→blt key s=false→∃ D I A,(k::ks)[eq_ (s::ss) key]? =some D∧R D.toNat I A∧bO_ (r++F) key=bO_ A key:=fun e q=>by
   have ⟨D,I,A,q1,Z,W⟩:=xG_ U G;refine⟨D,I,A,by grind,Z,?_⟩;rw[ku_ fun x hx e=> ?_]
   ·exact W
   ·grind
  cases e:blt s key with
  | true=>exact right (by unfold eq_; rw[(lC_ e).1,(lC_ e).2]; omega) (et_ e)
  | false=>
   by_cases q:s=key
   ·refine right ?_ (by rw[q,cA_]);have:eq_ ss key=0:=Ca_ fun t ht=>by grind
    rw[this];unfold eq_;rw[(ki_ C e).1,(ki_ C e).2,decide_eq_true q]
   ·have O:blt key s=true:=by
     rcases hq_ s key with z | z | z
     ·grind
     ·grind
     ·exact z.1
    refine⟨k,J,r,?_,Y,BE_ fun y hy e=> ?_⟩
    ·have:eq_ (s::ss) key=0:=by
      unfold eq_;rw[(ki_ C e).1,(ki_ C e).2,decide_eq_false q]; rfl
     rw[this]; rfl
    ·grind
end
theorem sV_ (h:Asc ps) (r:x∈ps):bO_ ps x.1=some x.2:=by
 induction ps with
 | nil=>simp at r
 | cons y ps D=>
  have ⟨C,A⟩:=pairwise_cons.1 h;unfold bO_;rcases mem_cons.1 r with e | e
  ·grind
  ·rw[decide_eq_false (lP_ (C x e))];exact D A e
theorem jM_ (h:bO_ ps key=some v):(key,v)∈ps:=by
 induction ps with
 | nil=>cases h
 | cons y ps r=>
  unfold bO_ at h;grind
theorem FH_:(bO_ ps key).isSome=ps.any fun x=>decide (x.1=key):=by
 induction ps with
 | nil=>rfl
 | cons y ps r=>
  unfold bO_;grind
end Go.Am
namespace Go.Am
open List
theorem fs_ (h:Pw ks):h4_ ks:=by
 intro i r;have:=pairwise_iff_getElem.1 h i (i+1) (by omega) r (by omega);rw[iO_]; exact this
theorem HR_ (h:Asc ps):Pw (ps.map (·.1)):=by rw[Pw,pairwise_map]; exact h
theorem GY_ (ps:KV):(ps.map (·.1)).zip (ps.map (·.2))=ps:=by
 induction ps with
 | nil=>rfl
 | cons x ps r=>simp [r]
def hw_ (T:List Pg) (d:Nat) (p:Pg) (P:List Nat) (e:KV):Prop:=
 fS_ p∧((d=0∧p.leaf=true∧P=[]∧e=p.keys.zip p.vals)∨(p.leaf=false∧bN_ (ea_ T d) p.kids p.keys P e))
theorem hw_.sub (h:hw_ T d p P e) (A:T[a]? =some p):Sub T (d+1) a (a::P) e:=by
 obtain⟨hm,⟨D,r,C,F⟩ | ⟨r,G⟩⟩:=h
 ·subst C; exact⟨p,A,hm,.inl ⟨D,r,rfl,F⟩⟩
 ·exact⟨p,A,hm,.inr ⟨r,P,rfl,G⟩⟩
theorem hw_.keep (h:hw_ T d p P e) (G:∀ i∈P,T'[i]? =T[i]?):hw_ T' d p P e:=by
 obtain⟨A,h | ⟨D,h⟩⟩:=h
 ·exact⟨A,.inl h⟩
 ·exact⟨A,.inr ⟨D,h.imp fun k Q I C r=>C.keep fun i F=>G i (r i F)⟩⟩
def LV (T:List Pg) (d:Nat):Lvl→List Nat→KV→Prop
 | [],P,e=>P=[]∧e=[]
 | (p,s)::xs,P,e=>∃ P1 e1 P2 e2,P=P1++P2∧e=e1++e2∧hw_ T d p P1 e1∧2≤p.keys.length∧(∃ y r,e1=y::r∧y.1=s)∧LV T d xs P2 e2
theorem LV.append:∀ {xs ys:Lvl} {P Q:List Nat} {e f:KV},LV T d xs P e→LV T d ys Q f→LV T d (xs++ys) (P++Q) (e++f)
 | [],ys,P,Q,e,f,⟨r,A⟩,h=>by grind
 | (p,s)::xs,ys,P,Q,e,f,⟨O,F,D,I,r,A,J,G,C,N⟩,h=>by
  subst r; subst A;exact⟨O,F,D++Q,I++f,by simp,by rw[append_assoc],J,G,C,LV.append N h⟩
theorem LV.split:∀ {xs ys:Lvl} {P:List Nat} {e:KV},LV T d (xs++ys) P e→∃ A r C D,P=A++C∧e=r++D∧LV T d xs A r∧LV T d ys C D
 | [],ys,P,e,h=>⟨[],[],P,e,rfl,rfl,⟨rfl,rfl⟩,h⟩
 | (p,s)::xs,ys,P,e,⟨A,r,C,D,h1,h2,J,V,Y,N⟩=>by
  have ⟨F,G,Z,I,g1,W,U,O⟩:=LV.split N;exact⟨A++F,r++G,Z,I,by grind,by rw[h2,W,append_assoc],⟨A,r,F,G,rfl,rfl,J,V,Y,U⟩,O⟩
theorem LV.keep:∀ {xs:Lvl} {P:List Nat} {e:KV},LV T d xs P e→(∀ i∈P,T'[i]? =T[i]?)→LV T' d xs P e
 | [],P,e,h,_=>h
 | (p,s)::xs,P,e,⟨F,C,G,N,U,V,D,J,O,I⟩,A=>by
  subst U;exact⟨F,C,G,N,rfl,V,D.keep fun i r=>A i (kD.2 (.inl r)),J,O,LV.keep I fun i r=>A i (kD.2 (.inr r))⟩
theorem LV.leasts:∀ {xs:Lvl} {P:List Nat} {e:KV},LV T d xs P e→Asc e→Pw (xs.map (·.2))∧∀ s∈xs.map (·.2),∃ y∈e,y.1=s
 | [],P,e,h,_=>⟨Pairwise.nil,fun s hs=>by grind⟩
 | (p,s)::xs,P,e,⟨W,U,Y,e2,h1,N,V,h4,⟨y,r,h5,h7⟩,G⟩,I=>by
  subst N;have ⟨Z,J,O⟩:=pairwise_append.1 I;have ⟨D,C⟩:=LV.leasts G J;refine⟨pairwise_cons.2 ⟨fun t A=> ?_,D⟩,fun t A=> ?_⟩
  ·have ⟨z,F,e⟩:=C t A;grind
  ·rcases mem_cons.1 A with q | q
   ·grind
   ·have ⟨z,F,e⟩:=C t q;grind
def jy_ (base m:Nat):List Int:=(List.range m).map fun j=>((base+j:Nat):Int)
theorem AL_ (base m:Nat):jy_ base (m+1)=(base:Int)::jy_ (base+1) m:=by
 unfold jy_;rw[range_succ_eq_map,map_cons,map_map];congr 1;apply map_congr_left;grind
theorem LV.kids {d next:Nat}:∀ {xs:Lvl} {base:Nat} {P:List Nat} {e:KV},xs≠[]→LV T d xs P e→(∀ j (h:j < xs.length),T[base+j]? =some (xs[j]).1)→Asc e→P.Nodup→(∀ i∈P,i < next)→next≤base→
 ∃ P',bN_ (ea_ T (d+1)) (jy_ base xs.length) (xs.tail.map (·.2)) P' e∧P'.Nodup∧∀ i,i∈P'↔i∈P∨(base≤i∧i < base+xs.length)
 | [],_,_,_,h,_,_,_,_,_,_=>(h rfl).elim
 | (p,s)::xs,base,P,e,_,⟨C,O,P2,e2,h1,h2,h3,h4,h5,I⟩,W,ha,J,A,hnb=>by
  subst h1; subst h2;have ⟨a1,N,a3⟩:=pairwise_append.1 ha;have ⟨U,d2,d3⟩:=nodup_append.1 J;have Y:T[base]? =some p:=by have:=W 0 (by simp); simpa
  have V:ea_ T (d+1) base (base::C) O:=⟨h3.sub Y,p,Y,h4⟩;have F:base∉C:=fun q=>by have:=A base (kD.2 (.inl q)); omega
  cases xs with
  | nil=>
   obtain⟨q1,q2⟩:=I;subst q1; subst q2;refine⟨base::C,?_,nodup_cons.2 ⟨F,U⟩,fun i=> ?_⟩
   ·exact⟨rfl,by simpa using V⟩
   ·rw[mem_cons,append_nil];show i=base∨i∈C↔i∈C∨(base≤i∧i < base+1);constructor
    ·rintro (q | q)
     ·omega
     ·exact .inl q
    ·rintro (q | q)
     ·exact .inr q
     ·omega
  | cons x xs=>
   obtain⟨P',k1,k2,k3⟩:=LV.kids (by simp) I (fun j hj=>by
    have:=W (j+1) (by simp; omega);rw[←Nat.add_assoc,Nat.add_right_comm] at this;simpa) N d2 (fun i D=>A i (kD.2 (.inr D))) (by omega)
   have hm:∀ i,i∈P'→i∉base::C:=fun i D q=>by
    rcases (k3 i).1 D with z | z
    ·rcases mem_cons.1 q with y | y
     ·have:=A i (kD.2 (.inr z)); omega
     ·exact d3 i y i z rfl
    ·rcases mem_cons.1 q with y | y
     ·omega
     ·have:=A i (kD.2 (.inl y)); omega
   refine⟨(base::C)++P',?_,?_,fun i=> ?_⟩
   ·show bN_ _ (jy_ base ((x::xs).length+1)) ((x::xs).map (·.2)) _ _;rw[AL_,map_cons];obtain⟨Q1,f1,Q2,f2,g1,g2,g3,g4,⟨y,r,g5,Z⟩,g7⟩:=I;refine⟨base::C,O,P',e2,V,k1,rfl,rfl,fun z G=> ?_,fun z G=> ?_⟩
    ·rw[←Z];exact a3 z G y (by rw[g2,g5]; simp)
    ·rw[←Z];rw[g2,g5,cons_append] at G N;rcases mem_cons.1 G with q | q
     ·rw[q]; exact cA_ _
     ·exact et_ ((pairwise_cons.1 N).1 z q)
   ·exact nodup_append.2 ⟨nodup_cons.2 ⟨F,U⟩,k2,fun i D j hj e=>hm j hj (by rw[←e]; exact D)⟩
   ·rw[kD,k3,mem_cons,kD];simp only[length_cons];constructor
    ·rintro ((q | q) | (q | q))
     ·omega
     ·exact .inl (.inl q)
     ·exact .inl (.inr q)
     ·exact .inr (by omega)
    ·rintro ((q | q) | q)
     ·exact .inl (.inr q)
     ·exact .inr (.inl q)
     ·omega
theorem lW_ (T:List Pg) (xs:Lvl) (next:Nat):∀ j,(er_ T xs next j).length=T.length
 | 0=>rfl
 | j+1=>by unfold er_; rw[length_set,lW_ T xs next j]
theorem l9_ (T:List Pg) (xs:Lvl) (next:Nat):∀ j i,i < next∨next+j≤i→(er_ T xs next j)[i]? =T[i]?
 | 0,i,_=>rfl
 | j+1,i,h=>by
  unfold er_;rw[kF (by omega),l9_ T xs next j i (by omega)]
theorem xs_ (T:List Pg) (xs:Lvl) (next:Nat):∀ j i (h:i < j),next+j≤T.length→j≤xs.length→(er_ T xs next j)[next+i]? =(xs[i]?).map (·.1)
 | 0,i,h,_,_=>by omega
 | j+1,i,h,r,A=>by
  unfold er_;by_cases e:i=j
  ·subst e;rw[kH (by rw[lW_]; omega),kG (by omega)]; rfl
  ·rw[kF (by omega)];exact xs_ T xs next j i (by omega) (by omega) (by omega)
theorem Ih_:∀ n:Fin 61,∀ i:Fin 15,5≤n.1→i.1 < kOf n.1 4→2≤aP_ n.1 (kOf n.1 4) (i.1+1) - aP_ n.1 (kOf n.1 4) i.1∧aP_ n.1 (kOf n.1 4) (i.1+1) - aP_ n.1 (kOf n.1 4) i.1≤4:=by decide+kernel
theorem H9_:∀ n:Fin 61,kOf n.1 4≤15∧(n.1≤4→kOf n.1 4=1)∧(5≤n.1→2≤kOf n.1 4):=by decide+kernel
theorem Ix_:∀ n:Fin 16,∀ i:Fin 3,6≤n.1→i.1 < kOf n.1 5→3≤aP_ n.1 (kOf n.1 5) (i.1+1) - aP_ n.1 (kOf n.1 5) i.1∧aP_ n.1 (kOf n.1 5) (i.1+1) - aP_ n.1 (kOf n.1 5) i.1≤5:=by decide+kernel
theorem Id_:∀ n:Fin 16,kOf n.1 5≤3∧(n.1≤5→kOf n.1 5=1)∧(6≤n.1→2≤kOf n.1 5):=by decide+kernel
theorem A7_ {α:Type} (l:List α) (h:a≤b):l.take b=l.take a++(l.drop a).take (b - a):=by
 obtain⟨c,rfl⟩:∃ c,b=a+c:=⟨b - a,by omega⟩;rw[take_add,Nat.add_sub_cancel_left]
theorem xo_ (D:Asc e) (C:ms_ e) (G:e.length≤4):hw_ T 0 ⟨true,true,e.map (·.1),e.map (·.2),[]⟩ [] e:=by
 refine⟨⟨by simpa using G,⟨rfl,fs_ (HR_ D),fun k r=> ?_,fun _=>⟨by simp,rfl,fun v F=> ?_⟩,fun h=>by grind⟩⟩,.inl ⟨rfl,rfl,rfl,(GY_ e).symm⟩⟩
 ·obtain⟨x,A,rfl⟩:=mem_map.1 r;exact (C x A).1
 ·obtain⟨x,A,rfl⟩:=mem_map.1 F;exact (C x A).2
theorem v8_ {d next base:Nat} {xs:Lvl} {P:List Nat} {e:KV} (h2:2≤xs.length) (h5:xs.length≤5) (C:LV T d xs P e) (O:∀ j (h:j < xs.length),T[base+j]? =some (xs[j]).1) (I:Asc e) (hk:ms_ e) (F:P.Nodup) (D:∀ i∈P,i < next) (G:next≤base) (W:1≤next) (Y:base+xs.length≤48):
 ∃ P',hw_ T (d+1) ⟨true,false,xs.tail.map (·.2),[],jy_ base xs.length⟩ P' e∧P'.Nodup∧∀ i,i∈P'↔i∈P∨(base≤i∧i < base+xs.length):=by
 have ⟨P',J,Z,U⟩:=LV.kids (fun q=>by grind) C O I F D G;obtain⟨l1,l2⟩:=C.leasts I;have ht:(xs.tail.map (·.2)).length=xs.length - 1:=by simp
 have A:∀ s∈xs.tail.map (·.2),s∈xs.map (·.2):=fun s V=>by
  obtain⟨x,C,e⟩:=mem_map.1 V;exact mem_map.2 ⟨x,mem_of_mem_tail C,e⟩
 refine⟨P',⟨⟨by show (xs.tail.map (·.2)).length≤4; omega,⟨rfl,fs_ ?_,fun k r=> ?_,fun h=>(by cases h),fun _=>⟨by show 1≤(xs.tail.map (·.2)).length; omega,rfl,?_,fun k r=> ?_,?_⟩⟩⟩,.inr ⟨rfl,J⟩⟩,Z,U⟩
 ·grind
 ·obtain⟨y,N,e⟩:=l2 k (A k r);rw[←e]; exact (hk y N).1
 ·unfold jy_; simp; omega
 ·obtain⟨j,hj,e⟩:=mem_map.1 (r);grind
 ·exact pairwise_map.2 (nodup_range.imp fun {a b} h q=>h (by omega))
theorem DS_ (T:List Pg) (Y:Asc ps) (hk:ms_ ps) (W:5≤ps.length) (N:ps.length≤60):LV T 0 (cB_ ps) [] ps:=by
 have G:=H9_ ⟨ps.length,by omega⟩;dsimp at G;have key:∀ i,i≤kOf ps.length 4→LV T 0 ((List.range i).map (hu_ ps (kOf ps.length 4))) [] (ps.take (aP_ ps.length (kOf ps.length 4) i)):=by
  intro i;induction i with
  | zero=>intro _; rw[fW_]; exact⟨rfl,rfl⟩
  | succ i V=>
   intro F;have O:=Ih_ ⟨ps.length,by omega⟩ ⟨i,by omega⟩ W (by grind);dsimp at O;have J:=k1_ ps.length (kOf ps.length 4) i;have U:=lI_ (n:=ps.length) F (i3_ _ _);rw[range_succ,kL,map_cons,map_nil,A7_ ps J];have D:((ps.drop (aP_ ps.length (kOf ps.length 4) i)).take (aP_ ps.length (kOf ps.length 4) (i+1) - aP_ ps.length (kOf ps.length 4) i)).length=aP_ ps.length (kOf ps.length 4) (i+1) - aP_ ps.length (kOf ps.length 4) i:=by
    grind
   have r:((ps.drop (aP_ ps.length (kOf ps.length 4) i)).take (aP_ ps.length (kOf ps.length 4) (i+1) - aP_ ps.length (kOf ps.length 4) i)).Sublist ps:=(take_sublist _ _).trans (drop_sublist _ _);refine LV.append (V (by omega)) ?_;have I:=xo_ (T:=T) (Y.sublist r) (fun x Z=>hk x (r.subset Z)) (by omega);refine⟨[],_,[],[],rfl,by simp,I,by simp; omega,?_,⟨rfl,rfl⟩⟩;have C:aP_ ps.length (kOf ps.length 4) i < ps.length:=by omega
   refine⟨ps[aP_ ps.length (kOf ps.length 4) i],(ps.drop (aP_ ps.length (kOf ps.length 4) i+1)).take (aP_ ps.length (kOf ps.length 4) (i+1) - aP_ ps.length (kOf ps.length 4) i - 1),?_,?_⟩
   ·rw[drop_eq_getElem_cons C];have ⟨c,A⟩:∃ c,aP_ ps.length (kOf ps.length 4) (i+1) - aP_ ps.length (kOf ps.length 4) i=c+1:=⟨_,(Nat.succ_pred_eq_of_pos (by omega)).symm⟩;rw[A,take_succ_cons,Nat.add_sub_cancel]
   ·grind
 have:=key _ (kO _);rw[m6_ (i3_ _ _),take_length] at this;exact this
theorem CU_ {T:List Pg} {d next:Nat} {xs:Lvl} {P:List Nat} {ps:KV} (hx:LV T d xs P ps) (ha:Asc ps) (hk:ms_ ps) (hnd:P.Nodup) (hP:∀ i,i∈P↔1≤i∧i < next) (hn1:1≤next) (h2:2≤xs.length) (h15:xs.length≤15) (h48:next+xs.length≤48) (hT:T.length=48):
 ∃ P',P'.Nodup∧(∀ i,i∈P'↔1≤i∧i < next+xs.length)∧
  ((xs.length≤5∧∃ q,upD xs next=[q]∧hw_ (er_ T xs next xs.length) (d+1) q.1 P' ps)∨(6≤xs.length∧LV (er_ T xs next xs.length) (d+1) (upD xs next) P' ps)):=by
 have hK:=Id_ ⟨xs.length,by omega⟩;dsimp only at hK;have hx':LV (er_ T xs next xs.length) d xs P ps:=hx.keep fun i hi=>l9_ _ _ _ _ _ (.inl ((hP i).1 hi).2);have hpl:∀ j (h:j < xs.length),(er_ T xs next xs.length)[next+j]? =some (xs[j]).1:=fun j h=>by
  rw[xs_ T xs next xs.length j h (by omega) (kO _),kG h]; rfl
 generalize er_ T xs next xs.length=T' at*;by_cases h6:xs.length≤5
 ·have hk1:=hK.2.1 h6;obtain⟨P',k1,k2,k3⟩:=v8_ (base:=next) h2 h6 hx' hpl ha hk hnd (fun i hi=>((hP i).1 hi).2) (kO _) hn1 h48;refine⟨P',k2,fun i=>by rw[k3,hP]; omega,.inl ⟨h6,(py_ xs next 1 0),by unfold upD; rw[hk1]; rfl,?_⟩⟩;have e0:aP_ xs.length 1 0=0:=fW_ _ _;have e1:aP_ xs.length 1 (0+1)=xs.length:=m6_ (by omega);unfold py_;dsimp only;rw[e0,e1];have q1:(xs.drop (0+1)).take (xs.length - (0+1))=xs.tail:=by rw[kN,drop_one,take_of_length_le (by simp)]
  have q2:((List.range (xs.length - 0)).map fun j=>((next+(0+j):Nat):Int))=jy_ next xs.length:=by
   unfold jy_;rw[Nat.sub_zero];apply map_congr_left;intro j _;congr 2;omega
  rw[q1,q2];exact k1
 ·have h6:6≤xs.length:=by omega
  have key:∀ i,i≤kOf xs.length 5→∀ Q f,LV T' d (xs.take (aP_ xs.length (kOf xs.length 5) i)) Q f→Asc f→ms_ f→Q.Nodup→(∀ j∈Q,j < next)→∃ P',P'.Nodup∧(∀ j,j∈P'↔j∈Q∨(next≤j∧j < next+aP_ xs.length (kOf xs.length 5) i))∧LV T' (d+1) ((List.range i).map (py_ xs next (kOf xs.length 5))) P' f:=by
   intro i;induction i with
   | zero=>
    intro _ Q f hQ _ _ _ _;rw[fW_,take_zero] at hQ;obtain⟨q1,q2⟩:=hQ;subst q1; subst q2;exact⟨[],nodup_nil,fun j=>by rw[fW_]; simp,rfl,rfl⟩
   | succ i ih=>
    intro hi Q f hQ haf hkf hnQ hlQ;have hc:=Ix_ ⟨xs.length,by omega⟩ ⟨i,by omega⟩ h6 (by show i < kOf xs.length 5; omega);dsimp only at hc;have hm:=k1_ xs.length (kOf xs.length 5) i;have hle:=lI_ (n:=xs.length) (k:=kOf xs.length 5) (i:=i+1) hi (i3_ _ _);rw[A7_ xs hm] at hQ;obtain⟨Q1,f1,Q2,f2,g1,g2,g3,g4⟩:=hQ.split;subst g1; subst g2;obtain⟨a1,a2,a3⟩:=pairwise_append.1 haf;obtain⟨d1,d2,d3⟩:=nodup_append.1 hnQ;obtain⟨P1,p1,p2,p3⟩:=ih (by omega) Q1 f1 g3 a1 (fun x hx=>hkf x (by simp [hx])) d1 (fun j hj=>hlQ j (by simp [hj]));generalize hci:aP_ xs.length (kOf xs.length 5) i=ci at*;generalize hcj:aP_ xs.length (kOf xs.length 5) (i+1)=cj at*;have hlen:((xs.drop ci).take (cj - ci)).length=cj - ci:=by rw[length_take,length_drop]; omega
    obtain⟨P2,k1,k2,k3⟩:=v8_ (base:=next+ci) (next:=next) (by rw[hlen]; omega) (by rw[hlen]; omega) g4 (fun j hj=>by
     rw[Nat.add_assoc,hpl (ci+j) (by omega)];simp) a2 (fun x hx=>hkf x (by simp [hx])) d2 (fun j hj=>hlQ j (by simp [hj])) (by omega) hn1 (by rw[hlen]; omega)
    rw[hlen] at k1 k3;refine⟨P1++P2,nodup_append.2 ⟨p1,k2,fun j hj j' hj' e=> ?_⟩,fun j=> ?_,?_⟩
    ·subst e;have z1:=(p2 j).1 hj;have z2:=(k3 j).1 hj';rcases z1 with z1 | z1
     ·rcases z2 with z2 | z2
      ·exact d3 j z1 j z2 rfl
      ·have:=hlQ j (by simp [z1]); omega
     ·rcases z2 with z2 | z2
      ·have:=hlQ j (by simp [z2]); omega
      ·omega
    ·rw[kD,p2,k3,kD];constructor
     ·rintro ((q | q) | (q | q))
      ·exact .inl (.inl q)
      ·exact .inr (by omega)
      ·exact .inl (.inr q)
      ·exact .inr (by omega)
     ·rintro ((q | q) | q)
      ·exact .inl (.inl q)
      ·exact .inr (.inl q)
      ·rcases Nat.lt_or_ge j (next+ci) with z | z
       ·exact .inl (.inr (by omega))
       ·exact .inr (.inr (by omega))
    ·rw[range_succ,kL,map_cons,map_nil];refine LV.append p3 ?_;have q0:py_ xs next (kOf xs.length 5) i=(⟨true,false,((xs.drop ci).take (cj - ci)).tail.map (·.2),[],jy_ (next+ci) (cj - ci)⟩,(xs[ci]?.map (·.2)).getD (mkS [])):=by
      unfold py_;rw[hci,hcj];congr 2
      ·rw[←drop_one,←drop_take,←drop_take,drop_drop]
      ·unfold jy_;apply map_congr_left;intro j _;congr 1;omega
     have hlt:ci < xs.length:=by omega
     rw[q0,kG hlt];refine⟨P2,f2,[],[],by simp,by simp,k1,by simp; omega,?_,rfl,rfl⟩;rw[drop_eq_getElem_cons hlt] at g4;obtain⟨c,hc'⟩:∃ c,cj - ci=c+1:=⟨_,(Nat.succ_pred_eq_of_pos (by omega)).symm⟩;rw[hc',take_succ_cons] at g4;obtain⟨_,e1,_,e2,_,w2,_,_,⟨y,r,w5,w6⟩,_⟩:=g4;refine⟨y,r++e2,by rw[w2,w5]; rfl,w6⟩
  have hall:aP_ xs.length (kOf xs.length 5) (kOf xs.length 5)=xs.length:=m6_ (i3_ _ _);obtain⟨P',z1,z2,z3⟩:=key _ (kO _) P ps (by rw[hall,take_length]; exact hx') ha hk hnd (fun i hi=>((hP i).1 hi).2);rw[hall] at z2;exact⟨P',z1,fun i=>by rw[z2,hP]; omega,.inr ⟨h6,z3⟩⟩
theorem Ck_ (i:Nat) (h:1≤i) (r:i < 48):newT[i]? =some noPg:=by
 obtain⟨j,rfl⟩:∃ j,i=j+1:=⟨i - 1,by omega⟩;show (replicate 47 noPg)[j]? =some noPg;grind
theorem pV_ (h:hw_ T d p P ps) (D:P.Nodup) (O:∀ i,i∈P↔1≤i∧i < next) (N:T.length=48) (r:∀ i,next≤i→1≤i→i < 48→T[i]? =some noPg) (C:ps.length≤60):g9_ (T.set 0 p) (d+1) (0::P) ps:=by
 have J:0∉P:=fun q=>by grind
 refine⟨by simp [N],(h.keep fun i I=>kF (fun e=>J (by grind))).sub (kH (by omega)),nodup_cons.2 ⟨J,D⟩,fun i q G I=> ?_,C⟩;have A:i < 48:=by grind
 have F:i≠0:=fun e=>I (by grind);rw[kF (Ne.symm F),r i (by grind) (by omega) A] at G;cases G;rfl
theorem zi_ (I:Asc ps) (J:ms_ ps) (r:ps.length≤60):∃ d P,g9_ (nr_ ps) d P ps:=by
 have V:=H9_ ⟨ps.length,by omega⟩;dsimp at V;have hll:(cB_ ps).length=kOf ps.length 4:=by simp [cB_]
 unfold nr_;by_cases h5:5≤ps.length
 ·have N:=DS_ newT I J h5 r;rw[show (64:Nat)=63+1 from rfl,hh_,decide_eq_true (by omega)];obtain⟨P1,Y,W,c1⟩:=CU_ N I J nodup_nil (fun i=>⟨fun q=>by grind,fun q=>by omega⟩) (kO _) (by omega) (by omega) (by omega) rfl;have A:(er_ newT (cB_ ps) 1 (cB_ ps).length).length=48:=lW_ _ _ _ _;have D:∀ i,1+(cB_ ps).length≤i→1≤i→i < 48→(er_ newT (cB_ ps) 1 (cB_ ps).length)[i]? =some noPg:=fun i G F C=>by
   rw[l9_ _ _ _ _ _ (.inr G)]; exact Ck_ i F C
  generalize hnx:1+(cB_ ps).length=nx at*;rcases c1 with⟨_,q,e,U⟩ | ⟨h6,Z⟩
  ·rw[e,show (63:Nat)=62+1 from rfl,hh_,decide_eq_false (by simp)];exact⟨_,_,pV_ U Y W A D r⟩
  ·have O:=Id_ ⟨(cB_ ps).length,by omega⟩;dsimp at O;have hul:(upD (cB_ ps) 1).length=kOf (cB_ ps).length 5:=by simp [upD]
   rw[show (63:Nat)=62+1 from rfl,hh_,decide_eq_true (by omega)];obtain⟨P2,n2,m2,c2⟩:=CU_ Z I J Y W (by omega) (by omega) (by omega) (by omega) A;rcases c2 with⟨_,q,e,U⟩ | ⟨h6',_⟩
   ·rw[e,show (62:Nat)=61+1 from rfl,hh_,decide_eq_false (by simp)];exact⟨_,_,pV_ U n2 m2 (by rw[lW_]; exact A) (fun i G F C=>by rw[l9_ _ _ _ _ _ (.inr G)]; exact D i (by omega) F C) r⟩
   ·omega
 ·have h1:=V.2.1 (by omega);have N:cB_ ps=[hu_ ps 1 0]:=by unfold cB_; rw[h1]; rfl
  rw[show (64:Nat)=63+1 from rfl,hh_,N,decide_eq_false (by simp)];have hp:(hu_ ps 1 0).1=⟨true,true,ps.map (·.1),ps.map (·.2),[]⟩:=by
   unfold hu_;rw[fW_,m6_ (show 0 < 0+1 by omega),Nat.sub_zero,drop_zero,take_length]
  refine⟨1,[0],pV_ (next:=1) ?_ nodup_nil (fun i=>⟨fun q=>by grind,fun q=>by omega⟩) rfl (fun i G F C=>Ck_ i F C) r⟩;show hw_ newT 0 (hu_ ps 1 0).1 [] ps;rw[hp];exact xo_ I J (by omega)
theorem A3_ (A:Asc ps) (C:ms_ ps) (r:ps.length≤60):0 < aK_ (nr_ ps)∧cS_ (nr_ ps)=ps:=by
 have ⟨d,P,w⟩:=zi_ A C r;exact⟨w.pos',w.sound.2⟩
end Go.Am
section
namespace Go.Am
open List
def WfT (T:List Pg):Nat→Nat→Prop
 | 0,_=>False
 | f+1,a=>∃ p,T[a]? =some p∧fS_ p∧∀ k∈p.kids,WfT T f k.toNat
theorem BI_ (T:List Pg):∀ (f a r:Nat) (lo hi:ByteArray) (st C:WS),cC_ T f a r lo hi st=some C→WfT T f a:=by
 intro f;induction f with
 | zero=>intro _ _ _ _ _ _ h; cases h
 | succ f Z=>
  intro a r lo hi st C h;have ⟨p,W,J,A⟩:=fI_ h;have ⟨_,D,_,_⟩:=lN_ J;have N:=(ef_ p).1 D;refine⟨p,W,N,fun k I=> ?_⟩;rcases A with⟨U,_⟩ | ⟨_,G⟩
  ·rw[(N.2.leaf U).2.1] at I; simp at I
  ·have key:=lS_ (P:=fun O _ _=>∀ k∈O,WfT T f k.toNat) (fun _ k I=>(by grind)) (fun k O i s s1 s' hr V Y F=>by
    rcases mem_cons.1 F with e | e
    ·grind
    ·exact V Y e) _ _ _ _ G
   grind
theorem SF.good (s:SF T st):WfT T 49 0:=BI_ T _ _ _ _ _ _ _ s.walk
theorem z3_ (h:fS_ p):p.vals.length≤p.keys.length∧(p.keys.zip p.vals).length=p.vals.length:=by
 have:p.vals.length≤p.keys.length:=by
  cases r:p.leaf with
  | true=>have:=(h.2.leaf r).1; omega
  | false=>have:=(h.2.inner r).2.1; rw[this]; simp
 grind
theorem Bd_ (ks:List Int) (i:Nat) (hi:i < ks.length):(ks.drop i).flatMap (fun k=>allD T f k.toNat)=allD T f (ks[i]).toNat++(ks.drop (i+1)).flatMap (fun k=>allD T f k.toNat):=by
 rw[drop_eq_getElem_cons hi,flatMap_cons]
theorem CW_ {p:Pg} (r:T[a]? =some p):allD T (f+1) a=p.keys.zip p.vals++p.kids.flatMap fun k=>allD T f k.toNat:=by rw[allD,r]
theorem Ec_ {α:Type} (l:List α) (i:Nat) (hi:i < l.length):l.take (i+1)=l.take i++[l[i]]:=by rw[take_succ_eq_append_getElem hi]
section
variable {H0:Hp} {x:Pl} {cs:List PC} {T:List Pg}
theorem Hl_ {H0 H:Hp} (D:H0<+:H) (h:Own H H0.length tKV a (n*2) (bW_ ps)) (F:ps.length=n) (x y:ByteArray) (G:n≤100000)
 (C:∀ r H',H0<+:H'→Own H' H0.length tKV r ((n+1)*2) (bW_ (ps++[(x,y)]))→(ps++[(x,y)]).length=n+1→Ex H0 a H H'→(∀ l o,r=some (l,o)→H.length≤l∧o=0)→K r (n+1) H'):ap H tKV 2 32 a n [.str x,.str y] 1 K:=
 kb_ (by omega) D h (by rfl) (by unfold Lim; omega) fun r H' o e f=>C r H' e.pre (by rw[kvCells_append']; exact o) (by grind) e f
where
 kvCells_append':∀ {ps A:KV},bW_ (ps++A)=bW_ ps++bW_ A:=by simp [bW_]
set_option maxRecDepth 100000 in
theorem pc_ (hT:Tr H0 x 48 cs T):∀ (f at_:Nat) (H:Hp) (Q:Post) (a:Pl) (n:Nat) (ps:KV),WfT T f at_→at_ < 48→H0<+:H→Own H H0.length tKV a (n*2) (bW_ ps)→ps.length=n→n+(allD T f at_).length≤1000→
 (∀ a' m H',H0<+:H'→Own H' H0.length tKV a' (m*2) (bW_ (ps++allD T f at_))→(ps++allD T f at_).length=m→Q (.g (.sl a' m 2)) H')→
 bs_.at f [.agg [.sl x 48 5],.g (.int .i64 (at_:Int)),.g (.sl a n 2)] H Q:=by
 intro f;induction f with
 | zero=>intro _ _ _ _ _ _ h; exact h.elim
 | succ f ih=>
  intro at_ H Q a n ps hg hat h0 hO hl hb hQ
  obtain⟨p,hp,hm,hkids⟩:=hg;obtain⟨l,o,c,p',rfl,hc,hp',hpc,g0,g1,g2,g3,g4⟩:=hT.get hat;rw[hp] at hp'; cases hp';obtain⟨hv1,hv2⟩:=z3_ hm;rw[CW_ hp] at hb hQ;rw[kI,hv2] at hb;have hn1:=hpc.keys.len;have hn2:=hpc.vals.len;have hn3:=hpc.kids.len;have hl3:=hpc.kids.lim;have hl2:=hpc.vals.lim;have k48:∀ k∈p.kids,1≤k∧k < 48:=fun k hk=>by
   cases hlf:p.leaf with
   | true=>rw[(hm.2.leaf hlf).2.1] at hk; simp at hk
   | false=>exact (hm.2.inner hlf).2.2.2.1 k hk
  have l7:∀ (F i:Nat) (H:Hp) (a:Pl) (n:Nat) (qs:KV),p.kids.length - i < F→i≤p.kids.length→H0<+:H→Own H H0.length tKV a (n*2) (bW_ qs)→qs.length=n→n+((p.kids.drop i).flatMap fun k=>allD T f k.toNat).length≤1000→
   qs++((p.kids.drop i).flatMap fun k=>allD T f k.toNat)=ps++(p.keys.zip p.vals++p.kids.flatMap fun k=>allD T f k.toNat)→
   bs_.l7 (bs_.at f) F a n (some (l,o)) 48 c.u c.l c.a1 c.n1 c.a2 c.n2 c.a3 c.n3 (i:Int) H Q:=by
   intro F;induction F with
   | zero=>intro i _ _ _ _ h; omega
   | succ F ihF=>
    intro i H a n qs hF hi h0 hO hl hb he;rw[bs_.l7_eq];by_cases hik:i < p.kids.length
    ·rw[Bd_ p.kids i hik] at hb he;rw[kI] at hb;have hmem:=kE hik;have hk:=k48 _ hmem;have ek:p.kids[i]=((p.kids[i].toNat:Nat):Int):=by omega
     rw[az_ (by simp; omega),ae_,(hpc.mono h0).kids.rd i rfl hik];generalize hkk:p.kids[i]=kk at*;rw[ek];refine ih kk.toNat H _ a n qs (hkids kk hmem) (by omega) h0 hO hl (by omega) fun a' m H' h0' hO' hl'=> ?_;simp only[aN_,ah_];rw[an_ (by omega)];exact ihF (i+1) H' a' m _ (by omega) (by omega) h0' hO' hl' (by rw[←hl',kI,hl]; omega) (by rw[append_assoc]; exact he)
    ·rw[aD_ (by simp; omega)];rw[drop_of_length_le (by omega),flatMap_nil,append_nil] at he;subst he;exact hQ a n H h0 hO hl
  have l3:∀ (F i:Nat) (H:Hp) (a:Pl) (n:Nat),p.vals.length - i+p.kids.length+2 < F→i≤p.vals.length→H0<+:H→Own H H0.length tKV a (n*2) (bW_ (ps++(p.keys.zip p.vals).take i))→(ps++(p.keys.zip p.vals).take i).length=n→
   bs_.l3 (bs_.at f) F a n (some (l,o)) 48 c.u c.l c.a1 c.n1 c.a2 c.n2 c.a3 c.n3 (i:Int) H Q:=by
   intro F;induction F with
   | zero=>intro i _ _ _ h; omega
   | succ F ihF=>
    intro i H a n hF hi h0 hO hl';rw[bs_.l3_eq];have hnn:n=ps.length+i:=by rw[←hl',kI,length_take,hv2]; omega
    by_cases hik:i < p.vals.length
    ·rw[az_ (by simp; omega),ae_,(hpc.mono h0).keys.rd i rfl (by omega),ae_,(hpc.mono h0).vals.rd i rfl hik,ae_];refine Hl_ h0 hO hl' _ _ (by omega) fun a' H' h0' hO' hl2 _ _=> ?_;rw[an_ (by omega)];have e:(p.keys.zip p.vals)[i]'(by omega)=(p.keys[i]'(by omega),p.vals[i]):=by simp
     have e2:ps++(p.keys.zip p.vals).take (i+1)=ps++(p.keys.zip p.vals).take i++[(p.keys[i]'(by omega),p.vals[i])]:=by
      rw[Ec_ _ i (by omega),e,append_assoc]
     exact ihF (i+1) H' a' (n+1) (by omega) (by omega) h0' (by rw[e2]; exact hO') (by rw[e2]; exact hl2)
    ·rw[aD_ (by simp; omega)];have e:(p.keys.zip p.vals).take i=p.keys.zip p.vals:=take_of_length_le (by omega);rw[e] at hO hl';refine l7 F 0 H a n _ (by omega) (by omega) h0 hO hl' ?_ (by rw[drop_zero,append_assoc]);rw[drop_zero];omega
  refine⟨p.vals.length+p.kids.length+4,?_⟩;rw[AC_,ae_];refine ab_ (by simp; omega) ?_;have etN:tN (at_:Int)=at_:=rfl
  rw[af_,etN,cD_ (b6_ h0 g0) (b6_ h0 g1) (b6_ h0 g2) (b6_ h0 g3) (b6_ h0 g4)];exact l3 _ 0 H a n (by omega) (by omega) h0 (by simpa using hO) (by simpa using hl)
end
def inR (lo hi:ByteArray) (x:ByteArray × ByteArray):Bool:= !(blt x.1 lo)&&(decide (hi.size=0)||blt x.1 hi)
def d3_ (T:List Pg):KV:=match decide (0 < aK_ T) with | true=>cS_ T | false=>[]
def jd_ (e:Int) (T:List Pg):Int:=match decide (0 < aK_ T) with | true=>0 | false=>e
def td_ (T:List Pg) (lo hi:ByteArray):KV:=(d3_ T).filter (inR lo hi)
theorem lg_ (T:List Pg):(d3_ T).length≤60:=by
 unfold d3_;by_cases h:0 < aK_ T
 ·rw[decide_eq_true h];have ⟨st,s⟩:=SF.of h;exact s.ents.2.2.2
 ·grind
theorem D2_ (T:List Pg):td_ T (mkS []) (mkS [])=d3_ T:=by
 unfold td_;rw[filter_eq_self];intro x _;unfold inR;rw[Fe_]; rfl
section
variable {H:Hp} {Q:Post} {x:Pl} {n:Nat} {cs:List PC} {T:List Pg}
theorem pb_ (C:Tr H x n cs T) (r:∀ a m H',H<+:H'→Own H' H.length tKV a (m*2) (bW_ (d3_ T))→(d3_ T).length=m→Q (.tup [.s (.sl a m 2),.s (.int .i64 (jd_ 1400 T))]) H'):eg_ [.agg [.sl x n 5]] H Q:=by
 refine⟨1,?_⟩;rw[Av_];refine mh_ C fun D A=> ?_;unfold d3_ jd_ at r;by_cases h:0 < aK_ T
 ·rw[decide_eq_true h] at r ⊢;have ⟨st,s⟩:=SF.of h;have I:n=48:=by have:=C.lenT; have:=s.len; omega
  subst I;refine⟨49,?_⟩;refine pc_ (C.mono A) 49 0 D _ none 0 [] s.good (by omega) (prefix_refl _) (.inl ⟨rfl,rfl,rfl⟩) rfl (by have:=s.ents.2.2.2; unfold cS_ at this; omega) fun a m H' G J F=> ?_;simp [aN_];exact r a m H' (A.trans G) (J.base (ra_ A)) F
 ·rw[decide_eq_false h] at r ⊢;exact r none 0 D A (.inl ⟨rfl,rfl,rfl⟩) rfl
end
end Go.Am
end
namespace Go.Am
open List
theorem nq_:bW_ (ps++qs)=bW_ ps++bW_ qs:=by simp [bW_]
theorem Hn_ (lo hi k v:ByteArray):inR lo hi (k,v)=(!(blt k lo)&&(decide (hi=mkS [])||blt k hi)):=by
 unfold inR;congr 2;rw[decide_eq_decide];exact (vJ_ hi).symm
structure SJ (B H:Hp) (t:TypeId) (ps:KV):Prop where
 pre:B<+:H
 out:∃ a n,H[B.length]? =some (.row true t [.sl a n 2])∧Own H (B.length+1) tKV a (n*2) (bW_ ps)∧ps.length=n
section
variable {B H:Hp} {t:TypeId} {ps:KV} {lf lt:Nat} {lo hi:ByteArray} {Q:Post}
theorem SJ.add (g:SJ B H t ps) (k v:ByteArray) (O:ps.length≤1000) {K:Hp→Prop} (G:∀ H',SJ B H' t (ps++[(k,v)])→K H'):
 rd H B.length 0 fun c=>dL 2 c fun x n=>chk true (ap H tKV 2 32 x n [.str k,.str v] 1 fun x n H=>wr H B.length 0 (.sl x n 2) fun H=>K H):=by
 have ⟨a,n,r,J,D⟩:=g.out;rw[ad_ (by rw[bw_ r]; rfl),ah_,ae_];have C:(H.take (B.length+1)).length=B.length+1:=by grind
 refine kb_ (by omega) (take_prefix _ _) (by rw[C]; exact J) rfl (by unfold Lim; omega) fun F H' o e f=> ?_;rw[C] at o;have A:H'[B.length]? =some (.row true t [.sl a n 2]):=by
  rw[br_ e.pre (by omega),getElem?_take,if_pos (by omega)]; exact r
 rw[qz_ A (by simp)];have I:B<+:H':=IsPrefix.trans (prefix_take_iff.2 ⟨g.pre,by omega⟩) e.pre;refine G _ ⟨ej_ I (kO _) _,F,n+1,?_,?_,by simp [D]⟩
 ·grind
 ·rw[nq_];exact Own.keep o fun l N=>by grind
end
section
variable {H0 B:Hp} {x:Pl} {cs:List PC} {T:List Pg} {t:TypeId} {lp lf lt gf:Nat} {lo hi:ByteArray} {E:Nat→Sm}
end
section
variable {H:Hp} {Q:Post} {x:Pl} {n:Nat} {cs:List PC} {T:List Pg} {lo hi:ByteArray}
end
end Go.Am
namespace Go.Am
open List
theorem qL_:∀ (ps:KV) (k:Nat),bW_ (ps.drop k)=(bW_ ps).drop (k*2)
 | [],k=>by simp [bW_]
 | x::ps,0=>by simp
 | x::ps,k+1=>by
  rw[drop_succ_cons,qL_ ps k];have e:(k+1)*2=k*2+1+1:=by omega
  rw[e]; rfl
theorem qS_:∀ (ps:KV) (k:Nat),bW_ (ps.take k)=(bW_ ps).take (k*2)
 | [],k=>by simp [bW_]
 | x::ps,0=>by simp [bW_]
 | x::ps,k+1=>by
  have e:(k+1)*2=k*2+1+1:=by omega
  rw[take_succ_cons,e];show GV.str x.1::GV.str x.2::bW_ (ps.take k)=_;rw[qS_ ps k]; rfl
theorem Kv.part (h:Kv H a n ps) (k m:Nat) (r:k+m≤n):Kv H (shf a (k*2)) m ((ps.drop k).take m):=by
 refine⟨?_,by rw[length_take,length_drop,h.len]; omega⟩;rw[qS_,qL_];exact h1_ h.cells (k*2) (m*2) (by omega)
section
variable {H:Hp} {Q:Post}
theorem oL_ (V:Kv H a1 r xs) (U:Kv H a2 n2 ys) (hn:r≤100000) (I:∀ b,(b=true↔xs=ys)→Q (.g (.bool b)) H):bP_ [.g (.sl a1 r 2),.g (.sl a2 n2 2)] H Q:=by
 have l1:=V.len;have l2:=U.len;refine⟨r+2,?_⟩;rw[q1_];refine aa_ (fun e=>I false ⟨fun q=>(by cases q),fun q=> ?_⟩) (fun e=> ?_)
 ·simp_all
 have hnn:r=n2:=by simp at e; omega
 have A:∀ (F i),r - i < F→i≤r→(∀ j h (C:j < ys.length),j < i→xs[j]=ys[j])→bP_.l4 F a1 r a2 n2 i H Q:=by
  intro F;induction F with
  | zero=>omega
  | succ F ih=>
   intro i hF hi O;rw[bP_.l4_eq];by_cases Z:i < r
   ·obtain⟨l,o,ea,W,Y⟩:=V.get (i:=i) (by omega);obtain⟨l',o',G,J,D⟩:=U.get (i:=i) (by omega);subst ea; subst G;have N:tN (i:Int)=i:=rfl;rw[az_ (by simp; omega),ae_];refine ab_ (by simp; omega) ?_;rw[af_,N,ad_ W,ax_,ad_ Y,ax_,ae_];refine ab_ (by simp; omega) ?_;rw[af_,ad_ J,ax_,ad_ D,ax_];refine aa_ (fun e=>I false ⟨fun q=>(by cases q),fun q=> ?_⟩) (fun e=> ?_)
    ·subst q; simp at e
    ·rw[an_ (by omega)];refine ih (i+1) (by omega) (by omega) fun j h C hj=> ?_;by_cases ej:j=i
     ·subst ej;simp at e;exact Prod.ext e.1 e.2
     ·exact O j h C (by omega)
   ·rw[aD_ (by simp; omega)];exact I true ⟨fun _=>ext_getElem (by omega) fun j h C=>O j h C (by omega),fun _=>rfl⟩
 exact A _ 0 (by omega) (kP _) (fun j _ _ h=>by omega)
end
def kvA:KV:=[(mkS [97],mkS [49]),(mkS [98],mkS []),(mkS [99],mkS [51]),(mkS [100],mkS []),(mkS [101],mkS [53])]
theorem hA:0 < aK_ (nr_ kvA):=by decide+kernel
theorem eA:jd_ 1400 (nr_ kvA)=0:=by decide+kernel
section
variable {H:Hp} {Q:Post}
theorem ln_ (T:List Pg):Asc (d3_ T):=by
 unfold d3_;by_cases h:0 < aK_ T
 ·rw[decide_eq_true h];have ⟨st,s⟩:=SF.of h;exact s.ents.1
 ·rw[decide_eq_false h]; exact Pairwise.nil
theorem xt_ (T:List Pg) (e:Int):(aK_ T=0∧jd_ e T=e∧d3_ T=[])∨(0 < aK_ T∧jd_ e T=0∧d3_ T=cS_ T):=by
 unfold jd_ d3_;grind
end
end Go.Am
section
namespace Go.Am
open List
section
variable {H:Hp} {Q:Post} {key:ByteArray} {ks:List ByteArray}
theorem wb_ (i:Nat) (hi:i < ks.length):ct_ (ks.take (i+1)) key=ct_ (ks.take i) key+(match blt ks[i] key with | true=>1 | false=>0):=by
 unfold ct_;rw[take_succ_eq_append_getElem hi,countP_append];congr 1
theorem vh_:ct_ ks key≤ks.length:=countP_le_length
theorem hG_ (h:Ss H a n ks) (C:Q (.tup [.s (.int .i64 (ct_ ks key:Int)),.s (.bool (di_ ks key))]) H):cq_ [.g (.sl a n 1),.g (.str key)] H Q:=by
 have N:=h.len;have D:=h.lim;refine⟨n+2,?_⟩;rw[yj_];have r:∀ (F i),n - i < F→i≤n→cq_.l3 F a n key (ct_ (ks.take i) key) a n (nI n) i H Q:=by
  intro F;induction F with
  | zero=>omega
  | succ F J=>
   intro i O U;rw[cq_.l3_eq];by_cases I:i < n
   ·have G:ct_ (ks.take i) key≤i:=Nat.le_trans vh_ (length_take_le _ _);rw[az_ (by simp; omega),ae_,h.rd i rfl (by omega),iO_,an_ (by omega),an_ (by omega)];have:=J (i+1) (by omega) (by omega);rw[wb_ i (by omega)] at this;refine aa_ (fun e=> ?_) (fun e=> ?_)
    ·grind
    ·rw[e] at this; exact this
   ·rw[aD_ (by simp; omega),take_of_length_le (by omega)];refine aa_ (fun e=> ?_) (fun e=> ?_)
    ·have A:ct_ ks key < ks.length:=by simp at e; omega
     rw[ae_,h.rd (ct_ ks key) rfl A];have:di_ ks key=ey_ ks[ct_ ks key] key:=by
      unfold di_; rw[kG A,oa_]; simp
     rw[this] at C;exact C
    ·have:di_ ks key=false:=by
      unfold di_;simp_all
     rw[this] at C;exact C
 exact r _ 0 (by omega) (kP _)
theorem kJ_ (D:gt H l (o+2)=some (.sl a n 1)) (h:Ss H a n ks) (r:Q (.g (.int .i64 (eq_ ks key:Int))) H):gf_ [.g (.ptr (some (l,o))),.g (.str key)] H Q:=by
 have F:=h.len;have A:=h.lim;have C:=vh_ (ks:=ks) (key:=key);refine⟨1,?_⟩;rw[Ba_,af_,ad_ D,ah_];refine hG_ h ?_;simp [aI_];unfold eq_ at r;refine aa_ (fun e=> ?_) (fun e=> ?_)
 ·rw[e] at r;rw[an_ (by omega)];exact r
 ·grind
end
section
variable {H:Hp} {Q:Post} {x:Pl} {n:Nat} {cs:List PC} {T:List Pg} {key:ByteArray}
def zB_ (T:List Pg) (key:ByteArray):Option ByteArray:=bO_ (d3_ T) key
set_option maxRecDepth 100000 in
theorem ny_ (hT:Tr H x n cs T) (hQ:∀ H',H<+:H'→Q (.tup [.s (.str ((zB_ T key).getD (mkS []))),.s (.bool (zB_ T key).isSome),.s (.int .i64 (jd_ 1100 T))]) H'):dh_ [.agg [.sl x n 5],.g (.str key)] H Q:=by
 refine⟨60,?_⟩;rw[y6_];refine hT_ hT fun H1 p1=> ?_;simp only[aN_,ak_];unfold zB_ at hQ;rcases xt_ T 1100 with⟨e0,e1,e2⟩ | ⟨e0,e1,e2⟩
 ·rw[e1,e2] at hQ;rw[decide_eq_false (by omega),az_ (by decide)];exact hQ H1 p1
 rw[e1,e2] at hQ;rw[decide_eq_true e0,aD_ (by decide)];obtain⟨P,w⟩:=k9_ e0;have hT1:=hT.mono p1;have hn:n=48:=by have:=hT.lenT; have:=w.len; omega
 subst hn;obtain⟨l,o,c0,p0,rfl,_⟩:=hT1.get (i:=0) (by omega);rw[ae_];refine ab_ (by simp) ?_;rw[af_];have loop:∀ (d F a:Nat) (P:List Nat) (ps:KV),Sub T d a P ps→d < F→bO_ (cS_ T) key=bO_ ps key→dh_.l4 F key (some (l,o)) 48 l (o+a*5) H1 Q:=by
  intro d;induction d with
  | zero=>intro F a P ps h; exact h.elim
  | succ d ih=>
   intro F a P ps h hF he;obtain⟨F,rfl⟩:∃ F',F=F'+1:=⟨F - 1,by omega⟩;have hlt:=h.inT a h.head;obtain⟨p,hp,hm,hcase⟩:=h;obtain⟨l',o',c,p',ee,hc,hp',hpc,g0,g1,g2,g3,g4⟩:=hT1.get (i:=a) (by rw[w.len] at hlt; exact hlt);cases ee;rw[hp] at hp'; cases hp';have hpl:p.leaf=c.l:=hpc.leaf;have hpw:=cV_ hm.2.rising;rw[dh_.l4_eq,ad_ (v:= .bool c.l) (by exact g1),ak_];rcases hcase with⟨_,hl,_,e⟩ | ⟨hl,P',_,hk⟩
   ·rw[aD_ (by rw[←hpl,hl]; rfl),ad_ (v:= .sl c.a1 c.n1 1) (by exact g2),ah_];refine hG_ hpc.keys ?_;simp only[aI_,aB_,bB_,ai_,ak_,aT_];have v1:=(hm.2.leaf hl).1;rw[e,rG_ hpw v1] at he;refine aa_ (fun eb=> ?_) (fun eb=> ?_)
    ·have eb':di_ p.keys key=false:=by simpa using eb
     rw[eb'] at he;rw[he] at hQ;exact hQ H1 p1
    ·have eb':di_ p.keys key=true:=by simpa using eb
     rw[eb'] at he;have hs:ct_ p.keys key < p.vals.length:=by
      unfold di_ at eb';have:=(kC.1 (of_decide_eq_true eb')).1;omega
     rw[ad_ (v:= .sl c.a2 c.n2 1) (by exact g3),ah_,ae_,hpc.vals.rd (ct_ p.keys key) rfl hs];dsimp only at he;rw[kG hs] at he;rw[he] at hQ;exact hQ H1 p1
   ·rw[az_ (by rw[←hpl,hl]; rfl),ad_ (v:= .sl c.a3 c.n3 1) (by exact g4),ah_];refine kJ_ (by exact g2) hpc.keys ?_;simp only[aN_,ai_];obtain⟨k,P1,ps1,hk1,hk2,hk3⟩:=xG_ (key:=key) hk hpw;have hkl:=(kC.1 hk1).1;rw[ad_ (v:= .sl c.a3 c.n3 1) (by exact g4),ah_];refine⟨rfl,?_⟩;rw[ae_,hpc.kids.rd (eq_ p.keys key) rfl hkl];have hke:p.kids[eq_ p.keys key]=k:=by rw[kG hkl] at hk1; exact Option.some.inj hk1
    have hk48:=(hm.2.inner hl).2.2.2.1 k (by rw[←hke]; exact kE _);rw[hke,ae_];refine ab_ (by simp; omega) ?_;rw[af_];exact ih F k.toNat P1 ps1 hk2.1 (by omega) (he.trans hk3)
 have hd:=w.sub.low;have hc:=w.count;have:=loop (aK_ T) 59 0 P (cS_ T) w.sub (by omega) rfl;exact this
end
end Go.Am
end
namespace Go.Am
open List
section
variable {H:Hp} {Q:Post}
theorem yW_ (T:List Pg):ms_ (d3_ T):=by
 rcases xt_ T 0 with⟨_,_,e⟩ | ⟨r,_,e⟩
 ·exact fun x A=>by grind
 ·rw[e]; have ⟨st,s⟩:=SF.of r; exact s.ents.2.1
end
end Go.Am
namespace Go.Am
open List
def gu_:KV→ByteArray→ByteArray→KV
 | [],k,v=>[(k,v)]
 | x::ps,k,v=>match decide (x.1=k) with
  | true=>(k,v)::ps
  | false=>match blt x.1 k with
   | true=>x::gu_ ps k v
   | false=>(k,v)::x::ps
theorem Cv_ (h:blt a b=false) (r:a≠b):blt b a=true:=by
 rcases hq_ a b with z | z | z
 ·grind
 ·grind
 ·grind
theorem ju_:∀ {ps:KV} (k v:ByteArray),Asc ps→∃ L M R,ps=L++M++R∧gu_ ps k v=L++(k,v)::R∧(M=[]∨∃ v0,M=[(k,v0)])∧(∀ x∈L,blt x.1 k=true)∧(∀ x∈R,blt k x.1=true)
 | [],k,v,_=>⟨[],[],[],rfl,rfl,.inl rfl,fun x h=>by grind,fun x h=>by simp at h⟩
 | x::ps,k,v,h=>by
  have ⟨r,I⟩:=pairwise_cons.1 h;unfold gu_;by_cases e:x.1=k
  ·rw[decide_eq_true e];have ⟨a,b⟩:=x;subst e;exact⟨[],[(a,b)],ps,rfl,rfl,.inr ⟨b,rfl⟩,fun x h=>by grind,r⟩
  ·rw[decide_eq_false e];cases D:blt x.1 k with
   | true=>
    have ⟨L,M,R,O,G,J,N,C⟩:=ju_ k v I;refine⟨x::L,M,R,by grind,by rw[G]; rfl,J,fun y A=> ?_,C⟩;grind
   | false=>
    have F:=Cv_ D e;refine⟨[],[],x::ps,rfl,rfl,.inl rfl,fun y h=>by grind,fun y A=> ?_⟩;rcases mem_cons.1 A with q | q
    ·grind
    ·exact eU_ F (r y q)
theorem xr_ (h:∀ x∈l,blt x.1 k=true):gu_ (l++r) k v=l++gu_ r k v:=by
 induction l with
 | nil=>rfl
 | cons x l C=>
  have A:=h x (by simp);show (match decide (x.1=k) with | true=>(k,v)::(l++r) | false=>match blt x.1 k with | true=>x::gu_ (l++r) k v | false=>(k,v)::x::(l++r))=_;rw[decide_eq_false (lP_ A),A];grind
theorem EX_ {l r:KV} (h:∀ x∈l,blt x.1 k=true):gu_ (l++(k,v0)::r) k v=l++(k,v)::r:=by
 rw[xr_ h];show l++(match decide (k=k) with | true=>(k,v)::r | false=>_)=_;grind
theorem Ee_ (h:∀ x∈l,blt x.1 k=true) (C:∀ x∈r,blt k x.1=true):gu_ (l++r) k v=l++(k,v)::r:=by
 rw[xr_ h];congr 1;cases r with
 | nil=>rfl
 | cons x r=>
  have A:=C x (by simp);show (match decide (x.1=k) with | true=>(k,v)::r | false=>match blt x.1 k with | true=>x::gu_ r k v | false=>(k,v)::x::r)=_;rw[decide_eq_false (Ne.symm (lP_ A)),et_ A]
theorem z4_ (h:Asc ps) (k v:ByteArray):Asc (gu_ ps k v):=by
 have ⟨L,M,R,I,D,W,O,C⟩:=ju_ k v h;rw[D];rw[I] at h;have ⟨F,A,J⟩:=pairwise_append.1 h;have ⟨G,N,U⟩:=pairwise_append.1 F;refine pairwise_append.2 ⟨G,pairwise_cons.2 ⟨fun x r=>C x r,A⟩,fun x r y V=> ?_⟩;grind
theorem Fk_:x∈gu_ ps k v→x=(k,v)∨x∈ps:=by
 induction ps with
 | nil=>intro h; simp [gu_] at h; exact .inl h
 | cons y ps r=>
  unfold gu_;grind
theorem GR_ (h:ms_ ps) (A:1≤k.size) (D:k.size≤6) (C:v.size≤10):ms_ (gu_ ps k v):=fun x r=>by
 rcases Fk_ r with e | e
 ·grind
 ·exact h x e
theorem DI_ (h:Asc ps) (k v r:ByteArray):bO_ (gu_ ps k v) r=match decide (k=r) with | true=>some v | false=>bO_ ps r:=by
 have ⟨L,M,R,D,C,F,G,J⟩:=ju_ k v h;rw[C];by_cases e:k=r
 ·subst e;rw[decide_eq_true rfl,ku_ fun x A=>lP_ (G x A),gl_,decide_eq_true rfl]
 ·rw[decide_eq_false e,D,ja_,gl_,decide_eq_false e,append_assoc,ja_];cases bO_ L r with
  | some w=>rfl
  | none=>
   rcases F with rfl | ⟨I,rfl⟩
   ·rfl
   ·rw[singleton_append,gl_,decide_eq_false e]
theorem Fa_ (h:Asc ps) (k v:ByteArray):(gu_ ps k v).length=ps.length+(match (bO_ ps k).isNone with | true=>1 | false=>0):=by
 have ⟨L,M,R,C,A,D,F,G⟩:=ju_ k v h;rw[A,C,append_assoc,ku_ fun x r=>lP_ (F x r)];rcases D with rfl | ⟨I,rfl⟩
 ·rw[nil_append,gZ_ fun x r=>Ne.symm (lP_ (G x r))];grind
 ·rw[singleton_append,gl_,decide_eq_true rfl];simp
theorem qM_ (r:Pw ks) (h:key∈ks):di_ ks key=true:=by
 induction ks with
 | nil=>simp at h
 | cons s ks C=>
  have ⟨A,D⟩:=pairwise_cons.1 r;rcases mem_cons.1 h with e | e
  ·subst e;rw[(ki_ r (cA_ _)).2,decide_eq_true rfl]
  ·rw[(lC_ (A key e)).2];grind
theorem n5_ (h:di_ ks key=true):∃ r:ct_ ks key < ks.length,ks[ct_ ks key]=key:=by
 unfold di_ at h;grind
theorem FZ_ {ks vs:List ByteArray} (A:s < ks.length) (r:vs.length=ks.length) (v:ByteArray):ks.zip (vs.set s v)=(ks.zip vs).take s++(ks[s],v)::(ks.zip vs).drop (s+1):=by
 have e:ks.zip (vs.set s v)=(ks.zip vs).set s (ks[s],v):=by
  apply ext_getElem
  ·simp
  ·grind
 rw[e,set_eq_take_append_cons_drop,if_pos (by grind)]
theorem CY_ {ks vs:List ByteArray} (C:s < ks.length) (A:vs.length=ks.length):ks.zip vs=(ks.zip vs).take s++(ks[s],vs[s]'(by omega))::(ks.zip vs).drop (s+1):=by
 have r:s < (ks.zip vs).length:=by grind
 have e:(ks.zip vs)[s]=(ks[s],vs[s]'(by omega)):=getElem_zip;rw[←e,←drop_eq_getElem_cons r,take_append_drop]
def yB_ (p:Pg) (key v:ByteArray):Pg:={ p with vals:=p.vals.set (ct_ p.keys key) v }
theorem Ff_ (h:fS_ p) (G:v.size≤10):fS_ (yB_ p key v):=by
 refine⟨h.1,⟨h.2.used,h.2.rising,h.2.keys,fun A=> ?_,fun A=> ?_⟩⟩
 ·have ⟨C,r,D⟩:=h.2.leaf A;refine⟨by show (p.vals.set _ v).length=_; rw[length_set]; exact C,r,fun w F=> ?_⟩;rcases mem_or_eq_of_mem_set F with z | z
  ·grind
  ·grind
 ·have ⟨C,r,D⟩:=h.2.inner A;exact⟨C,by show p.vals.set _ v=[]; rw[r]; rfl,D⟩
theorem Sub.setVal {key v:ByteArray} (hi:T[i]? =some p) (hl:p.leaf=true) (hs:di_ p.keys key=true) (hv:v.size≤10):
 ∀ {d a:Nat} {P:List Nat} {ps:KV},Sub T d a P ps→P.Nodup→i∈P→∃ L v0 R,ps=L++(key,v0)::R∧Sub (T.set i (yB_ p key v)) d a P (L++(key,v)::R)
 | 0,_,_,_,h,_,_=>h.elim
 | d+1,a,P,ps,h,r,A=>by
  have I:=(kC.1 hi).1;obtain⟨q,hq,hm,⟨e0,N,U,e2⟩ | ⟨N,P',U,hk⟩⟩:=h
  ·subst U;obtain rfl:i=a:=mem_singleton.1 A;rw[hi] at hq;obtain rfl:=Option.some.inj hq;have ⟨v1,_,_⟩:=hm.2.leaf hl;have ⟨O,hse⟩:=n5_ hs;have c1:=CY_ O v1;have c2:=FZ_ O v1 v;rw[hse] at c1 c2;exact⟨_,_,_,e2.trans c1,yB_ p key v,kH I,Ff_ hm hv,.inl ⟨e0,hl,rfl,c2.symm⟩⟩
  ·subst U;rw[nodup_cons] at r;have hia:i≠a:=fun e=>by grind
   have Z:i∈P':=by grind
   have big:∀ {k:Nat},(∃ q,T[k]? =some q∧2≤q.keys.length)→∃ q,(T.set i (yB_ p key v))[k]? =some q∧2≤q.keys.length:=fun {k} ⟨q,F,h2⟩=>by
    by_cases e:i=k
    ·subst e;rw[hi] at F;obtain rfl:=Option.some.inj F;exact⟨_,kH I,h2⟩
    ·grind
   have kids:∀ {Y:List Int} {W:List ByteArray} {P:List Nat} {ps:KV},bN_ (ea_ T d) Y W P ps→P.Nodup→i∈P→∃ L v0 R,ps=L++(key,v0)::R∧bN_ (ea_ (T.set i (yB_ p key v)) d) Y W P (L++(key,v)::R):=by
    intro Y;induction Y with
    | nil=>intro _ _ _ h; exact h.elim
    | cons k Y ih=>
     intro W P ps h r A;cases W with
     | nil=>
      have ⟨L,v0,R,D,C⟩:=Sub.setVal hi hl hs hv h.2.1 r A;exact⟨L,v0,R,D,h.1,C,big h.2.2⟩
     | cons s W=>
      have ⟨P1,V,P2,J,F,h2,U,e2,h3,h4⟩:=h;subst U; subst e2;have ⟨d1,d2,d3⟩:=nodup_append.1 r;have swap:∀ {L R:KV} {v0:ByteArray} {x},x∈L++(key,v)::R→∃ y∈L++(key,v0)::R,y.1=x.1:=fun {L R v0 x} G=>by
       rcases kD.1 G with z | z
       ·exact⟨x,kD.2 (.inl z),rfl⟩
       ·rcases mem_cons.1 z with z | z
        ·exact⟨(key,v0),by simp,by rw[z]⟩
        ·exact⟨x,by simp [z],rfl⟩
      rcases kD.1 A with z | z
      ·obtain⟨L,v0,R,D,C⟩:=Sub.setVal hi hl hs hv F.1 d1 z;subst D;refine⟨L,v0,R++J,by simp,P1,_,P2,J,⟨C,big F.2⟩,h2.imp fun k Q qs hs' hin=>hs'.keep fun j hj=>kF fun e=>d3 i z j (hin j hj) e,rfl,by simp,fun x G=> ?_,h4⟩;obtain⟨y,hy,e⟩:=swap G;rw[←e]; exact h3 y hy
      ·obtain⟨L,v0,R,D,C⟩:=ih h2 d2 z;subst D;refine⟨V++L,v0,R,by simp,P1,V,P2,_,F.keep fun j hj=>kF fun e=>d3 j hj i z e.symm,C,rfl,by simp,h3,fun x G=> ?_⟩;obtain⟨y,hy,e⟩:=swap G;rw[←e]; exact h4 y hy
   obtain⟨L,v0,R,D,C⟩:=kids hk r.2 Z;exact⟨L,v0,R,D,q,by rw[kF hia]; exact hq,hm,.inr ⟨N,P',rfl,C⟩⟩
theorem Sub.leafOf:∀ {d a:Nat} {P:List Nat} {ps:KV},Sub T d a P ps→x∈ps→∃ i p,i∈P∧T[i]? =some p∧p.leaf=true∧fS_ p∧x∈p.keys.zip p.vals
 | 0,_,_,_,h,_=>h.elim
 | d+1,a,P,ps,h,r=>by
  obtain⟨q,hq,hm,⟨W,D,G,F⟩ | ⟨D,P',G,N⟩⟩:=h
  ·grind
  ·have kids:∀ {C:List Int} {A:List ByteArray} {P:List Nat} {ps:KV},bN_ (ea_ T d) C A P ps→x∈ps→∃ i p,i∈P∧T[i]? =some p∧p.leaf=true∧fS_ p∧x∈p.keys.zip p.vals:=by
    intro C;induction C with
    | nil=>intro _ _ _ h; exact h.elim
    | cons k C Y=>
     intro A P ps h r;cases A with
     | nil=>exact Sub.leafOf h.2.1 r
     | cons s A=>
      obtain⟨P1,U,P2,J,I,h2,G,F,Z,h4⟩:=h;subst F;rcases kD.1 r with z | z
      ·have ⟨i,p,V,O⟩:=Sub.leafOf I.1 z;grind
      ·grind
   have ⟨i,p,V,O⟩:=kids N r;grind
section
variable {T:List Pg} {d:Nat} {P:List Nat} {ps:KV} {i:Nat} {p:Pg} {key v:ByteArray}
theorem g9_.leafIn (w:g9_ T d P ps) (hi:T[i]? =some p) (r:p.leaf=true):i∈P:=Decidable.byContradiction fun h=>by
 have:=w.rest i p hi h;unfold cY_ at this;grind
theorem g9_.setVal (w:g9_ T d P ps) (hi:T[i]? =some p) (J:p.leaf=true) (N:di_ p.keys key=true) (U:v.size≤10):g9_ (T.set i (yB_ p key v)) d P (gu_ ps key v)∧(bO_ ps key).isSome=true:=by
 have C:=w.leafIn hi J;have ⟨L,O,R,A,V⟩:=Sub.setVal hi J N U w.sub w.nodup C;have D:=w.sub.asc.1;rw[A] at D;have G:=fun x r=>(pairwise_append.1 D).2.2 x r (key,O) (by simp);have W:gu_ ps key v=L++(key,v)::R:=by rw[A,EX_ G]
 have Y:=w.count;refine⟨⟨by rw[length_set]; exact w.len,by grind,w.nodup,fun j q F I=> ?_,?_⟩,?_⟩
 ·rw[kF (fun e=>I (by grind))] at F;exact w.rest j q F I
 ·grind
 ·rw[A,ku_ fun x r=>lP_ (G x r),gl_,decide_eq_true rfl]; rfl
theorem g9_.noLeaf (w:g9_ T d P ps) (h:∀ (j:Nat) (q:Pg),T[j]? =some q→q.leaf=true→di_ q.keys key=false):bO_ ps key=none:=gZ_ fun x r e=>by
 have ⟨i,p,_,C,A,D,F⟩:=w.sub.leafOf r;have:=h i p C A;rw[qM_ (cV_ D.2.rising) (by rw[←e]; exact (if_ F).1)] at this;grind
end
end Go.Am
section
namespace Go.Am
open List
section
variable {B H H':Hp} {t:TypeId} {a:Pl} {n:Nat} {ds:List PC} {T:List Pg} {Q:Post}
theorem CT.val (g:CT B H t a n ds T) (hi:i < ds.length) (D:i < T.length) (Y:j < (T[i]).vals.length) (s:ByteArray)
 (V:∀ H',CT B H' t a n ds (T.set i { T[i] with vals:=(T[i]).vals.set j s })→K H'):∃ l,(ds[i]).a2=some (l,0)∧wr H l j (.str s) K:=by
 have A:=g.own i hi D;have r:=g.ot.all i hi D;rcases A.vals with⟨_,h,_⟩ | ⟨l,e,U,J,W⟩
 ·simp_all
 have I:=(kC.1 J).1;have G:(ds[i]).on l:=⟨0,.inr (.inl e)⟩;refine⟨l,e,cr_ J (by grind) ?_⟩;rw[←List.map_set];have keep:∀ {N:TypeId} {x:Pl} {m:Nat} {O:List GV} (y:Obj),Own H B.length N x m O→(∀ o,x≠some (l,o))→Own (H.set l y) B.length N x m O:=fun y h Z=>h.keep fun m F=>by
  grind
 have C:(ds[i]).own (H.set l (.row true tS (((T[i]).vals.set j s).map GV.str))) B.length { T[i] with vals:=(T[i]).vals.set j s }:=
  ⟨A.used,A.leaf,keep _ A.keys (fun o F=>A.d12 l o 0 F e),.inr ⟨l,e,U,kH I,by grind⟩,keep _ A.kids (fun o F=>A.d23 l 0 o e F),A.d12,A.d13,A.d23⟩
 refine V _ (g.setRow hi D G _ U _ ⟨r.used,r.leaf,⟨C.keys.cells,r.keys.len,r.keys.lim⟩,⟨C.vals.cells,?_,r.vals.lim⟩,⟨C.kids.cells,r.kids.len,r.kids.lim⟩⟩ C);grind
theorem CT.add (g:CT B H t a n ds T) {d:PC} {O:Hp} (W:H<+:O) (hd:d.at O p) (U:d.own O H.length p) (F:∀ l,d.on l→H.length≤l) (D:(n+1)*80≤Lim)
 (hK:∀ a' H',CT B H' t a' (n+1) (ds++[d]) (T++[p])→K a' (n+1) H'):Am.ap O t 5 80 a n [.bool d.u,.bool d.l,.sl d.a1 d.n1 1,.sl d.a2 d.n2 1,.sl d.a3 d.n3 1] 1 K:=by
 have G:=g.ot;have I:=G.mono W;have hlen:=G.len;have Z:=G.lenT;have hp:=g.pre;refine I.add (hp.trans W) hd (fun l D e=>by have:=F l D; have:=G.own.lt' e; omega) D fun Y N o3 x3 f3=> ?_;have J:∀ i (h:i < ds.length) (l:Nat),(ds[i]).on l→N[l]? =H[l]? :=fun i h l D=>by
  rw[x3.row l (I.onlt (kE h) D) (I.off _ (kE h) l D),br_ W (G.onlt (kE h) D)]
 refine hK Y N ⟨x3.pre,o3,fun i h1 h2=> ?_,fun i j h1 h2 V l C A=> ?_⟩
 ·rw[getElem_append,getElem_append];by_cases e:i < n
  ·rw[dif_pos (by omega),dif_pos (by omega)];exact (g.own i (by omega) (by omega)).keep fun l D=>J i (by omega) l D
  ·rw[dif_neg (by omega),dif_neg (by omega)];simp;have r:=U.keep fun l D=>x3.row l (hd.lt D) (fun e=>by have:=F l D; have:=G.own.lt' e; omega);have hb:∀ {t:TypeId} {x:Pl} {m:Nat} {es:List GV},Own N H.length t x m es→Own N B.length t x m es:=fun h=>h.base hp.length_le;exact⟨r.used,r.leaf,hb r.keys,hb r.vals,hb r.kids,r.d12,r.d13,r.d23⟩
 ·simp [kI] at h1 h2;rw[getElem_append] at C A;by_cases e1:i < n
  ·rw[dif_pos (by omega)] at C;by_cases e2:j < n
   ·rw[dif_pos (by omega)] at A;exact g.ap i j (by omega) (by omega) V l C A
   ·rw[dif_neg (by omega)] at A;simp at A;have:=F l A;have:=G.onlt (kE (by omega)) C;omega
  ·rw[dif_neg (by omega)] at C;simp at C;by_cases e2:j < n
   ·rw[dif_pos (by omega)] at A;have:=F l C;have:=G.onlt (kE (by omega)) A;omega
   ·omega
theorem CT.nil (H:Hp) (t:TypeId):CT H H t none 0 [] []:=⟨prefix_refl _,OT.nil _ _ _,fun i h=>(by simp),fun i j h=>(by simp)⟩
theorem mc_ (h:Ss H a n xs) (r:∀ H',H'=H++[.row true tS (xs.map GV.str)]→Q (.g (.sl (some (H.length,0)) n 1)) H'):ge_ [.g (.sl a n 1)] H Q:=by
 have e:=h.len;have l:=h.lim;refine⟨1,?_⟩;rw[wZ_,ae_,Nat.mul_one,dX_ h.cells];refine p7_ (by unfold Lim; omega) (by grind) ?_;simp_all
theorem vo_ (h:Is H a n xs) (r:∀ H',H'=H++[.row true tI (xs.map (GV.int .i64))]→Q (.g (.sl (some (H.length,0)) n 1)) H'):h2_ [.g (.sl a n 1)] H Q:=by
 have e:=h.len;have l:=h.lim;refine⟨1,?_⟩;rw[yo_,ae_,Nat.mul_one,dX_ h.cells];refine p7_ (by unfold Lim; omega) (by grind) ?_;simp_all
set_option maxRecDepth 100000 in
theorem sp_ {cs:List PC} (hT:Tr H a n cs T) (hn:n*80≤140737488351232) (hQ:∀ a' ds H',CT H H' tPg a' n ds T→Q (.agg [.sl a' n 5]) H'):ca_ [.agg [.sl a n 5]] H Q:=by
 have hlT:=hT.lenT;have loop:∀ (f k:Nat) (a':Pl) (ds:List PC) (H':Hp),n - k < f→k≤n→CT H H' tPg a' k ds (T.take k)→ca_.l3 f a n none 0 a' k (k:Int) H' Q:=by
  intro f;induction f with
  | zero=>intro k _ _ _ h; omega
  | succ f ih=>
   intro k a' ds H' hf hk g;have hp:=g.pre;rw[ca_.l3_eq];by_cases hkn:k < n
   ·obtain⟨l,o,c,p,rfl,hc,hpp,hpc,g0,g1,g2,g3,g4⟩:=(hT.mono hp).get hkn;have etN:tN (k:Int)=k:=rfl;rw[az_ (by simp; omega),ae_];refine ab_ (by simp; omega) ?_;rw[af_,etN,cD_ g0 g1 g2 g3 g4];obtain⟨hu,hl,hks,hvs,his⟩:=hpc;have e1:=hks.len;have e2:=hvs.len;have e3:=his.len;have l1:=hks.lim;have l2:=hvs.lim;have l3:=his.lim;refine mc_ hks fun Ha ha=> ?_;subst ha;simp only[aN_,ah_];have p1:=b7_ H' (.row true tS (p.keys.map GV.str));refine mc_ (hvs.mono p1) fun Hb hb=> ?_;subst hb;simp only[aN_,ah_];have p2:=p1.trans (b7_ (H'++[.row true tS (p.keys.map GV.str)]) (.row true tS (p.vals.map GV.str)));refine vo_ (his.mono p2) fun Hc hc'=> ?_;subst hc';simp only[aN_,ah_];have o1:Own (((H'++[Obj.row true tS (p.keys.map GV.str)])++[Obj.row true tS (p.vals.map GV.str)])++[Obj.row true tI (p.kids.map (GV.int .i64))]) H'.length tS (some (H'.length,0)) c.n1 (p.keys.map GV.str):= .inr ⟨_,rfl,kO _,by rw[append_assoc,append_assoc]; simp,by simp [e1]⟩;have o2:Own (((H'++[Obj.row true tS (p.keys.map GV.str)])++[Obj.row true tS (p.vals.map GV.str)])++[Obj.row true tI (p.kids.map (GV.int .i64))]) H'.length tS (some ((H'++[Obj.row true tS (p.keys.map GV.str)]).length,0)) c.n2 (p.vals.map GV.str):= .inr ⟨_,rfl,by simp,by rw[append_assoc]; simp,by simp [e2]⟩;have o3:Own (((H'++[Obj.row true tS (p.keys.map GV.str)])++[Obj.row true tS (p.vals.map GV.str)])++[Obj.row true tI (p.kids.map (GV.int .i64))]) H'.length tI (some (((H'++[Obj.row true tS (p.keys.map GV.str)])++[Obj.row true tS (p.vals.map GV.str)]).length,0)) c.n3 (p.kids.map (GV.int .i64)):= .inr ⟨_,rfl,by simp,by simp,by simp [e3]⟩;have p2':H'<+:(((H'++[Obj.row true tS (p.keys.map GV.str)])++[Obj.row true tS (p.vals.map GV.str)])++[Obj.row true tI (p.kids.map (GV.int .i64))]):=p2.trans (prefix_append _ _);have hfr:∀ l,(⟨c.u,c.l,some (H'.length,0),c.n1,some ((H'++[Obj.row true tS (p.keys.map GV.str)]).length,0),c.n2,some (((H'++[Obj.row true tS (p.keys.map GV.str)])++[Obj.row true tS (p.vals.map GV.str)]).length,0),c.n3⟩:PC).on l→H'.length≤l:=by
     rintro l ⟨o,q | q | q⟩<;>simp at q<;>omega
    have hd:(⟨c.u,c.l,some (H'.length,0),c.n1,some ((H'++[Obj.row true tS (p.keys.map GV.str)]).length,0),c.n2,some (((H'++[Obj.row true tS (p.keys.map GV.str)])++[Obj.row true tS (p.vals.map GV.str)]).length,0),c.n3⟩:PC).at (((H'++[Obj.row true tS (p.keys.map GV.str)])++[Obj.row true tS (p.vals.map GV.str)])++[Obj.row true tI (p.kids.map (GV.int .i64))]) p:=⟨hu,hl,⟨o1.cells,e1,l1⟩,⟨o2.cells,e2,l2⟩,⟨o3.cells,e3,l3⟩⟩;have hdo:(⟨c.u,c.l,some (H'.length,0),c.n1,some ((H'++[Obj.row true tS (p.keys.map GV.str)]).length,0),c.n2,some (((H'++[Obj.row true tS (p.keys.map GV.str)])++[Obj.row true tS (p.vals.map GV.str)]).length,0),c.n3⟩:PC).own (((H'++[Obj.row true tS (p.keys.map GV.str)])++[Obj.row true tS (p.vals.map GV.str)])++[Obj.row true tI (p.kids.map (GV.int .i64))]) H'.length p:=by
     refine⟨hu,hl,o1,o2,o3,?_,?_,?_⟩
     ·intro l o o' q1 q2; simp at q1 q2; omega
     ·intro l o o' q1 q2; simp at q1 q2; omega
     ·intro l o o' q1 q2; simp at q1 q2; omega
    rw[ae_];have hTk:T.take k++[p]=T.take (k+1):=by
     rw[take_add_one,hpp]; rfl
    have hlim:(k+1)*80≤Lim:=by unfold Lim; have:=Nat.mul_le_mul_right 80 (show k+1≤n by omega); omega
    refine g.add p2' hd hdo hfr hlim fun a'' H3 g3=> ?_;rw[hTk] at g3;rw[an_ (by omega)];exact ih (k+1) a'' _ H3 (by omega) (by omega) g3
   ·obtain rfl:k=n:=by omega
    rw[aD_ (by simp)];rw[take_of_length_le (by omega)] at g;exact hQ a' ds H' g
 refine⟨n+2,?_⟩;rw[sZ_];exact loop (n+1) 0 none [] H (by omega) (kP _) (CT.nil H tPg)
end
end Go.Am
end
section
namespace Go.Am
open List
section
variable {H:Hp} {Q:Post} {key v:ByteArray} {ks:List ByteArray}
theorem vY_ (h:Ss H a n ks) (C:Q (.tup [.s (.int .i64 (ct_ ks key:Int)),.s (.bool (di_ ks key))]) H):dv_ [.g (.sl a n 1),.g (.str key)] H Q:=by
 have N:=h.len;have D:=h.lim;refine⟨n+2,?_⟩;rw[yC_];have r:∀ (F i),n - i < F→i≤n→dv_.l3 F a n key (ct_ (ks.take i) key) i H Q:=by
  intro F;induction F with
  | zero=>omega
  | succ F I=>
   intro i O U;rw[dv_.l3_eq];by_cases G:i < n
   ·have J:ct_ (ks.take i) key≤i:=Nat.le_trans vh_ (length_take_le _ _);rw[az_ (by simp; omega),ae_,h.rd i rfl (by omega),iO_,an_ (by omega),an_ (by omega)];have:=I (i+1) (by omega) (by omega);rw[wb_ i (by omega)] at this;refine aa_ (fun e=> ?_) (fun e=> ?_)
    ·grind
    ·rw[e] at this; exact this
   ·rw[aD_ (by simp; omega),take_of_length_le (by omega)];refine aa_ (fun e=> ?_) (fun e=> ?_)
    ·have A:ct_ ks key < ks.length:=by simp at e; omega
     rw[ae_,h.rd (ct_ ks key) rfl A];have:di_ ks key=ey_ ks[ct_ ks key] key:=by
      unfold di_; rw[kG A,oa_]; simp
     rw[this] at C;exact C
    ·have:di_ ks key=false:=by
      unfold di_;simp_all
     rw[this] at C;exact C
 exact r _ 0 (by omega) (kP _)
def qC_ (T:List Pg) (key v:ByteArray):Bool:=decide (0 < aK_ T)&&(decide (1≤key.size)&&(decide (key.size≤6)&&decide (v.size≤10)))
def t3_ (T:List Pg) (key v:ByteArray):Int:=match qC_ T key v with
 | false=>1200
 | true=>match (bO_ (cS_ T) key).isNone&&decide (60≤(cS_ T).length) with | true=>1201 | false=>0
structure Hf_ (T A:List Pg) (key v:ByteArray):Prop where
 pos:0 < aK_ A
 ent:cS_ A=gu_ (cS_ T) key v
 len:A.length=48
 was:(bO_ (cS_ T) key).isSome=true→∃ i p,T[i]? =some p∧p.leaf=true∧di_ p.keys key=true∧A=T.set i (yB_ p key v)
 anew:(bO_ (cS_ T) key).isSome=false→A=nr_ (gu_ (cS_ T) key v)
set_option maxRecDepth 100000 in
theorem sg_ {x:Pl} {n:Nat} {cs:List PC} {T:List Pg} (hT:Tr H x n cs T) (hn:n*80≤140737488351232) (hQ1:∀ H',t3_ T key v≠0→H<+:H'→Q (.tup [.a [.sl none 0 5],.s (.int .i64 (t3_ T key v))]) H')
 (hQ2:t3_ T key v=0→0 < aK_ T→∀ x' cs' A H',H<+:H'→Tr H' x' 48 cs' A→Hf_ T A key v→Q (.tup [.a [.sl x' 48 5],.s (.int .i64 0)]) H'):
 bn_ [.agg [.sl x n 5],.g (.str key),.g (.str v)] H Q:=by
 refine⟨130,?_⟩;rw[u9_];refine mh_ hT fun H1 p1=> ?_;simp only[aN_,ak_];have bad:qC_ T key v=false→Q (.tup [.a [.sl none 0 5],.s (.int .i64 1200)]) H1:=fun e=>by
  have e2:t3_ T key v=1200:=by unfold t3_; rw[e]
  rw[e2] at hQ1;exact hQ1 H1 (by decide) p1
 by_cases e0:0 < aK_ T
 rotate_left
 ·rw[decide_eq_false e0,az_ (by decide)];exact bad (by unfold qC_; rw[decide_eq_false e0]; rfl)
 rw[decide_eq_true e0,aD_ (by decide)];refine aa_ (fun e=>bad (by unfold qC_; simp at e; rw[decide_eq_false (show ¬ 1≤key.size by omega)]; simp)) (fun k1=> ?_);refine aa_ (fun e=>bad (by unfold qC_; simp at e; rw[decide_eq_false (show ¬ key.size≤6 by omega)]; simp)) (fun k2=> ?_);refine aa_ (fun e=>bad (by unfold qC_; simp at e; rw[decide_eq_false (show ¬ v.size≤10 by omega)]; simp)) (fun k3=> ?_);have k1:1≤key.size:=by simp at k1; omega
 have k2:key.size≤6:=by simp at k2; omega
 have k3:v.size≤10:=by simp at k3; omega
 have hform:qC_ T key v=true:=by unfold qC_; simp; omega
 have hins:t3_ T key v=match (bO_ (cS_ T) key).isNone&&decide (60≤(cS_ T).length) with | true=>1201 | false=>0:=by unfold t3_; rw[hform]
 obtain⟨P,w⟩:=k9_ e0;obtain⟨st,s⟩:=SF.of e0;have hn48:n=48:=by have:=hT.lenT; have:=w.len; omega
 subst hn48;have hT1:=hT.mono p1;have hc:=w.count;have loop:∀ (F i:Nat),48 - i+70 < F→i≤48→(∀ (j:Nat) (q:Pg),j < i→T[j]? =some q→q.leaf=true→di_ q.keys key=false)→bn_.l4 F key v x 48 none 0 (i:Int) H1 Q:=by
  intro F;induction F with
  | zero=>intro i h; omega
  | succ F ih=>
   intro i hF hi hno;rw[bn_.l4_eq];by_cases hik:i < 48
   ·obtain⟨l,o,c,p,rfl,hcc,hp,hpc,g0,g1,g2,g3,g4⟩:=hT1.get hik;have etN:tN (i:Int)=i:=rfl;have hpl:p.leaf=c.l:=hpc.leaf;have hidx:(leI 0 (i:Int)&&ltI (i:Int) (nI 48))=true:=by simp; omega
    rw[az_ (by simp; omega),ae_];refine ab_ hidx ?_;rw[af_,etN,ad_ (v:= .sl c.a1 c.n1 1) (by exact g2),ah_];refine vY_ hpc.keys ?_;simp only[aI_,aB_,bB_,ai_,ak_,aT_];rw[ae_];refine ab_ hidx ?_;rw[af_,ad_ (v:= .bool c.l) (by exact g1),ak_,an_ (by omega)];have next:(p.leaf=true→di_ p.keys key=false)→bn_.l4 F key v (some (l,o)) 48 none 0 ((i+1:Nat):Int) H1 Q:=fun hq=>ih (i+1) (by omega) (by omega) fun j q hj hjq hql=>by
     by_cases e:j=i
     ·subst e; rw[hp] at hjq; obtain rfl:=Option.some.inj hjq; exact hq hql
     ·exact hno j q (by omega) hjq hql
    refine aa_ (fun el=> ?_) (fun el=>next fun h=>by rw[hpl,el] at h; cases h);refine aa_ (fun eb=> ?_) (fun eb=>next fun _=>eb);have hl:p.leaf=true:=by rw[hpl,el]
    refine sp_ hT1 hn fun x' ds H2 g=> ?_;simp only[dE_,aV_,ah_,bi_];obtain⟨l2,o2,c2,p2,rfl,hcc2,hp2,hpc2,f0,f1,f2,f3,f4⟩:=g.ot.tr.get hik;rw[hp] at hp2; obtain rfl:=Option.some.inj hp2;rw[ae_];refine ab_ hidx ?_;rw[af_,ad_ (v:= .sl c2.a2 c2.n2 1) (by exact f3),ah_,ae_];obtain⟨hsl,hse⟩:=n5_ eb;have hmay:fS_ p:=by
     have:=w.leafIn hp hl;exact ((ef_ p).1 (s.used hp (by
      have:=s.metU hp;cases hu:p.used with
      | true=>rfl
      | false=>
       have hz:=us_ s.rest (by rw[s.len]; exact hik) hp;rw[this,hu] at hz;unfold cY_ at hz;rw[hl] at hz; simp at hz)).2.1)
    have hvl:=(hmay.2.leaf hl).1;have hn2:=hpc2.vals.len;refine ab_ (by simp; omega) ?_;have hT48:=w.len;have hdl:=g.ot.len;have hTi:T[i]'(by omega)=p:=by rw[kG (by omega)] at hp; exact Option.some.inj hp
    have hdi:ds[i]'(by omega)=c2:=by rw[kG (by omega)] at hcc2; exact Option.some.inj hcc2
    obtain⟨l3,e3,hw⟩:=g.val (i:=i) (j:=ct_ p.keys key) (by omega) (by omega) (by rw[hTi]; omega) v (K:=fun H34=>Q (.tup [.a [.sl (some (l2,o2)) 48 5],.s (.int .i64 0)]) H34) (fun H' g'=>by
     rw[hTi] at g';obtain⟨w',hfs⟩:=w.setVal hp hl eb k3;have hz:t3_ T key v=0:=by rw[hins]; cases hq:bO_ (cS_ T) key with | none=>rw[hq] at hfs; cases hfs | some _=>rfl
     exact hQ2 hz e0 _ _ _ H' (p1.trans g'.pre) g'.ot.tr ⟨w'.pos',w'.sound.2,w'.len,fun _=>⟨i,p,hp,hl,eb,rfl⟩,fun q=>(by rw[hfs] at q; cases q)⟩)
    rw[hdi] at e3;rw[e3,af_];have ez:0+tN (ct_ p.keys key:Int)*1=ct_ p.keys key:=by rw[kN,Nat.mul_one]; rfl
    rw[ez];exact hw
   ·have hi48:i=48:=by omega
    subst hi48;rw[aD_ (by simp)];have hnone:bO_ (cS_ T) key=none:=w.noLeaf fun j q hj hjl=>hno j q (by have:=(kC.1 hj).1; rw[w.len] at this; exact this) hj hjl;refine⟨49,?_⟩;refine pc_ hT1 49 0 H1 _ none 0 [] s.good (by omega) (prefix_refl _) (.inl ⟨rfl,rfl,rfl⟩) rfl (by unfold cS_ at hc; omega) fun a m H2 p2 hO hl=> ?_;simp only[aN_,ah_];rw[nil_append] at hO hl;have hm60:m≤60:=by rw[←hl]; exact hc
    refine aa_ (fun ef=> ?_) (fun ef=> ?_)
    ·have hf:t3_ T key v=1201:=by
      rw[hins,hnone];have:60≤(cS_ T).length:=by show 60≤(allD T 49 0).length; rw[hl]; simp at ef; omega
      rw[decide_eq_true this]; rfl
     rw[hf] at hQ1;exact hQ1 H2 (by decide) (p1.trans p2)
    have hz:t3_ T key v=0:=by
     rw[hins];have: ¬ 60≤(cS_ T).length:=by show ¬ 60≤(allD T 49 0).length; rw[hl]; simp at ef; omega
     rw[decide_eq_false this,Bool.and_false]
    have hm59:m≤59:=by simp at ef; omega
    have kv:=hO.kv hl;have hasc:Asc (cS_ T):=w.sub.asc.1;have hok:ms_ (cS_ T):=w.sub.asc.2;have fin:∀ i:Nat,i≤m→(∀ x∈(cS_ T).take i,blt x.1 key=true)→(∀ x∈(cS_ T).drop i,blt key x.1=true)→
     chk true (chk (leI 0 (i:Int)) (chk ((leN 0 (tN (i:Int)))&&((leN (tN (i:Int)) m)||(mM_ H2 a ((tN (i:Int))*2)))) (chk true (rdN H2 (shf a 0) (((tN (i:Int)) - 0)*2) fun c22=>
      chk true (Am.ap H2 tKV 2 32 none 0 c22 ((tN (i:Int)) - 0) fun x23 n24 H25=>
      chk true (Am.ap H25 tKV 2 32 x23 n24 [(.str key),(.str v)] 1 fun x26 n27 H28=>
      chk true (chk (leI 0 (i:Int)) (chk (leN (tN (i:Int)) m) (chk true (rdN H28 (shf a ((tN (i:Int))*2)) ((m - (tN (i:Int)))*2) fun c29=>
      chk true (Am.ap H28 tKV 2 32 x26 n27 c29 (m - (tN (i:Int))) fun x30 n31 H32=>
      cl bc_ [(.g (.sl x30 n31 2))] H32 fun r33 H34=>
      rA r33 fun c35=>
      uC c35 fun v36 c37=>
      dL 5 v36 fun x38 n39=>
      uN c37 (Q (.tup [(.a [(.sl x38 n39 5)]),(.s (.int .i64 0))]) H34)))))))))))):=fun i hi h1 h2=>by
     have etN:tN (i:Int)=i:=rfl;have kvA:=kv.part 0 i (by omega);have kvB:=kv.part i (m - i) (by omega);rw[drop_zero] at kvA;rw[take_of_length_le (l:=(allD T 49 0).drop i) (by rw[length_drop]; omega)] at kvB;change Kv H2 (shf a (0*2)) i ((cS_ T).take i) at kvA;change Kv H2 (shf a (i*2)) (m - i) ((cS_ T).drop i) at kvB;rw[etN,ae_];refine ab_ (by simp) ?_;refine ab_ (by simp; omega) ?_;have sh0:shf a 0=shf a (0*2):=rfl;rw[ae_,Nat.sub_zero,sh0,dX_ kvA.cells,ae_];refine kb_ (H0:=H2) (by omega) (prefix_refl _) (.inl ⟨rfl,by omega,rfl⟩) (by rw[na_,kvA.len]) (by unfold Lim; omega) fun a3 H3 o3 x3 f3=> ?_;rw[nil_append,kN] at o3;rw[kN,ae_];refine kb_ (H0:=H2) (by omega) x3.pre o3 (by rfl) (by unfold Lim; omega) fun a4 H4 o4 x4 f4=> ?_;rw[ae_];refine ab_ (by simp) ?_;refine ab_ (by simp; omega) ?_;have e34:H2<+:H4:=x4.pre;rw[ae_,dX_ (kvB.mono e34).cells,ae_];refine kb_ (H0:=H2) (by omega) x4.pre o4 (by rw[na_,kvB.len]) (by unfold Lim; omega) fun a5 H5 o5 x5 f5=> ?_;have hput:gu_ (cS_ T) key v=(cS_ T).take i++(key,v)::(cS_ T).drop i:=by
      have:=Ee_ (v:=v) h1 h2;rw[take_append_drop] at this;exact this
     have hcell:bW_ ((cS_ T).take i)++[.str key,.str v]++bW_ ((cS_ T).drop i)=bW_ (gu_ (cS_ T) key v):=by
      rw[hput,nq_];show _=bW_ ((cS_ T).take i)++(.str key:: .str v::bW_ ((cS_ T).drop i));simp
     rw[hcell] at o5;have hlen:(gu_ (cS_ T) key v).length=i+1+(m - i):=by
      rw[hput,kI,length_cons,kvA.len,kvB.len]; omega
     refine ui_ (o5.kv hlen) (by omega) fun H6 tp cs' p6 oT=> ?_;simp only[dE_,aV_,ah_,bi_];obtain⟨b1,b2⟩:=A3_ (z4_ hasc key v) (GR_ hok k1 k2 k3) (by omega);exact hQ2 hz e0 _ _ _ H6 (p1.trans (p2.trans (x5.pre.trans p6))) oT.tr ⟨b1,b2,oT.lenT,fun q=>(by rw[hnone] at q; cases q),fun _=>rfl⟩
    have l15:∀ (F i:Nat),m - i < F→i≤m→(∀ x∈(cS_ T).take i,blt x.1 key=true)→bn_.l15 F key v none 0 a m (i:Int) H2 Q:=by
     intro F;induction F with
     | zero=>intro i h; omega
     | succ F ihF=>
      intro i hF hi h1;rw[bn_.l15_eq];by_cases him:i < m
      ·obtain⟨l,o,rfl,q1,q2⟩:=kv.get (i:=i) (by show i < (allD T 49 0).length; omega);have etN:tN (i:Int)=i:=rfl;have hil:i < (cS_ T).length:=by show i < (allD T 49 0).length; omega
       rw[az_ (by simp; omega),ae_];refine ab_ (by simp; omega) ?_;rw[af_,etN,kQ,ad_ q1,ax_,iO_];refine aa_ (fun e=> ?_) (fun e=> ?_)
       ·rw[an_ (by omega)];refine ihF (i+1) (by omega) (by omega) fun x hx=> ?_;rw[take_succ_eq_append_getElem hil] at hx;rcases kD.1 hx with z | z
        ·exact h1 x z
        ·rw[mem_singleton.1 z]; exact e
       ·have hne:(cS_ T)[i].1≠key:=fun q=>by
         have:=sV_ hasc (kE hil);rw[q,hnone] at this; cases this
        have hgt:=Cv_ e hne;have hd:∀ x∈(cS_ T).drop i,blt key x.1=true:=fun x hx=>by
         rw[drop_eq_getElem_cons hil] at hx;rcases mem_cons.1 hx with z | z
         ·rw[z]; exact hgt
         ·have hd:=hasc;rw[←take_append_drop i (cS_ T)] at hd;have hd2:=(pairwise_append.1 hd).2.1;rw[drop_eq_getElem_cons hil] at hd2;exact eU_ hgt ((pairwise_cons.1 hd2).1 x z)
        exact fin i hi h1 hd
      ·rw[aD_ (by simp; omega)];refine fin i hi h1 fun x hx=> ?_;rw[drop_of_length_le (by show (allD T 49 0).length≤i; omega)] at hx;simp at hx
    exact l15 F 0 (by omega) (by omega) (fun x hx=>by simp at hx)
 exact loop 129 0 (by omega) (by omega) (fun j q hj=>by omega)
theorem Dr_ (h:Hf_ T A key v) (C:0 < aK_ T):d3_ A=gu_ (d3_ T) key v∧∀ e,jd_ e A=0:=by
 have F:d3_ A=cS_ A:=by unfold d3_; rw[decide_eq_true h.pos]
 have D:d3_ T=cS_ T:=by unfold d3_; rw[decide_eq_true C]
 exact⟨by rw[F,D,h.ent],fun e=>by unfold jd_; rw[decide_eq_true h.pos]⟩
end
end Go.Am
end
namespace Go.Am
open List
abbrev LKey:=Int × ByteArray
abbrev LVal:=Int × Bool
structure StD where
 snaps:List (ByteArray × SnapR)
 links:List (LKey × LVal)
 inos:List (Int × InoR)
def ekS (s:ByteArray):RV:= .s (.str s)
def ekI (n:Int):RV:= .s (.int .i64 n)
def ekL (k:LKey):RV:= .a [.int .i64 k.1,.str k.2]
def evS (x:SnapR):RV:= .a x.cells
def evI (x:InoR):RV:= .a x.cells
def evL (v:LVal):RV:= .a [.int .i64 v.1,.bool v.2]
theorem okS:vP_ false [.str] ekS:=⟨fun _=>rfl,fun a b h=>by cases h; rfl⟩
theorem okI:vP_ false [.int .i64] ekI:=⟨fun _=>rfl,fun a b h=>by cases h; rfl⟩
theorem okL:vP_ true [.int .i64,.str] ekL:=⟨fun _=>rfl,fun a b h=>by
 have ⟨A,r⟩:=a;simp only[ekL,RV.a.injEq,List.cons.injEq,GV.int.injEq,GV.str.injEq] at h;rw[h.1.2,h.2.1]⟩
def eS_ (v:ByteArray):Option LVal:=match eqI (sz v) 2&&leI (byt v 1) 1 with | true=>some (byt v 0,eqI (byt v 1) 1) | false=>none
def kx_ (st:StD) (p:ByteArray × ByteArray):Option StD:=match ch_ p.1 with
 | some n=>(match bF_ p.2 with | some x=>some { st with snaps:=gi_ st.snaps n x } | none=>none)
 | none=>match bX_ p.1 with
  | some k=>(match eS_ p.2 with | some v=>some { st with links:=gi_ st.links k v } | none=>none)
  | none=>match cQ_ p.1 with
   | some i=>(match cx_ p.2 with | some x=>some { st with inos:=gi_ st.inos i x } | none=>none)
   | none=>none
structure gL_ (H:Hp) (sp:Nat) (c0:GV) (ms ml mi:Nat) (c4:GV) (st:StD):Prop where
 row:∃ t,H[sp]? =some (.row true t [c0,.map (some ms),.map (some ml),.map (some mi),c4])
 snaps:dO_ ekS evS H ms st.snaps
 links:dO_ ekL evL H ml st.links
 inos:dO_ ekI evI H mi st.inos
 d1:ms≠ml
 d2:ms≠mi
 d3:ml≠mi
section
variable {H:Hp} {Q:Post} {sp ms ml mi:Nat} {c0 c4:GV} {st:StD}
theorem gL_.rd (h:gL_ H sp c0 ms ml mi c4 st):gt H sp 0=some c0∧gt H sp 1=some (.map (some ms))∧gt H sp 2=some (.map (some ml))∧gt H sp 3=some (.map (some mi))∧gt H sp 4=some c4:=by
 have ⟨t,r⟩:=h.row;simp [bw_ r]
theorem gL_.spn (h:gL_ H sp c0 ms ml mi c4 st):sp≠ms∧sp≠ml∧sp≠mi:=by
 have ⟨t,A⟩:=h.row;refine⟨fun e=> ?_,fun e=> ?_,fun e=> ?_⟩
 ·have ⟨C,c,r,_⟩:=h.snaps.ex; rw[←e,A] at r; cases r
 ·have ⟨C,c,r,_⟩:=h.links.ex; rw[←e,A] at r; cases r
 ·have ⟨C,c,r,_⟩:=h.inos.ex; rw[←e,A] at r; cases r
structure Upd (H H':Hp) (P:Nat→Prop):Prop where
 len:H'.length=H.length
 row:∀ l,¬ P l→H'[l]? =H[l]?
theorem r8_ {k v:ByteArray} (Y:k.size≤140737488351232) (Z:v.size≤140737488351232) (h:gL_ H sp c0 ms ml mi c4 st)
 (A:kx_ st (k,v)=none→∀ H',Upd H H' (fun l=>l=ms∨l=ml∨l=mi)→Q (.g (.bool false)) H')
 (D:∀ N,kx_ st (k,v)=some N→∀ H',Upd H H' (fun l=>l=ms∨l=ml∨l=mi)→gL_ H' sp c0 ms ml mi c4 N→Q (.g (.bool true)) H'):
 dt_ [.g (.ptr (some (sp,0))),.agg [.str k,.str v]] H Q:=by
 obtain⟨g0,g1,g2,g3,g4⟩:=h.rd;obtain⟨n1,n2,n3⟩:=h.spn;obtain⟨t,V⟩:=h.row;refine⟨1,?_⟩;rw[mR_];refine w4_ Y ?_;unfold kx_ at A D;cases hn:ch_ k with
 | some n=>
  simp only[hn] at A D;refine wU_ Z ?_;have O:((bF_ v).getD kr_).cells=[.int .i64 ((bF_ v).getD kr_).id,.int .i64 ((bF_ v).getD kr_).kind,.str ((bF_ v).getD kr_).parent,.str ((bF_ v).getD kr_).label]:=rfl;rw[O];simp only[aI_,aB_,dS_,aV_,ai_,ax_,bB_,aT_,af_];rw[ad_ g1,dW_];refine kk_ okS h.snaps n ((bF_ v).getD kr_) fun H' F r G=> ?_;cases J:bF_ v with
  | none=>
   rw[J] at A;exact A rfl _ ⟨F,fun l C=>r l fun q=>C (.inl q)⟩
  | some x=>
   rw[J] at D G;refine D _ rfl H' ⟨F,fun l C=>r l fun q=>C (.inl q)⟩ ⟨⟨t,by rw[r _ n1]; exact V⟩,G,h.links.keep (r _ h.d1.symm),h.inos.keep (r _ h.d2.symm),h.d1,h.d2,h.d3⟩
 | none=>
  simp only[hn] at A D;refine xf_ Y ?_;simp only[aI_,aB_,bB_,ai_];cases hp:bX_ k with
  | some key=>
   simp [hp] at A D;simp only[Option.isSome_some];refine aa_ (fun e=> ?_) (fun e=> ?_)
   ·have:eS_ v=none:=by unfold eS_; rw[dY_ e]; rfl
    rw[this] at A; exact A rfl _ ⟨rfl,fun _ _=>rfl⟩
   ·have U:=eE_ e;have hs2:v.size=2:=by simp at U; omega
    refine ab_ (by simp; omega) ?_;refine aa_ (fun W=> ?_) (fun W=> ?_)
    ·have:eS_ v=none:=by unfold eS_; rw[U,show leI (byt v 1) 1=false by simp at W ⊢; omega]; rfl
     rw[this] at A; exact A rfl _ ⟨rfl,fun _ _=>rfl⟩
    ·have C:eS_ v=some (byt v 0,eqI (byt v 1) 1):=by unfold eS_; rw[U,show leI (byt v 1) 1=true by simp at W ⊢; omega]; rfl
     rw[C] at D;simp only[af_];rw[ad_ g2,dW_];refine ab_ (by simp; omega) (ab_ (by simp; omega) ?_);rw[show tN 0=0 from rfl,eW_];refine kk_ okL h.links key (byt v 0,eqI (byt v 1) 1) fun H' F r G=> ?_;exact D _ rfl H' ⟨F,fun l C=>r l fun q=>C (.inr (.inl q))⟩ ⟨⟨t,by rw[r _ n2]; exact V⟩,h.snaps.keep (r _ h.d1),G,h.inos.keep (r _ h.d3.symm),h.d1,h.d2,h.d3⟩
  | none=>
   simp [hp] at A D;refine uf_ ?_;simp [aI_];refine vj_ Z ?_;have O:((cx_ v).getD wL_).cells=[.int .i64 ((cx_ v).getD wL_).links,.str ((cx_ v).getD wL_).content]:=rfl;rw[O];simp [aI_];rw[ad_ g3,dW_];refine kk_ okI h.inos ((cQ_ k).getD 0) ((cx_ v).getD wL_) fun H' F r G=> ?_;cases I:cQ_ k with
   | none=>
    rw[I] at A;exact A rfl _ ⟨F,fun l C=>r l fun q=>C (.inr (.inr q))⟩
   | some i=>
    rw[I] at A D G;cases J:cx_ v with
    | none=>rw[J] at A; exact A rfl _ ⟨F,fun l C=>r l fun q=>C (.inr (.inr q))⟩
    | some x=>
     rw[J] at D G;exact D _ rfl H' ⟨F,fun l C=>r l fun q=>C (.inr (.inr q))⟩ ⟨⟨t,by rw[r _ n3]; exact V⟩,h.snaps.keep (r _ h.d2),h.links.keep (r _ h.d3),G,h.d1,h.d2,h.d3⟩
end
end Go.Am
namespace Go.Am
open List
def iZ_ (st:StD) (p:ByteArray × ByteArray):Option StD:=match ch_ p.1 with
 | some n=>(match bF_ p.2 with | some x=>some { st with snaps:=st.snaps++[(n,x)] } | none=>none)
 | none=>match bX_ p.1 with
  | some k=>(match eS_ p.2 with | some v=>some { st with links:=st.links++[(k,v)] } | none=>none)
  | none=>match cQ_ p.1 with
   | some i=>(match cx_ p.2 with | some x=>some { st with inos:=st.inos++[(i,x)] } | none=>none)
   | none=>none
def wu_ (p:ByteArray × SnapR):List GV:= .str p.1::p.2.cells
def A4_ (p:LKey × LVal):List GV:=[.int .i64 p.1.1,.str p.1.2,.int .i64 p.2.1,.bool p.2.2]
def inoC (p:Int × InoR):List GV:= .int .i64 p.1::p.2.cells
def y1_:Nat:=81
def zm_:Nat:=88
def F0_:Nat:=92
structure cR_ (B H:Hp) (sp:Nat) (a1:Pl) (n1:Nat) (a2:Pl) (n2:Nat) (a3:Pl) (n3:Nat) (st:StD):Prop where
 row:∃ t,H[sp]? =some (.row true t [.sl a1 n1 5,.sl a2 n2 4,.sl a3 n3 3])
 pre:B<+:H
 base:B.length≤sp
 snaps:Own H B.length y1_ a1 (n1*5) (st.snaps.flatMap wu_)
 links:Own H B.length zm_ a2 (n2*4) (st.links.flatMap A4_)
 inos:Own H B.length F0_ a3 (n3*3) (st.inos.flatMap inoC)
 l1:n1=st.snaps.length
 l2:n2=st.links.length
 l3:n3=st.inos.length
 d12:Dj a1 a2
 d13:Dj a1 a3
 d23:Dj a2 a3
 s1:a1≠some (sp,0)
 s2:a2≠some (sp,0)
 s3:a3≠some (sp,0)
section
variable {B H:Hp} {Q:Post} {sp n1 n2 n3:Nat} {a1 a2 a3:Pl} {st:StD}
theorem cR_.spl (h:cR_ B H sp a1 n1 a2 n2 a3 n3 st):sp < H.length:=by
 have ⟨t,r⟩:=h.row;grind
theorem k5_ {a r:Pl} (C:∀ l o,r=some (l,o)→H.length≤l∧o=0) (h:Own H b t a n cs):Dj r a:=fun l A D=>by
 have:=(C l 0 A).1;have:=h.lt' D;omega
theorem cR_.putS (h:cR_ B H sp a1 n1 a2 n2 a3 n3 st) (x:ByteArray × SnapR) (V:n1≤1000)
 (U:∀ r H',cR_ B H' sp r (n1+1) a2 n2 a3 n3 { st with snaps:=st.snaps++[x] }→K H'):
 ap H y1_ 5 64 a1 n1 (wu_ x) 1 fun I D G=>wr G sp (0+0) (.sl I D 5) K:=by
 have ⟨t,N⟩:=h.row;have F:=h.spl;refine kb_ (by omega) h.pre h.snaps rfl (by unfold Lim; omega) fun r H' O ex J=> ?_;have C:H'[sp]? =some (.row true t [.sl a1 n1 5,.sl a2 n2 4,.sl a3 n3 3]):=by rw[ex.row sp F h.s1]; exact N
 have A:r≠some (sp,0):=fun e=>by grind
 exact cr_ C (by simp) (U r _ ⟨⟨t,by grind⟩,ej_ ex.pre h.base _,h.base,by
  have:=O.set A (.row true t [.sl r (n1+1) 5,.sl a2 n2 4,.sl a3 n3 3]);simpa using this,
  (h.links.after h.d12 ex).set h.s2 _,(h.inos.after h.d13 ex).set h.s3 _,by simp [h.l1],h.l2,h.l3,k5_ J h.links,k5_ J h.inos,h.d23,A,h.s2,h.s3⟩)
theorem cR_.putL (h:cR_ B H sp a1 n1 a2 n2 a3 n3 st) (x:LKey × LVal) (V:n2≤1000)
 (U:∀ r H',cR_ B H' sp a1 n1 r (n2+1) a3 n3 { st with links:=st.links++[x] }→K H'):
 ap H zm_ 4 40 a2 n2 (A4_ x) 1 fun I D G=>wr G sp (0+1) (.sl I D 4) K:=by
 have ⟨t,N⟩:=h.row;have F:=h.spl;refine kb_ (by omega) h.pre h.links rfl (by unfold Lim; omega) fun r H' O ex J=> ?_;have C:H'[sp]? =some (.row true t [.sl a1 n1 5,.sl a2 n2 4,.sl a3 n3 3]):=by rw[ex.row sp F h.s2]; exact N
 have A:r≠some (sp,0):=fun e=>by grind
 exact cr_ C (by simp) (U r _ ⟨⟨t,by grind⟩,ej_ ex.pre h.base _,h.base,(h.snaps.after h.d12.symm ex).set h.s1 _,by
  have:=O.set A (.row true t [.sl a1 n1 5,.sl r (n2+1) 4,.sl a3 n3 3]);simpa using this,
  (h.inos.after h.d23 ex).set h.s3 _,h.l1,by simp [h.l2],h.l3,(k5_ J h.snaps).symm,h.d13,k5_ J h.inos,h.s1,A,h.s3⟩)
theorem cR_.putI (h:cR_ B H sp a1 n1 a2 n2 a3 n3 st) (x:Int × InoR) (V:n3≤1000)
 (U:∀ r H',cR_ B H' sp a1 n1 a2 n2 r (n3+1) { st with inos:=st.inos++[x] }→K H'):
 ap H F0_ 3 32 a3 n3 (inoC x) 1 fun I D G=>wr G sp (0+2) (.sl I D 3) K:=by
 have ⟨t,N⟩:=h.row;have F:=h.spl;refine kb_ (by omega) h.pre h.inos rfl (by unfold Lim; omega) fun r H' O ex J=> ?_;have C:H'[sp]? =some (.row true t [.sl a1 n1 5,.sl a2 n2 4,.sl a3 n3 3]):=by rw[ex.row sp F h.s3]; exact N
 have A:r≠some (sp,0):=fun e=>by grind
 exact cr_ C (by simp) (U r _ ⟨⟨t,by grind⟩,ej_ ex.pre h.base _,h.base,(h.snaps.after h.d13.symm ex).set h.s1 _,(h.links.after h.d23.symm ex).set h.s2 _,by
  have:=O.set A (.row true t [.sl a1 n1 5,.sl a2 n2 4,.sl r (n3+1) 3]);simpa using this,
  h.l1,h.l2,by simp [h.l3],h.d12,(k5_ J h.snaps).symm,(k5_ J h.links).symm,h.s1,h.s2,A⟩)
theorem cR_.rd (h:cR_ B H sp a1 n1 a2 n2 a3 n3 st):gt H sp (0+0)=some (.sl a1 n1 5)∧gt H sp (0+1)=some (.sl a2 n2 4)∧gt H sp (0+2)=some (.sl a3 n3 3):=by
 have ⟨t,r⟩:=h.row;simp [bw_ r]
theorem tV_ {k v:ByteArray} (hk:k.size≤140737488351232) (hv:v.size≤140737488351232) (h:cR_ B H sp a1 I a2 n2 a3 J st) (Y:I≤1000∧n2≤1000∧J≤1000)
 (r:iZ_ st (k,v)=none→∀ a1 I a2 n2 a3 J D H',cR_ B H' sp a1 I a2 n2 a3 J D→Q (.g (.bool false)) H')
 (A:∀ D,iZ_ st (k,v)=some D→∀ a1 I a2 n2 a3 J H',cR_ B H' sp a1 I a2 n2 a3 J D→Q (.g (.bool true)) H'):
 dH_ [.g (.ptr (some (sp,0))),.agg [.str k,.str v]] H Q:=by
 have ⟨g1,g2,g3⟩:=h.rd;refine⟨1,?_⟩;rw[oW_];refine rf_ hk ?_;unfold iZ_ at r A;cases N:ch_ k with
 | some n=>
  simp only[N] at r A;refine pp_ hv ?_;have Z:((bF_ v).getD kr_).cells=[.int .i64 ((bF_ v).getD kr_).id,.int .i64 ((bF_ v).getD kr_).kind,.str ((bF_ v).getD kr_).parent,.str ((bF_ v).getD kr_).label]:=rfl;rw[Z];simp only[aI_,aB_,dS_,aV_,ai_,ax_,bi_,bB_,aT_,af_];rw[ad_ g1,ah_,ae_];refine h.putS (n,(bF_ v).getD kr_) Y.1 fun a' H' C=> ?_;cases G:bF_ v with
  | none=>rw[G] at r; exact r rfl _ _ _ _ _ _ _ _ C
  | some x=>rw[G] at A C; exact A _ rfl _ _ _ _ _ _ _ C
 | none=>
  simp only[N] at r A;refine ru_ hk ?_;simp only[aI_,aB_,bB_,ai_];cases hp:bX_ k with
  | some key=>
   simp only[hp] at r A;simp only[Option.isSome_some];refine aa_ (fun e=> ?_) (fun e=> ?_)
   ·have:eS_ v=none:=by unfold eS_; rw[dY_ e]; rfl
    rw[this] at r; exact r rfl _ _ _ _ _ _ _ _ h
   ·have W:=eE_ e;have hs2:v.size=2:=by simp at W; omega
    refine ab_ (by simp; omega) ?_;refine aa_ (fun e3=> ?_) (fun e3=> ?_)
    ·have:eS_ v=none:=by unfold eS_; rw[W,show leI (byt v 1) 1=false by simp at e3 ⊢; omega]; rfl
     rw[this] at r; exact r rfl _ _ _ _ _ _ _ _ h
    ·have hl:eS_ v=some (byt v 0,eqI (byt v 1) 1):=by unfold eS_; rw[W,show leI (byt v 1) 1=true by simp at e3 ⊢; omega]; rfl
     rw[hl] at A;simp only[af_];rw[ad_ g2,ah_];refine ab_ (by simp; omega) (ab_ (by simp; omega) ?_);rw[show tN 0=0 from rfl,eW_,ae_];exact h.putL (key,(byt v 0,eqI (byt v 1) 1)) Y.2.1 fun a' H' C=>A _ rfl _ _ _ _ _ _ _ C
  | none=>
   simp [hp] at r A;refine oB_ ?_;simp only[aI_,aB_,bB_,ai_];refine oR_ hv ?_;have Z:((cx_ v).getD wL_).cells=[.int .i64 ((cx_ v).getD wL_).links,.str ((cx_ v).getD wL_).content]:=rfl;rw[Z];simp only[aI_,aB_,dS_,aV_,ai_,ax_,bB_,af_];rw[ad_ g3,ah_,ae_];refine h.putI ((cQ_ k).getD 0,(cx_ v).getD wL_) Y.2.2 fun a' H' C=> ?_;cases F:cQ_ k with
   | none=>rw[F] at r; exact r rfl _ _ _ _ _ _ _ _ C
   | some i=>
    rw[F] at r A C;cases G:cx_ v with
    | none=>rw[G] at r; exact r rfl _ _ _ _ _ _ _ _ C
    | some x=>rw[G] at A C; exact A _ rfl _ _ _ _ _ _ _ C
end
end Go.Am
namespace Go.Am
open List
theorem ig_ (s:ByteArray) (l:Nat):bs (sub s l s.size)=(bs s).drop l:=by
 unfold sub bs;simp [take_of_length_le]
theorem rH_ (s:ByteArray) (j:Nat) (h:j < s.size):((bs s)[j]?.map fun b=>(b.toNat:Int))=some (byt s j):=by
 unfold byt;have:j < (bs s).length:=by simp_all
 unfold bs at this ⊢;grind
theorem vV_ (D:j < s.size) (C:j < t.size) (h:byt s j=byt t j):(bs s)[j]? =(bs t)[j]? :=by
 have r:=rH_ s j D;have A:=rH_ t j C;cases a:(bs s)[j]? with
 | none=>rw[a] at r; simp at r
 | some x=>
  cases b:(bs t)[j]? with
  | none=>rw[b] at A; simp at A
  | some y=>
   rw[a] at r; rw[b] at A;simp at r A;have:x.toNat=y.toNat:=by omega
   rw[UInt8.toNat_inj.1 this]
theorem fA_ (h:ch_ k=some n):1≤k.size∧byt k 0=115∧bk_ n 4=true∧n=sub k 1 k.size:=by
 unfold ch_ at h;split at h
 ·rename_i e;simp only[kR] at e;cases h;exact⟨by simp at e; omega,by simp_all,e.2.2,rfl⟩
 ·cases h
theorem fC_ {x:LKey} (h:bX_ k=some x):2≤k.size∧byt k 0=102∧1≤byt k 1∧bk_ x.2 3=true∧x=(byt k 1,sub k 2 k.size):=by
 unfold bX_ at h;split at h
 ·rename_i e;simp only[kR] at e;cases h;exact⟨by simp at e; omega,by simp_all,by simpa using e.2.2.1,e.2.2.2,rfl⟩
 ·cases h
theorem gk_ (h:cQ_ k=some i):k.size=2∧byt k 0=105∧1≤byt k 1∧i=byt k 1:=by
 unfold cQ_ at h;split at h
 ·rename_i e;simp only[kR] at e;cases h;exact⟨by simp at e; omega,by simp_all,by simpa using e.2.2,rfl⟩
 ·cases h
theorem zR_ (h:ch_ k=some n) (D:ch_ k'=some n):k=k':=by
 have ⟨N,O,_,G⟩:=fA_ h;have ⟨I,F,_,r⟩:=fA_ D;have A:=vV_ (s:=k) (t:=k') (j:=0) (by omega) (by omega) (by omega);have C:(bs k).drop 1=(bs k').drop 1:=by rw[←ig_,←ig_,←G,←r]
 apply iM_;cases a:bs k with
 | nil=>have:=congrArg length a; rw[g3_] at this; simp only[length_nil] at this; omega
 | cons x J=>cases b:bs k' with
  | nil=>have:=congrArg length b; rw[g3_] at this; simp only[length_nil] at this; omega
  | cons y U=>rw[a,b] at A C; simp at A C; rw[A,C]
theorem wD_ {x:LKey} (h:bX_ k=some x) (I:bX_ k'=some x):k=k':=by
 have ⟨V,W,_,_,Y⟩:=fC_ h;have ⟨N,J,_,_,D⟩:=fC_ I;have G:byt k 1=byt k' 1:=by grind
 have F:sub k 2 k.size=sub k' 2 k'.size:=by grind
 have r:=vV_ (s:=k) (t:=k') (j:=0) (by omega) (by omega) (by omega);have C:=vV_ (by omega) (by omega) G;have A:(bs k).drop 2=(bs k').drop 2:=by rw[←ig_,←ig_,F]
 apply iM_
 match a:bs k,b:bs k' with
 | [],_=>have:=congrArg length a; rw[g3_] at this; simp only[length_nil] at this; omega
 | [_],_=>have:=congrArg length a; rw[g3_] at this; simp [length_nil] at this; omega
 | _::_::_,[]=>have:=congrArg length b; rw[g3_] at this; simp only[length_nil] at this; omega
 | _::_::_,[_]=>have:=congrArg length b; rw[g3_] at this; simp [length_nil] at this; omega
 | x0::x1::U,O::Z::ys=>rw[a,b] at r C A; simp at r C A; rw[r,C,A]
theorem C1_ (h:cQ_ k=some i) (G:cQ_ k'=some i):k=k':=by
 have ⟨W,V,_,N⟩:=gk_ h;have ⟨F,C,_,D⟩:=gk_ G;have A:=vV_ (s:=k) (t:=k') (j:=0) (by omega) (by omega) (by omega);have r:=vV_ (s:=k) (t:=k') (j:=1) (by omega) (by omega) (by omega);apply iM_;have l1:(bs k).length=2:=by simp_all
 have l2:(bs k').length=2:=by simp_all
 match a:bs k,b:bs k' with
 | [I,U],[J,O]=>rw[a,b] at A r; simp at A r; rw[A,r]
 | [],_=>rw[a] at l1; simp at l1
 | [_],_=>rw[a] at l1; simp at l1
 | _::_::_::_,_=>rw[a] at l1; simp at l1
 | _,[]=>rw[b] at l2; simp at l2
 | _,[_]=>rw[b] at l2; simp at l2
 | _,_::_::_::_=>rw[b] at l2; simp at l2
end Go.Am
namespace Go.Am
open List
def hN_ (f:StD→ByteArray × ByteArray→Option StD):StD→KV→Option StD
 | st,[]=>some st
 | st,p::ps=>match f st p with | some st'=>hN_ f st' ps | none=>none
def st0:StD:=⟨[],[],[]⟩
structure CP_ (st:StD) (ks:List ByteArray):Prop where
 snaps:∀ x∈st.snaps,∃ k∈ks,ch_ k=some x.1
 links:∀ x∈st.links,∃ k∈ks,bX_ k=some x.1
 inos:∀ x∈st.inos,∃ k∈ks,cQ_ k=some x.1
theorem rz_ [DecidableEq α] {k:α} {v:β} (h:∀ p∈ps,p.1≠k):gi_ ps k v=ps++[(k,v)]:=by
 unfold gi_;have:look ps k=none:=by
  unfold look;grind
 grind
theorem D0_ {st:StD} (F:CP_ st ks) {p:ByteArray × ByteArray} (O:p.1∉ks):kx_ st p=iZ_ st p∧∀ r,iZ_ st p=some r→CP_ r (p.1::ks):=by
 unfold kx_ iZ_;have D:∀ {α β:Type} {J:List (α × β)} {f:ByteArray→Option α},(∀ x∈J,∃ k∈ks,f k=some x.1)→∀ x∈J,∃ k∈p.1::ks,f k=some x.1:=fun h x V=>by
  grind
 have ap:∀ {α β:Type} {J:List (α × β)} {f:ByteArray→Option α} {a:α} {b:β},(∀ x∈J,∃ k∈ks,f k=some x.1)→f p.1=some a→∀ x∈J++[(a,b)],∃ k∈p.1::ks,f k=some x.1:=fun {_ _ _ _ a b} h e x V=>by
  grind
 cases U:ch_ p.1 with
 | some n=>
  cases bF_ p.2 with
  | none=>exact⟨rfl,fun _ h=>by grind⟩
  | some x=>
   dsimp;rw[rz_ fun q I e=>by
    have ⟨k,N,A⟩:=F.snaps q I;rw[e] at A;exact O (zR_ U A▸N)]
   exact⟨rfl,fun r h=>by cases h; exact⟨ap F.snaps U,D F.links,D F.inos⟩⟩
 | none=>
  cases G:bX_ p.1 with
  | some key=>
   cases eS_ p.2 with
   | none=>exact⟨rfl,fun _ h=>by grind⟩
   | some x=>
    dsimp;rw[rz_ fun q I e=>by
     have ⟨k,N,A⟩:=F.links q I;rw[e] at A;exact O (wD_ G A▸N)]
    exact⟨rfl,fun r h=>by cases h; exact⟨D F.snaps,ap F.links G,D F.inos⟩⟩
  | none=>
   cases C:cQ_ p.1 with
   | none=>exact⟨rfl,fun _ h=>by grind⟩
   | some i=>
    cases cx_ p.2 with
    | none=>exact⟨rfl,fun _ h=>by grind⟩
    | some x=>
     dsimp;rw[rz_ fun q I e=>by
      have ⟨k,N,A⟩:=F.inos q I;rw[e] at A;exact O (C1_ C A▸N)]
     exact⟨rfl,fun r h=>by cases h; exact⟨D F.snaps,D F.links,ap F.inos C⟩⟩
theorem xQ_:∀ {ps:KV} {st:StD} {ks:List ByteArray},CP_ st ks→(ps.map (·.1)).Nodup→(∀ p∈ps,p.1∉ks)→hN_ kx_ st ps=hN_ iZ_ st ps∧∀ r,hN_ iZ_ st ps=some r→∃ A,CP_ r A∧∀ k∈A,k∈ks∨∃ p∈ps,p.1=k
 | [],st,ks,F,_,_=>⟨rfl,fun r h=>by cases h; exact⟨ks,F,fun k D=> .inl D⟩⟩
 | p::ps,st,ks,F,nd,I=>by
  have ⟨e,G⟩:=D0_ F (I p (by simp));rw[map_cons,nodup_cons] at nd;unfold hN_;rw[e];cases h:iZ_ st p with
  | none=>exact⟨rfl,fun _ h=>by grind⟩
  | some r=>
   have ⟨N,C⟩:=xQ_ (G r h) nd.2 fun q O J=>by
    grind
   grind
def el_ (ps:KV):Option StD:=hN_ iZ_ st0 ps
theorem EY_ (nd:(ps.map (·.1)).Nodup):hN_ kx_ st0 ps=el_ ps:=
 (xQ_ ⟨(fun x h=>absurd h not_mem_nil),(fun x h=>absurd h not_mem_nil),(fun x h=>absurd h not_mem_nil)⟩ nd (fun _ _ h=>absurd h not_mem_nil)).1
theorem xl_ (h:Asc ps):(ps.map (·.1)).Nodup:=by
 unfold Asc at h;refine Pairwise.map _ (fun a b r e=> ?_) h;rw[e,cA_] at r; cases r
end Go.Am
namespace Go.Am
open List
theorem dP_ {α:Type} [DecidableEq α]:∀ (L A:List α),A.Nodup→(∀ x∈A,x∈L)→A.length≤L.length∧(¬ L.Nodup→A.length < L.length)
 | [],A,_,F=>by
  cases A with
  | nil=>exact⟨kO _,fun h=>(h nodup_nil).elim⟩
  | cons a A=>have:=F a (by simp); cases this
 | x::L,A,G,F=>by
  have C:=G.erase x;have D:∀ y∈A.erase x,y∈L:=fun y I=>by
   grind
  have ⟨O,J⟩:=dP_ L (A.erase x) C D;have N:A.length≤(A.erase x).length+1:=by grind
  refine⟨by simp; omega,fun r=> ?_⟩;rw[nodup_cons,Classical.not_and_iff_not_or_not,Classical.not_not] at r;rcases r with q | q
  ·have:=(dP_ L A G fun y I=>by
    rcases mem_cons.1 (F y I) with z | z
    ·grind
    ·exact z).1
   grind
  ·grind
theorem xg_ {α:Type} [DecidableEq α] {L A:List α} (C:A.Nodup) (h:∀ x,x∈A↔x∈L):A.length=L.length↔L.Nodup:=by
 have ⟨F,D⟩:=dP_ L A C fun x r=>(h x).1 r;constructor
 ·grind
 ·intro q;have:=(dP_ A L q fun x r=>(h x).2 r).1;omega
theorem AJ_ [DecidableEq α] {v:β} (n:α):n∈(gi_ ps k v).map (·.1)↔n∈ps.map (·.1)∨n=k:=by
 rw[n4_];cases h:look ps k with
 | none=>simp
 | some x=>
  have:=dr_ h;grind
theorem j1_ {B H H':Hp} (p:B<+:H) (A:H'.length=H.length) (h:∀ l,l < B.length→H'[l]? =H[l]?):B<+:H':=by
 rw[prefix_iff_eq_take];apply ext_getElem?;intro i;rw[getElem?_take];split
 ·rename_i r;rw[h i r,br_ p r]
 ·grind
section
variable {H:Hp} {Q:Post} {sp ms ml mi:Nat} {c0 c4:GV} {st:StD}
def evB (b:Bool):RV:= .s (.bool b)
theorem gL_.keep (h:gL_ H sp c0 ms ml mi c4 st) (r:∀ l,l < H.length→H'[l]? =H[l]?):gL_ H' sp c0 ms ml mi c4 st:=by
 have ⟨t,A⟩:=h.row;exact⟨⟨t,by grind⟩,h.snaps.keep (r _ h.snaps.lt),h.links.keep (r _ h.links.lt),h.inos.keep (r _ h.inos.lt),h.d1,h.d2,h.d3⟩
theorem lj_ {r:α→RV} {ev:β→RV} (H:Hp):dO_ r ev (H++[.map [] 0]) H.length ([]:List (α × β)):=
 ⟨⟨[],0,by simp,rfl,(fun e h=>absurd h not_mem_nil),nodup_nil⟩,nodup_nil⟩
theorem q3_ (h:gL_ H sp c0 ms ml mi c4 st) (hn:st.snaps.length≤1000) (hQ:∀ H',H<+:H'→Q (.g (.bool (decide ((st.snaps.map fun x=>x.2.id).Nodup)))) H'):
 bp_ [.g (.ptr (some (sp,0)))] H Q:=by
 obtain⟨t,hr⟩:=h.row;have hsp:=(kC.1 hr).1;refine⟨st.snaps.length+2,?_⟩;rw[mH_];simp only[af_,kN,f0_,fb_];have p0:=b7_ H (.map [] 0);have h0:=h.keep (H':=H++[.map [] 0]) fun l hl=>by rw[kM hl]
 obtain⟨_,g1,_⟩:=h0.rd;rw[ad_ g1,dW_];refine vM_ h0.snaps fun o R0=> ?_;have e0:(H++[Obj.map [] 0]).length=H.length+1:=by simp
 rw[e0] at R0 ⊢;have loop:∀ (f:Nat) (js:List Nat) (G:Hp) (ids:List (Int × Bool)),st.snaps.length - js.length < f→H<+:G→G.length=H.length+2→e3_ ekS evS G (H.length+1) ms st.snaps js→dO_ ekI evB G H.length ids→
  (∀ n,n∈ids.map (·.1)↔∃ j,j∈js∧∃ h:j < st.snaps.length,st.snaps[j].2.id=n)→js.length≤st.snaps.length→
  bp_.l3 f (some (sp,0)) (some H.length) (H.length+1) 0 G Q:=by
  intro f;induction f with
  | zero=>intro js G ids h; omega
  | succ f ih=>
   intro js G ids hf hG hl R M hm hle;have hms:ms < H.length:=h.snaps.lt;rw[bp_.l3_eq];refine u2_ R (by omega) (fun j hj hjs G1 l1 k1 R1=> ?_) (fun hperm=> ?_)
   ·refine qw_ R1 hj ?_;have hc:(evS st.snaps[j].2)= .a [.int .i64 st.snaps[j].2.id,.int .i64 st.snaps[j].2.kind,.str st.snaps[j].2.parent,.str st.snaps[j].2.label]:=rfl;rw[hc];simp only[ekS,bB_,ax_,dS_,aV_,ai_,bi_];refine kk_ (ev:=evB) okI (M.keep (k1 _ (by omega))) st.snaps[j].2.id true fun G2 l2 k2 M2=> ?_;have hlj:(js++[j]).length≤st.snaps.length:=by
     have hsub:=(dP_ (List.range st.snaps.length) (js++[j]) R1.nod fun x hx=>mem_range.2 (R1.lt x hx)).1;rw[length_range] at hsub; exact hsub
    rw[kI,length_singleton] at hlj;refine ih (js++[j]) G2 _ (by rw[kI,length_singleton]; omega) ?_ (by omega) (R1.keep (k2 _ (by omega)) (k2 _ (by omega))) M2 (fun n=> ?_) (by rw[kI,length_singleton]; omega)
    ·refine j1_ hG (by omega) fun l hl=> ?_;rw[k2 l (by omega),k1 l (by omega)]
    ·rw[AJ_,hm n];constructor
     ·rintro (⟨i,hi,x⟩ | q)
      ·exact⟨i,by simp [hi],x⟩
      ·exact⟨j,by simp,hj,q.symm⟩
     ·rintro⟨i,hi,hx,e⟩;rcases kD.1 hi with z | z
      ·exact .inl ⟨i,z,hx,e⟩
      ·have:i=j:=by simpa using z
       subst this; exact .inr e.symm
   ·refine lJ_ M ?_;have hG':=h.keep (H':=G) fun l hl=>br_ hG hl;obtain⟨_,g1,_⟩:=hG'.rd;simp only[af_,kN];rw[ad_ g1,dW_];refine lJ_ hG'.snaps ?_;have key:(ids.map (·.1)).length=(st.snaps.map fun x=>x.2.id).length↔(st.snaps.map fun x=>x.2.id).Nodup:=xg_ M.nodup fun n=>by
     rw[hm n,mem_map];constructor
     ·rintro⟨j,_,hj,e⟩; exact⟨_,kE hj,e⟩
     ·rintro⟨x,hx,e⟩;obtain⟨j,hj,rfl⟩:=kK hx;exact⟨j,hperm.mem_iff.2 (mem_range.2 hj),hj,e⟩
    rw[length_map,length_map] at key;have:eqI (nI ids.length) (nI st.snaps.length)=decide ((st.snaps.map fun x=>x.2.id).Nodup):=by
     rw[Bool.eq_iff_iff];simp only[ij_,iI_,decide_eq_true_eq];rw[←key];omega
    rw[this];exact hQ G hG
 refine loop _ [] _ [] (by simp) (p0.trans (b7_ _ _)) (by simp) R0 ((lj_ H).keep (by rw[kM (by simp)])) (fun n=>by simp) (by simp)
end
end Go.Am
namespace Go.Am
open List
theorem DJ_ [DecidableEq α] (k n:α) (v:β):look (gi_ ps k v) n=if n=k then some v else look ps n:=by
 unfold gi_;cases h:look ps k with
 | none=>
  have D:=n2_ h;by_cases e:n=k
  ·unfold look;grind
  ·rw[if_neg e];unfold look;rw[find?_append];cases ps.find? (fun p=>decide (p.1=n)) with
   | some x=>rfl
   | none=>simp [Ne.symm e]
 | some x=>
  have A:=dr_ h;clear h;unfold look;induction ps with
  | nil=>cases A
  | cons p ps C=>
   by_cases F:p.1=k
   ·by_cases e:n=k
    ·grind
    ·have same:∀ l:List (α × β),((l.map fun p=>if p.1=k then (k,v) else p).find? fun p=>decide (p.1=n))=l.find? fun p=>decide (p.1=n):=by
      intro l;induction l with
      | nil=>rfl
      | cons q l r=>
       grind
     grind
   ·grind
theorem ni_ [DecidableEq α] {ps:List (α × β)} (n:α):n∈ps.map (·.1)↔∃ v,look ps n=some v:=by
 constructor
 ·intro h;cases A:look ps n with
  | some v=>exact⟨v,rfl⟩
  | none=>
   have ⟨p,C,e⟩:=mem_map.1 h;exact absurd e (n2_ A p C)
 ·rintro⟨v,r⟩;exact mem_map.2 ⟨_,dr_ r,rfl⟩
def eX_ (st:StD) (i:Int):Nat:=st.links.countP fun l=>decide (l.2.1=i)
def dn_ (st:StD):Bool:=st.links.all (fun l=>st.inos.any fun x=>decide (x.1=l.2.1))&&st.inos.all fun x=>decide ((eX_ st x.1:Int)=x.2.links)
section
variable {H:Hp} {Q:Post} {sp ms ml mi:Nat} {c0 c4:GV} {st:StD}
def evN (n:Int):RV:= .s (.int .i64 n)
def cj (st:StD) (js:List Nat) (n:Int):Nat:=js.countP fun j=>decide (((st.links[j]?).map (·.2.1))=some n)
def lkN (c:Nat):Option Int:=match c with | 0=>none | c+1=>some ((c+1:Nat):Int)
theorem HA_ (h:js.Perm (List.range st.links.length)) (n:Int):cj st js n=eX_ st n:=by
 unfold cj eX_;rw[h.countP_eq];have e:∀ l:List (LKey × LVal),(List.range l.length).countP (fun j=>decide ((l[j]?).map (·.2.1)=some n))=l.countP fun x=>decide (x.2.1=n):=by
  intro l;induction l with
  | nil=>rfl
  | cons x l r=>
   rw[length_cons,range_succ_eq_map,countP_cons,countP_map,countP_cons,←r];congr 1;simp
 grind
end
end Go.Am
