import Derived.Test.YtddbjihiflcbbaaGreatM11
set_option linter.unusedVariables false
set_option linter.unusedSimpArgs false
namespace Go.Am
def PC.on (c:PC) (l:Nat):Prop:=∃ o,c.a1=some (l,o)∨c.a2=some (l,o)∨c.a3=some (l,o)
theorem PC.at.lt {H:Hp} {c:PC} {p:Pg} (h:c.at H p) {l:Nat} (hl:c.on l):l < H.length:=by
 obtain⟨o,h1 | h1 | h1⟩:=hl
 ·have:=h.keys.cells; rw[h1] at this; exact oH_ this
 ·have:=h.vals.cells; rw[h1] at this; exact oH_ this
 ·have:=h.kids.cells; rw[h1] at this; exact oH_ this
theorem PC.at.keep {H H':Hp} {c:PC} {p:Pg} (h:c.at H p) (hk:∀ l,c.on l→H'[l]? =H[l]?):c.at H' p:=by
 obtain⟨h1,h2,h3,h4,h5⟩:=h;refine⟨h1,h2,⟨?_,h3.len,h3.lim⟩,⟨?_,h4.len,h4.lim⟩,⟨?_,h5.len,h5.lim⟩⟩
 ·rw[←h3.cells]; exact ow_ fun l o e=>hk l ⟨o,.inl e⟩
 ·rw[←h4.cells]; exact ow_ fun l o e=>hk l ⟨o,.inr (.inl e)⟩
 ·rw[←h5.cells]; exact ow_ fun l o e=>hk l ⟨o,.inr (.inr e)⟩
theorem i6_ {H0 H:Hp} {t z by_:Nat} {a:Pl} {n m:Nat} {cs ds:List GV} {K:Pl→Nat→Hp→Prop} (hz:1≤z) (h0:H0<+:H) (h:Own H H0.length t a (n*z) cs) (hm:ds.length=m*z) (hl:(n+m)*by_≤Lim)
 (hK:∀ a' H',Own H' H0.length t a' ((n+m)*z) (cs++ds)→Ex H0 a H H'→(∀ l o,a'=some (l,o)→H.length≤l∧o=0)→K a' (n+m) H'):ap H t z by_ a n ds m K:=by
 unfold ap app?;rw[if_pos ⟨hl,hm⟩];rcases h with⟨rfl,hn,rfl⟩ | ⟨l,rfl,hb,hrow,hlen⟩
 ·have hn0:n=0:=by rcases Nat.eq_zero_or_pos n with e | e; exact e; have:=Nat.mul_le_mul e hz; omega
  subst hn0;simp only[Nat.zero_add] at hK ⊢;by_cases hm0:m=0
  ·subst hm0;rw[Nat.zero_mul] at hm;obtain rfl:ds=[]:=List.eq_nil_of_length_eq_zero hm;simp only[if_pos];exact hK none H (.inl ⟨rfl,by omega,rfl⟩) ⟨h0,Nat.le_refl _,fun _ _ _=>rfl⟩ (fun _ _ e=>by cases e)
  ·simp only[if_pos,if_neg hm0];refine hK _ _ (.inr ⟨H.length,rfl,jq_ h0,by simp,by simpa using hm⟩) ⟨h0.trans (List.prefix_append _ _),by simp,fun l hl _=>by rw[List.getElem?_append_left hl]⟩ (fun _ _ e=>by cases e; exact⟨Nat.le_refl _,rfl⟩)
 ·simp only[hrow];rw[if_pos ⟨trivial,trivial,hlen⟩];have hlt:=(List.getElem?_eq_some_iff.1 hrow).1;refine hK _ _ (.inr ⟨H.length,rfl,jq_ h0,by simp,by rw[List.length_append,hlen,hm,Nat.add_mul]⟩) ⟨(d2_ h0 hb .dead).trans (List.prefix_append _ _),by simp,fun l' hl' hne=> ?_⟩ (fun _ _ e=>by cases e; exact⟨Nat.le_refl _,rfl⟩);have hll:l≠l':=fun e=>hne (by rw[e]);rw[List.getElem?_append_left (by simpa using hl'),List.getElem?_set_ne hll]
structure OT (H:Hp) (b:Nat) (t:TypeId) (a:Pl) (n:Nat) (cs:List PC) (T:List Pg):Prop where
 own:Own H b t a (n*5) (cb_ cs)
 len:cs.length=n
 lenT:T.length=n
 all:∀ i (h:i < cs.length) (h':i < T.length),(cs[i]).at H T[i]
 off:∀ c∈cs,∀ l,c.on l→a≠some (l,0)
section
variable {H0 H H':Hp} {b:Nat} {t:TypeId} {a:Pl} {n:Nat} {cs:List PC} {T:List Pg} {c:PC} {p:Pg}
theorem OT.tr (h:OT H b t a n cs T):Tr H a n cs T:=⟨h.own.cells,h.len,h.lenT,h.all⟩
theorem OT.nil (H:Hp) (b:Nat) (t:TypeId):OT H b t none 0 [] []:=⟨.inl ⟨rfl,rfl,rfl⟩,rfl,rfl,fun i h=>(by simp at h),fun c h=>(by simp at h)⟩
theorem OT.keep (h:OT H b t a n cs T) (ha:∀ l,a=some (l,0)→H'[l]? =H[l]?) (hp:∀ c∈cs,∀ l,c.on l→H'[l]? =H[l]?):OT H' b t a n cs T:=
 ⟨h.own.keep ha,h.len,h.lenT,fun i h1 h2=>(h.all i h1 h2).keep (hp _ (List.getElem_mem h1)),h.off⟩
theorem OT.onlt (h:OT H b t a n cs T) {c:PC} (hc:c∈cs) {l:Nat} (hl:c.on l):l < H.length:=by
 obtain⟨i,hi,rfl⟩:=List.getElem_of_mem hc;exact (h.all i hi (by have:=h.len; have:=h.lenT; omega)).lt hl
theorem OT.mono (h:OT H b t a n cs T) (hp:H<+:H'):OT H' b t a n cs T:=h.keep (fun l e=>cd_ hp (h.own.lt' e)) (fun c hc l hl=>cd_ hp (h.onlt hc hl))
theorem OT.ex (h:OT H b t a n cs T) {x:Pl} (hx:Ex H0 x H H') (hd:Dj x a) (ho:∀ c∈cs,∀ l,c.on l→x≠some (l,0)):OT H' b t a n cs T:=
 h.keep (fun l e=>hx.row l (h.own.lt' e) fun e0=>hd l e0 e) (fun c hc l hl=>hx.row l (h.onlt hc hl) (ho c hc l hl))
theorem OT.add (h:OT H H0.length t a n cs T) (h0:H0<+:H) (hc:c.at H p) (hoff:∀ l,c.on l→a≠some (l,0)) (hl:(n+1)*80≤Lim) {K:Pl→Nat→Hp→Prop}
 (hK:∀ a' H',OT H' H0.length t a' (n+1) (cs++[c]) (T++[p])→Ex H0 a H H'→(∀ l o,a'=some (l,o)→H.length≤l∧o=0)→K a' (n+1) H'):ap H t 5 80 a n [.bool c.u,.bool c.l,.sl c.a1 c.n1 1,.sl c.a2 c.n2 1,.sl c.a3 c.n3 1] 1 K:=by
 refine i6_ (by omega) h0 h.own rfl hl fun a' H' o x f=>hK a' H' ?_ x f;refine⟨by rw[iL_]; simpa [cb_,PC.cells] using o,by simp [h.len],by simp [h.lenT],fun i h1 h2=> ?_,fun d hd l hl e=> ?_⟩
 ·rw[List.getElem_append,List.getElem_append];have q1:=h.len;have q2:=h.lenT;by_cases e:i < n
  ·rw[dif_pos (by omega),dif_pos (by omega)];exact (h.all i (by omega) (by omega)).keep fun l hl=>x.row l (h.onlt (List.getElem_mem _) hl) (h.off _ (List.getElem_mem _) l hl)
  ·rw[dif_neg (by omega),dif_neg (by omega)];simp only[List.getElem_singleton];exact hc.keep fun l hl=>x.row l (hc.lt hl) (hoff l hl)
 ·have:=(f l 0 e).1;rcases List.mem_append.1 hd with q | q
  ·have:=h.onlt q hl; omega
  ·rw[List.mem_singleton.1 q] at hl;have:=hc.lt hl; omega
end
structure PC.own (c:PC) (H:Hp) (b:Nat) (p:Pg):Prop where
 used:p.used=c.u
 leaf:p.leaf=c.l
 keys:Own H b tS c.a1 c.n1 (p.keys.map GV.str)
 vals:Own H b tS c.a2 c.n2 (p.vals.map GV.str)
 kids:Own H b tI c.a3 c.n3 (p.kids.map (GV.int .i64))
 d12:Dr c.a1 c.a2
 d13:Dr c.a1 c.a3
 d23:Dr c.a2 c.a3
theorem PC.own.keep {H H':Hp} {b:Nat} {c:PC} {p:Pg} (h:c.own H b p) (hk:∀ l,c.on l→H'[l]? =H[l]?):c.own H' b p:=
 ⟨h.used,h.leaf,h.keys.keep fun l e=>hk l ⟨0,.inl e⟩,h.vals.keep fun l e=>hk l ⟨0,.inr (.inl e)⟩,h.kids.keep fun l e=>hk l ⟨0,.inr (.inr e)⟩,h.d12,h.d13,h.d23⟩
section
variable {H:Hp} {Q:Post} {c:PC} {p:Pg}
theorem ob_ (h:c.at H p) (hQ:∀ d:PC,∀ H',H<+:H'→d.at H' p→d.own H' H.length p→(∀ l,d.on l→H.length≤l)→d.u=c.u→d.l=c.l→Q (.agg [.bool d.u,.bool d.l,.sl d.a1 d.n1 1,.sl d.a2 d.n2 1,.sl d.a3 d.n3 1]) H'):
 dO_ [.agg [.bool c.u,.bool c.l,.sl c.a1 c.n1 1,.sl c.a2 c.n2 1,.sl c.a3 c.n3 1]] H Q:=by
 obtain⟨hu,hl,hk,hv,hi⟩:=h;have e1:=hk.len;have e2:=hv.len;have e3:=hi.len;have l1:=hk.lim;have l2:=hv.lim;have l3:=hi.lim;refine⟨1,?_⟩;rw[pd_,am_,Nat.mul_one,gM_ hk.cells];refine sn_ (by unfold Lim; omega) (by simp [e1]) ?_;have p1:=ce_ H (.row true tS (p.keys.map GV.str));rw[am_,Nat.mul_one,gM_ (hv.mono p1).cells];refine sn_ (by unfold Lim; omega) (by simp [e2]) ?_;have p2:=p1.trans (ce_ (H++[.row true tS (p.keys.map GV.str)]) (.row true tS (p.vals.map GV.str)));rw[am_,Nat.mul_one,gM_ (hi.mono p2).cells];refine sn_ (by unfold Lim; omega) (by simp [e3]) ?_;have o1:Own (((H++[Obj.row true tS (p.keys.map GV.str)])++[Obj.row true tS (p.vals.map GV.str)])++[Obj.row true tI (p.kids.map (GV.int .i64))]) H.length tS (some (H.length,0)) c.n1 (p.keys.map GV.str):= .inr ⟨_,rfl,Nat.le_refl _,by rw[List.append_assoc,List.append_assoc]; simp,by simp [e1]⟩;have o2:Own (((H++[Obj.row true tS (p.keys.map GV.str)])++[Obj.row true tS (p.vals.map GV.str)])++[Obj.row true tI (p.kids.map (GV.int .i64))]) H.length tS (some ((H++[Obj.row true tS (p.keys.map GV.str)]).length,0)) c.n2 (p.vals.map GV.str):= .inr ⟨_,rfl,by simp,by rw[List.append_assoc]; simp,by simp [e2]⟩;have o3:Own (((H++[Obj.row true tS (p.keys.map GV.str)])++[Obj.row true tS (p.vals.map GV.str)])++[Obj.row true tI (p.kids.map (GV.int .i64))]) H.length tI (some (((H++[Obj.row true tS (p.keys.map GV.str)])++[Obj.row true tS (p.vals.map GV.str)]).length,0)) c.n3 (p.kids.map (GV.int .i64)):= .inr ⟨_,rfl,by simp,by simp,by simp [e3]⟩;refine hQ ⟨c.u,c.l,some (H.length,0),c.n1,some ((H++[Obj.row true tS (p.keys.map GV.str)]).length,0),c.n2,some (((H++[Obj.row true tS (p.keys.map GV.str)])++[Obj.row true tS (p.vals.map GV.str)]).length,0),c.n3⟩ _ (p2.trans (List.prefix_append _ _)) ⟨hu,hl,⟨o1.cells,e1,l1⟩,⟨o2.cells,e2,l2⟩,⟨o3.cells,e3,l3⟩⟩ ⟨hu,hl,o1,o2,o3,?_,?_,?_⟩ ?_ rfl rfl
 ·intro l o o' q1 q2; simp at q1 q2; omega
 ·intro l o o' q1 q2; simp at q1 q2; omega
 ·intro l o o' q1 q2; simp at q1 q2; omega
 ·rintro l ⟨o,q | q | q⟩<;>simp at q<;>omega
end
section
variable {H:Hp} {Q:Post} {a:Pl} {n:Nat} {cs:List PC} {T:List Pg}
theorem mJ_ (hT:Tr H a n cs T) (hn:n*80≤140737488351232)
 (hQ:∀ a' ds H',H<+:H'→OT H' H.length tPg a' n ds T→(∀ i (h:i < ds.length) (h':i < T.length),(ds[i]).own H' H.length T[i])→(∀ i j (hi:i < ds.length) (hj:j < ds.length),i≠j→∀ l,(ds[i]).on l→ ¬ (ds[j]).on l)→Q (.agg [.sl a' n 5]) H'):
 bJ_ [.agg [.sl a n 5]] H Q:=by
 have hlT:=hT.lenT;have loop:∀ (f k:Nat) (a':Pl) (ds:List PC) (H':Hp),n - k < f→k≤n→H<+:H'→OT H' H.length tPg a' k ds (T.take k)→(∀ i (h:i < ds.length) (h':i < T.length),(ds[i]).own H' H.length T[i])→
  (∀ i j (hi:i < ds.length) (hj:j < ds.length),i≠j→∀ l,(ds[i]).on l→ ¬ (ds[j]).on l)→bJ_.l3 f a n none 0 a' k (k:Int) H' Q:=by
  intro f;induction f with
  | zero=>intro k _ _ _ h; omega
  | succ f ih=>
   intro k a' ds H' hf hk hp ho hown hap;rw[bJ_.l3_eq];by_cases hkn:k < n
   ·obtain⟨l,o,c,p,rfl,hc,hpp,hpc,g0,g1,g2,g3,g4⟩:=(hT.mono hp).get hkn;have etN:tN (k:Int)=k:=rfl;rw[aQ_ (by simp; omega),am_];refine ab_ (by simp; omega) ?_;rw[ah_,etN,ea_ g0 g1 g2 g3 g4];refine ob_ hpc fun d H2 p2 hd hdo hfr hu hl=> ?_;simp only[f4_,bA_,al_,as_,b0_];rw[am_];have ho2:=ho.mono p2;have hlen:=ho.len;refine ho2.add (hp.trans p2) hd (fun l hl e=>by have:=hfr l hl; have:=ho.own.lt' e; omega) (by unfold Lim; have:=Nat.mul_le_mul_right 80 (show k+1≤n by omega); omega) fun a'' H3 o3 x3 f3=> ?_;rw[ar_ (by omega)];have hTk:T.take k++[p]=T.take (k+1):=by
     rw[List.take_add_one,hpp]; rfl
    rw[hTk] at o3;have hpk:∀ (h:k < T.length),T[k]=p:=fun h=>by rw[List.getElem?_eq_getElem h] at hpp; exact Option.some.inj hpp
    have keepA:∀ i (h:i < ds.length) (l:Nat),(ds[i]).on l→H3[l]? =H'[l]? :=fun i h l hl=>by
     rw[x3.row l (ho2.onlt (List.getElem_mem h) hl) (ho2.off _ (List.getElem_mem h) l hl),cd_ p2 (ho.onlt (List.getElem_mem h) hl)]
    refine ih (k+1) a'' _ H3 (by omega) (by omega) x3.pre o3 (fun i h1 h2=> ?_) (fun i j h1 h2 hne l hl1 hl2=> ?_)
    ·rw[List.getElem_append];by_cases e:i < k
     ·rw[dif_pos (by omega)];exact (hown i (by omega) h2).keep fun l hl=>keepA i (by omega) l hl
     ·have e':i=k:=by simp [hlen] at h1; omega
      subst e';rw[dif_neg (by omega)];simp only[List.getElem_singleton];rw[hpk h2];have hdo':d.own H3 H'.length p:=hdo.keep fun l hl=>x3.row l (hd.lt hl) (fun e=>by have:=hfr l hl; have:=ho.own.lt' e; omega);have hb:∀ {t:TypeId} {x:Pl} {m:Nat} {es:List GV},Own H3 H'.length t x m es→Own H3 H.length t x m es:=fun h=>by
       have:=hp.length_le;rcases h with h | ⟨q,q1,q2,q3⟩
       ·exact .inl h
       ·exact .inr ⟨q,q1,by omega,q3⟩
      exact⟨hdo'.used,hdo'.leaf,hb hdo'.keys,hb hdo'.vals,hb hdo'.kids,hdo'.d12,hdo'.d13,hdo'.d23⟩
    ·simp only[List.length_append,List.length_singleton] at h1 h2;rw[List.getElem_append] at hl1 hl2;by_cases e1:i < k
     ·rw[dif_pos (by omega)] at hl1;by_cases e2:j < k
      ·rw[dif_pos (by omega)] at hl2;exact hap i j (by omega) (by omega) hne l hl1 hl2
      ·rw[dif_neg (by omega)] at hl2;simp only[List.getElem_singleton] at hl2;have:=hfr l hl2;have:=ho.onlt (List.getElem_mem (by omega:i < ds.length)) hl1;omega
     ·rw[dif_neg (by omega)] at hl1;simp only[List.getElem_singleton] at hl1;by_cases e2:j < k
      ·rw[dif_pos (by omega)] at hl2;have:=hfr l hl1;have:=ho.onlt (List.getElem_mem (by omega:j < ds.length)) hl2;omega
      ·omega
   ·obtain rfl:k=n:=by omega
    rw[aL_ (by simp)];rw[List.take_of_length_le (by omega)] at ho;exact hQ a' ds H' hp ho hown hap
 refine⟨n+2,?_⟩;rw[pq_];exact loop (n+1) 0 none [] H (by omega) (Nat.zero_le _) (List.prefix_refl _) (OT.nil _ _ _) (fun i h=>(by simp at h)) (fun i j h=>(by simp at h))
theorem mC_ {a2:Pl} {n2:Nat} {cs2:List PC} {T2:List Pg} (h1:Tr H a n cs T) (h2:Tr H a2 n2 cs2 T2) (hn:n≤4611686018427387904) (hQ:∀ b,(b=true↔T=T2)→Q (.g (.bool b)) H):bL_ [.agg [.sl a n 5],.agg [.sl a2 n2 5]] H Q:=by
 have q1:=h1.lenT;have q2:=h2.lenT;refine⟨n+2,?_⟩;rw[pE_];refine aa_ (fun e=>hQ _ ⟨fun q=>(by cases q),fun q=> ?_⟩) (fun e=> ?_)
 ·subst q; simp at e; omega
 have hnn:n=n2:=by simp at e; omega
 subst hnn;have loop:∀ f k:Nat,n - k < f→k≤n→(∀ i (h:i < T.length) (h':i < T2.length),i < k→T[i]=T2[i])→bL_.l4 f a n a2 n (k:Int) H Q:=by
  intro f;induction f with
  | zero=>intro k h; omega
  | succ f ih=>
   intro k hf hk he;rw[bL_.l4_eq];by_cases hkn:k < n
   ·obtain⟨l,o,c,p,rfl,hc,hp,hpc,g0,g1,g2,g3,g4⟩:=h1.get hkn;obtain⟨l',o',c',p',rfl,hc',hp',hpc',g0',g1',g2',g3',g4'⟩:=h2.get hkn;have etN:tN (k:Int)=k:=rfl;rw[aQ_ (by simp; omega),am_];refine ab_ (by simp; omega) ?_;rw[ah_,etN,ea_ g0 g1 g2 g3 g4,am_];refine ab_ (by simp; omega) ?_;rw[ah_,ea_ g0' g1' g2' g3' g4'];refine mL_ hpc hpc' fun b hb=> ?_;simp only[aK_,al_];have e1:∀ h:k < T.length,T[k]=p:=fun h=>by rw[List.getElem?_eq_getElem h] at hp; exact Option.some.inj hp
    have e2:∀ h:k < T2.length,T2[k]=p':=fun h=>by rw[List.getElem?_eq_getElem h] at hp'; exact Option.some.inj hp'
    refine aa_ (fun eb=>hQ _ ⟨fun q=>(by cases q),fun q=> ?_⟩) (fun eb=> ?_)
    ·have:p=p':=by rw[←e1 (by omega),←e2 (by omega)]; congr 1
     rw[hb.2 this] at eb; cases eb
    ·rw[ar_ (by omega)];refine ih (k+1) (by omega) (by omega) fun i hi1 hi2 hik=> ?_;by_cases e:i < k
     ·exact he i hi1 hi2 e
     ·have e':i=k:=by omega
      subst e';rw[e1 hi1,e2 hi2];exact hb.1 (by cases b<;>simp_all)
   ·rw[aL_ (by simp; omega)];exact hQ _ ⟨fun _=>List.ext_getElem (by omega) fun i hi1 hi2=>he i hi1 hi2 (by omega),fun _=>rfl⟩
 exact loop _ 0 (by omega) (Nat.zero_le _) (fun i _ _ h=>by omega)
end
end Go.Am
namespace Go.Am
def aN_ (n k i:Nat):Nat:=n*i / k
def kOf (n most:Nat):Nat:=max 1 ((n+most - 1) / most)
theorem jW_ {n k i:Nat} (hk:i≤k) (h0:0 < k):aN_ n k i≤n:=by
 unfold aN_;exact Nat.div_le_of_le_mul (by rw[Nat.mul_comm]; exact Nat.mul_le_mul_right _ hk)
theorem i9_ (n k i:Nat):aN_ n k i≤aN_ n k (i+1):=Nat.div_le_div_right (Nat.mul_le_mul_left _ (by omega))
theorem e3_ (n k:Nat):aN_ n k 0=0:=by simp [aN_]
theorem ld_ {n k:Nat} (h:0 < k):aN_ n k k=n:=Nat.mul_div_cancel _ h
theorem Cc_ {n k i:Nat} (hk:i < k) (hn:0 < n):aN_ n k i < n:=by
 unfold aN_;rw[Nat.div_lt_iff_lt_mul (by omega)];exact Nat.mul_lt_mul_of_pos_left hk hn
theorem hR_ (n most:Nat):0 < kOf n most:=by unfold kOf; omega
def fx_ (n most:Nat):List Nat:=(List.range (kOf n most)).map fun i=>aN_ n (kOf n most) (i+1) - aN_ n (kOf n most) i
abbrev Lvl:=List (Pg × ByteArray)
def gj_ (ps:List (ByteArray × ByteArray)) (k i:Nat):Pg × ByteArray:=
 (⟨true,true,((ps.drop (aN_ ps.length k i)).take (aN_ ps.length k (i+1) - aN_ ps.length k i)).map (·.1),((ps.drop (aN_ ps.length k i)).take (aN_ ps.length k (i+1) - aN_ ps.length k i)).map (·.2),[]⟩,
  match decide (0 < aN_ ps.length k (i+1) - aN_ ps.length k i) with | true=>(ps[aN_ ps.length k i]?.map (·.1)).getD (mkS []) | false=>mkS [])
def b3_ (ps:List (ByteArray × ByteArray)):Lvl:=(List.range (kOf ps.length 4)).map (gj_ ps (kOf ps.length 4))
def m8_ (xs:Lvl) (next k i:Nat):Pg × ByteArray:=
 (⟨true,false,((xs.drop (aN_ xs.length k i+1)).take (aN_ xs.length k (i+1) - (aN_ xs.length k i+1))).map (·.2),[],(List.range (aN_ xs.length k (i+1) - aN_ xs.length k i)).map fun j=>((next+(aN_ xs.length k i+j):Nat):Int)⟩,
  (xs[aN_ xs.length k i]?.map (·.2)).getD (mkS []))
def upD (xs:Lvl) (next:Nat):Lvl:=(List.range (kOf xs.length 5)).map (m8_ xs next (kOf xs.length 5))
def dw_ (T:List Pg) (xs:Lvl) (next:Nat):Nat→List Pg
 | 0=>T
 | j+1=>(dw_ T xs next j).set (next+j) ((xs[j]?.map (·.1)).getD noPg)
def jR_:List Pg:=⟨true,true,[],[],[]⟩::List.replicate 47 noPg
def gr_:Nat→List Pg→Nat→Lvl→List Pg
 | 0,T,_,_=>T
 | f+1,T,next,xs=>match decide (1 < xs.length) with
  | true=>gr_ f (dw_ T xs next xs.length) (next+xs.length) (upD xs next)
  | false=>T.set 0 ((xs[0]?.map (·.1)).getD noPg)
def m4_ (ps:List (ByteArray × ByteArray)):List Pg:=gr_ 64 jR_ 1 (b3_ ps)
section
variable {H:Hp} {Q:Post}
theorem wB_ (a b:Nat):Int.tdiv (a:Int) (b:Int)=((a / b:Nat):Int):=(Int.ofNat_tdiv a b).symm
theorem j7_ {n most:Nat} (hn:n≤1000) (h1:1≤most) (h2:most≤1000) (hQ:∀ a' H',H<+:H'→Own H' H.length tI a' (kOf n most) (((fx_ n most).map fun (x:Nat)=>(x:Int)).map (GV.int .i64))→Is H' a' (kOf n most) ((fx_ n most).map fun (x:Nat)=>(x:Int))→Q (.g (.sl a' (kOf n most) 1)) H'):
 cm_ [.g (.int .i64 (n:Int)),.g (.int .i64 (most:Int))] H Q:=by
 have hk:=hR_ n most;have hk1:kOf n most≤2000:=by
  unfold kOf;have:(n+most - 1) / most≤n+most - 1:=Nat.div_le_self _ _;omega
 have hm:mxI 1 (ad_ .i64 (Int.tdiv (ad_ .i64 ((ad_ .i64 ((n:Int)+(most:Int))) - 1)) (most:Int)))=(kOf n most:Int):=by
  rw[cJ_ (n:=(n:Int)+(most:Int)) (by omega) (by omega),cJ_ (n:=(n:Int)+(most:Int) - 1) (by omega) (by omega)];have e:(n:Int)+(most:Int) - 1=((n+most - 1:Nat):Int):=by omega
  have hq:(n+most - 1) / most≤n+most - 1:=Nat.div_le_self _ _;rw[e,wB_];unfold kOf mxI;generalize (n+most - 1) / most=q at*;rw[cJ_ (by omega) (by omega)];split<;>omega
 refine⟨kOf n most+2,?_⟩;rw[t3_,hm];refine ab_ (by rw[hL_]; simp; omega) ?_;generalize hkk:kOf n most=k at*;have hcut:∀ i,i≤k→ad_ .i64 (Int.tdiv (ad_ .i64 ((n:Int)*(i:Int))) (k:Int))=(aN_ n k i:Int):=by
  intro i hi;have hb:n*i≤1000*2000:=Nat.mul_le_mul hn (by omega);have e:(n:Int)*(i:Int)=((n*i:Nat):Int):=by simp
  rw[e,cJ_ (n:=((n*i:Nat):Int)) (by omega) (by omega),wB_];have hd:n*i / k≤n*i:=Nat.div_le_self _ _;unfold aN_;generalize n*i / k=q at*;generalize n*i=q2 at*;rw[cJ_ (by omega) (by omega)]
 have loop:∀ (f i:Nat) (a':Pl) (H':Hp),k - i < f→i≤k→H<+:H'→Own H' H.length tI a' i ((((List.range i).map fun i=>aN_ n k (i+1) - aN_ n k i).map fun (x:Nat)=>(x:Int)).map (GV.int .i64))→cm_.l4 f (n:Int) (k:Int) a' i (i:Int) H' Q:=by
  intro f;induction f with
  | zero=>intro i _ _ h; omega
  | succ f ih=>
   intro i a' H' hf hi hp ho;rw[cm_.l4_eq];by_cases hik:i < k
   ·rw[aQ_ (by simp; omega)];refine ab_ (by rw[hL_]; simp; omega) (ab_ (by rw[hL_]; simp; omega) ?_);rw[am_,ar_ (by omega),hcut (i+1) (by omega),hcut i (by omega)];have hmono:=i9_ n k i;have hle:=jW_ (n:=n) (k:=k) (i:=i+1) (by omega) (by omega);have e:ad_ .i64 ((aN_ n k (i+1):Int) - (aN_ n k i:Int))=((aN_ n k (i+1) - aN_ n k i:Nat):Int):=by rw[cJ_ (by omega) (by omega)]; omega
    rw[e];refine nj_ hp ho rfl (by unfold Lim; omega) fun a'' H'' o x _=> ?_;refine ih (i+1) a'' H'' (by omega) (by omega) x.pre ?_;rw[List.range_succ,List.map_append,List.map_append,List.map_append];exact o
   ·obtain rfl:i=k:=by omega
    rw[aL_ (by simp)];have hs:fx_ n most=(List.range i).map fun j=>aN_ n i (j+1) - aN_ n i j:=by unfold fx_; rw[hkk]
    refine hQ a' H' hp (by rw[hs]; exact ho) ⟨?_,?_,by omega⟩
    ·rw[hs]; exact ho.cells
    ·rw[hs]; simp
 exact loop _ 0 none H (by omega) (Nat.zero_le _) (List.prefix_refl _) (.inl ⟨rfl,rfl,rfl⟩)
def qj_:List PC:=⟨true,true,none,0,none,0,none,0⟩::List.replicate 47 ⟨false,false,none,0,none,0,none,0⟩
theorem nV_ {t:TypeId} {cs:List GV} {j:Nat} {v:GV} {K:Hp→Prop} (hj:j < cs.length) (hK:K (H++[.row true t (cs.set j v)])):wr (H++[.row true t cs]) H.length j v K:=by
 refine c3_ (own:=t) (cs:=cs) (by simp) hj ?_;rw[List.set_append_right _ _ (Nat.le_refl _)];simpa using hK
theorem Au_ (i:Nat) (h:i < qj_.length):qj_[i]'h=if i=0 then ⟨true,true,none,0,none,0,none,0⟩ else ⟨false,false,none,0,none,0,none,0⟩:=by
 cases i with
 | zero=>rfl
 | succ i=>rw[if_neg (by omega)]; exact List.getElem_replicate (by have:i+1 < 48:=h; simp; omega)
theorem AZ_ (i:Nat) (h:i < jR_.length):jR_[i]'h=if i=0 then ⟨true,true,[],[],[]⟩ else noPg:=by
 cases i with
 | zero=>rfl
 | succ i=>rw[if_neg (by omega)]; exact List.getElem_replicate (by have:i+1 < 48:=h; simp; omega)
theorem BJ_ (H:Hp):∀ i (h:i < qj_.length) (h':i < jR_.length),(qj_[i]'h).at H (jR_[i]'h'):=by
 intro i h h';rw[Au_ i h,AZ_ i h'];split
 ·exact⟨rfl,rfl,.nil _,.nil _,.nil _⟩
 ·exact Bw_ _
theorem tn_:∀ c∈qj_,∀ l,¬ c.on l:=by
 intro c hc l ⟨o,h⟩;unfold qj_ at hc;rcases List.mem_cons.1 hc with rfl | hc
 ·simp at h
 ·rw[(List.mem_replicate.1 hc).2] at h; simp at h
theorem CQ_ (H:Hp):OT (H++[.row true tPg (cb_ qj_)]) H.length tPg (some (H.length,0)) 48 qj_ jR_:=
 ⟨.inr ⟨H.length,rfl,Nat.le_refl _,by simp,by rw[db_]; rfl⟩,rfl,rfl,BJ_ _,fun c hc l hl=>(tn_ c hc l hl).elim⟩
theorem iJ_ (hQ:∀ H',H<+:H'→OT H' H.length tPg (some (H.length,0)) 48 qj_ jR_→Q (.agg [.sl (some (H.length,0)) 48 5]) H'):eZ_ [] H Q:=by
 refine⟨1,?_⟩;rw[xd_,am_];refine ab_ (by decide) ?_;have hl:(iS_ (tN 48) [GV.bool false,.bool false,.sl none 0 1,.sl none 0 1,.sl none 0 1]).length=240:=rfl;refine nV_ (by rw[hl]; decide) (nV_ (by simp only[List.length_set,hl]; decide) (nV_ (by simp only[List.length_set,hl]; decide) (nV_ (by simp only[List.length_set,hl]; decide) (nV_ (by simp only[List.length_set,hl]; decide) ?_))));exact hQ _ (ce_ _ _) (CQ_ H)
end
end Go.Am
namespace Go.Am
abbrev KV:=List (ByteArray × ByteArray)
def bN_ (ps:KV):List GV:=ps.flatMap fun x=>[.str x.1,.str x.2]
theorem kJ_ (ps:KV):(bN_ ps).length=ps.length*2:=by
 unfold bN_;induction ps with
 | nil=>rfl
 | cons c cs ih=>simp [ih]; omega
theorem xl_ {ps:KV} {i:Nat} (hi:i < ps.length):(bN_ ps)[i*2]? =some (.str ps[i].1)∧(bN_ ps)[i*2+1]? =some (.str ps[i].2):=by
 unfold bN_;induction ps generalizing i with
 | nil=>simp at hi
 | cons c cs ih=>
  simp only[List.flatMap_cons];cases i with
  | zero=>simp
  | succ i=>
   have:=ih (i:=i) (by simpa using hi);rw[List.getElem?_append_right (by simp; omega),List.getElem?_append_right (by simp; omega)];have e1:(i+1)*2 - [GV.str c.1,GV.str c.2].length=i*2:=by simp; omega
   have e2:(i+1)*2+1 - [GV.str c.1,GV.str c.2].length=i*2+1:=by simp; omega
   rw[e1,e2];simpa using this
structure Kv (H:Hp) (a:Pl) (n:Nat) (ps:KV):Prop where
 cells:cells? H a (n*2)=some (bN_ ps)
 len:ps.length=n
theorem Kv.mono {H H':Hp} (hp:H<+:H') {a:Pl} {n:Nat} {ps:KV} (h:Kv H a n ps):Kv H' a n ps:=⟨jv_ hp h.cells,h.len⟩
theorem Kv.get {H:Hp} {a:Pl} {n:Nat} {ps:KV} (h:Kv H a n ps) {i:Nat} (hi:i < ps.length):∃ l o,a=some (l,o)∧gt H l (o+i*2)=some (.str ps[i].1)∧gt H l (o+i*2+1)=some (.str ps[i].2):=by
 have hc:=h.cells;have hl:=h.len;cases a with
 | none=>simp [cells?] at hc; omega
 | some q=>
  obtain⟨l,o⟩:=q;obtain⟨k1,k2⟩:=xl_ hi;refine⟨l,o,rfl,?_,?_⟩
  ·rw[iY_ hc (by omega),k1]
  ·rw[Nat.add_assoc,iY_ hc (by omega),k2]
structure LJ (B H:Hp) (x:Pl) (m:Nat) (cs:List PC) (T:List Pg) (y:Pl) (ls:List ByteArray) (k:Pl) (ks:List ByteArray) (v:Pl) (vs:List ByteArray):Prop where
 pre:B<+:H
 X:OT H B.length tPg x m cs T
 Y:Own H B.length tS y m (ls.map GV.str)
 K:Own H B.length tS k ks.length (ks.map GV.str)
 V:Own H B.length tS v vs.length (vs.map GV.str)
 xy:Dj x y
 xk:Dj x k
 xv:Dj x v
 yk:Dj y k
 yv:Dj y v
 kv:Dj k v
 yo:∀ c∈cs,∀ l,c.on l→y≠some (l,0)
 ko:∀ c∈cs,∀ l,c.on l→k≠some (l,0)
 vo:∀ c∈cs,∀ l,c.on l→v≠some (l,0)
 lo:∀ c∈cs,∀ l,c.on l→B.length≤l
section
variable {B H:Hp} {x:Pl} {m:Nat} {cs:List PC} {T:List Pg} {y:Pl} {ls:List ByteArray} {k:Pl} {ks:List ByteArray} {v:Pl} {vs:List ByteArray}
theorem OT.offNew {H:Hp} {b:Nat} {t:TypeId} {a a':Pl} {n:Nat} {cs:List PC} {T:List Pg} (h:OT H b t a n cs T) (f:∀ l o,a'=some (l,o)→H.length≤l):∀ c∈cs,∀ l,c.on l→a'≠some (l,0):=fun c hc l hl e=>by
 have:=f l 0 e; have:=h.onlt hc hl; omega
theorem LJ.key (g:LJ B H x m cs T y ls k ks v vs) (s:ByteArray) (hn:ks.length≤1000) {K:Pl→Nat→Hp→Prop} (hK:∀ k' H',LJ B H' x m cs T y ls k' (ks++[s]) v vs→K k' (ks.length+1) H'):ap H tS 1 16 k ks.length [.str s] 1 K:=
 nj_ g.pre g.K rfl (by unfold Lim; omega) fun k' H' o e f=>hK k' H' ⟨e.pre,g.X.ex e g.xk.symm g.ko,g.Y.after g.yk.symm e,by rw[List.map_append,List.length_append]; exact o,g.V.after g.kv e,
  g.xy,(Dj.fresh g.X.own f).symm,g.xv,(Dj.fresh g.Y f).symm,g.yv,Dj.fresh g.V f,g.yo,g.X.offNew f,g.vo,g.lo⟩
theorem LJ.val (g:LJ B H x m cs T y ls k ks v vs) (s:ByteArray) (hn:vs.length≤1000) {K:Pl→Nat→Hp→Prop} (hK:∀ v' H',LJ B H' x m cs T y ls k ks v' (vs++[s])→K v' (vs.length+1) H'):ap H tS 1 16 v vs.length [.str s] 1 K:=
 nj_ g.pre g.V rfl (by unfold Lim; omega) fun v' H' o e f=>hK v' H' ⟨e.pre,g.X.ex e g.xv.symm g.vo,g.Y.after g.yv.symm e,g.K.after g.kv.symm e,by rw[List.map_append,List.length_append]; exact o,
  g.xy,g.xk,(Dj.fresh g.X.own f).symm,g.yk,(Dj.fresh g.Y f).symm,(Dj.fresh g.K f).symm,g.yo,g.ko,g.X.offNew f,g.lo⟩
theorem LJ.page (g:LJ B H x m cs T y ls k ks v vs) (hks:ks.length≤1000) (hvs:vs.length≤1000) (hm:m≤1000) (s:ByteArray) {K:Pl→Nat→Hp→Pl→Nat→Hp→Prop}
 (hK:∀ x' H1 y' H2 c,LJ B H2 x' (m+1) (cs++[c]) (T++[⟨true,true,ks,vs,[]⟩]) y' (ls++[s]) none [] none []→K x' (m+1) H1 y' (m+1) H2):
 ap H tPg 5 80 x m [.bool true,.bool true,.sl k ks.length 1,.sl v vs.length 1,.sl none 0 1] 1 fun x' n' H1=>ap H1 tS 1 16 y m [.str s] 1 fun y' n2 H2=>K x' n' H1 y' n2 H2:=by
 have hon:∀ l,(⟨true,true,k,ks.length,v,vs.length,none,0⟩:PC).on l→k=some (l,0)∨v=some (l,0):=by
  rintro l ⟨o,q | q | q⟩
  ·left; rcases g.K with⟨e,_⟩ | ⟨l',e,_⟩
   ·simp at q; rw[e] at q; cases q
   ·simp at q; rw[e] at q; cases q; exact e
  ·right; rcases g.V with⟨e,_⟩ | ⟨l',e,_⟩
   ·simp at q; rw[e] at q; cases q
   ·simp at q; rw[e] at q; cases q; exact e
  ·cases q
 have hat:(⟨true,true,k,ks.length,v,vs.length,none,0⟩:PC).at H ⟨true,true,ks,vs,[]⟩:=
  ⟨rfl,rfl,⟨g.K.cells,rfl,by show ks.length*16≤_; omega⟩,⟨g.V.cells,rfl,by show vs.length*16≤_; omega⟩,.nil _⟩
 refine g.X.add (c:=⟨true,true,k,ks.length,v,vs.length,none,0⟩) g.pre hat (fun l hl e=>by rcases hon l hl with q | q; exact g.xk l e q; exact g.xv l e q) (by unfold Lim; omega) fun x' H1 o1 e1 f1=> ?_;have yo1:∀ c∈cs++[(⟨true,true,k,ks.length,v,vs.length,none,0⟩:PC)],∀ l,c.on l→y≠some (l,0):=by
  intro c hc l hl e;rcases List.mem_append.1 hc with q | q
  ·exact g.yo c q l hl e
  ·rw[List.mem_singleton.1 q] at hl;rcases hon l hl with q | q
   ·exact g.yk l e q
   ·exact g.yv l e q
 have f1':∀ l o,x'=some (l,o)→H.length≤l:=fun l o e=>(f1 l o e).1;refine nj_ e1.pre (g.Y.after g.xy e1) rfl (by unfold Lim; omega) fun y' H2 o2 e2 f2=>hK x' H1 y' H2 _ ⟨e2.pre,o1.ex e2 (Dj.fresh g.Y f1').symm yo1,by rw[List.map_append]; exact o2,.inl ⟨rfl,rfl,rfl⟩,.inl ⟨rfl,rfl,rfl⟩,
  (Dj.fresh o1.own f2).symm,fun _ _ e=>(by cases e),fun _ _ e=>(by cases e),fun _ _ e=>(by cases e),fun _ _ e=>(by cases e),fun _ e=>(by cases e),o1.offNew f2,fun c hc l hl e=>(by cases e),fun c hc l hl e=>(by cases e),fun c hc l hl=>by
   rcases List.mem_append.1 hc with q | q
   ·exact g.lo c q l hl
   ·rw[List.mem_singleton.1 q] at hl;rcases hon l hl with q | q
    ·rcases g.K with⟨e,_⟩ | ⟨l',e,hb,_⟩
     ·rw[q] at e; cases e
     ·rw[q] at e; cases e; exact hb
    ·rcases g.V with⟨e,_⟩ | ⟨l',e,hb,_⟩
     ·rw[q] at e; cases e
     ·rw[q] at e; cases e; exact hb⟩
end
section
variable {H0:Hp} {Q:Post} {a:Pl} {n:Nat} {ps:KV}
theorem pT_ (hp:Kv H0 a n ps) (hn:n≤1000)
 (hQ:∀ x y cs H',H0<+:H'→OT H' H0.length tPg x (b3_ ps).length cs ((b3_ ps).map (·.1))→Own H' H0.length tS y (b3_ ps).length (((b3_ ps).map (·.2)).map GV.str)→Dj x y→(∀ c∈cs,∀ l,c.on l→y≠some (l,0))→(∀ c∈cs,∀ l,c.on l→H0.length≤l)→
  Q (.agg [.sl x (b3_ ps).length 5,.sl y (b3_ ps).length 1]) H'):a3_ [.g (.sl a n 2)] H0 Q:=by
 have hpl:=hp.len;refine⟨n+3*kOf ps.length 4+5,?_⟩;rw[s5_];have enI:nI n=((ps.length:Nat):Int):=by rw[iH_,hpl]
 rw[enI];refine j7_ (n:=ps.length) (most:=4) (by omega) (by omega) (by omega) fun sa B pB _ hS=> ?_;simp only[aK_,as_];have hk:=hR_ ps.length 4;have hD:b3_ ps=(List.range (kOf ps.length 4)).map (gj_ ps (kOf ps.length 4)):=rfl;have hSD:fx_ ps.length 4=(List.range (kOf ps.length 4)).map fun i=>aN_ ps.length (kOf ps.length 4) (i+1) - aN_ ps.length (kOf ps.length 4) i:=rfl;have hk2:kOf ps.length 4≤1001:=by
  unfold kOf;have:(ps.length+4 - 1) / 4≤ps.length:=by omega
  omega
 generalize kOf ps.length 4=k at*;have hDl:(b3_ ps).length=k:=by rw[hD]; simp
 have hsl:((fx_ ps.length 4).map fun (x:Nat)=>(x:Int)).length=k:=by rw[hSD]; simp
 have hsg:∀ i (h:i < ((fx_ ps.length 4).map fun (x:Nat)=>(x:Int)).length),((fx_ ps.length 4).map fun (x:Nat)=>(x:Int))[i]=((aN_ ps.length k (i+1) - aN_ ps.length k i:Nat):Int):=fun i h=>by
  simp only[hSD,List.getElem_map,List.getElem_range]
 have loop:∀ (F i:Nat) (H:Hp) (x:Pl) (cs:List PC) (y:Pl),n+3*(k - i)+1 < F+aN_ ps.length k i→i≤k→LJ B H x i cs (((List.range i).map (gj_ ps k)).map (·.1)) y (((List.range i).map (gj_ ps k)).map (·.2)) none [] none []→
  a3_.l5 F a n none 0 none 0 x i y i sa k ((aN_ ps.length k i:Nat):Int) (i:Int) H Q:=by
  intro F;induction F using Nat.strongRecOn with
  | _ F ihF=>
   intro i H x cs y hF hi g;have hci:=jW_ (n:=ps.length) (k:=k) (i:=i) hi hk;obtain⟨F,rfl⟩:∃ F',F=F'+1:=⟨F - 1,by omega⟩;rw[a3_.l5_eq];by_cases hik:i < k
   ·rw[aQ_ (by simp; omega)];have hmono:=i9_ ps.length k i;have hci1:=jW_ (n:=ps.length) (k:=k) (i:=i+1) (by omega) hk;have inner:∀ (d G:Nat) (j:Nat) (H:Hp) (kk:Pl) (v:Pl),aN_ ps.length k (i+1) - j=d→aN_ ps.length k i≤j→j≤aN_ ps.length k (i+1)→n+3*(k - i) < G+j→G≤F→
     LJ B H x i cs (((List.range i).map (gj_ ps k)).map (·.1)) y (((List.range i).map (gj_ ps k)).map (·.2)) kk (((ps.drop (aN_ ps.length k i)).take (j - aN_ ps.length k i)).map (·.1)) v (((ps.drop (aN_ ps.length k i)).take (j - aN_ ps.length k i)).map (·.2))→
     a3_.l9 G a n none 0 none 0 x i y i sa k ((aN_ ps.length k i:Nat):Int) (i:Int) true true kk (((ps.drop (aN_ ps.length k i)).take (j - aN_ ps.length k i)).map (·.1)).length v (((ps.drop (aN_ ps.length k i)).take (j - aN_ ps.length k i)).map (·.2)).length none 0 (j:Int) H Q:=by
     intro d;induction d with
     | zero=>
      intro G j H kk v hd hj1 hj2 hG hGF g;obtain rfl:j=aN_ ps.length k (i+1):=by omega
      obtain⟨G,rfl⟩:∃ G',G=G'+2:=⟨G - 2,by omega⟩;have hS':=hS.mono g.pre;rw[a3_.l9_eq,am_,hS'.rd i rfl (by rw[hsl]; exact hik),hsg];have w1:ad_ .i64 (((aN_ ps.length k i:Nat):Int)+((aN_ ps.length k (i+1) - aN_ ps.length k i:Nat):Int))=((aN_ ps.length k (i+1):Nat):Int):=by rw[cJ_ (by omega) (by omega)]; omega
      rw[w1,aL_ (by simp),am_,hS'.rd i rfl (by rw[hsl]; exact hik),hsg];have hle:((ps.drop (aN_ ps.length k i)).take (aN_ ps.length k (i+1) - aN_ ps.length k i)).length≤1000:=by simp; omega
      have fin:∀ s,s=(gj_ ps k i).2→a3_.l16 (G+1) a n none 0 none 0 x i y i sa k ((aN_ ps.length k i:Nat):Int) (i:Int) true true kk (((ps.drop (aN_ ps.length k i)).take (aN_ ps.length k (i+1) - aN_ ps.length k i)).map (·.1)).length v (((ps.drop (aN_ ps.length k i)).take (aN_ ps.length k (i+1) - aN_ ps.length k i)).map (·.2)).length none 0 s H Q:=by
       intro s hs;rw[a3_.l16_eq,am_];refine g.page (by simpa using hle) (by simpa using hle) (by omega) s (K:=fun x0 n1 H2 x3 n4 H5=>chk true (chk ((leI 0 (i:Int))&&(ltI (i:Int) (nI k))) (pS sa fun n6 n7=>rd H5 n6 (n7+((tN (i:Int))*1)) fun v8=>dI .i64 v8 fun i9=>a3_.l5 G a n none 0 none 0 x0 n1 x3 n4 sa k (ad_ .i64 (((aN_ ps.length k i:Nat):Int)+i9)) (ad_ .i64 ((i:Int)+1)) H5 Q))) ?_;intro x' H1 y' H2 c g2;have hS2:=hS.mono g2.pre;rw[am_,hS2.rd i rfl (by rw[hsl]; exact hik),hsg,w1,ar_ (by omega)];refine ihF G (by omega) (i+1) H2 x' (cs++[c]) y' (by omega) (by omega) ?_;rw[List.range_succ,List.map_append,List.map_append,List.map_append];rw[hs] at g2;exact g2
      refine aa_ (fun e=> ?_) (fun e=> ?_)
      ·have h0:0 < aN_ ps.length k (i+1) - aN_ ps.length k i:=by simp at e; omega
       have hlt:aN_ ps.length k i < ps.length:=by omega
       obtain⟨l,o,ea,hg1,hg2⟩:=(hp.mono (pB.trans g.pre)).get hlt;subst ea;rw[am_];refine ab_ (by simp; omega) ?_;have etN:tN ((aN_ ps.length k i:Nat):Int)=aN_ ps.length k i:=rfl;rw[ah_,etN,ag_ (v:= .str ps[aN_ ps.length k i].1) (by exact hg1),aB_];exact fin _ (by unfold gj_; rw[decide_eq_true h0]; simp [hlt])
      ·have h0: ¬ 0 < aN_ ps.length k (i+1) - aN_ ps.length k i:=by simp at e; omega
       exact fin _ (by unfold gj_; rw[decide_eq_false h0])
     | succ d ihd=>
      intro G j H kk v hd hj1 hj2 hG hGF g;obtain⟨G,rfl⟩:∃ G',G=G'+1:=⟨G - 1,by omega⟩;have hS':=hS.mono g.pre;have hjl:j < ps.length:=by omega
      rw[a3_.l9_eq,am_,hS'.rd i rfl (by rw[hsl]; exact hik),hsg];have w1:ad_ .i64 (((aN_ ps.length k i:Nat):Int)+((aN_ ps.length k (i+1) - aN_ ps.length k i:Nat):Int))=((aN_ ps.length k (i+1):Nat):Int):=by rw[cJ_ (by omega) (by omega)]; omega
      rw[w1,aQ_ (by simp; omega),am_];obtain⟨l,o,ea,hg1,hg2⟩:=(hp.mono pB).get hjl;subst ea;have etN:tN (j:Int)=j:=rfl;have hlen:((ps.drop (aN_ ps.length k i)).take (j - aN_ ps.length k i)).length≤1000:=by simp; omega
      have hnext:(ps.drop (aN_ ps.length k i)).take (j+1 - aN_ ps.length k i)=(ps.drop (aN_ ps.length k i)).take (j - aN_ ps.length k i)++[ps[j]]:=by
       have e1:j+1 - aN_ ps.length k i=(j - aN_ ps.length k i)+1:=by omega
       rw[e1,List.take_succ_eq_append_getElem (by simp; omega)];congr 1;simp;congr 1;omega
      refine ab_ (by simp; omega) ?_;rw[ah_,etN,ag_ (v:= .str ps[j].1) (by exact b5_ g.pre hg1),aB_,am_];refine g.key ps[j].1 (by simpa using hlen) fun k' H1 g1=> ?_;rw[am_];refine ab_ (by simp; omega) ?_;rw[ah_,ag_ (v:= .str ps[j].2) (by exact b5_ g1.pre hg2),aB_,am_];refine g1.val ps[j].2 (by simpa using hlen) fun v' H2 g2=> ?_;rw[ar_ (by omega)];have:=ihd G (j+1) H2 k' v' (by omega) (by omega) (by omega) (by omega) (by omega) (by rw[hnext,List.map_append,List.map_append]; exact g2);rw[hnext,List.map_append,List.map_append,List.length_append,List.length_append] at this;exact this
    have:=inner _ F (aN_ ps.length k i) H none none rfl (Nat.le_refl _) hmono (by omega) (Nat.le_refl _) (by simpa using g);simpa using this
   ·obtain rfl:i=k:=by omega
    rw[aL_ (by simp)];have:=hQ x y cs H (pB.trans g.pre);rw[hDl,hD] at this;have hbl:=pB.length_le;refine this ⟨?_,g.X.len,g.X.lenT,g.X.all,g.X.off⟩ ?_ g.xy g.yo (fun c hc l hl=>by have:=g.lo c hc l hl; omega)
    ·rcases g.X.own with h | ⟨l,h1,h2,h3⟩
     ·exact .inl h
     ·exact .inr ⟨l,h1,by omega,h3⟩
    ·rcases g.Y with h | ⟨l,h1,h2,h3⟩
     ·exact .inl h
     ·exact .inr ⟨l,h1,by omega,h3⟩
 have:=loop (n+3*k+4) 0 B none [] none (by rw[e3_]; omega) (Nat.zero_le _) ⟨List.prefix_refl _,OT.nil _ _ _,.inl ⟨rfl,rfl,rfl⟩,.inl ⟨rfl,rfl,rfl⟩,.inl ⟨rfl,rfl,rfl⟩,fun _ e=>(by cases e),fun _ e=>(by cases e),fun _ e=>(by cases e),fun _ e=>(by cases e),fun _ e=>(by cases e),fun _ e=>(by cases e),fun c hc=>(by simp at hc),fun c hc=>(by simp at hc),fun c hc=>(by simp at hc),fun c hc=>(by simp at hc)⟩;rw[e3_] at this;exact this
end
end Go.Am
namespace Go.Am
structure Sp (H:Hp) (M F:List Pl) (P:List PC):Prop where
 mm:∀ i j,i≠j→Dj (M.getD i none) (M.getD j none)
 mf:∀ i,∀ b∈F,Dj (M.getD i none) b
 mp:∀ i,∀ c∈P,∀ l,c.on l→M.getD i none≠some (l,0)
 lm:∀ i l o,M.getD i none=some (l,o)→l < H.length
 lf:∀ b∈F,∀ l o,b=some (l,o)→l < H.length
 lp:∀ c∈P,∀ l,c.on l→l < H.length
section
variable {H H':Hp} {M F:List Pl} {P:List PC} {B:Hp}
theorem lc_ (M:List Pl) (j:Nat) (a:Pl) (i:Nat):(M.set j a).getD i none=a∨(M.set j a).getD i none=M.getD i none:=by
 rw[List.getD_eq_getElem?_getD,List.getElem?_set];split
 ·split
  ·exact .inl rfl
  ·right; rename_i e h; subst e; rw[List.getD_eq_getElem?_getD,List.getElem?_eq_none (by omega)]
 ·right; rw[List.getD_eq_getElem?_getD]
theorem mu_ (M:List Pl) (j:Nat) (a:Pl) (i:Nat) (h:(M.set j a).getD i none≠M.getD i none):i=j:=by
 rw[List.getD_eq_getElem?_getD,List.getElem?_set,List.getD_eq_getElem?_getD] at h;split at h
 ·rename_i e; exact e.symm
 ·exact (h rfl).elim
theorem Sp.grow (h:Sp H M F P) (hl:H.length≤H'.length):Sp H' M F P:=
 ⟨h.mm,h.mf,h.mp,fun i l o e=>Nat.lt_of_lt_of_le (h.lm i l o e) hl,fun b hb l o e=>Nat.lt_of_lt_of_le (h.lf b hb l o e) hl,fun c hc l e=>Nat.lt_of_lt_of_le (h.lp c hc l e) hl⟩
theorem Sp.step (h:Sp H M F P) (hl:H.length≤H'.length) (j:Nat) {a:Pl} (f:∀ l o,a=some (l,o)→H.length≤l∧l < H'.length):Sp H' (M.set j a) F P:=by
 refine⟨fun i k hne l e1 e2=> ?_,fun i b hb l e1 e2=> ?_,fun i c hc l hl e=> ?_,fun i l o e=> ?_,fun b hb l o e=>Nat.lt_of_lt_of_le (h.lf b hb l o e) hl,fun c hc l e=>Nat.lt_of_lt_of_le (h.lp c hc l e) hl⟩
 ·by_cases q1:(M.set j a).getD i none=M.getD i none
  ·by_cases q2:(M.set j a).getD k none=M.getD k none
   ·rw[q1] at e1; rw[q2] at e2; exact h.mm i k hne l e1 e2
   ·rcases lc_ M j a k with q | q
    ·rw[q] at e2; rw[q1] at e1;have:=f l 0 e2; have:=h.lm i l 0 e1; omega
    ·exact q2 q
  ·by_cases q2:(M.set j a).getD k none=M.getD k none
   ·rcases lc_ M j a i with q | q
    ·rw[q] at e1; rw[q2] at e2;have:=f l 0 e1; have:=h.lm k l 0 e2; omega
    ·exact q1 q
   ·exact hne ((mu_ M j a i q1).trans (mu_ M j a k q2).symm)
 ·rcases lc_ M j a i with q | q
  ·rw[q] at e1; have:=f l 0 e1; have:=h.lf b hb l 0 e2; omega
  ·rw[q] at e1; exact h.mf i b hb l e1 e2
 ·rcases lc_ M j a i with q | q
  ·rw[q] at e; have:=f l 0 e; have:=h.lp c hc l hl; omega
  ·rw[q] at e; exact h.mp i c hc l hl e
 ·rcases lc_ M j a i with q | q
  ·rw[q] at e; exact (f l o e).2
  ·rw[q] at e; exact Nat.lt_of_lt_of_le (h.lm i l o e) hl
end
theorem xO_ (cs:List PC) (i:Nat) (c:PC) (hi:i < cs.length):(((((cb_ cs).set (i*5) (.bool c.u)).set (i*5+1) (.bool c.l)).set (i*5+1+1) (.sl c.a1 c.n1 1)).set (i*5+1+1+1) (.sl c.a2 c.n2 1)).set (i*5+1+1+1+1) (.sl c.a3 c.n3 1)=cb_ (cs.set i c):=by
 induction cs generalizing i with
 | nil=>simp at hi
 | cons d cs ih=>
  have e:cb_ (d::cs)=d.cells++cb_ cs:=rfl;cases i with
  | zero=>rw[e]; rfl
  | succ i=>
   have:=ih i (by simpa using hi);rw[e];have s:∀ (x:List GV) (k:Nat) (v:GV),(d.cells++x).set (i*5+5+k) v=d.cells++x.set (i*5+k) v:=fun x k v=>by
    rw[List.set_append_right _ _ (by simp; omega)];congr 2;simp; omega
   have e5:(i+1)*5=i*5+5+0:=by omega
   have q1:(i+1)*5+1=i*5+5+1:=by omega
   have q2:(i+1)*5+1+1=i*5+5+(1+1):=by omega
   have q3:(i+1)*5+1+1+1=i*5+5+(1+1+1):=by omega
   have q4:(i+1)*5+1+1+1+1=i*5+5+(1+1+1+1):=by omega
   rw[q4,q3,q2,q1,e5,s,s,s,s,s];show d.cells++_=d.cells++cb_ (cs.set i c);rw[←this];rfl
theorem wr5 {H:Hp} {l:Nat} {t:TypeId} {cs:List PC} {i:Nat} {c:PC} {K:Hp→Prop} (h:H[l]? =some (.row true t (cb_ cs))) (hi:i < cs.length) (hK:K (H.set l (.row true t (cb_ (cs.set i c))))):
 wr H l (i*5) (.bool c.u) fun H1=>wr H1 l (i*5+1) (.bool c.l) fun H2=>wr H2 l (i*5+1+1) (.sl c.a1 c.n1 1) fun H3=>wr H3 l (i*5+1+1+1) (.sl c.a2 c.n2 1) fun H4=>wr H4 l (i*5+1+1+1+1) (.sl c.a3 c.n3 1) K:=by
 have hl:=(List.getElem?_eq_some_iff.1 h).1;have hlen:=db_ cs;refine c3_ h (by omega) ?_;refine c3_ (own:=t) (cs:=(cb_ cs).set (i*5) (.bool c.u)) (List.getElem?_set_self hl) (by simp; omega) ?_;rw[List.set_set];refine c3_ (own:=t) (cs:=((cb_ cs).set (i*5) (.bool c.u)).set (i*5+1) (.bool c.l)) (List.getElem?_set_self hl) (by simp; omega) ?_;rw[List.set_set];refine c3_ (own:=t) (cs:=(((cb_ cs).set (i*5) (.bool c.u)).set (i*5+1) (.bool c.l)).set (i*5+1+1) (.sl c.a1 c.n1 1)) (List.getElem?_set_self hl) (by simp; omega) ?_;rw[List.set_set];refine c3_ (own:=t) (cs:=((((cb_ cs).set (i*5) (.bool c.u)).set (i*5+1) (.bool c.l)).set (i*5+1+1) (.sl c.a1 c.n1 1)).set (i*5+1+1+1) (.sl c.a2 c.n2 1)) (List.getElem?_set_self hl) (by simp; omega) ?_;rw[List.set_set,xO_ cs i c hi];exact hK
theorem OT.place {B H:Hp} {t:TypeId} {tp:Nat} {n:Nat} {cs:List PC} {T:List Pg} {i:Nat} {c:PC} {p:Pg} (h:OT H B.length t (some (tp,0)) n cs T) (hi:i < n) (hc:c.at H p) (hoff:∀ l,c.on l→l≠tp):
 OT (H.set tp (.row true t (cb_ (cs.set i c)))) B.length t (some (tp,0)) n (cs.set i c) (T.set i p):=by
 have q1:=h.len;have q2:=h.lenT;rcases h.own with⟨e,_⟩ | ⟨l,e,hb,hr,hl⟩
 ·cases e
 cases e;have hlt:=(List.getElem?_eq_some_iff.1 hr).1;have hoffT:∀ d∈cs,∀ l,d.on l→l≠tp:=fun d hd l hl e=>h.off d hd l hl (by rw[e]);refine⟨.inr ⟨tp,rfl,hb,List.getElem?_set_self hlt,by rw[db_]; simp [q1]⟩,by simp [q1],by simp [q2],fun j h1 h2=> ?_,fun d hd l hl e=> ?_⟩
 ·rw[List.getElem_set,List.getElem_set];by_cases e:i=j
  ·rw[if_pos e,if_pos e];exact hc.keep fun l hl=>by rw[List.getElem?_set_ne (Ne.symm (hoff l hl))]
  ·rw[if_neg e,if_neg e];simp at h1 h2;exact (h.all j h1 h2).keep fun l hl=>by rw[List.getElem?_set_ne (Ne.symm (hoffT _ (List.getElem_mem _) l hl))]
 ·have e':l=tp:=by cases e; rfl
  rcases List.mem_or_eq_of_mem_set hd with q | q
  ·exact hoffT d q l hl e'
  ·subst q; exact hoff l hl e'
end Go.Am
namespace Go.Am
section
variable {H:Hp} {M F:List Pl} {P P':List PC} {c:PC}
theorem Sp.sub (h:Sp H M F P) (hs:∀ c∈P',c∈P):Sp H M F P':=⟨h.mm,h.mf,fun i c hc=>h.mp i c (hs c hc),h.lm,h.lf,fun c hc=>h.lp c (hs c hc)⟩
theorem Sp.addP (h:Sp H M F P) (hc:∀ i l,c.on l→M.getD i none≠some (l,0)) (hl:∀ l,c.on l→l < H.length):Sp H M F (P++[c]):=
 ⟨h.mm,h.mf,fun i d hd l hon=>by
  rcases List.mem_append.1 hd with q | q
  ·exact h.mp i d q l hon
  ·rw[List.mem_singleton.1 q] at hon; exact hc i l hon,h.lm,h.lf,fun d hd l hon=>by
  rcases List.mem_append.1 hd with q | q
  ·exact h.lp d q l hon
  ·rw[List.mem_singleton.1 q] at hon; exact hl l hon⟩
theorem Own.ltAny {H:Hp} {b:Nat} {t:TypeId} {a:Pl} {n:Nat} {cs:List GV} (h:Own H b t a n cs) {l o:Nat} (e:a=some (l,o)):l < H.length:=by
 rcases h with⟨q,_⟩ | ⟨m,q,_,hr,_⟩
 ·rw[q] at e; cases e
 ·rw[q] at e; cases e; exact (List.getElem?_eq_some_iff.1 hr).1
theorem Own.zero {H:Hp} {b:Nat} {t:TypeId} {a:Pl} {n:Nat} {cs:List GV} (h:Own H b t a n cs) {l o:Nat} (e:a=some (l,o)):a=some (l,0):=by
 rcases h with⟨q,_⟩ | ⟨m,q,_,hr,_⟩
 ·rw[q] at e; cases e
 ·rw[q] at e; cases e; exact q
end
structure BJ (B H:Hp) (tp:Nat) (tcs:List PC) (T:List Pg) (x:Pl) (n:Nat) (xcs:List PC) (xT:List Pg) (y:Pl) (yls:List ByteArray) (sa:Pl) (k:Nat) (ss:List Int)
 (up:Pl) (m:Nat) (ucs:List PC) (uT:List Pg) (ul:Pl) (m2:Nat) (uls:List ByteArray) (kk:Pl) (ks:List ByteArray) (ii:Pl) (is:List Int):Prop where
 pre:B<+:H
 TP:OT H B.length tPg (some (tp,0)) 48 tcs T
 X:OT H B.length tPg x n xcs xT
 Y:Own H B.length tS y n (yls.map GV.str)
 S:Own H B.length tI sa k (ss.map (GV.int .i64))
 UP:OT H B.length tPg up m ucs uT
 UL:Own H B.length tS ul m2 (uls.map GV.str)
 K:Own H B.length tS kk ks.length (ks.map GV.str)
 I:Own H B.length tI ii is.length (is.map (GV.int .i64))
 sp:Sp H [some (tp,0),up,ul,kk,ii] [x,y,sa] (tcs++xcs++ucs)
section
variable {B H:Hp} {tp:Nat} {tcs:List PC} {T:List Pg} {x:Pl} {n:Nat} {xcs:List PC} {xT:List Pg} {y:Pl} {yls:List ByteArray} {sa:Pl} {k:Nat} {ss:List Int}
 {up:Pl} {m:Nat} {ucs:List PC} {uT:List Pg} {ul:Pl} {m2:Nat} {uls:List ByteArray} {kk:Pl} {ks:List ByteArray} {ii:Pl} {is:List Int}
theorem BJ.kid (g:BJ B H tp tcs T x n xcs xT y yls sa k ss up m ucs uT ul m2 uls kk ks ii is) (s:Int) (hn:is.length≤1000) {K:Pl→Nat→Hp→Prop}
 (hK:∀ i' H',BJ B H' tp tcs T x n xcs xT y yls sa k ss up m ucs uT ul m2 uls kk ks i' (is++[s])→K i' (is.length+1) H'):ap H tI 1 8 ii is.length [.int .i64 s] 1 K:=
 nj_ g.pre g.I rfl (by unfold Lim; omega) fun i' H' o e f=>hK i' H'
  ⟨e.pre,g.TP.ex e (g.sp.mm 4 0 (by decide)) (fun c hc l hl=>g.sp.mp 4 c (by simp [hc]) l hl),g.X.ex e (g.sp.mf 4 x (by simp)) (fun c hc l hl=>g.sp.mp 4 c (by simp [hc]) l hl),g.Y.after (g.sp.mf 4 y (by simp)) e,g.S.after (g.sp.mf 4 sa (by simp)) e,
   g.UP.ex e (g.sp.mm 4 1 (by decide)) (fun c hc l hl=>g.sp.mp 4 c (by simp [hc]) l hl),g.UL.after (g.sp.mm 4 2 (by decide)) e,g.K.after (g.sp.mm 4 3 (by decide)) e,by rw[List.map_append,List.length_append]; exact o,
   g.sp.step e.len 4 (fun l o' q=>⟨f l o' q,o.ltAny q⟩)⟩
theorem BJ.key (g:BJ B H tp tcs T x n xcs xT y yls sa k ss up m ucs uT ul m2 uls kk ks ii is) (s:ByteArray) (hn:ks.length≤1000) {K:Pl→Nat→Hp→Prop}
 (hK:∀ k' H',BJ B H' tp tcs T x n xcs xT y yls sa k ss up m ucs uT ul m2 uls k' (ks++[s]) ii is→K k' (ks.length+1) H'):ap H tS 1 16 kk ks.length [.str s] 1 K:=
 nj_ g.pre g.K rfl (by unfold Lim; omega) fun i' H' o e f=>hK i' H'
  ⟨e.pre,g.TP.ex e (g.sp.mm 3 0 (by decide)) (fun c hc l hl=>g.sp.mp 3 c (by simp [hc]) l hl),g.X.ex e (g.sp.mf 3 x (by simp)) (fun c hc l hl=>g.sp.mp 3 c (by simp [hc]) l hl),g.Y.after (g.sp.mf 3 y (by simp)) e,g.S.after (g.sp.mf 3 sa (by simp)) e,
   g.UP.ex e (g.sp.mm 3 1 (by decide)) (fun c hc l hl=>g.sp.mp 3 c (by simp [hc]) l hl),g.UL.after (g.sp.mm 3 2 (by decide)) e,by rw[List.map_append,List.length_append]; exact o,g.I.after (g.sp.mm 3 4 (by decide)) e,
   g.sp.step e.len 3 (fun l o' q=>⟨f l o' q,o.ltAny q⟩)⟩
theorem BJ.least (g:BJ B H tp tcs T x n xcs xT y yls sa k ss up m ucs uT ul m2 uls kk ks ii is) (s:ByteArray) (hn:m2≤1000) {K:Pl→Nat→Hp→Prop}
 (hK:∀ k' H',BJ B H' tp tcs T x n xcs xT y yls sa k ss up m ucs uT k' (m2+1) (uls++[s]) kk ks ii is→K k' (m2+1) H'):ap H tS 1 16 ul m2 [.str s] 1 K:=
 nj_ g.pre g.UL rfl (by unfold Lim; omega) fun i' H' o e f=>hK i' H'
  ⟨e.pre,g.TP.ex e (g.sp.mm 2 0 (by decide)) (fun c hc l hl=>g.sp.mp 2 c (by simp [hc]) l hl),g.X.ex e (g.sp.mf 2 x (by simp)) (fun c hc l hl=>g.sp.mp 2 c (by simp [hc]) l hl),g.Y.after (g.sp.mf 2 y (by simp)) e,g.S.after (g.sp.mf 2 sa (by simp)) e,
   g.UP.ex e (g.sp.mm 2 1 (by decide)) (fun c hc l hl=>g.sp.mp 2 c (by simp [hc]) l hl),by rw[List.map_append]; exact o,g.K.after (g.sp.mm 2 3 (by decide)) e,g.I.after (g.sp.mm 2 4 (by decide)) e,
   g.sp.step e.len 2 (fun l o' q=>⟨f l o' q,o.ltAny q⟩)⟩
theorem BJ.page (g:BJ B H tp tcs T x n xcs xT y yls sa k ss up m ucs uT ul m2 uls kk ks ii is) (hks:ks.length≤1000) (his:is.length≤1000) (hm:m≤1000) {K:Pl→Nat→Hp→Prop}
 (hK:∀ u' H' c,BJ B H' tp tcs T x n xcs xT y yls sa k ss u' (m+1) (ucs++[c]) (uT++[⟨true,false,ks,[],is⟩]) ul m2 uls none [] none []→K u' (m+1) H'):
 ap H tPg 5 80 up m [.bool true,.bool false,.sl kk ks.length 1,.sl none 0 1,.sl ii is.length 1] 1 K:=by
 have hon:∀ l,(⟨true,false,kk,ks.length,none,0,ii,is.length⟩:PC).on l→kk=some (l,0)∨ii=some (l,0):=by
  rintro l ⟨o,q | q | q⟩
  ·exact .inl (g.K.zero q)
  ·cases q
  ·exact .inr (g.I.zero q)
 have hat:(⟨true,false,kk,ks.length,none,0,ii,is.length⟩:PC).at H ⟨true,false,ks,[],is⟩:=
  ⟨rfl,rfl,⟨g.K.cells,rfl,by show ks.length*16≤_; omega⟩,.nil _,⟨g.I.cells,rfl,by show is.length*8≤_; omega⟩⟩
 refine g.UP.add (c:=⟨true,false,kk,ks.length,none,0,ii,is.length⟩) g.pre hat (fun l hl e=>by rcases hon l hl with q | q; exact g.sp.mm 1 3 (by decide) l e q; exact g.sp.mm 1 4 (by decide) l e q) (by unfold Lim; omega) fun u' H1 o1 e1 f1=>hK u' H1 ⟨true,false,kk,ks.length,none,0,ii,is.length⟩ ?_;have sp1:Sp H [some (tp,0),up,ul,none,none] [x,y,sa] (tcs++xcs++ucs):=(g.sp.step (Nat.le_refl _) 3 (a:=none) (fun _ _ q=>by cases q)).step (Nat.le_refl _) 4 (a:=none) (fun _ _ q=>by cases q);have sp2:=sp1.addP (c:=⟨true,false,kk,ks.length,none,0,ii,is.length⟩) (fun i l hl e=>by
  rcases hon l hl with q | q
  ·match i,e with
   | 0,e=>exact g.sp.mm 0 3 (by decide) l e q
   | 1,e=>exact g.sp.mm 1 3 (by decide) l e q
   | 2,e=>exact g.sp.mm 2 3 (by decide) l e q
   | 3,e=>cases e
   | 4,e=>cases e
   | i+5,e=>simp at e
  ·match i,e with
   | 0,e=>exact g.sp.mm 0 4 (by decide) l e q
   | 1,e=>exact g.sp.mm 1 4 (by decide) l e q
   | 2,e=>exact g.sp.mm 2 4 (by decide) l e q
   | 3,e=>cases e
   | 4,e=>cases e
   | i+5,e=>simp at e) (fun l hl=>hat.lt hl)
 have sp3:=(sp2.sub (P':=tcs++xcs++(ucs++[⟨true,false,kk,ks.length,none,0,ii,is.length⟩])) (fun c hc=>by rw[List.append_assoc] at*; simpa using hc)).step e1.len 1 (a:=u') (fun l o q=>⟨(f1 l o q).1,o1.own.ltAny q⟩);exact⟨e1.pre,g.TP.ex e1 (g.sp.mm 1 0 (by decide)) (fun c hc l hl=>g.sp.mp 1 c (by simp [hc]) l hl),g.X.ex e1 (g.sp.mf 1 x (by simp)) (fun c hc l hl=>g.sp.mp 1 c (by simp [hc]) l hl),g.Y.after (g.sp.mf 1 y (by simp)) e1,g.S.after (g.sp.mf 1 sa (by simp)) e1,
  o1,g.UL.after (g.sp.mm 1 2 (by decide)) e1,.inl ⟨rfl,rfl,rfl⟩,.inl ⟨rfl,rfl,rfl⟩,sp3⟩
theorem BJ.place (g:BJ B H tp tcs T x n xcs xT y yls sa k ss up m ucs uT ul m2 uls kk ks ii is) {i j:Nat} (hi:i < 48) {c:PC} {p:Pg} (hc:xcs[j]? =some c) (hp:xT[j]? =some p) {K:Hp→Prop}
 (hK:∀ H' tcs',BJ B H' tp tcs' (T.set i p) x n xcs xT y yls sa k ss up m ucs uT ul m2 uls kk ks ii is→K H'):
 wr H tp (i*5) (.bool c.u) fun H1=>wr H1 tp (i*5+1) (.bool c.l) fun H2=>wr H2 tp (i*5+1+1) (.sl c.a1 c.n1 1) fun H3=>wr H3 tp (i*5+1+1+1) (.sl c.a2 c.n2 1) fun H4=>wr H4 tp (i*5+1+1+1+1) (.sl c.a3 c.n3 1) K:=by
 obtain⟨hj,rfl⟩:=List.getElem?_eq_some_iff.1 hc;obtain⟨hj',rfl⟩:=List.getElem?_eq_some_iff.1 hp;have hat:=g.X.all j hj hj';have hmem:xcs[j]∈xcs:=List.getElem_mem hj;have hl:=g.TP.len;rcases g.TP.own with⟨e,_⟩ | ⟨l,e,hb,hr,hlen⟩
 ·cases e
 cases e;have hoff:∀ l,(xcs[j]).on l→l≠tp:=fun l hl e=>g.sp.mp 0 _ (by simp [hmem]) l hl (by rw[e]; rfl);refine wr5 hr (by omega) ?_;have e:Ex B (some (tp,0)) H (H.set tp (.row true tPg (cb_ (tcs.set i xcs[j])))):=⟨d2_ g.pre hb _,by simp,fun l _ hne=>by rw[List.getElem?_set_ne]; intro q; subst q; exact hne rfl⟩;refine hK _ (tcs.set i xcs[j]) ⟨e.pre,g.TP.place hi hat hoff,g.X.ex e (g.sp.mf 0 x (by simp)) (fun c hc l hl=>g.sp.mp 0 c (by simp [hc]) l hl),g.Y.after (g.sp.mf 0 y (by simp)) e,g.S.after (g.sp.mf 0 sa (by simp)) e,
  g.UP.ex e (g.sp.mm 0 1 (by decide)) (fun c hc l hl=>g.sp.mp 0 c (by simp [hc]) l hl),g.UL.after (g.sp.mm 0 2 (by decide)) e,g.K.after (g.sp.mm 0 3 (by decide)) e,g.I.after (g.sp.mm 0 4 (by decide)) e,(g.sp.grow e.len).sub fun c hc=> ?_⟩
 simp only[List.mem_append] at hc ⊢;rcases hc with (hc | hc) | hc
 ·rcases List.mem_or_eq_of_mem_set hc with q | q
  ·exact .inl (.inl q)
  ·subst q; exact .inl (.inr hmem)
 ·exact .inl (.inr hc)
 ·exact .inr hc
end
end Go.Am
namespace Go.Am
theorem Own.base {H:Hp} {b b':Nat} {t:TypeId} {a:Pl} {n:Nat} {cs:List GV} (h:Own H b t a n cs) (hb:b'≤b):Own H b' t a n cs:=by
 rcases h with h | ⟨l,h1,h2,h3⟩
 ·exact .inl h
 ·exact .inr ⟨l,h1,by omega,h3⟩
theorem Own.above {H:Hp} {b:Nat} {t:TypeId} {a:Pl} {n:Nat} {cs:List GV} (h:Own H b t a n cs) {l o:Nat} (e:a=some (l,o)):b≤l:=by
 rcases h with⟨h,_⟩ | ⟨l',h1,h2,_⟩
 ·rw[h] at e; cases e
 ·rw[h1] at e; cases e; exact h2
structure BS (B H:Hp) (tp:Nat) (tcs:List PC) (T:List Pg) (x:Pl) (n:Nat) (xcs:List PC) (xT:List Pg) (y:Pl) (yls:List ByteArray):Prop where
 pre:B<+:H
 TP:OT H B.length tPg (some (tp,0)) 48 tcs T
 X:OT H B.length tPg x n xcs xT
 Y:Own H B.length tS y n (yls.map GV.str)
 sp:Sp H [some (tp,0)] [x,y] (tcs++xcs)
section
variable {B H H':Hp} {tp:Nat} {tcs:List PC} {T:List Pg} {x:Pl} {n:Nat} {xcs:List PC} {xT:List Pg} {y:Pl} {yls:List ByteArray} {sa:Pl} {k:Nat} {ss:List Int}
 {up:Pl} {m:Nat} {ucs:List PC} {uT:List Pg} {ul:Pl} {uls:List ByteArray}
theorem BS.start (g:BS B H tp tcs T x n xcs xT y yls) (hp:H<+:H') (hS:Own H' H.length tI sa k (ss.map (GV.int .i64))):BJ B H' tp tcs T x n xcs xT y yls sa k ss none 0 [] [] none 0 [] none [] none []:=by
 have hBl:=g.pre.length_le;have hl:=hp.length_le;refine⟨g.pre.trans hp,g.TP.mono hp,g.X.mono hp,g.Y.mono hp,hS.base hBl,OT.nil _ _ _,.inl ⟨rfl,rfl,rfl⟩,.inl ⟨rfl,rfl,rfl⟩,.inl ⟨rfl,rfl,rfl⟩,?_⟩;have hM:∀ i l o,([some (tp,0),none,none,none,none]:List Pl).getD i none=some (l,o)→i=0∧l=tp∧o=0:=by
  intro i l o e
  match i,e with
  | 0,e=>cases e; exact⟨rfl,rfl,rfl⟩
  | 1,e=>cases e
  | 2,e=>cases e
  | 3,e=>cases e
  | 4,e=>cases e
  | i+5,e=>simp at e
 have htp:tp < H.length:=g.sp.lm 0 tp 0 rfl;refine⟨fun i j hne l e1 e2=> ?_,fun i b hb l e1 e2=> ?_,fun i c hc l hl' e=> ?_,fun i l o e=> ?_,fun b hb l o e=> ?_,fun c hc l hl'=> ?_⟩
 ·exact hne ((hM i l 0 e1).1.trans (hM j l 0 e2).1.symm)
 ·obtain⟨_,rfl,_⟩:=hM i l 0 e1;simp only[List.mem_cons,List.not_mem_nil,or_false] at hb;rcases hb with rfl | rfl | rfl
  ·exact g.sp.mf 0 _ (by simp) l rfl e2
  ·exact g.sp.mf 0 _ (by simp) l rfl e2
  ·have:=hS.above e2; omega
 ·obtain⟨_,rfl,_⟩:=hM i l 0 e;exact g.sp.mp 0 c (by simpa using hc) l hl' rfl
 ·obtain⟨_,rfl,_⟩:=hM i l o e; omega
 ·simp only[List.mem_cons,List.not_mem_nil,or_false] at hb;rcases hb with rfl | rfl | rfl
  ·have:=g.sp.lf _ (by simp) l o e; omega
  ·have:=g.sp.lf _ (by simp) l o e; omega
  ·exact hS.ltAny e
 ·have:=g.sp.lp c (by simpa using hc) l hl'; omega
theorem BJ.done (g:BJ B H tp tcs T x n xcs xT y yls sa k ss up m ucs uT ul m uls none [] none []):BS B H tp tcs T up m ucs uT ul uls:=by
 have hM:∀ i l o,([some (tp,0)]:List Pl).getD i none=some (l,o)→i=0∧l=tp∧o=0:=by
  intro i l o e
  match i,e with
  | 0,e=>cases e; exact⟨rfl,rfl,rfl⟩
  | i+1,e=>simp at e
 refine⟨g.pre,g.TP,g.UP,g.UL,fun i j hne l e1 e2=> ?_,fun i b hb l e1 e2=> ?_,fun i c hc l hl' e=> ?_,fun i l o e=> ?_,fun b hb l o e=> ?_,fun c hc l hl'=> ?_⟩
 ·exact hne ((hM i l 0 e1).1.trans (hM j l 0 e2).1.symm)
 ·obtain⟨_,rfl,_⟩:=hM i l 0 e1;simp only[List.mem_cons,List.not_mem_nil,or_false] at hb;rcases hb with rfl | rfl
  ·exact g.sp.mm 0 1 (by decide) l rfl e2
  ·exact g.sp.mm 0 2 (by decide) l rfl e2
 ·obtain⟨_,rfl,_⟩:=hM i l 0 e;refine g.sp.mp 0 c ?_ l hl' rfl;simp only[List.mem_append] at hc ⊢;rcases hc with q | q
  ·exact .inl (.inl q)
  ·exact .inr q
 ·obtain⟨_,rfl,_⟩:=hM i l o e;exact g.sp.lm 0 l 0 rfl
 ·simp only[List.mem_cons,List.not_mem_nil,or_false] at hb;rcases hb with rfl | rfl
  ·exact g.sp.lm 1 l o e
  ·exact g.sp.lm 2 l o e
 ·refine g.sp.lp c ?_ l hl';simp only[List.mem_append] at hc ⊢;rcases hc with q | q
  ·exact .inl (.inl q)
  ·exact .inr q
end
section
variable {B:Hp} {Q:Post} {tp:Nat}
theorem AP_ {xs:Lvl} {next0:Nat} {T0:List Pg} {x y:Pl} {xcs:List PC} {sa:Pl} {REST:Nat} (hn2:2≤xs.length) (hb:next0+xs.length≤48)
 (hK:∀ (F:Nat) (H:Hp) (tcs:List PC) (up:Pl) (ucs:List PC) (ul:Pl),REST≤F→BS B H tp tcs (dw_ T0 xs next0 xs.length) up (upD xs next0).length ucs ((upD xs next0).map (·.1)) ul ((upD xs next0).map (·.2))→
  a5_.l4 F none 0 (some (tp,0)) 48 up (upD xs next0).length ul (upD xs next0).length ((next0+xs.length:Nat):Int) H Q):
 ∀ (F i:Nat) (H:Hp) (tcs:List PC) (up:Pl) (ucs:List PC) (ul:Pl),xs.length+3*(kOf xs.length 5 - i)+REST < F+aN_ xs.length (kOf xs.length 5) i→i≤kOf xs.length 5→
  BJ B H tp tcs (dw_ T0 xs next0 (aN_ xs.length (kOf xs.length 5) i)) x xs.length xcs (xs.map (·.1)) y (xs.map (·.2)) sa (kOf xs.length 5) ((fx_ xs.length 5).map fun (x:Nat)=>(x:Int)) up i ucs (((List.range i).map (m8_ xs next0 (kOf xs.length 5))).map (·.1)) ul i (((List.range i).map (m8_ xs next0 (kOf xs.length 5))).map (·.2)) none [] none []→
  a5_.l9 F none 0 (some (tp,0)) 48 x xs.length y xs.length ((next0+aN_ xs.length (kOf xs.length 5) i:Nat):Int) up i ul i sa (kOf xs.length 5) ((aN_ xs.length (kOf xs.length 5) i:Nat):Int) (i:Int) H Q:=by
 have hk:=hR_ xs.length 5;have hSD:fx_ xs.length 5=(List.range (kOf xs.length 5)).map fun i=>aN_ xs.length (kOf xs.length 5) (i+1) - aN_ xs.length (kOf xs.length 5) i:=rfl;have hUD:upD xs next0=(List.range (kOf xs.length 5)).map (m8_ xs next0 (kOf xs.length 5)):=rfl;have hk2:kOf xs.length 5≤48:=by
  unfold kOf;have:(xs.length+5 - 1) / 5≤xs.length:=by omega
  omega
 generalize kOf xs.length 5=k at*;have hUl:(upD xs next0).length=k:=by rw[hUD]; simp
 rw[hUl] at hK;have hsl:((fx_ xs.length 5).map fun (x:Nat)=>(x:Int)).length=k:=by rw[hSD]; simp
 have hsg:∀ i (h:i < ((fx_ xs.length 5).map fun (x:Nat)=>(x:Int)).length),((fx_ xs.length 5).map fun (x:Nat)=>(x:Int))[i]=((aN_ xs.length k (i+1) - aN_ xs.length k i:Nat):Int):=fun i h=>by
  simp only[hSD,List.getElem_map,List.getElem_range]
 intro F;induction F using Nat.strongRecOn with
 | _ F ihF=>
  intro i H tcs up ucs ul hF hi g;have hci:=jW_ (n:=xs.length) (k:=k) (i:=i) hi hk;obtain⟨F,rfl⟩:∃ F',F=F'+1:=⟨F - 1,by omega⟩;rw[a5_.l9_eq];by_cases hik:i < k
  ·rw[aQ_ (by simp; omega)];have hmono:=i9_ xs.length k i;have hci1:=jW_ (n:=xs.length) (k:=k) (i:=i+1) (by omega) hk;have hclt:=Cc_ (n:=xs.length) hik (by omega);have isS:∀ {H tcs T up m ucs uT ul m2 uls kk ks ii is},BJ B H tp tcs T x xs.length xcs (xs.map (·.1)) y (xs.map (·.2)) sa k ((fx_ xs.length 5).map fun (x:Nat)=>(x:Int)) up m ucs uT ul m2 uls kk ks ii is→Is H sa k ((fx_ xs.length 5).map fun (x:Nat)=>(x:Int)):=fun g=>⟨g.S.cells,hsl.symm,by omega⟩;have isY:∀ {H tcs T up m ucs uT ul m2 uls kk ks ii is},BJ B H tp tcs T x xs.length xcs (xs.map (·.1)) y (xs.map (·.2)) sa k ((fx_ xs.length 5).map fun (x:Nat)=>(x:Int)) up m ucs uT ul m2 uls kk ks ii is→Ss H y xs.length (xs.map (·.2)):=fun g=>⟨g.Y.cells,by simp,by omega⟩;have w1:ad_ .i64 (((aN_ xs.length k i:Nat):Int)+((aN_ xs.length k (i+1) - aN_ xs.length k i:Nat):Int))=((aN_ xs.length k (i+1):Nat):Int):=by rw[cJ_ (by omega) (by omega)]; omega
   have inner:∀ (d G j:Nat) (H:Hp) (tcs:List PC) (kk ii:Pl),aN_ xs.length k (i+1) - j=d→aN_ xs.length k i≤j→j≤aN_ xs.length k (i+1)→xs.length+3*(k - i)+REST < G+j+1→G≤F→
    BJ B H tp tcs (dw_ T0 xs next0 j) x xs.length xcs (xs.map (·.1)) y (xs.map (·.2)) sa k ((fx_ xs.length 5).map fun (x:Nat)=>(x:Int)) up i ucs (((List.range i).map (m8_ xs next0 k)).map (·.1)) ul i (((List.range i).map (m8_ xs next0 k)).map (·.2))
     kk (((xs.drop (aN_ xs.length k i+1)).take (j - (aN_ xs.length k i+1))).map (·.2)) ii ((List.range (j - aN_ xs.length k i)).map fun r=>((next0+(aN_ xs.length k i+r):Nat):Int))→
    a5_.l13 G none 0 (some (tp,0)) 48 x xs.length y xs.length ((next0+j:Nat):Int) up i ul i sa k ((aN_ xs.length k i:Nat):Int) (i:Int) true false kk (((xs.drop (aN_ xs.length k i+1)).take (j - (aN_ xs.length k i+1))).map (·.2)).length none 0 ii ((List.range (j - aN_ xs.length k i)).map fun r=>((next0+(aN_ xs.length k i+r):Nat):Int)).length (j:Int) H Q:=by
    intro d;induction d with
    | zero=>
     intro G j H tcs kk ii hd hj1 hj2 hG hGF g;obtain rfl:j=aN_ xs.length k (i+1):=by omega
     obtain⟨G,rfl⟩:∃ G',G=G'+1:=⟨G - 1,by omega⟩;rw[a5_.l13_eq,am_,(isS g).rd i rfl (by rw[hsl]; exact hik),hsg,w1,aL_ (by simp),am_];refine g.page (by simp; omega) (by simp; omega) (by omega) fun u' H1 c g1=> ?_;rw[am_,(isY g1).rd (aN_ xs.length k i) rfl (by simp; omega),am_];refine g1.least _ (by omega) fun ul' H2 g2=> ?_;rw[am_,(isS g2).rd i rfl (by rw[hsl]; exact hik),hsg,w1,ar_ (by omega)];refine ihF G (by omega) (i+1) H2 tcs u' (ucs++[c]) ul' (by omega) (by omega) ?_;rw[List.range_succ,List.map_append,List.map_append,List.map_append];have e2:(m8_ xs next0 k i).2=(xs.map (·.2))[aN_ xs.length k i]'(by simp; omega):=by
      unfold m8_;dsimp only;rw[List.getElem?_eq_getElem hclt,List.getElem_map];rfl
     show BJ B H2 tp tcs (dw_ T0 xs next0 (aN_ xs.length k (i+1))) x xs.length xcs (xs.map (·.1)) y (xs.map (·.2)) sa k _ u' (i+1) (ucs++[c]) (_++[(m8_ xs next0 k i).1]) ul' (i+1) (_++[(m8_ xs next0 k i).2]) none [] none [];rw[e2];exact g2
    | succ d ihd=>
     intro G j H tcs kk ii hd hj1 hj2 hG hGF g;obtain⟨G,rfl⟩:∃ G',G=G'+1:=⟨G - 1,by omega⟩;have hjl:j < xs.length:=by omega
     rw[a5_.l13_eq,am_,(isS g).rd i rfl (by rw[hsl]; exact hik),hsg,w1,aQ_ (by simp; omega),am_];refine ab_ (by simp; omega) ?_;obtain⟨l,o,c,p,ex,hc,hp,hpc,g0,g1,g2,g3,g4⟩:=g.X.tr.get hjl;have etN:tN (j:Int)=j:=rfl;have etN2:0+tN ((next0+j:Nat):Int)*5=(next0+j)*5:=by rw[Nat.zero_add]; rfl
     have px:∀ K:Nat→Nat→Prop,pS x K=K l o:=fun K=>by rw[ex]; rfl
     rw[px,etN,ea_ g0 g1 g2 g3 g4,am_];refine ab_ (by simp; omega) ?_;rw[ah_,etN2];refine g.place (i:=next0+j) (by omega) hc hp fun H1 tcs1 h1=> ?_;have hpl:dw_ T0 xs next0 (j+1)=(dw_ T0 xs next0 j).set (next0+j) p:=by
      show (dw_ T0 xs next0 j).set (next0+j) _=_;have:((xs[j]?.map (·.1)).getD noPg)=p:=by
       rw[List.getElem?_map] at hp;rw[hp]; rfl
      rw[this]
     rw[←hpl] at h1;rw[am_];refine h1.kid _ (by simp; omega) fun ii' H2 h2=> ?_;have hr:(List.range (j+1 - aN_ xs.length k i)).map (fun r=>((next0+(aN_ xs.length k i+r):Nat):Int))=(List.range (j - aN_ xs.length k i)).map (fun r=>((next0+(aN_ xs.length k i+r):Nat):Int))++[((next0+j:Nat):Int)]:=by
      rw[show j+1 - aN_ xs.length k i=(j - aN_ xs.length k i)+1 by omega,List.range_succ,List.map_append];simp;omega
     rw[←hr] at h2;have hrl:((List.range (j - aN_ xs.length k i)).map (fun r=>((next0+(aN_ xs.length k i+r):Nat):Int))).length+1=((List.range (j+1 - aN_ xs.length k i)).map (fun r=>((next0+(aN_ xs.length k i+r):Nat):Int))).length:=by simp; omega
     rw[hrl];have wn:ad_ .i64 (((next0+j:Nat):Int)+1)=((next0+(j+1):Nat):Int):=by rw[cJ_ (by omega) (by omega)]; omega
     rw[wn,ar_ (by omega)];refine aa_ (fun e=> ?_) (fun e=> ?_)
     ·have hlj:aN_ xs.length k i < j:=by simpa using e
      have r:=fun K=>(isY h2).rd j (i:=(j:Int)) rfl (by simp; omega) K;rw[etN] at r;rw[am_,r,am_];refine h2.key _ (by simp; omega) fun kk' H3 h3=> ?_;have hks:((xs.drop (aN_ xs.length k i+1)).take (j+1 - (aN_ xs.length k i+1))).map (·.2)=((xs.drop (aN_ xs.length k i+1)).take (j - (aN_ xs.length k i+1))).map (·.2)++[(xs.map (·.2))[j]'(by simp; omega)]:=by
       rw[show j+1 - (aN_ xs.length k i+1)=(j - (aN_ xs.length k i+1))+1 by omega,List.take_succ_eq_append_getElem (by simp; omega),List.map_append];congr 1;simp;congr 2;omega
      rw[←hks] at h3;have hkl:(((xs.drop (aN_ xs.length k i+1)).take (j - (aN_ xs.length k i+1))).map (·.2)).length+1=(((xs.drop (aN_ xs.length k i+1)).take (j+1 - (aN_ xs.length k i+1))).map (·.2)).length:=by rw[hks,List.length_append]; rfl
      rw[hkl];exact ihd G (j+1) H3 tcs1 kk' ii' (by omega) (by omega) (by omega) (by omega) (by omega) h3
     ·have hlj:aN_ xs.length k i=j:=by simp at e; omega
      have hks:((xs.drop (aN_ xs.length k i+1)).take (j+1 - (aN_ xs.length k i+1))).map (·.2)=((xs.drop (aN_ xs.length k i+1)).take (j - (aN_ xs.length k i+1))).map (·.2):=by
       rw[show j+1 - (aN_ xs.length k i+1)=0 by omega,show j - (aN_ xs.length k i+1)=0 by omega]
      rw[←hks] at h2;rw[←hks];exact ihd G (j+1) H2 tcs1 kk ii' (by omega) (by omega) (by omega) (by omega) (by omega) h2
   have hstart:=inner _ F (aN_ xs.length k i) H tcs none none rfl (Nat.le_refl _) hmono (by omega) (Nat.le_refl _) (by
    rw[show aN_ xs.length k i - (aN_ xs.length k i+1)=0 by omega,show aN_ xs.length k i - aN_ xs.length k i=0 by omega];exact g)
   rw[show aN_ xs.length k i - (aN_ xs.length k i+1)=0 by omega,show aN_ xs.length k i - aN_ xs.length k i=0 by omega] at hstart;exact hstart
  ·obtain rfl:i=k:=by omega
   rw[aL_ (by simp)];rw[ld_ hk] at g hF ⊢;have hd:=g.done;rw[←hUD] at hd;exact hK F H tcs up ucs ul (by omega) hd
end
end Go.Am
namespace Go.Am
theorem OT.base {H:Hp} {b b':Nat} {t:TypeId} {a:Pl} {n:Nat} {cs:List PC} {T:List Pg} (h:OT H b t a n cs T) (hb:b'≤b):OT H b' t a n cs T:=⟨h.own.base hb,h.len,h.lenT,h.all,h.off⟩
section
variable {B:Hp} {Q:Post} {tp:Nat}
theorem Ar_:∀ (D:Nat) (xs:Lvl) (next:Nat) (T:List Pg) (F:Nat) (H:Hp) (tcs:List PC) (x:Pl) (xcs:List PC) (y:Pl),xs.length≤D→1≤xs.length→next+2*xs.length≤48→8*xs.length+8≤F→
 BS B H tp tcs T x xs.length xcs (xs.map (·.1)) y (xs.map (·.2))→(∀ H' tcs',B<+:H'→OT H' B.length tPg (some (tp,0)) 48 tcs' (gr_ D T next xs)→Q (.agg [.sl (some (tp,0)) 48 5]) H')→
 a5_.l4 F none 0 (some (tp,0)) 48 x xs.length y xs.length (next:Int) H Q:=by
 intro D;induction D with
 | zero=>intro xs _ _ _ _ _ _ _ _ h1 h2; omega
 | succ D ih=>
  intro xs next T F H tcs x xcs y hD h1 hb hF g hQ;obtain⟨F,rfl⟩:∃ F',F=F'+1:=⟨F - 1,by omega⟩;rw[a5_.l4_eq];refine aa_ (fun e=> ?_) (fun e=> ?_)
  ·have h2:2≤xs.length:=by simp at e; omega
   have hk2:2*kOf xs.length 5≤xs.length:=by
    unfold kOf;have:2*((xs.length+5 - 1) / 5)≤xs.length:=by omega
    omega
   have hk0:=hR_ xs.length 5;have hUl:(upD xs next).length=kOf xs.length 5:=by unfold upD; simp
   refine j7_ (n:=xs.length) (most:=5) (by omega) (by omega) (by omega) fun sa H1 p1 oS _=> ?_;simp only[aK_,as_];have hst:=g.start p1 oS;have:=AP_ (Q:=Q) (B:=B) (tp:=tp) (xs:=xs) (next0:=next) (T0:=T) (x:=x) (y:=y) (xcs:=xcs) (sa:=sa) (REST:=8*kOf xs.length 5+8) h2 (by omega) (fun F2 H2 tcs2 up ucs ul hF2 g2=>by
    refine ih (upD xs next) (next+xs.length) (dw_ T xs next xs.length) F2 H2 tcs2 up ucs ul (by omega) (by omega) (by omega) (by omega) g2 fun H' tcs' hp ho=> ?_;refine hQ H' tcs' hp ?_;have e2:gr_ (D+1) T next xs=gr_ D (dw_ T xs next xs.length) (next+xs.length) (upD xs next):=by
     show (match decide (1 < xs.length) with | true=>_ | false=>_)=_;rw[decide_eq_true (by omega)]
    rw[e2];exact ho) F 0 H1 tcs none [] none (by rw[e3_]; omega) (Nat.zero_le _) (by rw[e3_]; exact hst)
   rw[e3_] at this;exact this
  ·have h11:xs.length=1:=by simp at e; omega
   rw[am_];refine ab_ (by simp; omega) ?_;obtain⟨l,o,c,p,ex,hc,hp,hpc,g0,g1,g2,g3,g4⟩:=g.X.tr.get (i:=0) (by omega);have px:∀ K:Nat→Nat→Prop,pS x K=K l o:=fun K=>by rw[ex]; rfl
   have et0:tN 0=0:=rfl;rw[px,et0,ea_ g0 g1 g2 g3 g4,am_];refine ab_ (by simp) ?_;have e0:0+0*5=0*5:=by omega
   rw[ah_,e0];refine (g.start (sa:=none) (k:=0) (ss:=[]) (List.prefix_refl _) (.inl ⟨rfl,rfl,rfl⟩)).place (i:=0) (by omega) hc hp fun H' tcs' g'=> ?_;refine hQ H' tcs' g'.pre ?_;have e2:gr_ (D+1) T next xs=T.set 0 p:=by
    show (match decide (1 < xs.length) with | true=>_ | false=>_)=_;rw[decide_eq_false (by omega)];dsimp only;rw[List.getElem?_map] at hp;rw[hp]; rfl
   rw[e2];exact g'.TP
theorem qW_ {H:Hp} {a:Pl} {n:Nat} {ps:KV} (hp:Kv H a n ps) (hn:n≤64) (hQ:∀ H' tp cs,H<+:H'→OT H' H.length tPg (some (tp,0)) 48 cs (m4_ ps)→Q (.agg [.sl (some (tp,0)) 48 5]) H'):a5_ [.g (.sl a n 2)] H Q:=by
 have hpl:=hp.len;refine⟨8*17+20,?_⟩;rw[t4_];refine iJ_ fun H1 p1 o1=> ?_;simp only[f4_,bA_,as_,b0_];refine pT_ (hp.mono p1) (by omega) fun x y cs H2 p2 oX oY hxy hyo hlo=> ?_;simp only[f4_,bA_,as_,b0_];have hL:(b3_ ps).length=kOf ps.length 4:=by unfold b3_; simp
 have hk:kOf ps.length 4≤17:=by unfold kOf; omega
 have hk0:=hR_ ps.length 4;have l1:=p1.length_le;have htp:H.length < H1.length:=o1.own.ltAny rfl;have l2:=p2.length_le;have o2:=o1.mono p2;have hM:∀ i l o,([some (H.length,0)]:List Pl).getD i none=some (l,o)→i=0∧l=H.length∧o=0:=by
  intro i l o e
  match i,e with
  | 0,e=>cases e; exact⟨rfl,rfl,rfl⟩
  | i+1,e=>simp at e
 have g:BS H H2 H.length qj_ jR_ x (b3_ ps).length cs ((b3_ ps).map (·.1)) y ((b3_ ps).map (·.2)):=by
  refine⟨p1.trans p2,o2,oX.base l1,oY.base l1,fun i j hne l e1 e2=> ?_,fun i b hb l e1 e2=> ?_,fun i c hc l hl' e=> ?_,fun i l o e=> ?_,fun b hb l o e=> ?_,fun c hc l hl'=> ?_⟩
  ·exact hne ((hM i l 0 e1).1.trans (hM j l 0 e2).1.symm)
  ·obtain⟨_,rfl,_⟩:=hM i l 0 e1;simp only[List.mem_cons,List.not_mem_nil,or_false] at hb;rcases hb with rfl | rfl
   ·have:=oX.own.above e2; omega
   ·have:=oY.above e2; omega
  ·obtain⟨_,rfl,_⟩:=hM i l 0 e;rcases List.mem_append.1 hc with q | q
   ·exact tn_ c q _ hl'
   ·have:=hlo c q _ hl'; omega
  ·obtain⟨_,rfl,_⟩:=hM i l o e; omega
  ·simp only[List.mem_cons,List.not_mem_nil,or_false] at hb;rcases hb with rfl | rfl
   ·exact oX.own.ltAny e
   ·exact oY.ltAny e
  ·rcases List.mem_append.1 hc with q | q
   ·exact (tn_ c q _ hl').elim
   ·exact oX.onlt q hl'
 refine Ar_ 64 (b3_ ps) 1 jR_ (8*17+19) H2 qj_ x cs y (by omega) (by omega) (by omega) (by omega) g fun H' tcs' hp' ho=> ?_;exact hQ H' H.length tcs' hp' ho
end
end Go.Am
namespace Go.Am
structure CT (B H:Hp) (t:TypeId) (a:Pl) (n:Nat) (ds:List PC) (T:List Pg):Prop where
 pre:B<+:H
 ot:OT H B.length t a n ds T
 own:∀ i (h:i < ds.length) (h':i < T.length),(ds[i]).own H B.length T[i]
 ap:∀ i j (hi:i < ds.length) (hj:j < ds.length),i≠j→∀ l,(ds[i]).on l→ ¬ (ds[j]).on l
section
variable {B H H':Hp} {t:TypeId} {a:Pl} {n:Nat} {ds:List PC} {T:List Pg}
theorem CT.mono (g:CT B H t a n ds T) (hp:H<+:H'):CT B H' t a n ds T:=
 ⟨g.pre.trans hp,g.ot.mono hp,fun i h h'=>(g.own i h h').keep fun l hl=>cd_ hp (g.ot.onlt (List.getElem_mem h) hl),g.ap⟩
theorem CT.setRow (g:CT B H t a n ds T) {i:Nat} (hi:i < ds.length) (hi':i < T.length) {l:Nat} (hon:(ds[i]).on l) (x:Obj) (hb:B.length≤l) (p:Pg)
 (hat:(ds[i]).at (H.set l x) p) (how:(ds[i]).own (H.set l x) B.length p):CT B (H.set l x) t a n ds (T.set i p):=by
 have q1:=g.ot.len;have q2:=g.ot.lenT;have other:∀ j (h:j < ds.length),j≠i→∀ m,(ds[j]).on m→(H.set l x)[m]? =H[m]? :=fun j h hne m hm=>by
  rw[List.getElem?_set_ne];intro e; subst e;exact g.ap i j hi h (Ne.symm hne) l hon hm
 refine⟨d2_ g.pre hb x,⟨g.ot.own.keep fun m e=> ?_,q1,by simp [q2],fun j h1 h2=> ?_,g.ot.off⟩,fun j h1 h2=> ?_,g.ap⟩
 ·rw[List.getElem?_set_ne];intro e'; subst e';exact g.ot.off _ (List.getElem_mem hi) l hon e
 ·rw[List.getElem_set];by_cases e:i=j
  ·subst e; rw[if_pos rfl]; exact hat
  ·rw[if_neg e];simp at h2;exact (g.ot.all j h1 h2).keep (other j h1 (Ne.symm e))
 ·rw[List.getElem_set];by_cases e:i=j
  ·subst e; rw[if_pos rfl]; exact how
  ·rw[if_neg e];simp at h2;exact (g.own j h1 h2).keep (other j h1 (Ne.symm e))
theorem CT.key (g:CT B H t a n ds T) {i j:Nat} (hi:i < ds.length) (hi':i < T.length) (hj:j < (T[i]).keys.length) (s:ByteArray) {K:Hp→Prop}
 (hK:∀ H',CT B H' t a n ds (T.set i { T[i] with keys:=(T[i]).keys.set j s })→K H'):∃ l,(ds[i]).a1=some (l,0)∧wr H l j (.str s) K:=by
 have ho:=g.own i hi hi';have hat:=g.ot.all i hi hi';rcases ho.keys with⟨_,h,_⟩ | ⟨l,e,hb,hr,hl⟩
 ·have:=hat.keys.len; omega
 have hlt:=(List.getElem?_eq_some_iff.1 hr).1;have hon:(ds[i]).on l:=⟨0,.inl e⟩;refine⟨l,e,c3_ hr (by simpa using hj) ?_⟩;rw[←List.map_set];have keep:∀ {tt:TypeId} {x:Pl} {m:Nat} {es:List GV} (y:Obj),Own H B.length tt x m es→Dr (ds[i]).a1 x→Own (H.set l y) B.length tt x m es:=fun y h hd=>h.keep fun m e'=>by
  rw[List.getElem?_set_ne]; intro q; subst q; exact hd l 0 0 e e'
 have how:(ds[i]).own (H.set l (.row true tS (((T[i]).keys.set j s).map GV.str))) B.length { T[i] with keys:=(T[i]).keys.set j s }:=
  ⟨ho.used,ho.leaf,.inr ⟨l,e,hb,List.getElem?_set_self hlt,by simpa using hl⟩,keep _ ho.vals ho.d12,keep _ ho.kids ho.d13,ho.d12,ho.d13,ho.d23⟩
 refine hK _ (g.setRow hi hi' hon _ hb _ ⟨hat.used,hat.leaf,⟨how.keys.cells,?_,hat.keys.lim⟩,⟨how.vals.cells,hat.vals.len,hat.vals.lim⟩,⟨how.kids.cells,hat.kids.len,hat.kids.lim⟩⟩ how);simpa using hat.keys.len
theorem CT.kid (g:CT B H t a n ds T) {i j:Nat} (hi:i < ds.length) (hi':i < T.length) (hj:j < (T[i]).kids.length) (s:Int) {K:Hp→Prop}
 (hK:∀ H',CT B H' t a n ds (T.set i { T[i] with kids:=(T[i]).kids.set j s })→K H'):∃ l,(ds[i]).a3=some (l,0)∧wr H l j (.int .i64 s) K:=by
 have ho:=g.own i hi hi';have hat:=g.ot.all i hi hi';rcases ho.kids with⟨_,h,_⟩ | ⟨l,e,hb,hr,hl⟩
 ·have:=hat.kids.len; omega
 have hlt:=(List.getElem?_eq_some_iff.1 hr).1;have hon:(ds[i]).on l:=⟨0,.inr (.inr e)⟩;refine⟨l,e,c3_ hr (by simpa using hj) ?_⟩;rw[←List.map_set];have keep:∀ {tt:TypeId} {x:Pl} {m:Nat} {es:List GV} (y:Obj),Own H B.length tt x m es→Dr x (ds[i]).a3→Own (H.set l y) B.length tt x m es:=fun y h hd=>h.keep fun m e'=>by
  rw[List.getElem?_set_ne]; intro q; subst q; exact hd l 0 0 e' e
 have how:(ds[i]).own (H.set l (.row true tI (((T[i]).kids.set j s).map (GV.int .i64)))) B.length { T[i] with kids:=(T[i]).kids.set j s }:=
  ⟨ho.used,ho.leaf,keep _ ho.keys ho.d13,keep _ ho.vals ho.d23,.inr ⟨l,e,hb,List.getElem?_set_self hlt,by simpa using hl⟩,ho.d12,ho.d13,ho.d23⟩
 refine hK _ (g.setRow hi hi' hon _ hb _ ⟨hat.used,hat.leaf,⟨how.keys.cells,hat.keys.len,hat.keys.lim⟩,⟨how.vals.cells,hat.vals.len,hat.vals.lim⟩,⟨how.kids.cells,?_,hat.kids.lim⟩⟩ how);simpa using hat.kids.len
theorem py_ {Q:Post} {cs:List PC} (hT:Tr H a n cs T) (hn:n*80≤140737488351232) (hQ:∀ a' ds H',CT H H' tPg a' n ds T→Q (.agg [.sl a' n 5]) H'):bJ_ [.agg [.sl a n 5]] H Q:=
 mJ_ hT hn fun a' ds H' p o1 o2 o3=>hQ a' ds H' ⟨p,o1,o2,o3⟩
end
theorem Cm_:aU_ jR_=1:=by decide+kernel
section
variable {H:Hp} {Q:Post}
end
end Go.Am
namespace Go.Am
section
variable {H:Hp} {Q:Post}
end
theorem Own.kv {H:Hp} {b:Nat} {t:TypeId} {a:Pl} {n:Nat} {ps:KV} (h:Own H b t a (n*2) (bN_ ps)) (hl:ps.length=n):Kv H a n ps:=⟨h.cells,hl⟩
end Go.Am
namespace Go.Am
theorem mZ_ {H:Hp} {a:Pl} {n:Nat} {cs:List GV} (h:cells? H a n=some cs) (k m:Nat) (hm:k+m≤n):cells? H (shf a k) m=some ((cs.drop k).take m):=by
 cases a with
 | none=>simp [cells?] at h; obtain⟨rfl,rfl⟩:=h; simp [cells?]; omega
 | some p=>
  obtain⟨l,o⟩:=p;unfold cells? at h;simp only at h;cases hr:H[l]? with
  | none=>rw[hr] at h; cases h
  | some x=>
   rw[hr] at h;cases x with
   | row own t ds=>
    simp only at h;split at h
    ·rename_i hle;cases h;simp only[s1_,cells?,hr];rw[if_pos (by omega),List.drop_take,List.take_take,List.drop_drop,Nat.min_eq_left (by omega)]
    ·cases h
   | _=>cases h
theorem Ss.part {H:Hp} {a:Pl} {n:Nat} {xs:List ByteArray} (h:Ss H a n xs) (k m:Nat) (hm:k+m≤n):Ss H (shf a k) m ((xs.drop k).take m):=by
 have hn:=h.len;have hl:=h.lim;refine⟨?_,by simp; omega,by omega⟩;rw[mZ_ h.cells k m hm,List.map_take,List.map_drop]
theorem w4_ (cs:List PC) (i j:Nat) (v:GV) (c:PC) (hi:i < cs.length) (hj:j < 5) (hc:c.cells=(cs[i].cells).set j v):(cb_ cs).set (i*5+j) v=cb_ (cs.set i c):=by
 induction cs generalizing i with
 | nil=>simp at hi
 | cons d cs ih=>
  have e:cb_ (d::cs)=d.cells++cb_ cs:=rfl;cases i with
  | zero=>
   rw[e,Nat.zero_mul,Nat.zero_add,List.set_append_left _ _ (by simpa using hj)];show _=c.cells++cb_ cs;rw[hc]; rfl
  | succ i=>
   rw[e,List.set_append_right _ _ (by simp; omega)];show _=d.cells++cb_ (cs.set i c);rw[←ih i (by simpa using hi) (by simpa using hc)];congr 2;simp; omega
section
variable {B H:Hp} {t:TypeId} {tp:Nat} {n:Nat} {cs:List PC} {T:List Pg} {i:Nat} {c:PC} {p:Pg}
theorem OT.at_row (h:OT H B.length t (some (tp,0)) n cs T):B.length≤tp∧H[tp]? =some (.row true t (cb_ cs)):=by
 rcases h.own with⟨e,_⟩ | ⟨l,e,hb,hr,hl⟩
 ·cases e
 cases e;exact⟨hb,hr⟩
theorem OT.gt (h:OT H B.length t (some (tp,0)) n cs T) (hi:i < cs.length) {j:Nat} (hj:j < 5):Am.gt H tp (i*5+j)=(cs[i].cells)[j]? :=by
 rw[bO_ h.at_row.2,ts_ hi hj]
theorem OT.cell (h:OT H B.length t (some (tp,0)) n cs T) (hi:i < n) (hi':i < cs.length) {j:Nat} (hj:j < 5) {v:GV} (hcell:c.cells=(cs[i].cells).set j v) (hc:c.at H p) (hoff:∀ l,c.on l→l≠tp) {K:Hp→Prop}
 (hK:∀ H',(∀ B',B'<+:H→B'.length≤tp→B'<+:H')→OT H' B.length t (some (tp,0)) n (cs.set i c) (T.set i p)→K H'):wr H tp (i*5+j) v K:=by
 obtain⟨hb,hr⟩:=h.at_row;refine c3_ hr (by rw[db_]; omega) ?_;rw[w4_ cs i j v c hi' hj hcell];exact hK _ (fun B' hp hl=>d2_ hp hl _) (h.place hi hc hoff)
theorem Tr.take {H:Hp} {a:Pl} {n:Nat} {cs:List PC} {T:List Pg} (h:Tr H a n cs T) {m:Nat} (hm:m≤n):Tr H (shf a 0) m (cs.take m) (T.take m):=by
 have q1:=h.len;have q2:=h.lenT;refine⟨?_,by simp [q1]; omega,by simp [q2]; omega,fun i h1 h2=> ?_⟩
 ·have e:cb_ (cs.take m)=(cb_ cs).take (m*5):=by
   have:=iL_ (cs.take m) (cs.drop m);rw[List.take_append_drop] at this;rw[this,List.take_left' (by rw[db_]; simp [q1]; omega)]
  rw[e,mZ_ h.cells 0 (m*5) (by omega),List.drop_zero]
 ·simp at h1 h2;rw[List.getElem_take,List.getElem_take];exact h.all i (by omega) (by omega)
end
end Go.Am
namespace Go.Am
theorem xu_ {T:List Pg} (h:0 < aU_ T):∃ st,T.length=48∧cj_ T 49 0 1 (mkS []) (mkS []) ws0=some st∧fN_ T st.met=true∧st.count≤60∧aU_ T=st.deep:=by
 unfold aU_ at h ⊢;by_cases hl:T.length=48
 ·rw[decide_eq_true hl] at h ⊢;dsimp only at h ⊢;cases hw:cj_ T 49 0 1 (mkS []) (mkS []) ws0 with
  | none=>rw[hw] at h; simp at h
  | some st=>
   rw[hw] at h;dsimp only at h ⊢;cases hr:fN_ T st.met&&decide (st.count≤60) with
   | false=>rw[hr] at h; simp at h
   | true=>
    rw[Bool.and_eq_true,decide_eq_true_eq] at hr;exact⟨st,hl,rfl,hr.1,hr.2,rfl⟩
 ·rw[decide_eq_false hl] at h; simp at h
theorem wn_ {T:List Pg} (h:cj_ T 49 0 1 (mkS []) (mkS []) ws0=none):aU_ T=0:=by
 unfold aU_;cases decide (T.length=48) with
 | false=>rfl
 | true=>dsimp only; rw[h]
theorem xn_ {T:List Pg} {st:WS} (h:cj_ T 49 0 1 (mkS []) (mkS []) ws0=some st) (hr:fN_ T st.met=false):aU_ T=0:=by
 unfold aU_;cases decide (T.length=48) with
 | false=>rfl
 | true=>dsimp only; rw[h]; dsimp only; rw[hr]; rfl
theorem lS_ (i:Nat) (h:i < 48):ws0.met[i]? =some false:=by
 show (List.replicate 48 false)[i]? =some false;rw[List.getElem?_replicate,if_pos h]
theorem jV_ {p:Pg} {a:Nat} {lo hi:ByteArray} {st:WS} (h:okD p a lo hi st=true):st.met[a]? =some false∧j3_ p=true∧(0 < a→2≤p.keys.length)∧e9_ lo hi p.keys=true:=by
 unfold okD at h;simp only[Bool.and_eq_true] at h;obtain⟨h1,h2,h3,h4⟩:=h;refine⟨?_,h2,fun ha=> ?_,h4⟩
 ·cases hq:st.met[a]? with
  | none=>rw[hq] at h1; simp at h1
  | some b=>rw[hq] at h1; simp at h1; rw[h1]
 ·have:decide (0 < a)=true:=decide_eq_true ha;rw[this,Bool.true_and] at h3;simp at h3; omega
theorem gK_ {p:Pg} {deep:Nat} {st st':WS} (h:h7_ p deep st=some st'):st'.met=st.met∧st'.count=st.count+p.keys.length∧st'.deep=deep∧(st.deep=0∨st.deep=deep):=by
 unfold h7_ at h;split at h
 ·rename_i e; cases h; exact⟨rfl,rfl,rfl,.inl (of_decide_eq_true e)⟩
 ·split at h
  ·rename_i e; cases h; exact⟨rfl,rfl,rfl,.inr (of_decide_eq_true e)⟩
  ·cases h
theorem eV_ {T:List Pg} {f a deep:Nat} {lo hi:ByteArray} {st st':WS} (h:cj_ T (f+1) a deep lo hi st=some st'):∃ p,T[a]? =some p∧okD p a lo hi st=true∧
 ((p.leaf=true∧h7_ p deep ⟨st.met.set a true,st.deep,st.count⟩=some st')∨(p.leaf=false∧fp_ (fun k i s=>cj_ T f k.toNat (deep+1) (loK p lo i) (hiK p hi i) s) p.kids 0 ⟨st.met.set a true,st.deep,st.count⟩=some st')):=by
 cases hp:T[a]? with
 | none=>unfold cj_ at h; rw[hp] at h; cases h
 | some p=>
  rw[h0_ T f a deep lo hi st hp] at h;refine⟨p,rfl,?_⟩;cases hok:okD p a lo hi st with
  | false=>rw[hok] at h; cases h
  | true=>
   rw[hok] at h;dsimp only at h;cases hl:p.leaf with
   | true=>rw[hl] at h; exact⟨rfl,.inl ⟨rfl,h⟩⟩
   | false=>rw[hl] at h; exact⟨rfl,.inr ⟨rfl,h⟩⟩
theorem zz_ {rec:Int→Nat→WS→Option WS} {R:WS→WS→Prop} {P:List Int→WS→WS→Prop} (hnil:∀ s,P [] s s) (hcons:∀ k ks i s s1 s',rec k i s=some s1→fp_ rec ks (i+1) s1=some s'→P ks s1 s'→P (k::ks) s s'):
 ∀ (ks:List Int) (i:Nat) (s s':WS),fp_ rec ks i s=some s'→P ks s s':=by
 intro ks;induction ks with
 | nil=>intro i s s' h; cases h; exact hnil s
 | cons k ks ih=>
  intro i s s' h;rw[er_] at h;cases hr:rec k i s with
  | none=>rw[hr] at h; cases h
  | some s1=>rw[hr] at h; exact hcons k ks i s s1 s' hr h (ih (i+1) s1 s' h)
theorem jA_ {rec:Int→Nat→WS→Option WS} {P:List Int→WS→WS→Prop} (hnil:∀ s,P [] s s) (hcons:∀ k ks i s s1 s',rec k i s=some s1→P ks s1 s'→P (k::ks) s s'):
 ∀ (ks:List Int) (i:Nat) (s s':WS),fp_ rec ks i s=some s'→P ks s s':=
 zz_ (R:=fun _ _=>True) hnil fun k ks i s s1 s' h _ hp=>hcons k ks i s s1 s' h hp
theorem jd_ (T:List Pg):∀ (f a deep:Nat) (lo hi:ByteArray) (st st':WS),cj_ T f a deep lo hi st=some st'→(∀ j:Nat,st.met[j]? =some true→st'.met[j]? =some true)∧st'.met[a]? =some true∧
 (∀ j,st'.met[j]? =some true→st.met[j]? =some true∨∃ p,T[j]? =some p∧j3_ p=true∧(0 < j→2≤p.keys.length)):=by
 intro f;induction f with
 | zero=>intro _ _ _ _ _ _ h; cases h
 | succ f ih=>
  intro a deep lo hi st st' h;obtain⟨p,hp,hok,hcase⟩:=eV_ h;obtain⟨hm,hmay,h2,_⟩:=jV_ hok;have hlt:a < st.met.length:=(List.getElem?_eq_some_iff.1 hm).1;have set1:∀ j,st.met[j]? =some true→(st.met.set a true)[j]? =some true:=fun j hj=>by
   by_cases e:a=j
   ·subst e; exact List.getElem?_set_self hlt
   ·rw[List.getElem?_set_ne e]; exact hj
  have set2:(st.met.set a true)[a]? =some true:=List.getElem?_set_self hlt;have set3:∀ j,(st.met.set a true)[j]? =some true→st.met[j]? =some true∨∃ p,T[j]? =some p∧j3_ p=true∧(0 < j→2≤p.keys.length):=fun j hj=>by
   by_cases e:a=j
   ·subst e; exact .inr ⟨p,hp,hmay,h2⟩
   ·rw[List.getElem?_set_ne e] at hj; exact .inl hj
  rcases hcase with⟨hl,hlf⟩ | ⟨hl,hk⟩
  ·obtain⟨e1,_⟩:=gK_ hlf;rw[e1];exact⟨set1,set2,set3⟩
  ·have key:=jA_ (P:=fun _ s s'=>(∀ j,s.met[j]? =some true→s'.met[j]? =some true)∧(∀ j,s'.met[j]? =some true→s.met[j]? =some true∨∃ p,T[j]? =some p∧j3_ p=true∧(0 < j→2≤p.keys.length)))
    (fun s=>⟨fun j hj=>hj,fun j hj=> .inl hj⟩) (fun k ks i s s1 s' hr hP=>by
     obtain⟨q1,_,q3⟩:=ih _ _ _ _ _ _ hr;refine⟨fun j hj=>hP.1 j (q1 j hj),fun j hj=> ?_⟩;rcases hP.2 j hj with q | q
     ·exact q3 j q
     ·exact .inr q) _ _ _ _ hk
   dsimp only at key;refine⟨fun j hj=>key.1 j (set1 j hj),key.1 a set2,fun j hj=> ?_⟩;rcases key.2 j hj with q | q
   ·exact set3 j q
   ·exact .inr q
theorem ti_ (T T':List Pg) (i:Nat) (hT:∀ j,j≠i→T'[j]? =T[j]?):∀ (f a deep:Nat) (lo hi:ByteArray) (st st':WS),cj_ T f a deep lo hi st=some st'→st'.met[i]? ≠some true→cj_ T' f a deep lo hi st=some st':=by
 intro f;induction f with
 | zero=>intro _ _ _ _ _ _ h; cases h
 | succ f ih=>
  intro a deep lo hi st st' h hi';obtain⟨m1,m2,_⟩:=jd_ T _ _ _ _ _ _ _ h;obtain⟨p,hp,hok,hcase⟩:=eV_ h;have ha:a≠i:=fun e=>hi' (by rw[←e]; exact m2);rw[h0_ T' f a deep lo hi st (by rw[hT a ha]; exact hp),hok];dsimp only;rcases hcase with⟨hl,hlf⟩ | ⟨hl,hk⟩
  ·rw[hl]; exact hlf
  ·rw[hl];dsimp only;have key:∀ (ks:List Int) (n:Nat) (s s':WS),fp_ (fun k i s=>cj_ T f k.toNat (deep+1) (loK p lo i) (hiK p hi i) s) ks n s=some s'→s'.met[i]? ≠some true→fp_ (fun k i s=>cj_ T' f k.toNat (deep+1) (loK p lo i) (hiK p hi i) s) ks n s=some s':=by
    intro ks;induction ks with
    | nil=>intro n s s' h _; exact h
    | cons k ks ihk=>
     intro n s s' h hne;rw[er_] at h ⊢;cases hr:cj_ T f k.toNat (deep+1) (loK p lo n) (hiK p hi n) s with
     | none=>rw[hr] at h; cases h
     | some s1=>
      rw[hr] at h;dsimp only at h;have mono:∀ j,s1.met[j]? =some true→s'.met[j]? =some true:=
       jA_ (rec:=fun k i s=>cj_ T f k.toNat (deep+1) (loK p lo i) (hiK p hi i) s) (P:=fun _ s s'=>∀ j,s.met[j]? =some true→s'.met[j]? =some true) (fun s j hj=>hj) (fun k ks i s s1 s' hr hP j hj=>hP j ((jd_ T _ _ _ _ _ _ _ hr).1 j hj)) _ _ _ _ h
      rw[ih _ _ _ _ _ _ hr (fun e=>hne (mono i e))];exact ihk (n+1) s1 s' h hne
   exact key _ _ _ _ hk hi'
theorem zp_ (T T':List Pg) (i:Nat) {q:Pg} (hT:∀ j,j≠i→T'[j]? =T[j]?) (hq:T'[i]? =some q) (hbad:∀ lo hi st,okD q i lo hi st=false):∀ (f a deep:Nat) (lo hi:ByteArray) (st st':WS),cj_ T f a deep lo hi st=some st'→st.met[i]? ≠some true→st'.met[i]? =some true→cj_ T' f a deep lo hi st=none:=by
 intro f;induction f with
 | zero=>intro _ _ _ _ _ _ h; cases h
 | succ f ih=>
  intro a deep lo hi st st' h h1 h2;by_cases ha:a=i
  ·subst ha;rw[h0_ T' f a deep lo hi st hq,hbad]
  obtain⟨p,hp,hok,hcase⟩:=eV_ h;rw[h0_ T' f a deep lo hi st (by rw[hT a ha]; exact hp),hok];dsimp only;have hs:(st.met.set a true)[i]? ≠some true:=by rw[List.getElem?_set_ne ha]; exact h1
  rcases hcase with⟨hl,hlf⟩ | ⟨hl,hk⟩
  ·rw[hl];obtain⟨e1,_⟩:=gK_ hlf;rw[e1] at h2;exact (hs h2).elim
  ·rw[hl];dsimp only;have key:∀ (ks:List Int) (n:Nat) (s s':WS),fp_ (fun k i s=>cj_ T f k.toNat (deep+1) (loK p lo i) (hiK p hi i) s) ks n s=some s'→s.met[i]? ≠some true→s'.met[i]? =some true→fp_ (fun k i s=>cj_ T' f k.toNat (deep+1) (loK p lo i) (hiK p hi i) s) ks n s=none:=by
    intro ks;induction ks with
    | nil=>intro n s s' h q1 q2; cases h; exact (q1 q2).elim
    | cons k ks ihk=>
     intro n s s' h q1 q2;rw[er_] at h ⊢;cases hr:cj_ T f k.toNat (deep+1) (loK p lo n) (hiK p hi n) s with
     | none=>rw[hr] at h; cases h
     | some s1=>
      rw[hr] at h;dsimp only at h;by_cases e:s1.met[i]? =some true
      ·rw[ih _ _ _ _ _ _ hr q1 e]
      ·rw[ti_ T T' i hT _ _ _ _ _ _ _ hr e];exact ihk (n+1) s1 s' h e q2
   exact key _ _ _ _ hk hs h2
end Go.Am
namespace Go.Am
theorem vs_ {T:List Pg} {met:List Bool} (h:fN_ T met=true) {i:Nat} (hi:i < T.length) {p:Pg} (hp:T[i]? =some p):met[i]?.getD true=true∨c6_ p=true:=by
 unfold fN_ at h;rw[List.all_eq_true] at h;have:=h i (List.mem_range.2 hi);rw[hp,Option.getD_some,Bool.or_eq_true] at this;exact this
theorem x0_ {T:List Pg} {met:List Bool} {i:Nat} (hi:i < T.length) {p:Pg} (hp:T[i]? =some p) (hm:met[i]? =some false) (hn:c6_ p=false):fN_ T met=false:=by
 unfold fN_;rw[List.all_eq_false];exact⟨i,List.mem_range.2 hi,by rw[hm,hp,Option.getD_some,Option.getD_some,hn]; simp⟩
structure SF (T:List Pg) (st:WS):Prop where
 len:T.length=48
 walk:cj_ T 49 0 1 (mkS []) (mkS []) ws0=some st
 rest:fN_ T st.met=true
 count:st.count≤60
 height:aU_ T=st.deep
 metlen:st.met.length=48
theorem SF.of {T:List Pg} (h:0 < aU_ T):∃ st,SF T st:=by
 obtain⟨st,h1,h2,h3,h4,h5⟩:=xu_ h;exact⟨st,h1,h2,h3,h4,h5,(g7_ T _ _ _ _ _ _ _ h2).2.1⟩
section
variable {T:List Pg} {st:WS}
theorem SF.used (s:SF T st) {i:Nat} {p:Pg} (hp:T[i]? =some p) (hu:p.used=true):st.met[i]? =some true∧j3_ p=true∧(0 < i→2≤p.keys.length):=by
 have hi:i < 48:=by have:=(List.getElem?_eq_some_iff.1 hp).1; have:=s.len; omega
 have hm:st.met[i]? =some true:=by
  rcases vs_ s.rest (by rw[s.len]; exact hi) hp with h | h
  ·rw[List.getElem?_eq_getElem (by rw[s.metlen]; exact hi)] at h ⊢;simpa using h
  ·unfold c6_ at h; rw[hu] at h; simp at h
 refine⟨hm,?_⟩;rcases (jd_ T _ _ _ _ _ _ _ s.walk).2.2 i hm with h | ⟨q,hq,h1,h2⟩
 ·rw[lS_ i hi] at h; cases h
 ·rw[hp] at hq; cases hq; exact⟨h1,h2⟩
theorem SF.free (s:SF T st) {i:Nat} {p:Pg} (hp:T[i]? =some p) (hm:st.met[i]? =some false):p.used=false:=by
 cases hu:p.used with
 | false=>rfl
 | true=>rw[(s.used hp hu).1] at hm; cases hm
theorem SF.more (s:SF T st) {i:Nat} (hi:i < 48) {p q:Pg} (hp:T[i]? =some p) (hu:p.used=false) (hq:c6_ q=false):aU_ (T.set i q)=0:=by
 have hm:st.met[i]? =some false:=by
  rw[List.getElem?_eq_getElem (by rw[s.metlen]; exact hi)];cases e:st.met[i]'(by rw[s.metlen]; exact hi) with
  | false=>rfl
  | true=>
   have hm:st.met[i]? =some true:=by rw[List.getElem?_eq_getElem (by rw[s.metlen]; exact hi),e]
   rcases (jd_ T _ _ _ _ _ _ _ s.walk).2.2 i hm with h | ⟨q,hq,h1,_⟩
   ·rw[lS_ i hi] at h; cases h
   ·rw[hp] at hq; cases hq;have:=((eg_ p).1 h1).2.used;rw[hu] at this; cases this
 refine xn_ (ti_ T _ i (fun j hj=>List.getElem?_set_ne (Ne.symm hj)) _ _ _ _ _ _ _ s.walk (by rw[hm]; simp)) ?_;exact x0_ (p:=q) (by simp [s.len]; exact hi) (List.getElem?_set_self (by rw[s.len]; exact hi)) hm hq
theorem SF.less (s:SF T st) {i:Nat} (h0:0 < i) {p q:Pg} (hp:T[i]? =some p) (hu:p.used=true) (hq:q.keys.length < 2):aU_ (T.set i q)=0:=by
 have hi:i < 48:=by have:=(List.getElem?_eq_some_iff.1 hp).1; have:=s.len; omega
 refine wn_ (zp_ T _ i (q:=q) (fun j hj=>List.getElem?_set_ne (Ne.symm hj)) (List.getElem?_set_self (by rw[s.len]; exact hi)) (fun lo hi st=> ?_) _ _ _ _ _ _ _ s.walk (by rw[lS_ i hi]; simp) (s.used hp hu).1);unfold okD;rw[decide_eq_true h0,decide_eq_true hq];simp
end
end Go.Am
namespace Go.Am
section
variable {a b c:ByteArray}
theorem gU_ (a b:ByteArray):(blt a b=true∧a≠b∧blt b a=false)∨(a=b∧blt a b=false∧blt b a=false)∨(blt b a=true∧a≠b∧blt a b=false):=by
 unfold blt;rcases td_ (bs a) (bs b) with⟨h1,h2,h3⟩ | ⟨h1,h2,h3⟩ | ⟨h1,h2,h3⟩
 ·exact .inl ⟨h1,fun e=>h2 (by rw[e]),h3⟩
 ·exact .inr (.inl ⟨hA_ h1,h2,h3⟩)
 ·exact .inr (.inr ⟨h1,fun e=>h2 (by rw[e]),h3⟩)
theorem c4_ (a:ByteArray):blt a a=false:=by
 rcases gU_ a a with h | h | h
 ·exact (h.2.1 rfl).elim
 ·exact h.2.1
 ·exact (h.2.1 rfl).elim
theorem jD_ (h:blt a b=true):blt b a=false:=by
 rcases gU_ a b with q | q | q
 ·exact q.2.2
 ·exact q.2.2
 ·rw[q.2.2] at h; cases h
theorem CK_ (h1:blt b a=false) (h2:blt b c=true):blt a c=true:=by
 rcases gU_ a b with q | q | q
 ·exact dU_ q.1 h2
 ·rw[q.1]; exact h2
 ·rw[q.1] at h1; cases h1
theorem x4_ (h1:blt a b=true) (h2:blt c b=false):blt a c=true:=by
 rcases gU_ b c with q | q | q
 ·exact dU_ h1 q.1
 ·rw[←q.1]; exact h1
 ·rw[q.1] at h2; cases h2
theorem zd_ (h1:blt b a=false) (h2:blt c b=false):blt c a=false:=by
 cases e:blt c a with
 | false=>rfl
 | true=>rw[x4_ e h1] at h2; cases h2
theorem qc_ (h:blt a b=true):a≠b:=fun e=>by rw[e,c4_] at h; cases h
theorem Ah_ (a:ByteArray):blt a (mkS [])=false:=by
 unfold blt;rw[xV_];cases bs a<;>rfl
end
def allD (T:List Pg):Nat→Nat→KV
 | 0,_=>[]
 | f+1,a=>match T[a]? with
  | none=>[]
  | some p=>p.keys.zip p.vals++p.kids.flatMap fun k=>allD T f k.toNat
theorem pl_ {T:List Pg} {f a:Nat} {p:Pg} (hp:T[a]? =some p) (hk:p.kids=[]):allD T (f+1) a=p.keys.zip p.vals:=by
 rw[allD,hp]; dsimp only; rw[hk]; simp
theorem mN_ {T:List Pg} {f a:Nat} {p:Pg} (hp:T[a]? =some p) (hv:p.vals=[]):allD T (f+1) a=p.kids.flatMap fun k=>allD T f k.toNat:=by
 rw[allD,hp]; dsimp only; rw[hv]; simp
def Asc (ps:KV):Prop:=ps.Pairwise fun x y=>blt x.1 y.1=true
def Win (lo hi:ByteArray) (ps:KV):Prop:=∀ x∈ps,blt x.1 lo=false∧(hi.size=0∨blt x.1 hi=true)
def k8_ (ps:KV):Prop:=∀ x∈ps,(1≤x.1.size∧x.1.size≤6)∧x.2.size≤10
theorem uG_ {ks:List ByteArray} (h:gQ_ ks):ks.Pairwise fun a b=>blt a b=true:=by
 rw[List.pairwise_iff_getElem];intro i j hi hj hij;obtain⟨d,rfl⟩:∃ d,j=i+d+1:=⟨j - i - 1,by omega⟩;exact lG_ h i d hj
theorem yX_ {ks vs:List ByteArray} (h:gQ_ ks) (hl:vs.length=ks.length):Asc (ks.zip vs):=by
 have:=uG_ h;rw[←List.map_fst_zip (l₁:=ks) (l₂:=vs) (by omega),List.pairwise_map] at this;exact this
theorem tq_ {lo hi:ByteArray} {ks:List ByteArray} (h:e9_ lo hi ks=true) {k:ByteArray} (hk:k∈ks):blt k lo=false∧(hi.size=0∨blt k hi=true):=by
 unfold e9_ at h;rw[List.all_eq_true] at h;have:=h k hk;simp only[Bool.and_eq_true,Bool.not_eq_true',Bool.or_eq_true,decide_eq_true_eq] at this;exact this
theorem lM_ {ks vs:List ByteArray} {x:ByteArray × ByteArray} (h:x∈ks.zip vs):x.1∈ks∧x.2∈vs:=⟨(List.of_mem_zip h).1,(List.of_mem_zip h).2⟩
theorem sQ_ {p:Pg} {lo:ByteArray} {i:Nat} (h:i < p.keys.length):loK p lo (i+1)=p.keys[i]:=by
 unfold loK; rw[decide_eq_true (by omega)]; simp [h]
theorem vE_ {p:Pg} {hi:ByteArray} {i:Nat} (h:i < p.keys.length):hiK p hi i=p.keys[i]:=by
 unfold hiK; rw[List.getElem?_eq_getElem h]; rfl
theorem yy_ {p:Pg} {hi:ByteArray} {i:Nat} (h:p.keys.length≤i):hiK p hi i=hi:=by
 unfold hiK; rw[List.getElem?_eq_none h]; rfl
def Ct_ (T:List Pg) (f:Nat):Prop:=∀ (a deep:Nat) (lo hi:ByteArray) (st st':WS),cj_ T f a deep lo hi st=some st'→
 Asc (allD T f a)∧Win lo hi (allD T f a)∧k8_ (allD T f a)∧st'.count=st.count+(allD T f a).length
theorem uv_ {T:List Pg} {f:Nat} (ih:Ct_ T f) {p:Pg} {lo hi:ByteArray} {deep:Nat} (hfit:xw_ p) (hh:e9_ lo hi p.keys=true):
 ∀ (ks:List Int) (i:Nat),i+ks.length=p.keys.length+1→∀ (s s':WS),fp_ (fun k i s=>cj_ T f k.toNat (deep+1) (loK p lo i) (hiK p hi i) s) ks i s=some s'→
  Asc (ks.flatMap fun k=>allD T f k.toNat)∧Win (loK p lo i) hi (ks.flatMap fun k=>allD T f k.toNat)∧k8_ (ks.flatMap fun k=>allD T f k.toNat)∧s'.count=s.count+(ks.flatMap fun k=>allD T f k.toNat).length:=by
 have hkey:∀ k∈p.keys,1≤k.size∧k.size≤6:=hfit.keys;intro ks;induction ks with
 | nil=>intro i _ s s' h; cases h; exact⟨List.Pairwise.nil,fun x hx=>(by simp at hx),fun x hx=>(by simp at hx),rfl⟩
 | cons k ks ihk=>
  intro i hi' s s' h;rw[er_] at h;cases hr:cj_ T f k.toNat (deep+1) (loK p lo i) (hiK p hi i) s with
  | none=>rw[hr] at h; cases h
  | some s1=>
   rw[hr] at h;dsimp only at h;obtain⟨a1,a2,a3,a4⟩:=ih _ _ _ _ _ _ hr;obtain⟨b1,b2,b3,b4⟩:=ihk (i+1) (by simp at hi'; omega) s1 s' h;rw[List.flatMap_cons];simp only[List.length_cons] at hi';have hne:∀ y,y∈ks.flatMap (fun k=>allD T f k.toNat)→i < p.keys.length:=fun y hy=>by
    have:ks≠[]:=fun e=>by rw[e] at hy; simp at hy
    have:=List.length_pos_iff.2 this;omega
   refine⟨List.pairwise_append.2 ⟨a1,b1,fun x hx y hy=> ?_⟩,fun x hx=> ?_,fun x hx=> ?_,by rw[b4,a4,List.length_append]; omega⟩
   ·have hi1:=hne y hy;have ax:=(a2 x hx).2;have by_:=(b2 y hy).1;rw[sQ_ hi1] at by_;rw[vE_ hi1] at ax;have:=(hkey _ (List.getElem_mem hi1)).1;rcases ax with q | q
    ·omega
    ·exact x4_ q by_
   ·rcases List.mem_append.1 hx with q | q
    ·obtain⟨x1,x2⟩:=a2 x q;refine⟨x1,?_⟩;rcases Nat.lt_or_ge i p.keys.length with hi1 | hi1
     ·rw[vE_ hi1] at x2;have hk1:=(hkey _ (List.getElem_mem hi1)).1;rcases x2 with x2 | x2
      ·omega
      ·rcases (tq_ hh (List.getElem_mem hi1)).2 with z | z
       ·exact .inl z
       ·exact .inr (dU_ x2 z)
     ·rw[yy_ hi1] at x2; exact x2
    ·have hi1:=hne x q;obtain⟨x1,x2⟩:=b2 x q;refine⟨?_,x2⟩;rw[sQ_ hi1] at x1;rcases Nat.eq_zero_or_pos i with e | e
     ·subst e;have:loK p lo 0=lo:=rfl;rw[this];exact zd_ (tq_ hh (List.getElem_mem hi1)).1 x1
     ·obtain⟨j,rfl⟩:∃ j,i=j+1:=⟨i - 1,by omega⟩;rw[sQ_ (show j < p.keys.length by omega)];exact zd_ (jD_ (lG_ hfit.rising j 0 (by omega))) x1
   ·rcases List.mem_append.1 hx with q | q
    ·exact a3 x q
    ·exact b3 x q
theorem pU_ (T:List Pg):∀ f,Ct_ T f:=by
 intro f;induction f with
 | zero=>intro _ _ _ _ _ _ h; cases h
 | succ f ih=>
  intro a deep lo hi st st' h;obtain⟨p,hp,hok,hcase⟩:=eV_ h;obtain⟨hm,hmay,h2,hh⟩:=jV_ hok;have hfit:=((eg_ p).1 hmay).2;have hkey:∀ k∈p.keys,1≤k.size∧k.size≤6:=hfit.keys;rcases hcase with⟨hl,hlf⟩ | ⟨hl,hk⟩
  ·obtain⟨e1,e2,_⟩:=gK_ hlf;obtain⟨v1,v2,v3⟩:=hfit.leaf hl;rw[pl_ hp v2];refine⟨yX_ hfit.rising v1,fun x hx=>tq_ hh (lM_ hx).1,fun x hx=>⟨hkey _ (lM_ hx).1,v3 _ (lM_ hx).2⟩,?_⟩;rw[e2,List.length_zip,v1,Nat.min_self]
  ·obtain⟨k1,k2,k3,k4,k5⟩:=hfit.inner hl;rw[mN_ hp k2];have:=uv_ ih hfit hh p.kids 0 (by omega) _ _ hk;exact this
def wt (g:Pg→Nat):List Pg→List Bool→Nat
 | p::T,b::met=>(match b with | true=>g p | false=>0)+wt g T met
 | _,_=>0
theorem x8_ (g:Pg→Nat):∀ {T:List Pg} {met:List Bool} {i:Nat} {p:Pg},T[i]? =some p→met[i]? =some false→wt g T (met.set i true)=wt g T met+g p
 | [],_,i,p,h,_=>by simp at h
 | _::_,[],i,p,_,h=>by simp at h
 | q::T,b::met,0,p,h1,h2=>by
  simp at h1 h2; subst h1; subst h2;simp only[List.set_cons_zero,wt]; omega
 | q::T,b::met,i+1,p,h1,h2=>by
  simp only[List.getElem?_cons_succ] at h1 h2;simp only[List.set_cons_succ,wt];have:=x8_ g h1 h2;omega
theorem yG_ (g:Pg→Nat):∀ (T:List Pg) (n:Nat),wt g T (List.replicate n false)=0
 | [],n=>by cases n<;>rfl
 | p::T,0=>rfl
 | p::T,n+1=>by simp only[List.replicate_succ,wt]; rw[yG_ g T n]
def oj_ (g:Pg→Nat) (T:List Pg):Nat:=(T.map fun (p:Pg)=>match p.used with | true=>g p | false=>0).sum
theorem yJ_ (g:Pg→Nat):∀ {T:List Pg} {met:List Bool},met.length=T.length→(∀ (i:Nat) (p:Pg),T[i]? =some p→met[i]? =some p.used)→wt g T met=oj_ g T
 | [],[],_,_=>rfl
 | [],_::_,h,_=>by simp at h
 | _::_,[],h,_=>by simp at h
 | p::T,b::met,hl,h=>by
  have h0:=h 0 p rfl;simp at h0;subst h0;have ih:=yJ_ g (T:=T) (met:=met) (by simpa using hl) fun i q hq=>by have:=h (i+1) q (by simpa using hq); simpa using this
  unfold wt oj_;rw[List.map_cons,List.sum_cons,ih];rfl
def gK (p:Pg):Nat:=match p.leaf with | true=>p.keys.length | false=>0
def gL (p:Pg):Nat:=match p.leaf with | true=>1 | false=>0
theorem zh_ (T:List Pg):∀ (f a deep:Nat) (lo hi:ByteArray) (st st':WS),cj_ T f a deep lo hi st=some st'→st'.count+wt gK T st.met=st.count+wt gK T st'.met:=by
 intro f;induction f with
 | zero=>intro _ _ _ _ _ _ h; cases h
 | succ f ih=>
  intro a deep lo hi st st' h;obtain⟨p,hp,hok,hcase⟩:=eV_ h;obtain⟨hm,hmay,h2,hh⟩:=jV_ hok;have hw:=x8_ gK hp hm;rcases hcase with⟨hl,hlf⟩ | ⟨hl,hk⟩
  ·obtain⟨e1,e2,_⟩:=gK_ hlf;rw[e1,e2];dsimp only at*;have:gK p=p.keys.length:=by unfold gK; rw[hl]
   omega
  ·have:gK p=0:=by unfold gK; rw[hl]
   have key:=jA_ (P:=fun _ s s'=>s'.count+wt gK T s.met=s.count+wt gK T s'.met) (fun s=>rfl) (fun k ks i s s1 s' hr hP=>by
    have:=ih _ _ _ _ _ _ hr;omega) _ _ _ _ hk
   dsimp only at key;omega
theorem sd_ (T:List Pg):∀ (f a deep:Nat) (lo hi:ByteArray) (st st':WS),cj_ T f a deep lo hi st=some st'→1≤deep→(st.deep=0∨st.deep=st'.deep)∧deep≤st'.deep∧
 (0 < a→wt gL T st.met+3 ^ (st'.deep - deep)≤wt gL T st'.met∧st.count+2*3 ^ (st'.deep - deep)≤st'.count)∧
 ((st'.deep=deep∧wt gL T st'.met=wt gL T st.met+1)∨(deep < st'.deep∧wt gL T st.met+2*3 ^ (st'.deep - (deep+1))≤wt gL T st'.met∧st.count+4*3 ^ (st'.deep - (deep+1))≤st'.count)):=by
 intro f;induction f with
 | zero=>intro _ _ _ _ _ _ h; cases h
 | succ f ih=>
  intro a deep lo hi st st' h hd;obtain⟨p,hp,hok,hcase⟩:=eV_ h;obtain⟨hm,hmay,h2,hh⟩:=jV_ hok;have hw:=x8_ gL hp hm;rcases hcase with⟨hl,hlf⟩ | ⟨hl,hk⟩
  ·obtain⟨e1,e2,e3,e4⟩:=gK_ hlf;have hg:gL p=1:=by unfold gL; rw[hl]
   rw[e1,e2,e3];dsimp only at*;rw[Nat.sub_self,Nat.pow_zero];exact⟨e4,Nat.le_refl _,fun h0=>⟨by omega,by have:=h2 h0; omega⟩,.inl ⟨rfl,by omega⟩⟩
  ·have hg:gL p=0:=by unfold gL; rw[hl]
   obtain⟨k1,k2,k3,k4,k5⟩:=((eg_ p).1 hmay).2.inner hl;have key:∀ (ks:List Int),(∀ k∈ks,1≤k)→∀ (i:Nat) (s s':WS),fp_ (fun k i s=>cj_ T f k.toNat (deep+1) (loK p lo i) (hiK p hi i) s) ks i s=some s'→
    (s.deep=0∨s.deep=s'.deep)∧(ks≠[]→deep+1≤s'.deep)∧wt gL T s.met+ks.length*3 ^ (s'.deep - (deep+1))≤wt gL T s'.met∧s.count+2*(ks.length*3 ^ (s'.deep - (deep+1)))≤s'.count:=by
    intro ks;induction ks with
    | nil=>intro _ i s s' h; cases h; exact⟨.inr rfl,fun h=>(h rfl).elim,by simp,by simp⟩
    | cons k ks ihk=>
     intro hks i s s' h;rw[er_] at h;cases hr:cj_ T f k.toNat (deep+1) (loK p lo i) (hiK p hi i) s with
     | none=>rw[hr] at h; cases h
     | some s1=>
      rw[hr] at h;dsimp only at h;obtain⟨q1,q2,q3,_⟩:=ih _ _ _ _ _ _ hr (by omega);obtain⟨q4,q5⟩:=q3 (by have:=hks k (by simp); omega);obtain⟨r1,r2,r3,r4⟩:=ihk (fun k' hk'=>hks k' (by simp [hk'])) (i+1) s1 s' h;have e:s1.deep=s'.deep:=by rcases r1 with r | r; omega; exact r
      rw[e] at q1 q2 q4 q5;simp only[List.length_cons,Nat.add_mul,Nat.one_mul];generalize 3 ^ (s'.deep - (deep+1))=X at*;generalize ks.length*X=Y at*;exact⟨q1,fun _=>q2,by omega,by omega⟩
   obtain⟨c1,c2,c3,c4⟩:=key p.kids (fun k hk=>(k4 k hk).1) _ _ _ hk;have hdeep:=c2 (fun e=>by rw[e] at k3; simp at k3);dsimp only at*;obtain⟨X,hX⟩:∃ X,3 ^ (st'.deep - (deep+1))=X:=⟨_,rfl⟩;have hX3:3 ^ (st'.deep - deep)=X*3:=by rw[←hX,←Nat.pow_succ]; congr 1; omega
   rw[hX] at c3 c4 ⊢;rw[hX3];have m2:2*X≤p.kids.length*X:=Nat.mul_le_mul_right X (by omega);refine⟨c1,by omega,fun h0=> ?_,.inr ⟨by omega,by omega,by omega⟩⟩;have m3:3*X≤p.kids.length*X:=Nat.mul_le_mul_right X (by have:=h2 h0; omega);exact⟨by omega,by omega⟩
def dp_ (T:List Pg):KV:=allD T 49 0
section
variable {T:List Pg} {st:WS}
theorem SF.ents (s:SF T st):Asc (dp_ T)∧k8_ (dp_ T)∧(dp_ T).length=st.count∧(dp_ T).length≤60:=by
 obtain⟨h1,_,h3,h4⟩:=pU_ T _ _ _ _ _ _ _ s.walk;have h00:ws0.count=0:=rfl;have:=s.count;unfold dp_;exact⟨h1,h3,by omega,by omega⟩
theorem SF.metU (s:SF T st) {i:Nat} {p:Pg} (hp:T[i]? =some p):st.met[i]? =some p.used:=by
 have hi:i < 48:=by have:=(List.getElem?_eq_some_iff.1 hp).1; have:=s.len; omega
 cases hu:p.used with
 | true=>exact (s.used hp hu).1
 | false=>
  rw[List.getElem?_eq_getElem (by rw[s.metlen]; exact hi)];cases e:st.met[i]'(by rw[s.metlen]; exact hi) with
  | false=>rfl
  | true=>
   have hm:st.met[i]? =some true:=by rw[List.getElem?_eq_getElem (by rw[s.metlen]; exact hi),e]
   rcases (jd_ T _ _ _ _ _ _ _ s.walk).2.2 i hm with h | ⟨q,hq,h1,_⟩
   ·rw[lS_ i hi] at h; cases h
   ·rw[hp] at hq; cases hq;have:=((eg_ p).1 h1).2.used;rw[hu] at this; cases this
theorem SF.sums (s:SF T st):oj_ gK T=(dp_ T).length∧(aU_ T=1↔oj_ gL T=1)∧1≤aU_ T∧aU_ T≤4:=by
 have e0:∀ g,wt g T ws0.met=0:=fun g=>yG_ g T 48;have eU:∀ g,wt g T st.met=oj_ g T:=fun g=>yJ_ g (by rw[s.metlen,s.len]) fun i p hp=>s.metU hp;have h1:=zh_ T _ _ _ _ _ _ _ s.walk;obtain⟨_,h2,_,h3⟩:=sd_ T _ _ _ _ _ _ _ s.walk (Nat.le_refl _);rw[e0,eU] at h1 h3;have h00:ws0.count=0:=rfl;have hc:=s.ents.2.2.1;have hc2:=s.count;rw[s.height];refine⟨by omega,?_,by omega,?_⟩
 ·rcases h3 with⟨q1,q2⟩ | ⟨q1,q2,q3⟩
  ·constructor<;>intro<;>omega
  ·have:1≤3 ^ (st.deep - 2):=Nat.pow_pos (by omega);simp only[Nat.reduceAdd] at q2 q3;constructor<;>intro<;>omega
 ·rcases h3 with⟨q1,q2⟩ | ⟨q1,q2,q3⟩
  ·omega
  ·simp only[Nat.reduceAdd] at q2 q3;rcases Nat.lt_or_ge st.deep 5 with h | h
   ·omega
   ·have:3 ^ 3≤3 ^ (st.deep - 2):=Nat.pow_le_pow_right (by omega) (by omega);omega
end
end Go.Am
namespace Go.Am
def eL_ (R:Nat→List Nat→KV→Prop):List Int→List ByteArray→List Nat→KV→Prop
 | [],_,_,_=>False
 | k::ks,ss,P,ps=>match ss with
  | []=>ks=[]∧R k.toNat P ps
  | s::ss=>∃ P1 ps1 P2 ps2,R k.toNat P1 ps1∧eL_ R ks ss P2 ps2∧P=P1++P2∧ps=ps1++ps2∧(∀ x∈ps1,blt x.1 s=true)∧(∀ y∈ps2,blt y.1 s=false)
def Sub (T:List Pg):Nat→Nat→List Nat→KV→Prop
 | 0,_,_,_=>False
 | d+1,a,P,ps=>∃ p,T[a]? =some p∧mD_ p∧
  ((d=0∧p.leaf=true∧P=[a]∧ps=p.keys.zip p.vals)∨
   (p.leaf=false∧∃ P',P=a::P'∧eL_ (fun k P ps=>Sub T d k P ps∧∃ q,T[k]? =some q∧2≤q.keys.length) p.kids p.keys P' ps))
def jU_ (T:List Pg) (d k:Nat) (P:List Nat) (ps:KV):Prop:=Sub T d k P ps∧∃ q,T[k]? =some q∧2≤q.keys.length
theorem eL_.imp {R R':Nat→List Nat→KV→Prop}:∀ {ks:List Int} {ss:List ByteArray} {P:List Nat} {ps:KV},(∀ k P' ps',R k P' ps'→(∀ i∈P',i∈P)→R' k P' ps')→eL_ R ks ss P ps→eL_ R' ks ss P ps
 | [],_,_,_,_,h=>h.elim
 | k::ks,[],P,ps,f,h=>⟨h.1,f _ _ _ h.2 fun i hi=>hi⟩
 | k::ks,s::ss,P,ps,f,⟨P1,ps1,P2,ps2,h1,h2,e1,e2,h3,h4⟩=>by
  subst e1;exact⟨P1,ps1,P2,ps2,f _ _ _ h1 fun i hi=>List.mem_append.2 (.inl hi),eL_.imp (fun k P' ps' h hs=>f k P' ps' h fun i hi=>List.mem_append.2 (.inr (hs i hi))) h2,rfl,e2,h3,h4⟩
theorem eL_.len {R:Nat→List Nat→KV→Prop}:∀ {ks:List Int} {ss:List ByteArray} {P:List Nat} {ps:KV},eL_ R ks ss P ps→ks.length=ss.length+1
 | [],_,_,_,h=>h.elim
 | k::ks,[],P,ps,h=>by rw[h.1]; rfl
 | k::ks,s::ss,P,ps,⟨P1,ps1,P2,ps2,h1,h2,_⟩=>by simp [eL_.len h2]
theorem Sub.head {T:List Pg} {d a:Nat} {P:List Nat} {ps:KV} (h:Sub T d a P ps):a∈P:=by
 cases d with
 | zero=>exact h.elim
 | succ d=>
  obtain⟨p,_,_,⟨_,_,e,_⟩ | ⟨_,P',e,_⟩⟩:=h<;>simp [e]
theorem Sub.keep {T T':List Pg}:∀ {d a:Nat} {P:List Nat} {ps:KV},Sub T d a P ps→(∀ i∈P,T'[i]? =T[i]?)→Sub T' d a P ps
 | 0,_,_,_,h,_=>h.elim
 | d+1,a,P,ps,h,hk=>by
  have ha:=hk a h.head;obtain⟨p,hp,hm,h⟩:=h;refine⟨p,by rw[ha]; exact hp,hm,?_⟩;rcases h with h | ⟨h1,P',e,h2⟩
  ·exact .inl h
  ·subst e;refine .inr ⟨h1,P',rfl,h2.imp fun k Q qs ⟨q1,q,q2,q3⟩ hs=>⟨Sub.keep q1 fun i hi=>hk i (by simp [hs i hi]),q,?_,q3⟩⟩;rw[hk k (by simp [hs k q1.head])]; exact q2
theorem jU_.keep {T T':List Pg} {d a:Nat} {P:List Nat} {ps:KV} (h:jU_ T d a P ps) (hk:∀ i∈P,T'[i]? =T[i]?):jU_ T' d a P ps:=by
 obtain⟨h1,q,h2,h3⟩:=h;exact⟨h1.keep hk,q,by rw[hk a h1.head]; exact h2,h3⟩
theorem eL_.allD {T:List Pg} {f:Nat} {R:Nat→List Nat→KV→Prop} (hR:∀ k P ps,R k P ps→Am.allD T f k=ps):∀ {ks:List Int} {ss:List ByteArray} {P:List Nat} {ps:KV},eL_ R ks ss P ps→(ks.flatMap fun k=>Am.allD T f k.toNat)=ps
 | [],_,_,_,h=>h.elim
 | k::ks,[],P,ps,h=>by rw[h.1]; simp [hR _ _ _ h.2]
 | k::ks,s::ss,P,ps,⟨P1,ps1,P2,ps2,h1,h2,_,e2,_⟩=>by rw[List.flatMap_cons,hR _ _ _ h1,eL_.allD hR h2,e2]
theorem Sub.allD {T:List Pg}:∀ {d f a:Nat} {P:List Nat} {ps:KV},Sub T d a P ps→d≤f→Am.allD T f a=ps
 | 0,_,_,_,_,h,_=>h.elim
 | d+1,0,_,_,_,_,hf=>by omega
 | d+1,f+1,a,P,ps,h,hf=>by
  obtain⟨p,hp,hm,⟨_,hl,_,e⟩ | ⟨hl,P',_,hk⟩⟩:=h
  ·rw[pl_ hp (hm.2.leaf hl).2.1,e]
  ·rw[mN_ hp (hm.2.inner hl).2.1];exact eL_.allD (fun k P ps h=>Sub.allD h.1 (by omega)) hk
theorem xt_ {R:Nat→List Nat→KV→Prop} (hR:∀ k P ps,R k P ps→Asc ps∧k8_ ps):∀ {ks:List Int} {ss:List ByteArray} {P:List Nat} {ps:KV},eL_ R ks ss P ps→Asc ps∧k8_ ps
 | [],_,_,_,h=>h.elim
 | k::ks,[],P,ps,h=>hR _ _ _ h.2
 | k::ks,s::ss,P,ps,⟨P1,ps1,P2,ps2,h1,h2,_,e2,h3,h4⟩=>by
  obtain⟨a1,a2⟩:=hR _ _ _ h1;obtain⟨b1,b2⟩:=xt_ hR h2;subst e2;exact⟨List.pairwise_append.2 ⟨a1,b1,fun x hx y hy=>x4_ (h3 x hx) (h4 y hy)⟩,fun x hx=>(List.mem_append.1 hx).elim (a2 x) (b2 x)⟩
theorem Sub.asc {T:List Pg}:∀ {d a:Nat} {P:List Nat} {ps:KV},Sub T d a P ps→Asc ps∧k8_ ps
 | 0,_,_,_,h=>h.elim
 | d+1,a,P,ps,h=>by
  obtain⟨p,hp,hm,⟨_,hl,_,e⟩ | ⟨hl,P',_,hk⟩⟩:=h
  ·obtain⟨v1,v2,v3⟩:=hm.2.leaf hl;subst e;exact⟨yX_ hm.2.rising v1,fun x hx=>⟨hm.2.keys _ (lM_ hx).1,v3 _ (lM_ hx).2⟩⟩
  ·exact xt_ (fun k P ps h=>Sub.asc h.1) hk
theorem pe_ {R:Nat→List Nat→KV→Prop} {m:Nat} (hR:∀ k P ps,R k P ps→m≤ps.length):∀ {ks:List Int} {ss:List ByteArray} {P:List Nat} {ps:KV},eL_ R ks ss P ps→ks.length*m≤ps.length
 | [],_,_,_,h=>h.elim
 | k::ks,[],P,ps,h=>by rw[h.1]; have:=hR _ _ _ h.2; simpa using this
 | k::ks,s::ss,P,ps,⟨P1,ps1,P2,ps2,h1,h2,_,e2,h3,h4⟩=>by
  have:=hR _ _ _ h1;have:=pe_ hR h2;subst e2;rw[List.length_cons,List.length_append,Nat.add_mul];omega
theorem jU_.size {T:List Pg}:∀ {d a:Nat} {P:List Nat} {ps:KV},jU_ T d a P ps→2*d≤ps.length
 | 0,_,_,_,h=>by omega
 | d+1,a,P,ps,⟨h,q,hq,h2⟩=>by
  obtain⟨p,hp,hm,⟨hd,hl,_,e⟩ | ⟨hl,P',_,hk⟩⟩:=h
  ·rw[hp] at hq; cases hq;have:=(hm.2.leaf hl).1;subst e; subst hd;rw[List.length_zip]; omega
  ·rw[hp] at hq; cases hq;have hlen:=hk.len;have:=pe_ (m:=2*d) (fun k P ps h=>jU_.size h) hk;have hd:1≤d:=by
    cases d with
    | zero=>cases hks:q.kids with
     | nil=>rw[hks] at hlen; simp at hlen
     | cons k ks=>
      rw[hks] at hk
      cases hs:q.keys with
      | nil=>rw[hs] at h2; simp at h2
      | cons s ss=>rw[hs] at hk; obtain⟨_,_,_,_,h1,_⟩:=hk; exact h1.1.elim
    | succ d=>omega
   have:2*(2*d)≤q.kids.length*(2*d):=Nat.mul_le_mul_right _ (by omega);omega
theorem jU_.ne {T:List Pg} {d a:Nat} {P:List Nat} {ps:KV} (h:jU_ T d a P ps):ps≠[]:=by
 intro e;have:=h.size;subst e;cases d with
 | zero=>exact h.1.elim
 | succ d=>simp at this
def fh_ (met:List Bool) (P:List Nat):List Bool:=P.foldl (fun m i=>m.set i true) met
theorem jL_ {P:List Nat}:∀ {met:List Bool} {i:Nat},i∉P→(fh_ met P)[i]? =met[i]? :=by
 unfold fh_;induction P with
 | nil=>intro met i _; rfl
 | cons j P ih=>
  intro met i h;simp only[List.foldl_cons];rw[ih (fun q=>h (by simp [q])),List.getElem?_set_ne (fun e=>h (by simp [e]))]
theorem uI_ {P:List Nat}:∀ {met:List Bool} {i:Nat},i∈P→i < met.length→(fh_ met P)[i]? =some true:=by
 unfold fh_;induction P with
 | nil=>intro met i h; simp at h
 | cons j P ih=>
  intro met i h hl;simp only[List.foldl_cons];by_cases hi:i∈P
  ·exact ih hi (by simpa using hl)
  ·have:i=j:=by simpa [hi] using h
   subst this;have:=jL_ (met:=met.set i true) hi;unfold fh_ at this;rw[this,List.getElem?_set_self hl]
theorem mv_ (met:List Bool) (P Q:List Nat):fh_ met (P++Q)=fh_ (fh_ met P) Q:=by unfold fh_; rw[List.foldl_append]
theorem qs_ (met:List Bool) (a:Nat) (P:List Nat):fh_ met (a::P)=fh_ (met.set a true) P:=rfl
theorem uN_ {R:Nat→List Nat→KV→Prop} (hR:∀ k P ps,R k P ps→ps≠[]) {lo hi:ByteArray}:∀ {ks:List Int} {ss:List ByteArray} {P:List Nat} {ps:KV},eL_ R ks ss P ps→ps≠[]∧(Win lo hi ps→∀ s∈ss,blt s lo=false∧(hi.size=0∨blt s hi=true))
 | [],_,_,_,h=>h.elim
 | k::ks,[],P,ps,h=>⟨hR _ _ _ h.2,fun _ s hs=>by simp at hs⟩
 | k::ks,s::ss,P,ps,⟨P1,ps1,P2,ps2,h1,h2,_,e2,h3,h4⟩=>by
  have n1:=hR _ _ _ h1;obtain⟨n2,ih⟩:=uN_ hR (lo:=lo) (hi:=hi) h2;subst e2;refine⟨by simp [n1],fun w s' hs=> ?_⟩;obtain⟨x,hx⟩:=List.exists_mem_of_ne_nil _ n1;obtain⟨y,hy⟩:=List.exists_mem_of_ne_nil _ n2;have wx:=w x (List.mem_append.2 (.inl hx));have wy:=w y (List.mem_append.2 (.inr hy));rcases List.mem_cons.1 hs with e | e
  ·subst e;refine⟨?_,?_⟩
   ·exact zd_ wx.1 (jD_ (h3 x hx))
   ·rcases wy.2 with q | q
    ·exact .inl q
    ·exact .inr (CK_ (h4 y hy) q)
  ·exact ih (fun z hz=>w z (List.mem_append.2 (.inr hz))) s' e
theorem wY_ {lo hi:ByteArray} {ks:List ByteArray} (h:∀ s∈ks,blt s lo=false∧(hi.size=0∨blt s hi=true)):e9_ lo hi ks=true:=by
 unfold e9_;rw[List.all_eq_true];intro k hk;obtain⟨h1,h2⟩:=h k hk;rw[h1];rcases h2 with q | q
 ·rw[decide_eq_true q]; rfl
 ·rw[q]; simp
theorem Sub.walk (T:List Pg):∀ (d f a:Nat) (P:List Nat) (ps:KV) (deep:Nat) (lo hi:ByteArray) (st:WS),Sub T d a P ps→d≤f→(0 < a→∃ q,T[a]? =some q∧2≤q.keys.length)→P.Nodup→(∀ i∈P,st.met[i]? =some false)→Win lo hi ps→
 (st.deep=0∨st.deep+1=deep+d)→1≤deep→cj_ T f a deep lo hi st=some ⟨fh_ st.met P,deep+d - 1,st.count+ps.length⟩
 | 0,_,_,_,_,_,_,_,_,h,_,_,_,_,_,_,_=>h.elim
 | d+1,0,_,_,_,_,_,_,_,_,hf,_,_,_,_,_,_=>by omega
 | d+1,f+1,a,P,ps,deep,lo,hi,st,h,hf,ha,hnd,hm,hw,hdp,hd1=>by
  have hma:=hm a h.head;obtain⟨p,hp,hmay,hcase⟩:=h;have hbig:(decide (0 < a)&&decide (p.keys.length < 2))=false:=by
   rw[Bool.and_eq_false_iff,decide_eq_false_iff_not,decide_eq_false_iff_not];rcases Nat.eq_zero_or_pos a with e | e
   ·exact .inl (by omega)
   ·obtain⟨q,hq,h2⟩:=ha e;rw[hp] at hq; cases hq;exact .inr (by omega)
  have hok:e9_ lo hi p.keys=true→okD p a lo hi st=true:=fun hh=>by
   unfold okD;rw[hma,(eg_ p).2 hmay,hbig,hh]; rfl
  rw[h0_ T f a deep lo hi st hp];rcases hcase with⟨e0,hl,e1,e2⟩ | ⟨hl,P',e1,hk⟩
  ·subst e0; subst e1; subst e2;have v1:=(hmay.2.leaf hl).1;have hh:e9_ lo hi p.keys=true:=wY_ fun s hs=>by
    obtain⟨i,hi',e⟩:=List.getElem_of_mem hs;have:(p.keys.zip p.vals)[i]'(by rw[List.length_zip]; omega)∈p.keys.zip p.vals:=List.getElem_mem _;have:=hw _ this;rw[List.getElem_zip,e] at this;exact this
   rw[hok hh];dsimp only;rw[hl];dsimp only;unfold h7_;dsimp only;have hz:(p.keys.zip p.vals).length=p.keys.length:=by rw[List.length_zip]; omega
   rw[hz];rcases hdp with q | q
   ·rw[decide_eq_true q]; rfl
   ·have q':st.deep=deep:=by omega
    rw[decide_eq_false (by omega),decide_eq_true q']; rfl
  ·subst e1;have hh:e9_ lo hi p.keys=true:=wY_ ((uN_ (fun k P ps h=>jU_.ne h) hk).2 hw);rw[hok hh];dsimp only;rw[hl];dsimp only;have hlen:=hk.len;obtain⟨k1,k2,k3,k4,k5⟩:=hmay.2.inner hl;rw[List.nodup_cons] at hnd;have loop:∀ (ks:List Int) (i:Nat) (ss:List ByteArray) (P:List Nat) (ps:KV) (s:WS),(∀ k∈ks,1≤k)→p.keys.drop i=ss→i+ss.length=p.keys.length→eL_ (fun k P ps=>Sub T d k P ps∧∃ q,T[k]? =some q∧2≤q.keys.length) ks ss P ps→
    P.Nodup→(∀ i∈P,s.met[i]? =some false)→Win (loK p lo i) hi ps→(s.deep=0∨s.deep=deep+d)→
    fp_ (fun k i s=>cj_ T f k.toNat (deep+1) (loK p lo i) (hiK p hi i) s) ks i s=some ⟨fh_ s.met P,deep+d,s.count+ps.length⟩:=by
    intro ks;induction ks with
    | nil=>intro i ss P ps s _ _ _ h; exact h.elim
    | cons k ks ihk=>
     intro i ss P ps s hk1 hss hlen' hR hnd hm hw hdp;have hk0:=hk1 k (by simp);cases ss with
     | nil=>
      obtain⟨e,hs⟩:=hR;subst e;have hend:p.keys.length≤i:=by simp at hlen'; omega
      rw[er_];have:=Sub.walk T d f k.toNat P ps (deep+1) (loK p lo i) (hiK p hi i) s hs.1 (by omega) (fun _=>hs.2) hnd hm (by rw[yy_ hend]; exact hw) (by rcases hdp with q | q; exact .inl q; exact .inr (by omega)) (by omega);rw[this];dsimp only;have e:deep+1+d - 1=deep+d:=by omega
      rw[e]; rfl
     | cons s0 ss=>
      obtain⟨P1,ps1,P2,ps2,h1,h2,e1,e2,h3,h4⟩:=hR;subst e1; subst e2;simp only[List.length_cons] at hlen';have hi1:i < p.keys.length:=by omega
      have hs0:p.keys[i]=s0:=by
       rw[List.drop_eq_getElem_cons hi1] at hss;exact (List.cons.inj hss).1
      have hss':p.keys.drop (i+1)=ss:=by
       rw[List.drop_eq_getElem_cons hi1] at hss;exact (List.cons.inj hss).2
      rw[er_];rw[List.nodup_append] at hnd;obtain⟨d1,d2,d3⟩:=hnd;have hw1:Win (loK p lo i) (hiK p hi i) ps1:=fun x hx=>⟨(hw x (List.mem_append.2 (.inl hx))).1,.inr (by rw[vE_ hi1,hs0]; exact h3 x hx)⟩;have:=Sub.walk T d f k.toNat P1 ps1 (deep+1) (loK p lo i) (hiK p hi i) s h1.1 (by omega) (fun _=>h1.2) d1 (fun j hj=>hm j (List.mem_append.2 (.inl hj))) hw1 (by rcases hdp with q | q; exact .inl q; exact .inr (by omega)) (by omega);rw[this];dsimp only;have e:deep+1+d - 1=deep+d:=by omega
      rw[e];have:=ihk (i+1) ss P2 ps2 ⟨fh_ s.met P1,deep+d,s.count+ps1.length⟩ (fun k' hk'=>hk1 k' (by simp [hk'])) hss' (by omega) h2 d2 (fun j hj=>by
       dsimp only;rw[jL_ (fun q=>d3 j q j hj rfl)];exact hm j (List.mem_append.2 (.inr hj)))
       (fun y hy=>⟨by rw[sQ_ hi1,hs0]; exact h4 y hy,(hw y (List.mem_append.2 (.inr hy))).2⟩) (.inr rfl)
      rw[this];dsimp only;rw[mv_,List.length_append,Nat.add_assoc]
   have:=loop p.kids 0 p.keys P' ps ⟨st.met.set a true,st.deep,st.count⟩ (fun k hk=>(k4 k hk).1) rfl (by omega) hk hnd.2 (fun j hj=>by
    dsimp only;rw[List.getElem?_set_ne (fun e=>hnd.1 (by rw[e]; exact hj))];exact hm j (by simp [hj])) hw (by dsimp only; rcases hdp with q | q; exact .inl q; exact .inr (by omega))
   rw[this,qs_];dsimp only;congr 2
end Go.Am
namespace Go.Am
theorem zk_ (T:List Pg):∀ (f a deep:Nat) (lo hi:ByteArray) (st st':WS),cj_ T f a deep lo hi st=some st'→1≤deep→
 ∃ d P,st'.deep+1=deep+d∧Sub T d a P (allD T f a)∧st'.met=fh_ st.met P∧P.Nodup∧(∀ i∈P,st.met[i]? =some false):=by
 intro f;induction f with
 | zero=>intro _ _ _ _ _ _ h; cases h
 | succ f ih=>
  intro a deep lo hi st st' h hd1;obtain⟨p,hp,hok,hcase⟩:=eV_ h;obtain⟨hm,hmay,h2,hh⟩:=jV_ hok;have hM:=(eg_ p).1 hmay;have hfit:=hM.2;have hlt:=(List.getElem?_eq_some_iff.1 hm).1;rcases hcase with⟨hl,hlf⟩ | ⟨hl,hk⟩
  ·obtain⟨e1,e2,e3,_⟩:=gK_ hlf;refine⟨1,[a],by omega,⟨p,hp,hM,.inl ⟨rfl,hl,rfl,pl_ hp (hfit.leaf hl).2.1⟩⟩,by rw[e1]; rfl,by simp,fun i hi=>by rw[List.mem_singleton.1 hi]; exact hm⟩
  ·obtain⟨k1,k2,k3,k4,k5⟩:=hfit.inner hl;have loop:∀ (ks:List Int) (i:Nat) (ss:List ByteArray) (s s':WS),(∀ k∈ks,1≤k)→p.keys.drop i=ss→i+ss.length=p.keys.length→ks.length=ss.length+1→
    fp_ (fun k i s=>cj_ T f k.toNat (deep+1) (loK p lo i) (hiK p hi i) s) ks i s=some s'→
    ∃ d P,s'.deep+1=deep+1+d∧eL_ (jU_ T d) ks ss P (ks.flatMap fun k=>allD T f k.toNat)∧s'.met=fh_ s.met P∧P.Nodup∧(∀ i∈P,s.met[i]? =some false)∧(s.deep=0∨s.deep=s'.deep):=by
    intro ks;induction ks with
    | nil=>intro i ss s s' _ _ _ h; simp at h
    | cons k ks ihk=>
     intro i ss s s' hk1 hss hlen hkl h;have hk0:=hk1 k (by simp);rw[er_] at h;cases hr:cj_ T f k.toNat (deep+1) (loK p lo i) (hiK p hi i) s with
     | none=>rw[hr] at h; cases h
     | some s1=>
      rw[hr] at h;dsimp only at h;obtain⟨d1,P1,e1,S1,m1,n1,u1⟩:=ih _ _ _ _ _ _ hr (by omega);obtain⟨q1,_⟩:=sd_ T _ _ _ _ _ _ _ hr (by omega);have B1:jU_ T d1 k.toNat P1 (allD T f k.toNat):=by
       obtain⟨q,hq,hqo,_⟩:=eV_ (f:=f - 1) (by
        cases f with
        | zero=>cases hr
        | succ f=>exact hr)
       exact⟨S1,q,hq,(jV_ hqo).2.2.1 (by omega)⟩
      cases ss with
      | nil=>
       have:ks=[]:=by simpa using hkl
       subst this;cases h;exact⟨d1,P1,e1,⟨rfl,by simpa using B1⟩,m1,n1,u1,q1⟩
      | cons s0 ss=>
       simp only[List.length_cons] at hlen hkl;have hi1:i < p.keys.length:=by omega
       have hs0:p.keys[i]=s0:=by
        rw[List.drop_eq_getElem_cons hi1] at hss;exact (List.cons.inj hss).1
       have hss':p.keys.drop (i+1)=ss:=by
        rw[List.drop_eq_getElem_cons hi1] at hss;exact (List.cons.inj hss).2
       obtain⟨d2,P2,e2,K2,m2,n2,u2,z2⟩:=ihk (i+1) ss s1 s' (fun k' hk'=>hk1 k' (by simp [hk'])) hss' (by omega) (by omega) h;have hd12:d1=d2:=by rcases z2 with z | z<;>omega
       subst hd12;have w1:=(pU_ T f _ _ _ _ _ _ hr).2.1;have w2:=(uv_ (pU_ T f) hfit hh ks (i+1) (by omega) _ _ h).2.1;rw[sQ_ hi1,hs0] at w2;rw[vE_ hi1,hs0] at w1;have hsz:1≤s0.size:=by rw[←hs0]; exact (hfit.keys _ (List.getElem_mem hi1)).1
       have u2':∀ j∈P2,j∉P1:=fun j hj q=>by
        have:=u2 j hj;have hjl:=(List.getElem?_eq_some_iff.1 (u1 j q)).1;rw[m1,uI_ q hjl] at this;cases this
       refine⟨d1,P1++P2,e2,⟨P1,_,P2,_,B1,K2,rfl,by rw[List.flatMap_cons],fun x hx=> ?_,fun y hy=>(w2 y hy).1⟩,by rw[m2,m1,mv_],?_,fun j hj=> ?_,?_⟩
       ·rcases (w1 x hx).2 with z | z
        ·omega
        ·exact z
       ·rw[List.nodup_append];exact⟨n1,n2,fun j hj j' hj' e=>u2' j' hj' (by rw[←e]; exact hj)⟩
       ·rcases List.mem_append.1 hj with q | q
        ·exact u1 j q
        ·have:=u2 j q;rw[m1,jL_ (u2' j q)] at this;exact this
       ·rcases q1 with q | q
        ·exact .inl q
        ·rcases z2 with z | z
         ·omega
         ·exact .inr (by omega)
   obtain⟨d,P,e,K,m,n,u,_⟩:=loop p.kids 0 p.keys _ _ (fun k hk=>(k4 k hk).1) rfl (by omega) k3 hk;dsimp only at m u;have haP:a∉P:=fun q=>by
    have:=u a q;rw[List.getElem?_set_self hlt] at this;cases this
   refine⟨d+1,a::P,by omega,⟨p,hp,hM,.inr ⟨hl,P,rfl,by rw[mN_ hp k2]; exact K⟩⟩,by rw[m,qs_],List.nodup_cons.2 ⟨haP,n⟩,fun j hj=> ?_⟩;rcases List.mem_cons.1 hj with q | q
   ·rw[q]; exact hm
   ·have:=u j q;rw[List.getElem?_set_ne (fun z=>haP (by rw[z]; exact q))] at this;exact this
theorem Sub.inT {T:List Pg}:∀ {d a:Nat} {P:List Nat} {ps:KV},Sub T d a P ps→∀ i∈P,i < T.length
 | 0,_,_,_,h=>h.elim
 | d+1,a,P,ps,h=>by
  obtain⟨p,hp,hm,h⟩:=h;have ha:=(List.getElem?_eq_some_iff.1 hp).1;rcases h with⟨_,_,e,_⟩ | ⟨_,P',e,h2⟩
  ·subst e; intro i hi; rw[List.mem_singleton.1 hi]; exact ha
  ·subst e;intro i hi;rcases List.mem_cons.1 hi with q | q
   ·rw[q]; exact ha
   ·have key:∀ {ks:List Int} {ss:List ByteArray} {P:List Nat} {ps:KV},eL_ (jU_ T d) ks ss P ps→∀ i∈P,i < T.length:=by
     intro ks;induction ks with
     | nil=>intro _ _ _ h; exact h.elim
     | cons k ks ih=>
      intro ss P ps h i hi;cases ss with
      | nil=>exact Sub.inT h.2.1 i hi
      | cons s ss=>
       obtain⟨P1,ps1,P2,ps2,h1,h2,e1,_⟩:=h;subst e1;rcases List.mem_append.1 hi with q | q
       ·exact Sub.inT h1.1 i q
       ·exact ih h2 i q
    exact key h2 i q
theorem Sub.low {T:List Pg} {d a:Nat} {P:List Nat} {ps:KV} (h:Sub T d a P ps):2*d≤ps.length+2:=by
 cases d with
 | zero=>exact h.elim
 | succ d=>
  obtain⟨p,hp,hm,⟨e0,_,_,_⟩ | ⟨_,P',_,hk⟩⟩:=h
  ·subst e0; omega
  ·have:=pe_ (m:=2*d) (fun k P ps h=>jU_.size h) hk;have hl:=hk.len;have:1*(2*d)≤p.kids.length*(2*d):=Nat.mul_le_mul_right _ (by omega);omega
structure hg_ (T:List Pg) (d:Nat) (P:List Nat) (ps:KV):Prop where
 len:T.length=48
 sub:Sub T d 0 P ps
 nodup:P.Nodup
 rest:∀ (i:Nat) p,T[i]? =some p→i∉P→c6_ p=true
 count:ps.length≤60
section
variable {T:List Pg} {d:Nat} {P:List Nat} {ps:KV}
theorem hg_.pos (w:hg_ T d P ps):1≤d:=by
 cases d with
 | zero=>exact w.sub.elim
 | succ d=>omega
theorem hg_.sound (w:hg_ T d P ps):aU_ T=d∧dp_ T=ps:=by
 have hd:=w.sub.low;have hc:=w.count;have h1:=w.pos;have hw:=Sub.walk T d 49 0 P ps 1 (mkS []) (mkS []) ws0 w.sub (by omega) (fun h=>by omega) w.nodup (fun i hi=>lS_ i (by have:=w.sub.inT i hi; rw[w.len] at this; exact this))
  (fun x _=>⟨Ah_ _,.inl rfl⟩) (.inl rfl) (Nat.le_refl _)
 refine⟨?_,w.sub.allD (by omega)⟩;unfold aU_;rw[decide_eq_true w.len];dsimp only;rw[hw];dsimp only;have hr:fN_ T (fh_ ws0.met P)=true:=by
  unfold fN_;rw[List.all_eq_true];intro i hi;have hi:=List.mem_range.1 hi;have hi48:i < 48:=by rw[w.len] at hi; exact hi
  by_cases hp:i∈P
  ·rw[uI_ hp (by show i < (List.replicate 48 false).length; simpa using hi48)]; rfl
  ·rw[w.rest i (T[i]?.getD noPg) (by rw[List.getElem?_eq_getElem hi]; rfl) hp]; simp
 have h0:ws0.count=0:=rfl;rw[hr,h0,Nat.zero_add,decide_eq_true hc];show 1+d - 1=d;omega
theorem hg_.pos' (w:hg_ T d P ps):0 < aU_ T:=by rw[w.sound.1]; exact w.pos
theorem SF.whole {st:WS} (s:SF T st):∃ P,hg_ T (aU_ T) P (dp_ T):=by
 obtain⟨d,P,e,S,m,n,u⟩:=zk_ T _ _ _ _ _ _ _ s.walk (Nat.le_refl _);have hd:d=aU_ T:=by rw[s.height]; omega
 subst hd;refine⟨P,s.len,S,n,fun i p hp hi=> ?_,s.ents.2.2.2⟩;have hlt:=(List.getElem?_eq_some_iff.1 hp).1;have hi48:i < 48:=by rw[s.len] at hlt; exact hlt
 have hm:st.met[i]? =some false:=by rw[m,jL_ hi,lS_ i hi48]
 rcases vs_ s.rest hlt hp with h | h
 ·rw[hm] at h; simp at h
 ·exact h
theorem AU_ (h:0 < aU_ T):∃ P,hg_ T (aU_ T) P (dp_ T):=by
 obtain⟨st,s⟩:=SF.of h;exact s.whole
end
end Go.Am
namespace Go.Am
def eJ_ (ks:List ByteArray) (key:ByteArray):Nat:=ks.countP fun s=>blt s key
def gt_ (ks:List ByteArray) (key:ByteArray):Bool:=decide (ks[eJ_ ks key]? =some key)
def e8_:KV→ByteArray→Option ByteArray
 | [],_=>none
 | x::ps,key=>match decide (x.1=key) with | true=>some x.2 | false=>e8_ ps key
abbrev Pw (ks:List ByteArray):Prop:=ks.Pairwise fun a b=>blt a b=true
section
variable {s key:ByteArray} {ks:List ByteArray}
theorem BF_ (h:blt s key=true):eJ_ (s::ks) key=eJ_ ks key+1∧gt_ (s::ks) key=gt_ ks key:=by
 have e:eJ_ (s::ks) key=eJ_ ks key+1:=by unfold eJ_; rw[List.countP_cons_of_pos (by simpa using h)]
 refine⟨e,?_⟩;unfold gt_;rw[e,List.getElem?_cons_succ]
theorem xG_ (h:∀ t∈ks,blt t key=false):eJ_ ks key=0:=by
 unfold eJ_;rw[List.countP_eq_zero];intro t ht;rw[h t ht]; simp
theorem BD_ (pw:Pw (s::ks)) (h:blt s key=false):eJ_ (s::ks) key=0∧gt_ (s::ks) key=decide (s=key):=by
 have e:eJ_ (s::ks) key=0:=xG_ fun t ht=>by
  rcases List.mem_cons.1 ht with q | q
  ·rw[q]; exact h
  ·exact zd_ h (jD_ ((List.pairwise_cons.1 pw).1 t q))
 refine⟨e,?_⟩;unfold gt_;rw[e]; simp
theorem tb_ (x:ByteArray × ByteArray) (ps:KV) (key:ByteArray):e8_ (x::ps) key=match decide (x.1=key) with | true=>some x.2 | false=>e8_ ps key:=rfl
theorem ni_ {ps:KV} (h:∀ x∈ps,x.1≠key):e8_ ps key=none:=by
 induction ps with
 | nil=>rfl
 | cons x ps ih=>
  unfold e8_;rw[decide_eq_false (h x (by simp))];exact ih fun y hy=>h y (by simp [hy])
theorem va_ {ps qs:KV}:e8_ (ps++qs) key=match e8_ ps key with | some v=>some v | none=>e8_ qs key:=by
 induction ps with
 | nil=>rfl
 | cons x ps ih=>
  show (match decide (x.1=key) with | true=>some x.2 | false=>e8_ (ps++qs) key)=match (match decide (x.1=key) with | true=>some x.2 | false=>e8_ ps key) with | some v=>some v | none=>e8_ qs key
  cases decide (x.1=key) with
  | true=>rfl
  | false=>exact ih
theorem qL_ {ps qs:KV} (h:∀ x∈ps,x.1≠key):e8_ (ps++qs) key=e8_ qs key:=by
 rw[va_,ni_ h]
end
theorem zf_ {ps:KV} (h:Asc ps) {x:ByteArray × ByteArray} (hx:x∈ps):e8_ ps x.1=some x.2:=by
 induction ps with
 | nil=>simp at hx
 | cons y ps ih=>
  obtain⟨h1,h2⟩:=List.pairwise_cons.1 h;unfold e8_;rcases List.mem_cons.1 hx with e | e
  ·subst e; rw[decide_eq_true rfl]
  ·rw[decide_eq_false (qc_ (h1 x e))];exact ih h2 e
end Go.Am
namespace Go.Am
theorem uy_ {ks:List ByteArray} (h:Pw ks):gQ_ ks:=by
 intro i hi;have:=List.pairwise_iff_getElem.1 h i (i+1) (by omega) hi (by omega);rw[id_]; exact this
theorem Di_ {ps:KV} (h:Asc ps):Pw (ps.map (·.1)):=by rw[Pw,List.pairwise_map]; exact h
theorem B4_ (ps:KV):(ps.map (·.1)).zip (ps.map (·.2))=ps:=by
 induction ps with
 | nil=>rfl
 | cons x ps ih=>simp [ih]
def gp_ (T:List Pg) (d:Nat) (p:Pg) (P:List Nat) (e:KV):Prop:=
 mD_ p∧((d=0∧p.leaf=true∧P=[]∧e=p.keys.zip p.vals)∨(p.leaf=false∧eL_ (jU_ T d) p.kids p.keys P e))
theorem gp_.sub {T:List Pg} {d a:Nat} {p:Pg} {P:List Nat} {e:KV} (h:gp_ T d p P e) (hp:T[a]? =some p):Sub T (d+1) a (a::P) e:=by
 obtain⟨hm,⟨e0,hl,e1,e2⟩ | ⟨hl,hk⟩⟩:=h
 ·subst e1; exact⟨p,hp,hm,.inl ⟨e0,hl,rfl,e2⟩⟩
 ·exact⟨p,hp,hm,.inr ⟨hl,P,rfl,hk⟩⟩
theorem gp_.keep {T T':List Pg} {d:Nat} {p:Pg} {P:List Nat} {e:KV} (h:gp_ T d p P e) (hk:∀ i∈P,T'[i]? =T[i]?):gp_ T' d p P e:=by
 obtain⟨hm,h | ⟨hl,h⟩⟩:=h
 ·exact⟨hm,.inl h⟩
 ·exact⟨hm,.inr ⟨hl,h.imp fun k Q qs hs hin=>hs.keep fun i hi=>hk i (hin i hi)⟩⟩
def LV (T:List Pg) (d:Nat):Lvl→List Nat→KV→Prop
 | [],P,e=>P=[]∧e=[]
 | (p,s)::xs,P,e=>∃ P1 e1 P2 e2,P=P1++P2∧e=e1++e2∧gp_ T d p P1 e1∧2≤p.keys.length∧(∃ y r,e1=y::r∧y.1=s)∧LV T d xs P2 e2
theorem LV.append {T:List Pg} {d:Nat}:∀ {xs ys:Lvl} {P Q:List Nat} {e f:KV},LV T d xs P e→LV T d ys Q f→LV T d (xs++ys) (P++Q) (e++f)
 | [],ys,P,Q,e,f,⟨h1,h2⟩,h=>by subst h1; subst h2; exact h
 | (p,s)::xs,ys,P,Q,e,f,⟨P1,e1,P2,e2,h1,h2,h3,h4,h5,h6⟩,h=>by
  subst h1; subst h2;exact⟨P1,e1,P2++Q,e2++f,by rw[List.append_assoc],by rw[List.append_assoc],h3,h4,h5,LV.append h6 h⟩
theorem LV.split {T:List Pg} {d:Nat}:∀ {xs ys:Lvl} {P:List Nat} {e:KV},LV T d (xs++ys) P e→∃ P1 e1 P2 e2,P=P1++P2∧e=e1++e2∧LV T d xs P1 e1∧LV T d ys P2 e2
 | [],ys,P,e,h=>⟨[],[],P,e,rfl,rfl,⟨rfl,rfl⟩,h⟩
 | (p,s)::xs,ys,P,e,⟨P1,e1,P2,e2,h1,h2,h3,h4,h5,h6⟩=>by
  obtain⟨Q1,f1,Q2,f2,g1,g2,g3,g4⟩:=LV.split h6;exact⟨P1++Q1,e1++f1,Q2,f2,by rw[h1,g1,List.append_assoc],by rw[h2,g2,List.append_assoc],⟨P1,e1,Q1,f1,rfl,rfl,h3,h4,h5,g3⟩,g4⟩
theorem LV.keep {T T':List Pg} {d:Nat}:∀ {xs:Lvl} {P:List Nat} {e:KV},LV T d xs P e→(∀ i∈P,T'[i]? =T[i]?)→LV T' d xs P e
 | [],P,e,h,_=>h
 | (p,s)::xs,P,e,⟨P1,e1,P2,e2,h1,h2,h3,h4,h5,h6⟩,hk=>by
  subst h1;exact⟨P1,e1,P2,e2,rfl,h2,h3.keep fun i hi=>hk i (List.mem_append.2 (.inl hi)),h4,h5,LV.keep h6 fun i hi=>hk i (List.mem_append.2 (.inr hi))⟩
theorem LV.leasts {T:List Pg} {d:Nat}:∀ {xs:Lvl} {P:List Nat} {e:KV},LV T d xs P e→Asc e→Pw (xs.map (·.2))∧∀ s∈xs.map (·.2),∃ y∈e,y.1=s
 | [],P,e,h,_=>⟨List.Pairwise.nil,fun s hs=>by simp at hs⟩
 | (p,s)::xs,P,e,⟨P1,e1,P2,e2,h1,h2,h3,h4,⟨y,r,h5,h7⟩,h6⟩,ha=>by
  subst h2; subst h5;obtain⟨a1,a2,a3⟩:=List.pairwise_append.1 ha;obtain⟨q1,q2⟩:=LV.leasts h6 a2;rw[List.map_cons];refine⟨List.pairwise_cons.2 ⟨fun t ht=> ?_,q1⟩,fun t ht=> ?_⟩
  ·obtain⟨z,hz,e⟩:=q2 t ht;rw[←e,←h7];exact a3 y (by simp) z hz
  ·rcases List.mem_cons.1 ht with q | q
   ·exact⟨y,by simp,by rw[q]; exact h7⟩
   ·obtain⟨z,hz,e⟩:=q2 t q;exact⟨z,by simp [hz],e⟩
def fQ_ (base m:Nat):List Int:=(List.range m).map fun j=>((base+j:Nat):Int)
theorem qI_ (base m:Nat):fQ_ base (m+1)=(base:Int)::fQ_ (base+1) m:=by
 unfold fQ_;rw[List.range_succ_eq_map,List.map_cons,List.map_map];congr 1;apply List.map_congr_left;intro j _;simp only[Function.comp];congr 1;omega
theorem LV.kids {T:List Pg} {d next:Nat}:∀ {xs:Lvl} {base:Nat} {P:List Nat} {e:KV},xs≠[]→LV T d xs P e→(∀ j (h:j < xs.length),T[base+j]? =some (xs[j]).1)→Asc e→P.Nodup→(∀ i∈P,i < next)→next≤base→
 ∃ P',eL_ (jU_ T (d+1)) (fQ_ base xs.length) (xs.tail.map (·.2)) P' e∧P'.Nodup∧∀ i,i∈P'↔i∈P∨(base≤i∧i < base+xs.length)
 | [],_,_,_,h,_,_,_,_,_,_=>(h rfl).elim
 | (p,s)::xs,base,P,e,_,⟨P1,e1,P2,e2,h1,h2,h3,h4,h5,h6⟩,hT,ha,hnd,hlt,hnb=>by
  subst h1; subst h2;obtain⟨a1,a2,a3⟩:=List.pairwise_append.1 ha;obtain⟨d1,d2,d3⟩:=List.nodup_append.1 hnd;have hp:T[base]? =some p:=by have:=hT 0 (by simp); simpa using this
  have hB:jU_ T (d+1) base (base::P1) e1:=⟨h3.sub hp,p,hp,h4⟩;have hb1:base∉P1:=fun q=>by have:=hlt base (List.mem_append.2 (.inl q)); omega
  cases xs with
  | nil=>
   obtain⟨q1,q2⟩:=h6;subst q1; subst q2;refine⟨base::P1,?_,List.nodup_cons.2 ⟨hb1,d1⟩,fun i=> ?_⟩
   ·show eL_ _ (fQ_ base (0+1)) [] _ _;rw[qI_];exact⟨rfl,by simpa using hB⟩
   ·rw[List.mem_cons,List.append_nil];show i=base∨i∈P1↔i∈P1∨(base≤i∧i < base+1);constructor
    ·rintro (q | q)
     ·exact .inr (by omega)
     ·exact .inl q
    ·rintro (q | q)
     ·exact .inr q
     ·exact .inl (by omega)
  | cons x xs=>
   obtain⟨P',k1,k2,k3⟩:=LV.kids (next:=next) (base:=base+1) (by simp) h6 (fun j hj=>by
    have:=hT (j+1) (by simp at hj ⊢; omega);rw[←Nat.add_assoc,Nat.add_right_comm] at this;simpa using this) a2 d2 (fun i hi=>hlt i (List.mem_append.2 (.inr hi))) (by omega)
   have hm:∀ i,i∈P'→i∉base::P1:=fun i hi q=>by
    rcases (k3 i).1 hi with z | z
    ·rcases List.mem_cons.1 q with y | y
     ·subst y; have:=hlt i (List.mem_append.2 (.inr z)); omega
     ·exact d3 i y i z rfl
    ·rcases List.mem_cons.1 q with y | y
     ·omega
     ·have:=hlt i (List.mem_append.2 (.inl y)); omega
   refine⟨(base::P1)++P',?_,?_,fun i=> ?_⟩
   ·show eL_ _ (fQ_ base ((x::xs).length+1)) ((x::xs).map (·.2)) _ _;rw[qI_,List.map_cons];obtain⟨x1,x2⟩:=x;obtain⟨Q1,f1,Q2,f2,g1,g2,g3,g4,⟨y,r,g5,g6⟩,g7⟩:=h6;refine⟨base::P1,e1,P',e2,by simpa using hB,k1,rfl,rfl,fun z hz=> ?_,fun z hz=> ?_⟩
    ·show blt z.1 x2=true;rw[←g6];exact a3 z hz y (by rw[g2,g5]; simp)
    ·show blt z.1 x2=false;rw[←g6];rw[g2,g5,List.cons_append] at hz a2;rcases List.mem_cons.1 hz with q | q
     ·rw[q]; exact c4_ _
     ·exact jD_ ((List.pairwise_cons.1 a2).1 z q)
   ·exact List.nodup_append.2 ⟨List.nodup_cons.2 ⟨hb1,d1⟩,k2,fun i hi j hj e=>hm j hj (by rw[←e]; exact hi)⟩
   ·rw[List.mem_append,k3,List.mem_cons,List.mem_append];simp only[List.length_cons];constructor
    ·rintro ((q | q) | (q | q))
     ·exact .inr (by omega)
     ·exact .inl (.inl q)
     ·exact .inl (.inr q)
     ·exact .inr (by omega)
    ·rintro ((q | q) | q)
     ·exact .inl (.inr q)
     ·exact .inr (.inl q)
     ·rcases Nat.eq_or_lt_of_le q.1 with z | z
      ·exact .inl (.inl z.symm)
      ·exact .inr (.inr (by omega))
theorem jw_ (T:List Pg) (xs:Lvl) (next:Nat):∀ j,(dw_ T xs next j).length=T.length
 | 0=>rfl
 | j+1=>by unfold dw_; rw[List.length_set,jw_ T xs next j]
theorem jx_ (T:List Pg) (xs:Lvl) (next:Nat):∀ j i,i < next∨next+j≤i→(dw_ T xs next j)[i]? =T[i]?
 | 0,i,_=>rfl
 | j+1,i,h=>by
  unfold dw_;rw[List.getElem?_set_ne (by omega),jx_ T xs next j i (by omega)]
theorem uo_ (T:List Pg) (xs:Lvl) (next:Nat):∀ j i (h:i < j),next+j≤T.length→j≤xs.length→(dw_ T xs next j)[next+i]? =(xs[i]?).map (·.1)
 | 0,i,h,_,_=>by omega
 | j+1,i,h,hl,hx=>by
  unfold dw_;by_cases e:i=j
  ·subst e;rw[List.getElem?_set_self (by rw[jw_]; omega),List.getElem?_eq_getElem (by omega)]; rfl
  ·rw[List.getElem?_set_ne (by omega)];exact uo_ T xs next j i (by omega) (by omega) (by omega)
theorem DE_:∀ n:Fin 61,∀ i:Fin 15,5≤n.1→i.1 < kOf n.1 4→2≤aN_ n.1 (kOf n.1 4) (i.1+1) - aN_ n.1 (kOf n.1 4) i.1∧aN_ n.1 (kOf n.1 4) (i.1+1) - aN_ n.1 (kOf n.1 4) i.1≤4:=by decide+kernel
theorem DS_:∀ n:Fin 61,kOf n.1 4≤15∧(n.1≤4→kOf n.1 4=1)∧(5≤n.1→2≤kOf n.1 4):=by decide+kernel
theorem DM_:∀ n:Fin 16,∀ i:Fin 3,6≤n.1→i.1 < kOf n.1 5→3≤aN_ n.1 (kOf n.1 5) (i.1+1) - aN_ n.1 (kOf n.1 5) i.1∧aN_ n.1 (kOf n.1 5) (i.1+1) - aN_ n.1 (kOf n.1 5) i.1≤5:=by decide+kernel
theorem Dm_:∀ n:Fin 16,kOf n.1 5≤3∧(n.1≤5→kOf n.1 5=1)∧(6≤n.1→2≤kOf n.1 5):=by decide+kernel
theorem wD_ {α:Type} (l:List α) {a b:Nat} (h:a≤b):l.take b=l.take a++(l.drop a).take (b - a):=by
 obtain⟨c,rfl⟩:∃ c,b=a+c:=⟨b - a,by omega⟩;rw[List.take_add,Nat.add_sub_cancel_left]
theorem ux_ {T:List Pg} {e:KV} (ha:Asc e) (hk:k8_ e) (hl:e.length≤4):gp_ T 0 ⟨true,true,e.map (·.1),e.map (·.2),[]⟩ [] e:=by
 refine⟨⟨by simpa using hl,⟨rfl,uy_ (Di_ ha),fun k hk'=> ?_,fun _=>⟨by simp,rfl,fun v hv=> ?_⟩,fun h=>by cases h⟩⟩,.inl ⟨rfl,rfl,rfl,(B4_ e).symm⟩⟩
 ·obtain⟨x,hx,rfl⟩:=List.mem_map.1 hk';exact (hk x hx).1
 ·obtain⟨x,hx,rfl⟩:=List.mem_map.1 hv;exact (hk x hx).2
theorem tl_ {T:List Pg} {d next base:Nat} {xs:Lvl} {P:List Nat} {e:KV} (h2:2≤xs.length) (h5:xs.length≤5) (hx:LV T d xs P e) (hT:∀ j (h:j < xs.length),T[base+j]? =some (xs[j]).1) (ha:Asc e) (hk:k8_ e) (hnd:P.Nodup) (hlt:∀ i∈P,i < next) (hnb:next≤base) (hn1:1≤next) (h48:base+xs.length≤48):
 ∃ P',gp_ T (d+1) ⟨true,false,xs.tail.map (·.2),[],fQ_ base xs.length⟩ P' e∧P'.Nodup∧∀ i,i∈P'↔i∈P∨(base≤i∧i < base+xs.length):=by
 obtain⟨P',k1,k2,k3⟩:=LV.kids (next:=next) (fun q=>by rw[q] at h2; simp at h2) hx hT ha hnd hlt hnb;obtain⟨l1,l2⟩:=hx.leasts ha;have ht:(xs.tail.map (·.2)).length=xs.length - 1:=by simp
 have hsub:∀ s∈xs.tail.map (·.2),s∈xs.map (·.2):=fun s hs=>by
  obtain⟨x,hx,e⟩:=List.mem_map.1 hs;exact List.mem_map.2 ⟨x,List.mem_of_mem_tail hx,e⟩
 refine⟨P',⟨⟨by show (xs.tail.map (·.2)).length≤4; omega,⟨rfl,uy_ ?_,fun k hk'=> ?_,fun h=>(by cases h),fun _=>⟨by show 1≤(xs.tail.map (·.2)).length; omega,rfl,?_,fun k hk'=> ?_,?_⟩⟩⟩,.inr ⟨rfl,k1⟩⟩,k2,k3⟩
 ·show Pw (xs.tail.map (·.2));rw[List.map_tail];exact l1.sublist (List.tail_sublist _)
 ·obtain⟨y,hy,e⟩:=l2 k (hsub k hk');rw[←e]; exact (hk y hy).1
 ·show (fQ_ base xs.length).length=(xs.tail.map (·.2)).length+1;unfold fQ_; simp; omega
 ·obtain⟨j,hj,e⟩:=List.mem_map.1 (show k∈fQ_ base xs.length from hk');have:=List.mem_range.1 hj;omega
 ·show (fQ_ base xs.length).Nodup;unfold fQ_;exact List.pairwise_map.2 (List.nodup_range.imp fun {a b} h q=>h (by omega))
theorem zl_ (T:List Pg) {ps:KV} (ha:Asc ps) (hk:k8_ ps) (h5:5≤ps.length) (h60:ps.length≤60):LV T 0 (b3_ ps) [] ps:=by
 have hK:=DS_ ⟨ps.length,by omega⟩;dsimp only at hK;have key:∀ i,i≤kOf ps.length 4→LV T 0 ((List.range i).map (gj_ ps (kOf ps.length 4))) [] (ps.take (aN_ ps.length (kOf ps.length 4) i)):=by
  intro i;induction i with
  | zero=>intro _; rw[e3_]; exact⟨rfl,rfl⟩
  | succ i ih=>
   intro hi;have hc:=DE_ ⟨ps.length,by omega⟩ ⟨i,by omega⟩ h5 (by show i < kOf ps.length 4; omega);dsimp only at hc;have hm:=i9_ ps.length (kOf ps.length 4) i;have hle:=jW_ (n:=ps.length) (k:=kOf ps.length 4) (i:=i+1) hi (hR_ _ _);rw[List.range_succ,List.map_append,List.map_cons,List.map_nil,wD_ ps hm];have hlen:((ps.drop (aN_ ps.length (kOf ps.length 4) i)).take (aN_ ps.length (kOf ps.length 4) (i+1) - aN_ ps.length (kOf ps.length 4) i)).length=aN_ ps.length (kOf ps.length 4) (i+1) - aN_ ps.length (kOf ps.length 4) i:=by
    rw[List.length_take,List.length_drop]; omega
   have hsl:((ps.drop (aN_ ps.length (kOf ps.length 4) i)).take (aN_ ps.length (kOf ps.length 4) (i+1) - aN_ ps.length (kOf ps.length 4) i)).Sublist ps:=(List.take_sublist _ _).trans (List.drop_sublist _ _);refine LV.append (ih (by omega)) ?_;have hL:=ux_ (T:=T) (ha.sublist hsl) (fun x hx=>hk x (hsl.subset hx)) (by omega);refine⟨[],_,[],[],rfl,by simp,hL,by simp [hlen]; omega,?_,⟨rfl,rfl⟩⟩;have hlt:aN_ ps.length (kOf ps.length 4) i < ps.length:=by omega
   rw[decide_eq_true (by omega)];refine⟨ps[aN_ ps.length (kOf ps.length 4) i],(ps.drop (aN_ ps.length (kOf ps.length 4) i+1)).take (aN_ ps.length (kOf ps.length 4) (i+1) - aN_ ps.length (kOf ps.length 4) i - 1),?_,?_⟩
   ·rw[List.drop_eq_getElem_cons hlt];obtain⟨c,hc'⟩:∃ c,aN_ ps.length (kOf ps.length 4) (i+1) - aN_ ps.length (kOf ps.length 4) i=c+1:=⟨_,(Nat.succ_pred_eq_of_pos (by omega)).symm⟩;rw[hc',List.take_succ_cons,Nat.add_sub_cancel]
   ·rw[List.getElem?_eq_getElem hlt]; rfl
 have:=key _ (Nat.le_refl _);rw[ld_ (hR_ _ _),List.take_length] at this;exact this
theorem yT_ {T:List Pg} {d next:Nat} {xs:Lvl} {P:List Nat} {ps:KV} (hx:LV T d xs P ps) (ha:Asc ps) (hk:k8_ ps) (hnd:P.Nodup) (hP:∀ i,i∈P↔1≤i∧i < next) (hn1:1≤next) (h2:2≤xs.length) (h15:xs.length≤15) (h48:next+xs.length≤48) (hT:T.length=48):
 ∃ P',P'.Nodup∧(∀ i,i∈P'↔1≤i∧i < next+xs.length)∧
  ((xs.length≤5∧∃ q,upD xs next=[q]∧gp_ (dw_ T xs next xs.length) (d+1) q.1 P' ps)∨(6≤xs.length∧LV (dw_ T xs next xs.length) (d+1) (upD xs next) P' ps)):=by
 have hK:=Dm_ ⟨xs.length,by omega⟩;dsimp only at hK;have hx':LV (dw_ T xs next xs.length) d xs P ps:=hx.keep fun i hi=>jx_ _ _ _ _ _ (.inl ((hP i).1 hi).2);have hpl:∀ j (h:j < xs.length),(dw_ T xs next xs.length)[next+j]? =some (xs[j]).1:=fun j h=>by
  rw[uo_ T xs next xs.length j h (by omega) (Nat.le_refl _),List.getElem?_eq_getElem h]; rfl
 generalize dw_ T xs next xs.length=T' at*;by_cases h6:xs.length≤5
 ·have hk1:=hK.2.1 h6;obtain⟨P',k1,k2,k3⟩:=tl_ (base:=next) h2 h6 hx' hpl ha hk hnd (fun i hi=>((hP i).1 hi).2) (Nat.le_refl _) hn1 h48;refine⟨P',k2,fun i=>by rw[k3,hP]; omega,.inl ⟨h6,(m8_ xs next 1 0),by unfold upD; rw[hk1]; rfl,?_⟩⟩;have e0:aN_ xs.length 1 0=0:=e3_ _ _;have e1:aN_ xs.length 1 (0+1)=xs.length:=ld_ (by omega);unfold m8_;dsimp only;rw[e0,e1];have q1:(xs.drop (0+1)).take (xs.length - (0+1))=xs.tail:=by rw[Nat.zero_add,List.drop_one,List.take_of_length_le (by simp)]
  have q2:((List.range (xs.length - 0)).map fun j=>((next+(0+j):Nat):Int))=fQ_ next xs.length:=by
   unfold fQ_;rw[Nat.sub_zero];apply List.map_congr_left;intro j _;congr 2;omega
  rw[q1,q2];exact k1
 ·have h6:6≤xs.length:=by omega
  have key:∀ i,i≤kOf xs.length 5→∀ Q f,LV T' d (xs.take (aN_ xs.length (kOf xs.length 5) i)) Q f→Asc f→k8_ f→Q.Nodup→(∀ j∈Q,j < next)→∃ P',P'.Nodup∧(∀ j,j∈P'↔j∈Q∨(next≤j∧j < next+aN_ xs.length (kOf xs.length 5) i))∧LV T' (d+1) ((List.range i).map (m8_ xs next (kOf xs.length 5))) P' f:=by
   intro i;induction i with
   | zero=>
    intro _ Q f hQ _ _ _ _;rw[e3_,List.take_zero] at hQ;obtain⟨q1,q2⟩:=hQ;subst q1; subst q2;exact⟨[],List.nodup_nil,fun j=>by rw[e3_]; simp,rfl,rfl⟩
   | succ i ih=>
    intro hi Q f hQ haf hkf hnQ hlQ;have hc:=DM_ ⟨xs.length,by omega⟩ ⟨i,by omega⟩ h6 (by show i < kOf xs.length 5; omega);dsimp only at hc;have hm:=i9_ xs.length (kOf xs.length 5) i;have hle:=jW_ (n:=xs.length) (k:=kOf xs.length 5) (i:=i+1) hi (hR_ _ _);rw[wD_ xs hm] at hQ;obtain⟨Q1,f1,Q2,f2,g1,g2,g3,g4⟩:=hQ.split;subst g1; subst g2;obtain⟨a1,a2,a3⟩:=List.pairwise_append.1 haf;obtain⟨d1,d2,d3⟩:=List.nodup_append.1 hnQ;obtain⟨P1,p1,p2,p3⟩:=ih (by omega) Q1 f1 g3 a1 (fun x hx=>hkf x (by simp [hx])) d1 (fun j hj=>hlQ j (by simp [hj]));generalize hci:aN_ xs.length (kOf xs.length 5) i=ci at*;generalize hcj:aN_ xs.length (kOf xs.length 5) (i+1)=cj at*;have hlen:((xs.drop ci).take (cj - ci)).length=cj - ci:=by rw[List.length_take,List.length_drop]; omega
    obtain⟨P2,k1,k2,k3⟩:=tl_ (base:=next+ci) (next:=next) (by rw[hlen]; omega) (by rw[hlen]; omega) g4 (fun j hj=>by
     rw[Nat.add_assoc,hpl (ci+j) (by omega)];simp) a2 (fun x hx=>hkf x (by simp [hx])) d2 (fun j hj=>hlQ j (by simp [hj])) (by omega) hn1 (by rw[hlen]; omega)
    rw[hlen] at k1 k3;refine⟨P1++P2,List.nodup_append.2 ⟨p1,k2,fun j hj j' hj' e=> ?_⟩,fun j=> ?_,?_⟩
    ·subst e;have z1:=(p2 j).1 hj;have z2:=(k3 j).1 hj';rcases z1 with z1 | z1
     ·rcases z2 with z2 | z2
      ·exact d3 j z1 j z2 rfl
      ·have:=hlQ j (by simp [z1]); omega
     ·rcases z2 with z2 | z2
      ·have:=hlQ j (by simp [z2]); omega
      ·omega
    ·rw[List.mem_append,p2,k3,List.mem_append];constructor
     ·rintro ((q | q) | (q | q))
      ·exact .inl (.inl q)
      ·exact .inr (by omega)
      ·exact .inl (.inr q)
      ·exact .inr (by omega)
     ·rintro ((q | q) | q)
      ·exact .inl (.inl q)
      ·exact .inr (.inl q)
      ·rcases Nat.lt_or_ge j (next+ci) with z | z
       ·exact .inl (.inr (by omega))
       ·exact .inr (.inr (by omega))
    ·rw[List.range_succ,List.map_append,List.map_cons,List.map_nil];refine LV.append p3 ?_;have q0:m8_ xs next (kOf xs.length 5) i=(⟨true,false,((xs.drop ci).take (cj - ci)).tail.map (·.2),[],fQ_ (next+ci) (cj - ci)⟩,(xs[ci]?.map (·.2)).getD (mkS [])):=by
      unfold m8_;rw[hci,hcj];congr 2
      ·rw[←List.drop_one,←List.drop_take,←List.drop_take,List.drop_drop]
      ·unfold fQ_;apply List.map_congr_left;intro j _;congr 1;omega
     have hlt:ci < xs.length:=by omega
     rw[q0,List.getElem?_eq_getElem hlt];refine⟨P2,f2,[],[],by simp,by simp,k1,by simp; omega,?_,rfl,rfl⟩;rw[List.drop_eq_getElem_cons hlt] at g4;obtain⟨c,hc'⟩:∃ c,cj - ci=c+1:=⟨_,(Nat.succ_pred_eq_of_pos (by omega)).symm⟩;rw[hc',List.take_succ_cons] at g4;obtain⟨_,e1,_,e2,_,w2,_,_,⟨y,r,w5,w6⟩,_⟩:=g4;refine⟨y,r++e2,by rw[w2,w5]; rfl,w6⟩
  have hall:aN_ xs.length (kOf xs.length 5) (kOf xs.length 5)=xs.length:=ld_ (hR_ _ _);obtain⟨P',z1,z2,z3⟩:=key _ (Nat.le_refl _) P ps (by rw[hall,List.take_length]; exact hx') ha hk hnd (fun i hi=>((hP i).1 hi).2);rw[hall] at z2;exact⟨P',z1,fun i=>by rw[z2,hP]; omega,.inr ⟨h6,z3⟩⟩
theorem y6_ (i:Nat) (h:1≤i) (h48:i < 48):jR_[i]? =some noPg:=by
 obtain⟨j,rfl⟩:∃ j,i=j+1:=⟨i - 1,by omega⟩;show (List.replicate 47 noPg)[j]? =some noPg;rw[List.getElem?_replicate,if_pos (by omega)]
theorem mW_ {T:List Pg} {d next:Nat} {p:Pg} {P:List Nat} {ps:KV} (h:gp_ T d p P ps) (hnd:P.Nodup) (hP:∀ i,i∈P↔1≤i∧i < next) (hT:T.length=48) (hrest:∀ i,next≤i→1≤i→i < 48→T[i]? =some noPg) (h60:ps.length≤60):hg_ (T.set 0 p) (d+1) (0::P) ps:=by
 have h0:0∉P:=fun q=>by have:=(hP 0).1 q; omega
 refine⟨by simp [hT],(h.keep fun i hi=>List.getElem?_set_ne (fun e=>h0 (by rw[e]; exact hi))).sub (List.getElem?_set_self (by omega)),List.nodup_cons.2 ⟨h0,hnd⟩,fun i q hq hi=> ?_,h60⟩;have hi48:i < 48:=by have:=(List.getElem?_eq_some_iff.1 hq).1; simp [hT] at this; exact this
 have hi0:i≠0:=fun e=>hi (by simp [e]);have hiP:i∉P:=fun z=>hi (by simp [z]);rw[List.getElem?_set_ne (Ne.symm hi0),hrest i (by have:=mt (hP i).2 hiP; omega) (by omega) hi48] at hq;cases hq;rfl
theorem vK_ {ps:KV} (ha:Asc ps) (hk:k8_ ps) (h60:ps.length≤60):∃ d P,hg_ (m4_ ps) d P ps:=by
 have hK:=DS_ ⟨ps.length,by omega⟩;dsimp only at hK;have hll:(b3_ ps).length=kOf ps.length 4:=by simp [b3_]
 unfold m4_;by_cases h5:5≤ps.length
 ·have hL:=zl_ jR_ ha hk h5 h60;have h2:=hK.2.2 h5;rw[show (64:Nat)=63+1 from rfl,gr_,decide_eq_true (by omega)];dsimp only;obtain⟨P1,n1,m1,c1⟩:=yT_ (next:=1) hL ha hk List.nodup_nil (fun i=>⟨fun q=>by simp at q,fun q=>by omega⟩) (Nat.le_refl _) (by omega) (by omega) (by omega) rfl;have hT1:(dw_ jR_ (b3_ ps) 1 (b3_ ps).length).length=48:=jw_ _ _ _ _;have hr1:∀ i,1+(b3_ ps).length≤i→1≤i→i < 48→(dw_ jR_ (b3_ ps) 1 (b3_ ps).length)[i]? =some noPg:=fun i q1 q2 q3=>by
   rw[jx_ _ _ _ _ _ (.inr q1)]; exact y6_ i q2 q3
  generalize hnx:1+(b3_ ps).length=nx at*;generalize hTT:dw_ jR_ (b3_ ps) 1 (b3_ ps).length=T1 at*;rcases c1 with⟨_,q,e,hq⟩ | ⟨h6,hU⟩
  ·rw[e,show (63:Nat)=62+1 from rfl,gr_,decide_eq_false (by simp)];exact⟨_,_,mW_ hq n1 m1 hT1 hr1 h60⟩
  ·have hK5:=Dm_ ⟨(b3_ ps).length,by omega⟩;dsimp only at hK5;have hul:(upD (b3_ ps) 1).length=kOf (b3_ ps).length 5:=by simp [upD]
   have h22:=hK5.2.2 h6;generalize upD (b3_ ps) 1=ys at*;rw[show (63:Nat)=62+1 from rfl,gr_,decide_eq_true (by omega)];dsimp only;obtain⟨P2,n2,m2,c2⟩:=yT_ (next:=nx) hU ha hk n1 m1 (by omega) (by omega) (by omega) (by omega) hT1;rcases c2 with⟨_,q,e,hq⟩ | ⟨h6',_⟩
   ·rw[e,show (62:Nat)=61+1 from rfl,gr_,decide_eq_false (by simp)];exact⟨_,_,mW_ hq n2 m2 (by rw[jw_]; exact hT1) (fun i q1 q2 q3=>by rw[jx_ _ _ _ _ _ (.inr q1)]; exact hr1 i (by omega) q2 q3) h60⟩
   ·omega
 ·have h1:=hK.2.1 (by omega);have hL:b3_ ps=[gj_ ps 1 0]:=by unfold b3_; rw[h1]; rfl
  rw[show (64:Nat)=63+1 from rfl,gr_,hL,decide_eq_false (by simp)];have hp:(gj_ ps 1 0).1=⟨true,true,ps.map (·.1),ps.map (·.2),[]⟩:=by
   unfold gj_;rw[e3_,ld_ (show 0 < 0+1 by omega),Nat.sub_zero,List.drop_zero,List.take_length]
  refine⟨1,[0],mW_ (next:=1) (P:=[]) ?_ List.nodup_nil (fun i=>⟨fun q=>by simp at q,fun q=>by omega⟩) rfl (fun i q1 q2 q3=>y6_ i q2 q3) h60⟩;show gp_ jR_ 0 (gj_ ps 1 0).1 [] ps;rw[hp];exact ux_ ha hk (by omega)
theorem wV_ {ps:KV} (ha:Asc ps) (hk:k8_ ps) (h60:ps.length≤60):0 < aU_ (m4_ ps)∧dp_ (m4_ ps)=ps:=by
 obtain⟨d,P,w⟩:=vK_ ha hk h60;exact⟨w.pos',w.sound.2⟩
end Go.Am
section
namespace Go.Am
def WfT (T:List Pg):Nat→Nat→Prop
 | 0,_=>False
 | f+1,a=>∃ p,T[a]? =some p∧mD_ p∧∀ k∈p.kids,WfT T f k.toNat
theorem yn_ (T:List Pg):∀ (f a deep:Nat) (lo hi:ByteArray) (st st':WS),cj_ T f a deep lo hi st=some st'→WfT T f a:=by
 intro f;induction f with
 | zero=>intro _ _ _ _ _ _ h; cases h
 | succ f ih=>
  intro a deep lo hi st st' h;obtain⟨p,hp,hok,hcase⟩:=eV_ h;obtain⟨_,hmay,_,_⟩:=jV_ hok;have hm:=(eg_ p).1 hmay;refine⟨p,hp,hm,fun k hk=> ?_⟩;rcases hcase with⟨hl,_⟩ | ⟨_,hks⟩
  ·rw[(hm.2.leaf hl).2.1] at hk; simp at hk
  ·have key:=jA_ (P:=fun ks _ _=>∀ k∈ks,WfT T f k.toNat) (fun _ k hk=>(by simp at hk)) (fun k ks i s s1 s' hr hP k' hk'=>by
    rcases List.mem_cons.1 hk' with e | e
    ·rw[e]; exact ih _ _ _ _ _ _ hr
    ·exact hP k' e) _ _ _ _ hks
   exact key k hk
theorem SF.good {T:List Pg} {st:WS} (s:SF T st):WfT T 49 0:=yn_ T _ _ _ _ _ _ _ s.walk
theorem wJ_ {p:Pg} (h:mD_ p):p.vals.length≤p.keys.length∧(p.keys.zip p.vals).length=p.vals.length:=by
 have:p.vals.length≤p.keys.length:=by
  cases hl:p.leaf with
  | true=>have:=(h.2.leaf hl).1; omega
  | false=>have:=(h.2.inner hl).2.1; rw[this]; simp
 exact⟨this,by rw[List.length_zip]; omega⟩
theorem wv_ {T:List Pg} {f:Nat} (ks:List Int) (i:Nat) (hi:i < ks.length):(ks.drop i).flatMap (fun k=>allD T f k.toNat)=allD T f (ks[i]).toNat++(ks.drop (i+1)).flatMap (fun k=>allD T f k.toNat):=by
 rw[List.drop_eq_getElem_cons hi,List.flatMap_cons]
theorem yo_ {T:List Pg} {f a:Nat} {p:Pg} (hp:T[a]? =some p):allD T (f+1) a=p.keys.zip p.vals++p.kids.flatMap fun k=>allD T f k.toNat:=by rw[allD,hp]
theorem Bd_ {α:Type} (l:List α) (i:Nat) (hi:i < l.length):l.take (i+1)=l.take i++[l[i]]:=by rw[List.take_succ_eq_append_getElem hi]
section
variable {H0:Hp} {x:Pl} {cs:List PC} {T:List Pg}
theorem C8_ {H0 H:Hp} {a:Pl} {n:Nat} {ps:KV} {K:Pl→Nat→Hp→Prop} (h0:H0<+:H) (h:Own H H0.length tKV a (n*2) (bN_ ps)) (hl:ps.length=n) (x y:ByteArray) (hn:n≤100000)
 (hK:∀ a' H',H0<+:H'→Own H' H0.length tKV a' ((n+1)*2) (bN_ (ps++[(x,y)]))→(ps++[(x,y)]).length=n+1→Ex H0 a H H'→(∀ l o,a'=some (l,o)→H.length≤l∧o=0)→K a' (n+1) H'):ap H tKV 2 32 a n [.str x,.str y] 1 K:=
 i6_ (by omega) h0 h (by rfl) (by unfold Lim; omega) fun a' H' o e f=>hK a' H' e.pre (by rw[kvCells_append']; exact o) (by simp [hl]) e f
where
 kvCells_append':∀ {ps qs:KV},bN_ (ps++qs)=bN_ ps++bN_ qs:=by intro ps qs; simp [bN_]
set_option maxRecDepth 100000 in
theorem mp_ (hT:Tr H0 x 48 cs T):∀ (f at_:Nat) (H:Hp) (Q:Post) (a:Pl) (n:Nat) (ps:KV),WfT T f at_→at_ < 48→H0<+:H→Own H H0.length tKV a (n*2) (bN_ ps)→ps.length=n→n+(allD T f at_).length≤1000→
 (∀ a' m H',H0<+:H'→Own H' H0.length tKV a' (m*2) (bN_ (ps++allD T f at_))→(ps++allD T f at_).length=m→Q (.g (.sl a' m 2)) H')→
 bo_.at f [.agg [.sl x 48 5],.g (.int .i64 (at_:Int)),.g (.sl a n 2)] H Q:=by
 intro f;induction f with
 | zero=>intro _ _ _ _ _ _ h; exact h.elim
 | succ f ih=>
  intro at_ H Q a n ps hg hat h0 hO hl hb hQ
  obtain⟨p,hp,hm,hkids⟩:=hg;obtain⟨l,o,c,p',rfl,hc,hp',hpc,g0,g1,g2,g3,g4⟩:=hT.get hat;rw[hp] at hp'; cases hp';obtain⟨hv1,hv2⟩:=wJ_ hm;rw[yo_ hp] at hb hQ;rw[List.length_append,hv2] at hb;have hn1:=hpc.keys.len;have hn2:=hpc.vals.len;have hn3:=hpc.kids.len;have hl3:=hpc.kids.lim;have hl2:=hpc.vals.lim;have k48:∀ k∈p.kids,1≤k∧k < 48:=fun k hk=>by
   cases hlf:p.leaf with
   | true=>rw[(hm.2.leaf hlf).2.1] at hk; simp at hk
   | false=>exact (hm.2.inner hlf).2.2.2.1 k hk
  have l7:∀ (F i:Nat) (H:Hp) (a:Pl) (n:Nat) (qs:KV),p.kids.length - i < F→i≤p.kids.length→H0<+:H→Own H H0.length tKV a (n*2) (bN_ qs)→qs.length=n→n+((p.kids.drop i).flatMap fun k=>allD T f k.toNat).length≤1000→
   qs++((p.kids.drop i).flatMap fun k=>allD T f k.toNat)=ps++(p.keys.zip p.vals++p.kids.flatMap fun k=>allD T f k.toNat)→
   bo_.l7 (bo_.at f) F a n (some (l,o)) 48 c.u c.l c.a1 c.n1 c.a2 c.n2 c.a3 c.n3 (i:Int) H Q:=by
   intro F;induction F with
   | zero=>intro i _ _ _ _ h; omega
   | succ F ihF=>
    intro i H a n qs hF hi h0 hO hl hb he;rw[bo_.l7_eq];by_cases hik:i < p.kids.length
    ·rw[wv_ p.kids i hik] at hb he;rw[List.length_append] at hb;have hmem:=List.getElem_mem hik;have hk:=k48 _ hmem;have ek:p.kids[i]=((p.kids[i].toNat:Nat):Int):=by omega
     rw[aQ_ (by simp; omega),am_,(hpc.mono h0).kids.rd i rfl hik];generalize hkk:p.kids[i]=kk at*;rw[ek];refine ih kk.toNat H _ a n qs (hkids kk hmem) (by omega) h0 hO hl (by omega) fun a' m H' h0' hO' hl'=> ?_;simp only[aK_,as_];rw[ar_ (by omega)];exact ihF (i+1) H' a' m _ (by omega) (by omega) h0' hO' hl' (by rw[←hl',List.length_append,hl]; omega) (by rw[List.append_assoc]; exact he)
    ·rw[aL_ (by simp; omega)];rw[List.drop_of_length_le (by omega),List.flatMap_nil,List.append_nil] at he;subst he;exact hQ a n H h0 hO hl
  have l3:∀ (F i:Nat) (H:Hp) (a:Pl) (n:Nat),p.vals.length - i+p.kids.length+2 < F→i≤p.vals.length→H0<+:H→Own H H0.length tKV a (n*2) (bN_ (ps++(p.keys.zip p.vals).take i))→(ps++(p.keys.zip p.vals).take i).length=n→
   bo_.l3 (bo_.at f) F a n (some (l,o)) 48 c.u c.l c.a1 c.n1 c.a2 c.n2 c.a3 c.n3 (i:Int) H Q:=by
   intro F;induction F with
   | zero=>intro i _ _ _ h; omega
   | succ F ihF=>
    intro i H a n hF hi h0 hO hl';rw[bo_.l3_eq];have hnn:n=ps.length+i:=by rw[←hl',List.length_append,List.length_take,hv2]; omega
    by_cases hik:i < p.vals.length
    ·rw[aQ_ (by simp; omega),am_,(hpc.mono h0).keys.rd i rfl (by omega),am_,(hpc.mono h0).vals.rd i rfl hik,am_];refine C8_ h0 hO hl' _ _ (by omega) fun a' H' h0' hO' hl2 _ _=> ?_;rw[ar_ (by omega)];have e:(p.keys.zip p.vals)[i]'(by omega)=(p.keys[i]'(by omega),p.vals[i]):=by simp
     have e2:ps++(p.keys.zip p.vals).take (i+1)=ps++(p.keys.zip p.vals).take i++[(p.keys[i]'(by omega),p.vals[i])]:=by
      rw[Bd_ _ i (by omega),e,List.append_assoc]
     exact ihF (i+1) H' a' (n+1) (by omega) (by omega) h0' (by rw[e2]; exact hO') (by rw[e2]; exact hl2)
    ·rw[aL_ (by simp; omega)];have e:(p.keys.zip p.vals).take i=p.keys.zip p.vals:=List.take_of_length_le (by omega);rw[e] at hO hl';refine l7 F 0 H a n _ (by omega) (by omega) h0 hO hl' ?_ (by rw[List.drop_zero,List.append_assoc]);rw[List.drop_zero];omega
  refine⟨p.vals.length+p.kids.length+4,?_⟩;rw[w3_,am_];refine ab_ (by simp; omega) ?_;have etN:tN (at_:Int)=at_:=rfl
  rw[ah_,etN,ea_ (b5_ h0 g0) (b5_ h0 g1) (b5_ h0 g2) (b5_ h0 g3) (b5_ h0 g4)];exact l3 _ 0 H a n (by omega) (by omega) h0 (by simpa using hO) (by simpa using hl)
end
def inR (lo hi:ByteArray) (x:ByteArray × ByteArray):Bool:= !(blt x.1 lo)&&(decide (hi.size=0)||blt x.1 hi)
def dT_ (T:List Pg):KV:=match decide (0 < aU_ T) with | true=>dp_ T | false=>[]
def ks_ (e:Int) (T:List Pg):Int:=match decide (0 < aU_ T) with | true=>0 | false=>e
def qC_ (T:List Pg) (lo hi:ByteArray):KV:=(dT_ T).filter (inR lo hi)
theorem ie_ (T:List Pg):(dT_ T).length≤60:=by
 unfold dT_;by_cases h:0 < aU_ T
 ·rw[decide_eq_true h];obtain⟨st,s⟩:=SF.of h;exact s.ents.2.2.2
 ·rw[decide_eq_false h]; simp
theorem zG_ (T:List Pg):qC_ T (mkS []) (mkS [])=dT_ T:=by
 unfold qC_;rw[List.filter_eq_self];intro x _;unfold inR;rw[Ah_]; rfl
section
variable {H:Hp} {Q:Post} {x:Pl} {n:Nat} {cs:List PC} {T:List Pg}
theorem tQ_ (hT:Tr H x n cs T) (hQ:∀ a m H',H<+:H'→Own H' H.length tKV a (m*2) (bN_ (dT_ T))→(dT_ T).length=m→Q (.tup [.s (.sl a m 2),.s (.int .i64 (ks_ 1400 T))]) H'):g4_ [.agg [.sl x n 5]] H Q:=by
 refine⟨1,?_⟩;rw[wE_];refine kb_ hT fun H1 p1=> ?_;simp only[aK_,al_];unfold dT_ ks_ at hQ;by_cases h:0 < aU_ T
 ·rw[decide_eq_true h] at hQ ⊢;rw[aL_ (by decide)];obtain⟨st,s⟩:=SF.of h;have hn:n=48:=by have:=hT.lenT; have:=s.len; omega
  subst hn;refine⟨49,?_⟩;refine mp_ (hT.mono p1) 49 0 H1 _ none 0 [] s.good (by omega) (List.prefix_refl _) (.inl ⟨rfl,rfl,rfl⟩) rfl (by have:=s.ents.2.2.2; unfold dp_ at this; omega) fun a m H' p' hO hl=> ?_;simp only[aK_,as_];exact hQ a m H' (p1.trans p') (hO.base (jq_ p1)) hl
 ·rw[decide_eq_false h] at hQ ⊢;rw[aQ_ (by decide)];exact hQ none 0 H1 p1 (.inl ⟨rfl,rfl,rfl⟩) rfl
end
end Go.Am
end
namespace Go.Am
theorem lw_ {ps qs:KV}:bN_ (ps++qs)=bN_ ps++bN_ qs:=by simp [bN_]
theorem Dd_ (lo hi k v:ByteArray):inR lo hi (k,v)=(!(blt k lo)&&(decide (hi=mkS [])||blt k hi)):=by
 unfold inR;dsimp only;congr 2;rw[decide_eq_decide];exact (ng_ hi).symm
structure SJ (B H:Hp) (t:TypeId) (ps:KV):Prop where
 pre:B<+:H
 out:∃ a n,H[B.length]? =some (.row true t [.sl a n 2])∧Own H (B.length+1) tKV a (n*2) (bN_ ps)∧ps.length=n
section
variable {B H:Hp} {t:TypeId} {ps:KV} {lf lt:Nat} {lo hi:ByteArray} {Q:Post}
theorem SJ.add (g:SJ B H t ps) (k v:ByteArray) (hn:ps.length≤1000) {K:Hp→Prop} (hK:∀ H',SJ B H' t (ps++[(k,v)])→K H'):
 rd H B.length 0 fun c=>dL 2 c fun x n=>chk true (ap H tKV 2 32 x n [.str k,.str v] 1 fun x n H=>wr H B.length 0 (.sl x n 2) fun H=>K H):=by
 obtain⟨a,n,hrow,hO,hl⟩:=g.out;have hlt:=(List.getElem?_eq_some_iff.1 hrow).1;rw[ag_ (v:= .sl a n 2) (by rw[bO_ hrow]; rfl),as_,am_];have hb:(H.take (B.length+1)).length=B.length+1:=by rw[List.length_take]; omega
 refine i6_ (H0:=H.take (B.length+1)) (by omega) (List.take_prefix _ _) (by rw[hb]; exact hO) rfl (by unfold Lim; omega) fun a' H' o e f=> ?_;rw[hb] at o;have hrow':H'[B.length]? =some (.row true t [.sl a n 2]):=by
  rw[cd_ e.pre (by omega),List.getElem?_take,if_pos (by omega)]; exact hrow
 rw[kV_ hrow' (by simp)];have hB:B<+:H':=by
  refine List.IsPrefix.trans ?_ e.pre;exact List.prefix_take_iff.2 ⟨g.pre,by omega⟩
 refine hK _ ⟨d2_ hB (Nat.le_refl _) _,a',n+1,?_,?_,by simp [hl]⟩
 ·rw[List.getElem?_set_self (List.getElem?_eq_some_iff.1 hrow').1]; rfl
 ·rw[lw_];exact Own.keep o fun l e'=>by rw[List.getElem?_set_ne (by have:=(f l 0 e').1; omega)]
end
section
variable {H0 B:Hp} {x:Pl} {cs:List PC} {T:List Pg} {t:TypeId} {lp lf lt gf:Nat} {lo hi:ByteArray} {E:Nat→Sm}
end
section
variable {H:Hp} {Q:Post} {x:Pl} {n:Nat} {cs:List PC} {T:List Pg} {lo hi:ByteArray}
end
end Go.Am
namespace Go.Am
theorem om_:∀ (ps:KV) (k:Nat),bN_ (ps.drop k)=(bN_ ps).drop (k*2)
 | [],k=>by simp [bN_]
 | x::ps,0=>by simp
 | x::ps,k+1=>by
  rw[List.drop_succ_cons,om_ ps k];have e:(k+1)*2=k*2+1+1:=by omega
  rw[e]; rfl
theorem od_:∀ (ps:KV) (k:Nat),bN_ (ps.take k)=(bN_ ps).take (k*2)
 | [],k=>by simp [bN_]
 | x::ps,0=>by simp [bN_]
 | x::ps,k+1=>by
  have e:(k+1)*2=k*2+1+1:=by omega
  rw[List.take_succ_cons,e];show GV.str x.1::GV.str x.2::bN_ (ps.take k)=_;rw[od_ ps k]; rfl
theorem Kv.part {H:Hp} {a:Pl} {n:Nat} {ps:KV} (h:Kv H a n ps) (k m:Nat) (hm:k+m≤n):Kv H (shf a (k*2)) m ((ps.drop k).take m):=by
 refine⟨?_,by rw[List.length_take,List.length_drop,h.len]; omega⟩;rw[od_,om_];exact mZ_ h.cells (k*2) (m*2) (by omega)
section
variable {H:Hp} {Q:Post}
end
def kvA:KV:=[(mkS [97],mkS [49]),(mkS [98],mkS []),(mkS [99],mkS [51]),(mkS [100],mkS []),(mkS [101],mkS [53])]
theorem hA:0 < aU_ (m4_ kvA):=by decide+kernel
section
variable {H:Hp} {Q:Post}
theorem hi_ (T:List Pg):Asc (dT_ T):=by
 unfold dT_;by_cases h:0 < aU_ T
 ·rw[decide_eq_true h];obtain⟨st,s⟩:=SF.of h;exact s.ents.1
 ·rw[decide_eq_false h]; exact List.Pairwise.nil
theorem z0_ (T:List Pg) (e:Int):(aU_ T=0∧ks_ e T=e∧dT_ T=[])∨(0 < aU_ T∧ks_ e T=0∧dT_ T=dp_ T):=by
 unfold ks_ dT_;rcases Nat.eq_zero_or_pos (aU_ T) with h | h
 ·rw[decide_eq_false (by omega)]; exact .inl ⟨h,rfl,rfl⟩
 ·rw[decide_eq_true h]; exact .inr ⟨h,rfl,rfl⟩
end
end Go.Am
namespace Go.Am
section
variable {H:Hp} {Q:Post} {key:ByteArray} {ks:List ByteArray}
theorem xH_ (i:Nat) (hi:i < ks.length):eJ_ (ks.take (i+1)) key=eJ_ (ks.take i) key+(match blt ks[i] key with | true=>1 | false=>0):=by
 unfold eJ_;rw[List.take_succ_eq_append_getElem hi,List.countP_append];congr 1
theorem xv_:eJ_ ks key≤ks.length:=List.countP_le_length
end
section
variable {H:Hp} {Q:Post} {x:Pl} {n:Nat} {cs:List PC} {T:List Pg} {key:ByteArray}
end
end Go.Am
namespace Go.Am
section
variable {H:Hp} {Q:Post}
theorem yV_ (T:List Pg):k8_ (dT_ T):=by
 rcases z0_ T 0 with⟨_,_,e⟩ | ⟨e0,_,e⟩
 ·rw[e]; exact fun x hx=>by simp at hx
 ·rw[e]; obtain⟨st,s⟩:=SF.of e0; exact s.ents.2.1
end
end Go.Am
namespace Go.Am
def fT_:KV→ByteArray→ByteArray→KV
 | [],k,v=>[(k,v)]
 | x::ps,k,v=>match decide (x.1=k) with
  | true=>(k,v)::ps
  | false=>match blt x.1 k with
   | true=>x::fT_ ps k v
   | false=>(k,v)::x::ps
theorem yD_ {a b:ByteArray} (h:blt a b=false) (hne:a≠b):blt b a=true:=by
 rcases gU_ a b with z | z | z
 ·rw[z.1] at h; cases h
 ·exact (hne z.1).elim
 ·exact z.1
theorem jy_:∀ {ps:KV} (k v:ByteArray),Asc ps→∃ L M R,ps=L++M++R∧fT_ ps k v=L++(k,v)::R∧(M=[]∨∃ v0,M=[(k,v0)])∧(∀ x∈L,blt x.1 k=true)∧(∀ x∈R,blt k x.1=true)
 | [],k,v,_=>⟨[],[],[],rfl,rfl,.inl rfl,fun x h=>by simp at h,fun x h=>by simp at h⟩
 | x::ps,k,v,h=>by
  obtain⟨h1,h2⟩:=List.pairwise_cons.1 h;unfold fT_;by_cases e:x.1=k
  ·rw[decide_eq_true e];obtain⟨a,b⟩:=x;dsimp only at e h1;subst e;exact⟨[],[(a,b)],ps,rfl,rfl,.inr ⟨b,rfl⟩,fun x h=>by simp at h,h1⟩
  ·rw[decide_eq_false e];dsimp only;cases hb:blt x.1 k with
   | true=>
    obtain⟨L,M,R,q1,q2,q3,q4,q5⟩:=jy_ k v h2;dsimp only;refine⟨x::L,M,R,by rw[q1]; rfl,by rw[q2]; rfl,q3,fun y hy=> ?_,q5⟩;rcases List.mem_cons.1 hy with q | q
    ·rw[q]; exact hb
    ·exact q4 y q
   | false=>
    have hk:=yD_ hb e;refine⟨[],[],x::ps,rfl,rfl,.inl rfl,fun y h=>by simp at h,fun y hy=> ?_⟩;rcases List.mem_cons.1 hy with q | q
    ·rw[q]; exact hk
    ·exact dU_ hk (h1 y q)
theorem us_ {l r:KV} {k v:ByteArray} (h:∀ x∈l,blt x.1 k=true):fT_ (l++r) k v=l++fT_ r k v:=by
 induction l with
 | nil=>rfl
 | cons x l ih=>
  have hx:=h x (by simp);rw[List.cons_append];show (match decide (x.1=k) with | true=>(k,v)::(l++r) | false=>match blt x.1 k with | true=>x::fT_ (l++r) k v | false=>(k,v)::x::(l++r))=_;rw[decide_eq_false (qc_ hx),hx];dsimp only;rw[ih fun y hy=>h y (by simp [hy])]; rfl
theorem A7_ {l r:KV} {k v v0:ByteArray} (h:∀ x∈l,blt x.1 k=true):fT_ (l++(k,v0)::r) k v=l++(k,v)::r:=by
 rw[us_ h];show l++(match decide (k=k) with | true=>(k,v)::r | false=>_)=_;rw[decide_eq_true rfl]
theorem AO_ {l r:KV} {k v:ByteArray} (h:∀ x∈l,blt x.1 k=true) (hr:∀ x∈r,blt k x.1=true):fT_ (l++r) k v=l++(k,v)::r:=by
 rw[us_ h];congr 1;cases r with
 | nil=>rfl
 | cons x r=>
  have hx:=hr x (by simp);show (match decide (x.1=k) with | true=>(k,v)::r | false=>match blt x.1 k with | true=>x::fT_ r k v | false=>(k,v)::x::r)=_;rw[decide_eq_false (Ne.symm (qc_ hx)),jD_ hx]
theorem xe_ {ps:KV} (h:Asc ps) (k v:ByteArray):Asc (fT_ ps k v):=by
 obtain⟨L,M,R,q1,q2,q3,q4,q5⟩:=jy_ k v h;rw[q2];rw[q1] at h;obtain⟨a1,a2,a3⟩:=List.pairwise_append.1 h;obtain⟨b1,b2,b3⟩:=List.pairwise_append.1 a1;refine List.pairwise_append.2 ⟨b1,List.pairwise_cons.2 ⟨fun x hx=>q5 x hx,a2⟩,fun x hx y hy=> ?_⟩;rcases List.mem_cons.1 hy with e | e
 ·rw[e]; exact q4 x hx
 ·exact a3 x (List.mem_append.2 (.inl hx)) y e
theorem AS_ {ps:KV} {k v:ByteArray} {x:ByteArray × ByteArray}:x∈fT_ ps k v→x=(k,v)∨x∈ps:=by
 induction ps with
 | nil=>intro h; simp [fT_] at h; exact .inl h
 | cons y ps ih=>
  unfold fT_;by_cases e:y.1=k
  ·rw[decide_eq_true e];intro h;rcases List.mem_cons.1 h with q | q
   ·exact .inl q
   ·exact .inr (by simp [q])
  ·rw[decide_eq_false e];dsimp only;cases blt y.1 k with
   | true=>
    intro h;rcases List.mem_cons.1 h with q | q
    ·exact .inr (by simp [q])
    ·rcases ih q with z | z
     ·exact .inl z
     ·exact .inr (by simp [z])
   | false=>
    intro h;rcases List.mem_cons.1 h with q | q
    ·exact .inl q
    ·exact .inr q
theorem Ci_ {ps:KV} (h:k8_ ps) {k v:ByteArray} (h1:1≤k.size) (h2:k.size≤6) (h3:v.size≤10):k8_ (fT_ ps k v):=fun x hx=>by
 rcases AS_ hx with e | e
 ·rw[e]; exact⟨⟨h1,h2⟩,h3⟩
 ·exact h x e
theorem A5_ {ps:KV} (h:Asc ps) (k v:ByteArray):(fT_ ps k v).length=ps.length+(match (e8_ ps k).isNone with | true=>1 | false=>0):=by
 obtain⟨L,M,R,q1,q2,q3,q4,q5⟩:=jy_ k v h;rw[q2,q1,List.append_assoc,qL_ fun x hx=>qc_ (q4 x hx)];rcases q3 with rfl | ⟨v0,rfl⟩
 ·rw[List.nil_append,ni_ fun x hx=>Ne.symm (qc_ (q5 x hx))];simp; omega
 ·rw[List.singleton_append,tb_,decide_eq_true rfl];simp
theorem vU_ {ks:List ByteArray} {key:ByteArray} (pw:Pw ks) (h:key∈ks):gt_ ks key=true:=by
 induction ks with
 | nil=>simp at h
 | cons s ks ih=>
  obtain⟨h1,h2⟩:=List.pairwise_cons.1 pw;rcases List.mem_cons.1 h with e | e
  ·subst e;rw[(BD_ pw (c4_ _)).2,decide_eq_true rfl]
  ·rw[(BF_ (h1 key e)).2];exact ih h2 e
theorem yS_ {ks:List ByteArray} {key:ByteArray} (h:gt_ ks key=true):∃ hs:eJ_ ks key < ks.length,ks[eJ_ ks key]=key:=by
 unfold gt_ at h;exact List.getElem?_eq_some_iff.1 (of_decide_eq_true h)
theorem Bq_ {ks vs:List ByteArray} {s:Nat} (hs:s < ks.length) (hl:vs.length=ks.length) (v:ByteArray):ks.zip (vs.set s v)=(ks.zip vs).take s++(ks[s],v)::(ks.zip vs).drop (s+1):=by
 have e:ks.zip (vs.set s v)=(ks.zip vs).set s (ks[s],v):=by
  apply List.ext_getElem
  ·simp
  ·intro i h1 h2;rw[List.getElem_zip,List.getElem_set,List.getElem_set];by_cases q:s=i
   ·subst q; rw[if_pos rfl,if_pos rfl]
   ·rw[if_neg q,if_neg q,List.getElem_zip]
 rw[e,List.set_eq_take_append_cons_drop,if_pos (by rw[List.length_zip]; omega)]
theorem Cd_ {ks vs:List ByteArray} {s:Nat} (hs:s < ks.length) (hl:vs.length=ks.length):ks.zip vs=(ks.zip vs).take s++(ks[s],vs[s]'(by omega))::(ks.zip vs).drop (s+1):=by
 have hz:s < (ks.zip vs).length:=by rw[List.length_zip]; omega
 have e:(ks.zip vs)[s]=(ks[s],vs[s]'(by omega)):=List.getElem_zip;rw[←e,←List.drop_eq_getElem_cons hz,List.take_append_drop]
def yi_ (p:Pg) (key v:ByteArray):Pg:={ p with vals:=p.vals.set (eJ_ p.keys key) v }
theorem Ae_ {p:Pg} {key v:ByteArray} (h:mD_ p) (hv:v.size≤10):mD_ (yi_ p key v):=by
 refine⟨h.1,⟨h.2.used,h.2.rising,h.2.keys,fun hl=> ?_,fun hl=> ?_⟩⟩
 ·obtain⟨q1,q2,q3⟩:=h.2.leaf hl;refine⟨by show (p.vals.set _ v).length=_; rw[List.length_set]; exact q1,q2,fun w hw=> ?_⟩;rcases List.mem_or_eq_of_mem_set hw with z | z
  ·exact q3 w z
  ·rw[z]; exact hv
 ·obtain⟨q1,q2,q3⟩:=h.2.inner hl;exact⟨q1,by show p.vals.set _ v=[]; rw[q2]; rfl,q3⟩
theorem Sub.setVal {T:List Pg} {key v:ByteArray} {i:Nat} {p:Pg} (hi:T[i]? =some p) (hl:p.leaf=true) (hs:gt_ p.keys key=true) (hv:v.size≤10):
 ∀ {d a:Nat} {P:List Nat} {ps:KV},Sub T d a P ps→P.Nodup→i∈P→∃ L v0 R,ps=L++(key,v0)::R∧Sub (T.set i (yi_ p key v)) d a P (L++(key,v)::R)
 | 0,_,_,_,h,_,_=>h.elim
 | d+1,a,P,ps,h,hnd,hiP=>by
  have hlt:=(List.getElem?_eq_some_iff.1 hi).1;obtain⟨q,hq,hm,⟨e0,hql,e1,e2⟩ | ⟨hql,P',e1,hk⟩⟩:=h
  ·subst e1;obtain rfl:i=a:=List.mem_singleton.1 hiP;rw[hi] at hq;obtain rfl:=Option.some.inj hq;obtain⟨v1,_,_⟩:=hm.2.leaf hl;obtain⟨hsl,hse⟩:=yS_ hs;have c1:=Cd_ hsl v1;have c2:=Bq_ hsl v1 v;rw[hse] at c1 c2;exact⟨_,_,_,e2.trans c1,yi_ p key v,List.getElem?_set_self hlt,Ae_ hm hv,.inl ⟨e0,hl,rfl,c2.symm⟩⟩
  ·subst e1;rw[List.nodup_cons] at hnd;have hia:i≠a:=fun e=>by subst e; rw[hi] at hq; obtain rfl:=Option.some.inj hq; rw[hl] at hql; cases hql
   have hiP':i∈P':=by rcases List.mem_cons.1 hiP with e | e; exact (hia e).elim; exact e
   have big:∀ {k:Nat},(∃ q,T[k]? =some q∧2≤q.keys.length)→∃ q,(T.set i (yi_ p key v))[k]? =some q∧2≤q.keys.length:=fun {k} ⟨q,h1,h2⟩=>by
    by_cases e:i=k
    ·subst e;rw[hi] at h1;obtain rfl:=Option.some.inj h1;exact⟨_,List.getElem?_set_self hlt,h2⟩
    ·exact⟨q,by rw[List.getElem?_set_ne e]; exact h1,h2⟩
   have kids:∀ {ks:List Int} {ss:List ByteArray} {P:List Nat} {ps:KV},eL_ (jU_ T d) ks ss P ps→P.Nodup→i∈P→∃ L v0 R,ps=L++(key,v0)::R∧eL_ (jU_ (T.set i (yi_ p key v)) d) ks ss P (L++(key,v)::R):=by
    intro ks;induction ks with
    | nil=>intro _ _ _ h; exact h.elim
    | cons k ks ih=>
     intro ss P ps h hnd hiP;cases ss with
     | nil=>
      obtain⟨L,v0,R,q1,q2⟩:=Sub.setVal hi hl hs hv h.2.1 hnd hiP;exact⟨L,v0,R,q1,h.1,q2,big h.2.2⟩
     | cons s ss=>
      obtain⟨P1,ps1,P2,ps2,h1,h2,e1,e2,h3,h4⟩:=h;subst e1; subst e2;obtain⟨d1,d2,d3⟩:=List.nodup_append.1 hnd;have swap:∀ {L R:KV} {v0:ByteArray} {x},x∈L++(key,v)::R→∃ y∈L++(key,v0)::R,y.1=x.1:=fun {L R v0 x} hx=>by
       rcases List.mem_append.1 hx with z | z
       ·exact⟨x,List.mem_append.2 (.inl z),rfl⟩
       ·rcases List.mem_cons.1 z with z | z
        ·exact⟨(key,v0),by simp,by rw[z]⟩
        ·exact⟨x,by simp [z],rfl⟩
      rcases List.mem_append.1 hiP with z | z
      ·obtain⟨L,v0,R,q1,q2⟩:=Sub.setVal hi hl hs hv h1.1 d1 z;subst q1;refine⟨L,v0,R++ps2,by simp,P1,_,P2,ps2,⟨q2,big h1.2⟩,h2.imp fun k Q qs hs' hin=>hs'.keep fun j hj=>List.getElem?_set_ne fun e=>d3 i z j (hin j hj) e,rfl,by simp,fun x hx=> ?_,h4⟩;obtain⟨y,hy,e⟩:=swap (v0:=v0) hx;rw[←e]; exact h3 y hy
      ·obtain⟨L,v0,R,q1,q2⟩:=ih h2 d2 z;subst q1;refine⟨ps1++L,v0,R,by simp,P1,ps1,P2,_,h1.keep fun j hj=>List.getElem?_set_ne fun e=>d3 j hj i z e.symm,q2,rfl,by simp,h3,fun x hx=> ?_⟩;obtain⟨y,hy,e⟩:=swap (v0:=v0) hx;rw[←e]; exact h4 y hy
   obtain⟨L,v0,R,q1,q2⟩:=kids hk hnd.2 hiP';exact⟨L,v0,R,q1,q,by rw[List.getElem?_set_ne hia]; exact hq,hm,.inr ⟨hql,P',rfl,q2⟩⟩
theorem Sub.leafOf {T:List Pg} {x:ByteArray × ByteArray}:∀ {d a:Nat} {P:List Nat} {ps:KV},Sub T d a P ps→x∈ps→∃ i p,i∈P∧T[i]? =some p∧p.leaf=true∧mD_ p∧x∈p.keys.zip p.vals
 | 0,_,_,_,h,_=>h.elim
 | d+1,a,P,ps,h,hx=>by
  obtain⟨q,hq,hm,⟨e0,hql,e1,e2⟩ | ⟨hql,P',e1,hk⟩⟩:=h
  ·subst e2; exact⟨a,q,by rw[e1]; simp,hq,hql,hm,hx⟩
  ·subst e1;have kids:∀ {ks:List Int} {ss:List ByteArray} {P:List Nat} {ps:KV},eL_ (jU_ T d) ks ss P ps→x∈ps→∃ i p,i∈P∧T[i]? =some p∧p.leaf=true∧mD_ p∧x∈p.keys.zip p.vals:=by
    intro ks;induction ks with
    | nil=>intro _ _ _ h; exact h.elim
    | cons k ks ih=>
     intro ss P ps h hx;cases ss with
     | nil=>exact Sub.leafOf h.2.1 hx
     | cons s ss=>
      obtain⟨P1,ps1,P2,ps2,h1,h2,e1,e2,h3,h4⟩:=h;subst e1; subst e2;rcases List.mem_append.1 hx with z | z
      ·obtain⟨i,p,q1,q2⟩:=Sub.leafOf h1.1 z;exact⟨i,p,List.mem_append.2 (.inl q1),q2⟩
      ·obtain⟨i,p,q1,q2⟩:=ih h2 z;exact⟨i,p,List.mem_append.2 (.inr q1),q2⟩
   obtain⟨i,p,q1,q2⟩:=kids hk hx;exact⟨i,p,by simp [q1],q2⟩
section
variable {T:List Pg} {d:Nat} {P:List Nat} {ps:KV} {i:Nat} {p:Pg} {key v:ByteArray}
theorem hg_.leafIn (w:hg_ T d P ps) (hi:T[i]? =some p) (hl:p.leaf=true):i∈P:=Decidable.byContradiction fun h=>by
 have:=w.rest i p hi h;unfold c6_ at this;rw[hl] at this; simp at this
theorem hg_.setVal (w:hg_ T d P ps) (hi:T[i]? =some p) (hl:p.leaf=true) (hs:gt_ p.keys key=true) (hv:v.size≤10):hg_ (T.set i (yi_ p key v)) d P (fT_ ps key v)∧(e8_ ps key).isSome=true:=by
 have hiP:=w.leafIn hi hl;obtain⟨L,v0,R,e1,e2⟩:=Sub.setVal hi hl hs hv w.sub w.nodup hiP;have ha:=w.sub.asc.1;rw[e1] at ha;have hL:∀ x∈L,blt x.1 key=true:=fun x hx=>(List.pairwise_append.1 ha).2.2 x hx (key,v0) (by simp);have hp:fT_ ps key v=L++(key,v)::R:=by rw[e1,A7_ hL]
 have hc:=w.count;refine⟨⟨by rw[List.length_set]; exact w.len,by rw[hp]; exact e2,w.nodup,fun j q hq hj=> ?_,?_⟩,?_⟩
 ·rw[List.getElem?_set_ne (fun e=>hj (by rw[←e]; exact hiP))] at hq;exact w.rest j q hq hj
 ·rw[hp]; rw[e1] at hc; simpa using hc
 ·rw[e1,qL_ fun x hx=>qc_ (hL x hx),tb_,decide_eq_true rfl]; rfl
theorem hg_.noLeaf (w:hg_ T d P ps) (h:∀ (j:Nat) (q:Pg),T[j]? =some q→q.leaf=true→gt_ q.keys key=false):e8_ ps key=none:=ni_ fun x hx e=>by
 obtain⟨i,p,_,q1,q2,q3,q4⟩:=w.sub.leafOf hx;have:=h i p q1 q2;rw[vU_ (uG_ q3.2.rising) (by rw[←e]; exact (lM_ q4).1)] at this;cases this
end
end Go.Am
section
namespace Go.Am
section
variable {B H H':Hp} {t:TypeId} {a:Pl} {n:Nat} {ds:List PC} {T:List Pg} {Q:Post}
theorem CT.val (g:CT B H t a n ds T) {i j:Nat} (hi:i < ds.length) (hi':i < T.length) (hj:j < (T[i]).vals.length) (s:ByteArray) {K:Hp→Prop}
 (hK:∀ H',CT B H' t a n ds (T.set i { T[i] with vals:=(T[i]).vals.set j s })→K H'):∃ l,(ds[i]).a2=some (l,0)∧wr H l j (.str s) K:=by
 have ho:=g.own i hi hi';have hat:=g.ot.all i hi hi';rcases ho.vals with⟨_,h,_⟩ | ⟨l,e,hb,hr,hl⟩
 ·have:=hat.vals.len; omega
 have hlt:=(List.getElem?_eq_some_iff.1 hr).1;have hon:(ds[i]).on l:=⟨0,.inr (.inl e)⟩;refine⟨l,e,c3_ hr (by simpa using hj) ?_⟩;rw[←List.map_set];have keep:∀ {tt:TypeId} {x:Pl} {m:Nat} {es:List GV} (y:Obj),Own H B.length tt x m es→(∀ o,x≠some (l,o))→Own (H.set l y) B.length tt x m es:=fun y h hd=>h.keep fun m e'=>by
  rw[List.getElem?_set_ne]; intro q; subst q; exact hd 0 e'
 have how:(ds[i]).own (H.set l (.row true tS (((T[i]).vals.set j s).map GV.str))) B.length { T[i] with vals:=(T[i]).vals.set j s }:=
  ⟨ho.used,ho.leaf,keep _ ho.keys (fun o e'=>ho.d12 l o 0 e' e),.inr ⟨l,e,hb,List.getElem?_set_self hlt,by simpa using hl⟩,keep _ ho.kids (fun o e'=>ho.d23 l 0 o e e'),ho.d12,ho.d13,ho.d23⟩
 refine hK _ (g.setRow hi hi' hon _ hb _ ⟨hat.used,hat.leaf,⟨how.keys.cells,hat.keys.len,hat.keys.lim⟩,⟨how.vals.cells,?_,hat.vals.lim⟩,⟨how.kids.cells,hat.kids.len,hat.kids.lim⟩⟩ how);simpa using hat.vals.len
theorem CT.add (g:CT B H t a n ds T) {d:PC} {p:Pg} {H2:Hp} (p2:H<+:H2) (hd:d.at H2 p) (hdo:d.own H2 H.length p) (hfr:∀ l,d.on l→H.length≤l) (hl:(n+1)*80≤Lim) {K:Pl→Nat→Hp→Prop}
 (hK:∀ a' H',CT B H' t a' (n+1) (ds++[d]) (T++[p])→K a' (n+1) H'):Am.ap H2 t 5 80 a n [.bool d.u,.bool d.l,.sl d.a1 d.n1 1,.sl d.a2 d.n2 1,.sl d.a3 d.n3 1] 1 K:=by
 have ho:=g.ot;have ho2:=ho.mono p2;have hlen:=ho.len;have hlenT:=ho.lenT;have hp:=g.pre;refine ho2.add (hp.trans p2) hd (fun l hl e=>by have:=hfr l hl; have:=ho.own.lt' e; omega) hl fun a'' H3 o3 x3 f3=> ?_;have keepA:∀ i (h:i < ds.length) (l:Nat),(ds[i]).on l→H3[l]? =H[l]? :=fun i h l hl=>by
  rw[x3.row l (ho2.onlt (List.getElem_mem h) hl) (ho2.off _ (List.getElem_mem h) l hl),cd_ p2 (ho.onlt (List.getElem_mem h) hl)]
 refine hK a'' H3 ⟨x3.pre,o3,fun i h1 h2=> ?_,fun i j h1 h2 hne l hl1 hl2=> ?_⟩
 ·rw[List.getElem_append,List.getElem_append];by_cases e:i < n
  ·rw[dif_pos (by omega),dif_pos (by omega)];exact (g.own i (by omega) (by omega)).keep fun l hl=>keepA i (by omega) l hl
  ·have e':i=n:=by simp [hlen] at h1; omega
   subst e';rw[dif_neg (by omega),dif_neg (by omega)];simp only[List.getElem_singleton];have hdo':d.own H3 H.length p:=hdo.keep fun l hl=>x3.row l (hd.lt hl) (fun e=>by have:=hfr l hl; have:=ho.own.lt' e; omega);have hb:∀ {t:TypeId} {x:Pl} {m:Nat} {es:List GV},Own H3 H.length t x m es→Own H3 B.length t x m es:=fun h=>h.base hp.length_le;exact⟨hdo'.used,hdo'.leaf,hb hdo'.keys,hb hdo'.vals,hb hdo'.kids,hdo'.d12,hdo'.d13,hdo'.d23⟩
 ·simp only[List.length_append,List.length_singleton] at h1 h2;rw[List.getElem_append] at hl1 hl2;by_cases e1:i < n
  ·rw[dif_pos (by omega)] at hl1;by_cases e2:j < n
   ·rw[dif_pos (by omega)] at hl2;exact g.ap i j (by omega) (by omega) hne l hl1 hl2
   ·rw[dif_neg (by omega)] at hl2;simp only[List.getElem_singleton] at hl2;have:=hfr l hl2;have:=ho.onlt (List.getElem_mem (by omega:i < ds.length)) hl1;omega
  ·rw[dif_neg (by omega)] at hl1;simp only[List.getElem_singleton] at hl1;by_cases e2:j < n
   ·rw[dif_pos (by omega)] at hl2;have:=hfr l hl1;have:=ho.onlt (List.getElem_mem (by omega:j < ds.length)) hl2;omega
   ·omega
theorem CT.nil (H:Hp) (t:TypeId):CT H H t none 0 [] []:=⟨List.prefix_refl _,OT.nil _ _ _,fun i h=>(by simp at h),fun i j h=>(by simp at h)⟩
theorem kc_ {a:Pl} {n:Nat} {xs:List ByteArray} (h:Ss H a n xs) (hQ:∀ H',H'=H++[.row true tS (xs.map GV.str)]→Q (.g (.sl (some (H.length,0)) n 1)) H'):eX_ [.g (.sl a n 1)] H Q:=by
 have e:=h.len;have l:=h.lim;refine⟨1,?_⟩;rw[t5_,am_,Nat.mul_one,gM_ h.cells];refine sn_ (by unfold Lim; omega) (by simp [e]) ?_;exact hQ _ rfl
theorem tv_ {a:Pl} {n:Nat} {xs:List Int} (h:Is H a n xs) (hQ:∀ H',H'=H++[.row true tI (xs.map (GV.int .i64))]→Q (.g (.sl (some (H.length,0)) n 1)) H'):f8_ [.g (.sl a n 1)] H Q:=by
 have e:=h.len;have l:=h.lim;refine⟨1,?_⟩;rw[vS_,am_,Nat.mul_one,gM_ h.cells];refine sn_ (by unfold Lim; omega) (by simp [e]) ?_;exact hQ _ rfl
set_option maxRecDepth 100000 in
theorem p6_ {cs:List PC} (hT:Tr H a n cs T) (hn:n*80≤140737488351232) (hQ:∀ a' ds H',CT H H' tPg a' n ds T→Q (.agg [.sl a' n 5]) H'):bS_ [.agg [.sl a n 5]] H Q:=by
 have hlT:=hT.lenT;have loop:∀ (f k:Nat) (a':Pl) (ds:List PC) (H':Hp),n - k < f→k≤n→CT H H' tPg a' k ds (T.take k)→bS_.l3 f a n none 0 a' k (k:Int) H' Q:=by
  intro f;induction f with
  | zero=>intro k _ _ _ h; omega
  | succ f ih=>
   intro k a' ds H' hf hk g;have hp:=g.pre;rw[bS_.l3_eq];by_cases hkn:k < n
   ·obtain⟨l,o,c,p,rfl,hc,hpp,hpc,g0,g1,g2,g3,g4⟩:=(hT.mono hp).get hkn;have etN:tN (k:Int)=k:=rfl;rw[aQ_ (by simp; omega),am_];refine ab_ (by simp; omega) ?_;rw[ah_,etN,ea_ g0 g1 g2 g3 g4];obtain⟨hu,hl,hks,hvs,his⟩:=hpc;have e1:=hks.len;have e2:=hvs.len;have e3:=his.len;have l1:=hks.lim;have l2:=hvs.lim;have l3:=his.lim;refine kc_ hks fun Ha ha=> ?_;subst ha;simp only[aK_,as_];have p1:=ce_ H' (.row true tS (p.keys.map GV.str));refine kc_ (hvs.mono p1) fun Hb hb=> ?_;subst hb;simp only[aK_,as_];have p2:=p1.trans (ce_ (H'++[.row true tS (p.keys.map GV.str)]) (.row true tS (p.vals.map GV.str)));refine tv_ (his.mono p2) fun Hc hc'=> ?_;subst hc';simp only[aK_,as_];have o1:Own (((H'++[Obj.row true tS (p.keys.map GV.str)])++[Obj.row true tS (p.vals.map GV.str)])++[Obj.row true tI (p.kids.map (GV.int .i64))]) H'.length tS (some (H'.length,0)) c.n1 (p.keys.map GV.str):= .inr ⟨_,rfl,Nat.le_refl _,by rw[List.append_assoc,List.append_assoc]; simp,by simp [e1]⟩;have o2:Own (((H'++[Obj.row true tS (p.keys.map GV.str)])++[Obj.row true tS (p.vals.map GV.str)])++[Obj.row true tI (p.kids.map (GV.int .i64))]) H'.length tS (some ((H'++[Obj.row true tS (p.keys.map GV.str)]).length,0)) c.n2 (p.vals.map GV.str):= .inr ⟨_,rfl,by simp,by rw[List.append_assoc]; simp,by simp [e2]⟩;have o3:Own (((H'++[Obj.row true tS (p.keys.map GV.str)])++[Obj.row true tS (p.vals.map GV.str)])++[Obj.row true tI (p.kids.map (GV.int .i64))]) H'.length tI (some (((H'++[Obj.row true tS (p.keys.map GV.str)])++[Obj.row true tS (p.vals.map GV.str)]).length,0)) c.n3 (p.kids.map (GV.int .i64)):= .inr ⟨_,rfl,by simp,by simp,by simp [e3]⟩;have p2':H'<+:(((H'++[Obj.row true tS (p.keys.map GV.str)])++[Obj.row true tS (p.vals.map GV.str)])++[Obj.row true tI (p.kids.map (GV.int .i64))]):=p2.trans (List.prefix_append _ _);have hfr:∀ l,(⟨c.u,c.l,some (H'.length,0),c.n1,some ((H'++[Obj.row true tS (p.keys.map GV.str)]).length,0),c.n2,some (((H'++[Obj.row true tS (p.keys.map GV.str)])++[Obj.row true tS (p.vals.map GV.str)]).length,0),c.n3⟩:PC).on l→H'.length≤l:=by
     rintro l ⟨o,q | q | q⟩<;>simp at q<;>omega
    have hd:(⟨c.u,c.l,some (H'.length,0),c.n1,some ((H'++[Obj.row true tS (p.keys.map GV.str)]).length,0),c.n2,some (((H'++[Obj.row true tS (p.keys.map GV.str)])++[Obj.row true tS (p.vals.map GV.str)]).length,0),c.n3⟩:PC).at (((H'++[Obj.row true tS (p.keys.map GV.str)])++[Obj.row true tS (p.vals.map GV.str)])++[Obj.row true tI (p.kids.map (GV.int .i64))]) p:=⟨hu,hl,⟨o1.cells,e1,l1⟩,⟨o2.cells,e2,l2⟩,⟨o3.cells,e3,l3⟩⟩;have hdo:(⟨c.u,c.l,some (H'.length,0),c.n1,some ((H'++[Obj.row true tS (p.keys.map GV.str)]).length,0),c.n2,some (((H'++[Obj.row true tS (p.keys.map GV.str)])++[Obj.row true tS (p.vals.map GV.str)]).length,0),c.n3⟩:PC).own (((H'++[Obj.row true tS (p.keys.map GV.str)])++[Obj.row true tS (p.vals.map GV.str)])++[Obj.row true tI (p.kids.map (GV.int .i64))]) H'.length p:=by
     refine⟨hu,hl,o1,o2,o3,?_,?_,?_⟩
     ·intro l o o' q1 q2; simp at q1 q2; omega
     ·intro l o o' q1 q2; simp at q1 q2; omega
     ·intro l o o' q1 q2; simp at q1 q2; omega
    rw[am_];have hTk:T.take k++[p]=T.take (k+1):=by
     rw[List.take_add_one,hpp]; rfl
    have hlim:(k+1)*80≤Lim:=by unfold Lim; have:=Nat.mul_le_mul_right 80 (show k+1≤n by omega); omega
    refine g.add p2' hd hdo hfr hlim fun a'' H3 g3=> ?_;rw[hTk] at g3;rw[ar_ (by omega)];exact ih (k+1) a'' _ H3 (by omega) (by omega) g3
   ·obtain rfl:k=n:=by omega
    rw[aL_ (by simp)];rw[List.take_of_length_le (by omega)] at g;exact hQ a' ds H' g
 refine⟨n+2,?_⟩;rw[pI_];exact loop (n+1) 0 none [] H (by omega) (Nat.zero_le _) (CT.nil H tPg)
end
end Go.Am
end
section
namespace Go.Am
section
variable {H:Hp} {Q:Post} {key v:ByteArray} {ks:List ByteArray}
theorem tz_ {a:Pl} {n:Nat} (h:Ss H a n ks) (hQ:Q (.tup [.s (.int .i64 (eJ_ ks key:Int)),.s (.bool (gt_ ks key))]) H):cO_ [.g (.sl a n 1),.g (.str key)] H Q:=by
 have hn:=h.len;have hlim:=h.lim;refine⟨n+2,?_⟩;rw[vQ_];have loop:∀ (F i:Nat),n - i < F→i≤n→cO_.l3 F a n key (eJ_ (ks.take i) key:Int) (i:Int) H Q:=by
  intro F;induction F with
  | zero=>intro i h; omega
  | succ F ih=>
   intro i hF hi;rw[cO_.l3_eq];by_cases hik:i < n
   ·have hle:eJ_ (ks.take i) key≤i:=Nat.le_trans xv_ (List.length_take_le _ _);rw[aQ_ (by simp; omega),am_,h.rd i rfl (by omega),id_,ar_ (by omega),ar_ (by omega)];have:=ih (i+1) (by omega) (by omega);rw[xH_ i (by omega)] at this;refine aa_ (fun e=> ?_) (fun e=> ?_)
    ·rw[e] at this; exact this
    ·rw[e] at this; exact this
   ·rw[aL_ (by simp; omega),List.take_of_length_le (by omega)];have hle:=xv_ (ks:=ks) (key:=key);refine aa_ (fun e=> ?_) (fun e=> ?_)
    ·have hlt:eJ_ ks key < ks.length:=by simp at e; omega
     rw[am_,h.rd (eJ_ ks key) rfl hlt];have:gt_ ks key=co_ ks[eJ_ ks key] key:=by
      unfold gt_; rw[List.getElem?_eq_getElem hlt,jc_]; simp
     rw[this] at hQ;exact hQ
    ·have:gt_ ks key=false:=by
      unfold gt_;rw[List.getElem?_eq_none (by simp at e; omega)]; simp
     rw[this] at hQ;exact hQ
 exact loop _ 0 (by omega) (Nat.zero_le _)
def oD_ (T:List Pg) (key v:ByteArray):Bool:=decide (0 < aU_ T)&&(decide (1≤key.size)&&(decide (key.size≤6)&&decide (v.size≤10)))
def qZ_ (T:List Pg) (key v:ByteArray):Int:=match oD_ T key v with
 | false=>1200
 | true=>match (e8_ (dp_ T) key).isNone&&decide (60≤(dp_ T).length) with | true=>1201 | false=>0
structure Cn_ (T A:List Pg) (key v:ByteArray):Prop where
 pos:0 < aU_ A
 ent:dp_ A=fT_ (dp_ T) key v
 len:A.length=48
 was:(e8_ (dp_ T) key).isSome=true→∃ i p,T[i]? =some p∧p.leaf=true∧gt_ p.keys key=true∧A=T.set i (yi_ p key v)
 anew:(e8_ (dp_ T) key).isSome=false→A=m4_ (fT_ (dp_ T) key v)
set_option maxRecDepth 100000 in
theorem o6_ {x:Pl} {n:Nat} {cs:List PC} {T:List Pg} (hT:Tr H x n cs T) (hn:n*80≤140737488351232) (hQ1:∀ H',qZ_ T key v≠0→H<+:H'→Q (.tup [.a [.sl none 0 5],.s (.int .i64 (qZ_ T key v))]) H')
 (hQ2:qZ_ T key v=0→0 < aU_ T→∀ x' cs' A H',H<+:H'→Tr H' x' 48 cs' A→Cn_ T A key v→Q (.tup [.a [.sl x' 48 5],.s (.int .i64 0)]) H'):
 bg_ [.agg [.sl x n 5],.g (.str key),.g (.str v)] H Q:=by
 refine⟨130,?_⟩;rw[sq_];refine kb_ hT fun H1 p1=> ?_;simp only[aK_,al_];have bad:oD_ T key v=false→Q (.tup [.a [.sl none 0 5],.s (.int .i64 1200)]) H1:=fun e=>by
  have e2:qZ_ T key v=1200:=by unfold qZ_; rw[e]
  rw[e2] at hQ1;exact hQ1 H1 (by decide) p1
 by_cases e0:0 < aU_ T
 rotate_left
 ·rw[decide_eq_false e0,aQ_ (by decide)];exact bad (by unfold oD_; rw[decide_eq_false e0]; rfl)
 rw[decide_eq_true e0,aL_ (by decide)];refine aa_ (fun e=>bad (by unfold oD_; simp at e; rw[decide_eq_false (show ¬ 1≤key.size by omega)]; simp)) (fun k1=> ?_);refine aa_ (fun e=>bad (by unfold oD_; simp at e; rw[decide_eq_false (show ¬ key.size≤6 by omega)]; simp)) (fun k2=> ?_);refine aa_ (fun e=>bad (by unfold oD_; simp at e; rw[decide_eq_false (show ¬ v.size≤10 by omega)]; simp)) (fun k3=> ?_);have k1:1≤key.size:=by simp at k1; omega
 have k2:key.size≤6:=by simp at k2; omega
 have k3:v.size≤10:=by simp at k3; omega
 have hform:oD_ T key v=true:=by unfold oD_; simp; omega
 have hins:qZ_ T key v=match (e8_ (dp_ T) key).isNone&&decide (60≤(dp_ T).length) with | true=>1201 | false=>0:=by unfold qZ_; rw[hform]
 obtain⟨P,w⟩:=AU_ e0;obtain⟨st,s⟩:=SF.of e0;have hn48:n=48:=by have:=hT.lenT; have:=w.len; omega
 subst hn48;have hT1:=hT.mono p1;have hc:=w.count;have loop:∀ (F i:Nat),48 - i+70 < F→i≤48→(∀ (j:Nat) (q:Pg),j < i→T[j]? =some q→q.leaf=true→gt_ q.keys key=false)→bg_.l4 F key v x 48 none 0 (i:Int) H1 Q:=by
  intro F;induction F with
  | zero=>intro i h; omega
  | succ F ih=>
   intro i hF hi hno;rw[bg_.l4_eq];by_cases hik:i < 48
   ·obtain⟨l,o,c,p,rfl,hcc,hp,hpc,g0,g1,g2,g3,g4⟩:=hT1.get hik;have etN:tN (i:Int)=i:=rfl;have hpl:p.leaf=c.l:=hpc.leaf;have hidx:(leI 0 (i:Int)&&ltI (i:Int) (nI 48))=true:=by simp; omega
    rw[aQ_ (by simp; omega),am_];refine ab_ hidx ?_;rw[ah_,etN,ag_ (v:= .sl c.a1 c.n1 1) (by exact g2),as_];refine tz_ hpc.keys ?_;simp only[aR_,aG_,bP_,ak_,al_,aS_];rw[am_];refine ab_ hidx ?_;rw[ah_,ag_ (v:= .bool c.l) (by exact g1),al_,ar_ (by omega)];have next:(p.leaf=true→gt_ p.keys key=false)→bg_.l4 F key v (some (l,o)) 48 none 0 ((i+1:Nat):Int) H1 Q:=fun hq=>ih (i+1) (by omega) (by omega) fun j q hj hjq hql=>by
     by_cases e:j=i
     ·subst e; rw[hp] at hjq; obtain rfl:=Option.some.inj hjq; exact hq hql
     ·exact hno j q (by omega) hjq hql
    refine aa_ (fun el=> ?_) (fun el=>next fun h=>by rw[hpl,el] at h; cases h);refine aa_ (fun eb=> ?_) (fun eb=>next fun _=>eb);have hl:p.leaf=true:=by rw[hpl,el]
    refine p6_ hT1 hn fun x' ds H2 g=> ?_;simp only[f4_,bA_,as_,b0_];obtain⟨l2,o2,c2,p2,rfl,hcc2,hp2,hpc2,f0,f1,f2,f3,f4⟩:=g.ot.tr.get hik;rw[hp] at hp2; obtain rfl:=Option.some.inj hp2;rw[am_];refine ab_ hidx ?_;rw[ah_,ag_ (v:= .sl c2.a2 c2.n2 1) (by exact f3),as_,am_];obtain⟨hsl,hse⟩:=yS_ eb;have hmay:mD_ p:=by
     have:=w.leafIn hp hl;exact ((eg_ p).1 (s.used hp (by
      have:=s.metU hp;cases hu:p.used with
      | true=>rfl
      | false=>
       have hz:=vs_ s.rest (by rw[s.len]; exact hik) hp;rw[this,hu] at hz;unfold c6_ at hz;rw[hl] at hz; simp at hz)).2.1)
    have hvl:=(hmay.2.leaf hl).1;have hn2:=hpc2.vals.len;refine ab_ (by simp; omega) ?_;have hT48:=w.len;have hdl:=g.ot.len;have hTi:T[i]'(by omega)=p:=by rw[List.getElem?_eq_getElem (by omega)] at hp; exact Option.some.inj hp
    have hdi:ds[i]'(by omega)=c2:=by rw[List.getElem?_eq_getElem (by omega)] at hcc2; exact Option.some.inj hcc2
    obtain⟨l3,e3,hw⟩:=g.val (i:=i) (j:=eJ_ p.keys key) (by omega) (by omega) (by rw[hTi]; omega) v (K:=fun H34=>Q (.tup [.a [.sl (some (l2,o2)) 48 5],.s (.int .i64 0)]) H34) (fun H' g'=>by
     rw[hTi] at g';obtain⟨w',hfs⟩:=w.setVal hp hl eb k3;have hz:qZ_ T key v=0:=by rw[hins]; cases hq:e8_ (dp_ T) key with | none=>rw[hq] at hfs; cases hfs | some _=>rfl
     exact hQ2 hz e0 _ _ _ H' (p1.trans g'.pre) g'.ot.tr ⟨w'.pos',w'.sound.2,w'.len,fun _=>⟨i,p,hp,hl,eb,rfl⟩,fun q=>(by rw[hfs] at q; cases q)⟩)
    rw[hdi] at e3;rw[e3,ah_];have ez:0+tN (eJ_ p.keys key:Int)*1=eJ_ p.keys key:=by rw[Nat.zero_add,Nat.mul_one]; rfl
    rw[ez];exact hw
   ·have hi48:i=48:=by omega
    subst hi48;rw[aL_ (by simp)];have hnone:e8_ (dp_ T) key=none:=w.noLeaf fun j q hj hjl=>hno j q (by have:=(List.getElem?_eq_some_iff.1 hj).1; rw[w.len] at this; exact this) hj hjl;refine⟨49,?_⟩;refine mp_ hT1 49 0 H1 _ none 0 [] s.good (by omega) (List.prefix_refl _) (.inl ⟨rfl,rfl,rfl⟩) rfl (by unfold dp_ at hc; omega) fun a m H2 p2 hO hl=> ?_;simp only[aK_,as_];rw[List.nil_append] at hO hl;have hm60:m≤60:=by rw[←hl]; exact hc
    refine aa_ (fun ef=> ?_) (fun ef=> ?_)
    ·have hf:qZ_ T key v=1201:=by
      rw[hins,hnone];have:60≤(dp_ T).length:=by show 60≤(allD T 49 0).length; rw[hl]; simp at ef; omega
      rw[decide_eq_true this]; rfl
     rw[hf] at hQ1;exact hQ1 H2 (by decide) (p1.trans p2)
    have hz:qZ_ T key v=0:=by
     rw[hins];have: ¬ 60≤(dp_ T).length:=by show ¬ 60≤(allD T 49 0).length; rw[hl]; simp at ef; omega
     rw[decide_eq_false this,Bool.and_false]
    have hm59:m≤59:=by simp at ef; omega
    have kv:=hO.kv hl;have hasc:Asc (dp_ T):=w.sub.asc.1;have hok:k8_ (dp_ T):=w.sub.asc.2;have fin:∀ i:Nat,i≤m→(∀ x∈(dp_ T).take i,blt x.1 key=true)→(∀ x∈(dp_ T).drop i,blt key x.1=true)→
     chk true (chk (leI 0 (i:Int)) (chk ((leN 0 (tN (i:Int)))&&((leN (tN (i:Int)) m)||(uW_ H2 a ((tN (i:Int))*2)))) (chk true (rdN H2 (shf a 0) (((tN (i:Int)) - 0)*2) fun c22=>
      chk true (Am.ap H2 tKV 2 32 none 0 c22 ((tN (i:Int)) - 0) fun x23 n24 H25=>
      chk true (Am.ap H25 tKV 2 32 x23 n24 [(.str key),(.str v)] 1 fun x26 n27 H28=>
      chk true (chk (leI 0 (i:Int)) (chk (leN (tN (i:Int)) m) (chk true (rdN H28 (shf a ((tN (i:Int))*2)) ((m - (tN (i:Int)))*2) fun c29=>
      chk true (Am.ap H28 tKV 2 32 x26 n27 c29 (m - (tN (i:Int))) fun x30 n31 H32=>
      cl a5_ [(.g (.sl x30 n31 2))] H32 fun r33 H34=>
      rA r33 fun c35=>
      uC c35 fun v36 c37=>
      dL 5 v36 fun x38 n39=>
      uN c37 (Q (.tup [(.a [(.sl x38 n39 5)]),(.s (.int .i64 0))]) H34)))))))))))):=fun i hi h1 h2=>by
     have etN:tN (i:Int)=i:=rfl;have kvA:=kv.part 0 i (by omega);have kvB:=kv.part i (m - i) (by omega);rw[List.drop_zero] at kvA;rw[List.take_of_length_le (l:=(allD T 49 0).drop i) (by rw[List.length_drop]; omega)] at kvB;change Kv H2 (shf a (0*2)) i ((dp_ T).take i) at kvA;change Kv H2 (shf a (i*2)) (m - i) ((dp_ T).drop i) at kvB;rw[etN,am_];refine ab_ (by simp) ?_;refine ab_ (by simp; omega) ?_;have sh0:shf a 0=shf a (0*2):=rfl;rw[am_,Nat.sub_zero,sh0,gM_ kvA.cells,am_];refine i6_ (H0:=H2) (by omega) (List.prefix_refl _) (.inl ⟨rfl,by omega,rfl⟩) (by rw[kJ_,kvA.len]) (by unfold Lim; omega) fun a3 H3 o3 x3 f3=> ?_;rw[List.nil_append,Nat.zero_add] at o3;rw[Nat.zero_add,am_];refine i6_ (H0:=H2) (by omega) x3.pre o3 (by rfl) (by unfold Lim; omega) fun a4 H4 o4 x4 f4=> ?_;rw[am_];refine ab_ (by simp) ?_;refine ab_ (by simp; omega) ?_;have e34:H2<+:H4:=x4.pre;rw[am_,gM_ (kvB.mono e34).cells,am_];refine i6_ (H0:=H2) (by omega) x4.pre o4 (by rw[kJ_,kvB.len]) (by unfold Lim; omega) fun a5 H5 o5 x5 f5=> ?_;have hput:fT_ (dp_ T) key v=(dp_ T).take i++(key,v)::(dp_ T).drop i:=by
      have:=AO_ (v:=v) h1 h2;rw[List.take_append_drop] at this;exact this
     have hcell:bN_ ((dp_ T).take i)++[.str key,.str v]++bN_ ((dp_ T).drop i)=bN_ (fT_ (dp_ T) key v):=by
      rw[hput,lw_];show _=bN_ ((dp_ T).take i)++(.str key:: .str v::bN_ ((dp_ T).drop i));simp
     rw[hcell] at o5;have hlen:(fT_ (dp_ T) key v).length=i+1+(m - i):=by
      rw[hput,List.length_append,List.length_cons,kvA.len,kvB.len]; omega
     refine qW_ (o5.kv hlen) (by omega) fun H6 tp cs' p6 oT=> ?_;simp only[f4_,bA_,as_,b0_];obtain⟨b1,b2⟩:=wV_ (xe_ hasc key v) (Ci_ hok k1 k2 k3) (by omega);exact hQ2 hz e0 _ _ _ H6 (p1.trans (p2.trans (x5.pre.trans p6))) oT.tr ⟨b1,b2,oT.lenT,fun q=>(by rw[hnone] at q; cases q),fun _=>rfl⟩
    have l15:∀ (F i:Nat),m - i < F→i≤m→(∀ x∈(dp_ T).take i,blt x.1 key=true)→bg_.l15 F key v none 0 a m (i:Int) H2 Q:=by
     intro F;induction F with
     | zero=>intro i h; omega
     | succ F ihF=>
      intro i hF hi h1;rw[bg_.l15_eq];by_cases him:i < m
      ·obtain⟨l,o,rfl,q1,q2⟩:=kv.get (i:=i) (by show i < (allD T 49 0).length; omega);have etN:tN (i:Int)=i:=rfl;have hil:i < (dp_ T).length:=by show i < (allD T 49 0).length; omega
       rw[aQ_ (by simp; omega),am_];refine ab_ (by simp; omega) ?_;rw[ah_,etN,Nat.add_zero,ag_ q1,aB_,id_];refine aa_ (fun e=> ?_) (fun e=> ?_)
       ·rw[ar_ (by omega)];refine ihF (i+1) (by omega) (by omega) fun x hx=> ?_;rw[List.take_succ_eq_append_getElem hil] at hx;rcases List.mem_append.1 hx with z | z
        ·exact h1 x z
        ·rw[List.mem_singleton.1 z]; exact e
       ·have hne:(dp_ T)[i].1≠key:=fun q=>by
         have:=zf_ hasc (List.getElem_mem hil);rw[q,hnone] at this; cases this
        have hgt:=yD_ e hne;have hd:∀ x∈(dp_ T).drop i,blt key x.1=true:=fun x hx=>by
         rw[List.drop_eq_getElem_cons hil] at hx;rcases List.mem_cons.1 hx with z | z
         ·rw[z]; exact hgt
         ·have hd:=hasc;rw[←List.take_append_drop i (dp_ T)] at hd;have hd2:=(List.pairwise_append.1 hd).2.1;rw[List.drop_eq_getElem_cons hil] at hd2;exact dU_ hgt ((List.pairwise_cons.1 hd2).1 x z)
        exact fin i hi h1 hd
      ·rw[aL_ (by simp; omega)];refine fin i hi h1 fun x hx=> ?_;rw[List.drop_of_length_le (by show (allD T 49 0).length≤i; omega)] at hx;simp at hx
    exact l15 F 0 (by omega) (by omega) (fun x hx=>by simp at hx)
 exact loop 129 0 (by omega) (by omega) (fun j q hj=>by omega)
theorem zD_ {T A:List Pg} (h:Cn_ T A key v) (e0:0 < aU_ T):dT_ A=fT_ (dT_ T) key v∧∀ e,ks_ e A=0:=by
 have e1:dT_ A=dp_ A:=by unfold dT_; rw[decide_eq_true h.pos]
 have e2:dT_ T=dp_ T:=by unfold dT_; rw[decide_eq_true e0]
 exact⟨by rw[e1,e2,h.ent],fun e=>by unfold ks_; rw[decide_eq_true h.pos]⟩
end
end Go.Am
end
namespace Go.Am
abbrev LKey:=Int × ByteArray
abbrev LVal:=Int × Bool
structure StD where
 snaps:List (ByteArray × SnapR)
 links:List (LKey × LVal)
 inos:List (Int × InoR)
def ekS (s:ByteArray):RV:= .s (.str s)
def ekI (n:Int):RV:= .s (.int .i64 n)
def ekL (k:LKey):RV:= .a [.int .i64 k.1,.str k.2]
def evS (x:SnapR):RV:= .a x.cells
def evI (x:InoR):RV:= .a x.cells
def evL (v:LVal):RV:= .a [.int .i64 v.1,.bool v.2]
theorem okS:uO_ false [.str] ekS:=⟨fun _=>rfl,fun a b h=>by cases h; rfl⟩
theorem okI:uO_ false [.int .i64] ekI:=⟨fun _=>rfl,fun a b h=>by cases h; rfl⟩
theorem okL:uO_ true [.int .i64,.str] ekL:=⟨fun _=>rfl,fun a b h=>by
 obtain⟨a1,a2⟩:=a;obtain⟨b1,b2⟩:=b;simp only[ekL,RV.a.injEq,List.cons.injEq,GV.int.injEq,GV.str.injEq] at h;rw[h.1.2,h.2.1]⟩
def d1_ (v:ByteArray):Option LVal:=match eqI (sz v) 2&&leI (byt v 1) 1 with | true=>some (byt v 0,eqI (byt v 1) 1) | false=>none
def iq_ (st:StD) (p:ByteArray × ByteArray):Option StD:=match bZ_ p.1 with
 | some n=>(match bu_ p.2 with | some x=>some { st with snaps:=f0_ st.snaps n x } | none=>none)
 | none=>match bM_ p.1 with
  | some k=>(match d1_ p.2 with | some v=>some { st with links:=f0_ st.links k v } | none=>none)
  | none=>match ct_ p.1 with
   | some i=>(match cl_ p.2 with | some x=>some { st with inos:=f0_ st.inos i x } | none=>none)
   | none=>none
structure kl_ (H:Hp) (sp:Nat) (c0:GV) (ms ml mi:Nat) (c4:GV) (st:StD):Prop where
 row:∃ t,H[sp]? =some (.row true t [c0,.map (some ms),.map (some ml),.map (some mi),c4])
 snaps:gk_ ekS evS H ms st.snaps
 links:gk_ ekL evL H ml st.links
 inos:gk_ ekI evI H mi st.inos
 d1:ms≠ml
 d2:ms≠mi
 d3:ml≠mi
section
variable {H:Hp} {Q:Post} {sp ms ml mi:Nat} {c0 c4:GV} {st:StD}
theorem kl_.rd (h:kl_ H sp c0 ms ml mi c4 st):gt H sp 0=some c0∧gt H sp 1=some (.map (some ms))∧gt H sp 2=some (.map (some ml))∧gt H sp 3=some (.map (some mi))∧gt H sp 4=some c4:=by
 obtain⟨t,hr⟩:=h.row;simp [bO_ hr]
theorem kl_.spn (h:kl_ H sp c0 ms ml mi c4 st):sp≠ms∧sp≠ml∧sp≠mi:=by
 obtain⟨t,hr⟩:=h.row;refine⟨fun e=> ?_,fun e=> ?_,fun e=> ?_⟩
 ·obtain⟨es,c,hm,_⟩:=h.snaps.ex; rw[←e,hr] at hm; cases hm
 ·obtain⟨es,c,hm,_⟩:=h.links.ex; rw[←e,hr] at hm; cases hm
 ·obtain⟨es,c,hm,_⟩:=h.inos.ex; rw[←e,hr] at hm; cases hm
structure Upd (H H':Hp) (P:Nat→Prop):Prop where
 len:H'.length=H.length
 row:∀ l,¬ P l→H'[l]? =H[l]?
theorem pF_ {k v:ByteArray} (hk:k.size≤140737488351232) (hv:v.size≤140737488351232) (h:kl_ H sp c0 ms ml mi c4 st)
 (h1:iq_ st (k,v)=none→∀ H',Upd H H' (fun l=>l=ms∨l=ml∨l=mi)→Q (.g (.bool false)) H')
 (h2:∀ st',iq_ st (k,v)=some st'→∀ H',Upd H H' (fun l=>l=ms∨l=ml∨l=mi)→kl_ H' sp c0 ms ml mi c4 st'→Q (.g (.bool true)) H'):
 cx_ [.g (.ptr (some (sp,0))),.agg [.str k,.str v]] H Q:=by
 obtain⟨g0,g1,g2,g3,g4⟩:=h.rd;obtain⟨n1,n2,n3⟩:=h.spn;obtain⟨t,hr⟩:=h.row;refine⟨1,?_⟩;rw[k2_];refine tU_ hk ?_;simp only[aR_,aG_,bP_,aB_,al_,aS_];unfold iq_ at h1 h2;cases hn:bZ_ k with
 | some n=>
  simp only[hn] at h1 h2;simp only[Option.isSome_some,Option.getD_some,fI_];refine tS_ hv ?_;have hc:((bu_ v).getD iy_).cells=[.int .i64 ((bu_ v).getD iy_).id,.int .i64 ((bu_ v).getD iy_).kind,.str ((bu_ v).getD iy_).parent,.str ((bu_ v).getD iy_).label]:=rfl;rw[hc];simp only[aR_,aG_,gB_,bA_,ak_,aB_,b0_,bP_,aS_,ah_,Nat.zero_add];rw[ag_ g1,ht_];refine of_ okS h.snaps n ((bu_ v).getD iy_) fun H' e1 e2 hm=> ?_;cases hg:bu_ v with
  | none=>
   rw[hg] at h1;exact h1 rfl _ ⟨e1,fun l hl=>e2 l fun q=>hl (.inl q)⟩
  | some x=>
   rw[hg] at h2 hm;refine h2 _ rfl H' ⟨e1,fun l hl=>e2 l fun q=>hl (.inl q)⟩ ⟨⟨t,by rw[e2 _ n1]; exact hr⟩,hm,h.links.keep (e2 _ h.d1.symm),h.inos.keep (e2 _ h.d2.symm),h.d1,h.d2,h.d3⟩
 | none=>
  simp only[hn] at h1 h2;simp only[Option.isSome_none,dY_];refine uf_ hk ?_;simp only[aR_,aG_,bP_,aB_,ak_,al_,aS_];cases hp:bM_ k with
  | some key=>
   simp only[hp] at h1 h2;simp only[Option.isSome_some,Option.map_some,Option.getD_some,fI_];refine aa_ (fun e=> ?_) (fun e=> ?_)
   ·have:d1_ v=none:=by unfold d1_; rw[cR_ e]; rfl
    rw[this] at h1; exact h1 rfl _ ⟨rfl,fun _ _=>rfl⟩
   ·have e':=c7_ e;have hs2:v.size=2:=by simp at e'; omega
    refine ab_ (by simp; omega) ?_;rw[show tN 1=1 from rfl];refine aa_ (fun e3=> ?_) (fun e3=> ?_)
    ·have:d1_ v=none:=by unfold d1_; rw[e',show leI (byt v 1) 1=false by simp at e3 ⊢; omega]; rfl
     rw[this] at h1; exact h1 rfl _ ⟨rfl,fun _ _=>rfl⟩
    ·have hl:d1_ v=some (byt v 0,eqI (byt v 1) 1):=by unfold d1_; rw[e',show leI (byt v 1) 1=true by simp at e3 ⊢; omega]; rfl
     rw[hl] at h2;simp only[ah_,Nat.zero_add];rw[ag_ g2,ht_];refine ab_ (by simp; omega) (ab_ (by simp; omega) ?_);rw[show tN 0=0 from rfl,eb_];refine of_ okL h.links key (byt v 0,eqI (byt v 1) 1) fun H' e1 e2 hm=> ?_;exact h2 _ rfl H' ⟨e1,fun l hl=>e2 l fun q=>hl (.inr (.inl q))⟩ ⟨⟨t,by rw[e2 _ n2]; exact hr⟩,h.snaps.keep (e2 _ h.d1),hm,h.inos.keep (e2 _ h.d3.symm),h.d1,h.d2,h.d3⟩
  | none=>
   simp only[hp] at h1 h2;simp only[Option.isSome_none,dY_];refine qS_ ?_;simp only[aR_,aG_,bP_,ak_,al_,aS_];refine ta_ hv ?_;have hc:((cl_ v).getD tX_).cells=[.int .i64 ((cl_ v).getD tX_).links,.str ((cl_ v).getD tX_).content]:=rfl;rw[hc];simp only[aR_,aG_,gB_,bA_,ak_,aB_,b0_,bP_,aS_,ah_,Nat.zero_add];rw[ag_ g3,ht_];refine of_ okI h.inos ((ct_ k).getD 0) ((cl_ v).getD tX_) fun H' e1 e2 hm=> ?_;cases hnum:ct_ k with
   | none=>
    rw[hnum] at h1;exact h1 rfl _ ⟨e1,fun l hl=>e2 l fun q=>hl (.inr (.inr q))⟩
   | some i=>
    rw[hnum] at h1 h2 hm;simp only[Option.isSome_some,fI_];cases hg:cl_ v with
    | none=>rw[hg] at h1; exact h1 rfl _ ⟨e1,fun l hl=>e2 l fun q=>hl (.inr (.inr q))⟩
    | some x=>
     rw[hg] at h2 hm;exact h2 _ rfl H' ⟨e1,fun l hl=>e2 l fun q=>hl (.inr (.inr q))⟩ ⟨⟨t,by rw[e2 _ n3]; exact hr⟩,h.snaps.keep (e2 _ h.d2),h.links.keep (e2 _ h.d3),hm,h.d1,h.d2,h.d3⟩
end
end Go.Am
