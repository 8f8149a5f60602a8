import Derived.Test.YtjbgjfikgpffmaaGreatM3
set_option linter.all false
set_option autoImplicit true
set_option relaxedAutoImplicit true
namespace Go.Am
open List
section
variable{H:Hp}{Q:Post}{a:Pl}{n:Nat}{ks:List Y_}{lo hi:Y_}
theorem wr_(s:Y_):(s=mkS [])↔s.size=0:=by
 constructor
 .simp_all
 .intro e;apply jc_;apply eq_nil_of_length_eq_zero;simp_all
def mk_ (h:Ss H a n ks) (N:op=decide (hi.size=0)) (I:Q (gB (gu_ lo hi ks)) H):bh_ [.agg [.str lo,.str hi,.bool op],nL a n 1] H Q:=by
 have Y:=h.len;have G:=h.lim;have A:∀f k:Nat,ks.length-k<f->k<=ks.length->gu_ lo hi (ks.take k)=true->bh_.l2 f lo hi op a n (nI n) k H Q:=by
  intro f;induction f with
  |zero=>omega
  | succ f W=>
   intro k O U F;rw[bh_.l2_eq];by_cases r:k<ks.length
   ·have V:gu_ lo hi (ks.take (k+1))=(!(blt ks[k] lo)&&(decide (hi.size=0)||blt ks[k] hi)):=by
     rw[take_succ_eq_append_getElem r];unfold gu_ at F ⊢;rw[all_append,F];simp
    have C:(!(blt ks[k] lo)&&(decide (hi.size=0)||blt ks[k] hi))=false->gu_ lo hi ks=false:=by
     intro e;unfold gu_;rw[all_eq_false];exact⟨ks[k],kE r,by rw[e];simp⟩
    have go:(!(blt ks[k] lo)&&(decide (hi.size=0)||blt ks[k] hi))=true->bh_.l2 f lo hi op a n (nI n) (ae_ .i64 (k+1)) H Q:=by
     rw[ao_ o_];grind
    rw[ay_ s_,af_,h.rd k rfl r,h2_,h2_];refine aa_ (λe=>?_) λe=>?_
    .rw[C (by rw[e];rfl)]at I;exact I
    ·refine aa_ (λJ=>?_) (λJ=>?_)
     .refine aa_ (λD=>?_) (λD=>?_)
      .grind
      .exact go (by rw[e];simp at D;simp[D])
     .grind
   .rw[aB_ s_];grind
 refine⟨ks.length+2,?_⟩;rw[n7_];exact A _ 0 o_ (kP _) (by simp[gu_])
def lF_ (h:Ss H a n p.keys) (C:∀k∈p.keys,1<=k.size) (N:op=decide (hi.size=0)) (J:i<=n) (D:Q (.agg [.str (loK p lo i),.str (hiK p hi i),.bool (decide ((hiK p hi i).size=0))]) H):
 bp_ [.agg [.str lo,.str hi,.bool op],nL a n 1,gI (i:Int)] H Q:=by
 have O:=h.len;have I:=h.lim;refine⟨2,?_⟩;rw[ne_];have key:bp_.l3 1 a n i (loK p lo i) hi op (mkS []) (mkS []) false H Q:=by
  rw[bp_.l3_eq];refine aa_ (λe=>?_) λe=>?_
  .have r:i<p.keys.length:=by simp_all
   rw[af_,h.rd i rfl r];have A:hiK p hi i=p.keys[i]:=by unfold hiK;rw[kG r];rfl
   rw[A]at D;have:=C p.keys[i] (kE r);rw[lH o_]at D;exact D
  .have r:p.keys.length<=i:=by simp_all
   have A:hiK p hi i=hi:=by unfold hiK;rw[getElem?_eq_none r];rfl
   grind
 refine aa_ (λe=>?_) λe=>?_
 .have F:0<i:=by simp_all
  obtain⟨j,rfl⟩:∃j,i=j+1:=⟨i-1,o_⟩;have G:j<p.keys.length:=o_
  rw[af_,en_ o_,h.rd j rfl G];have A:loK p lo (j+1)=p.keys[j]:=by unfold loK;simp[G]
  grind
 .have F:i=0:=by simp_all
  subst F;exact key
end
def pd(d:Nat):Int:=match d with|0=> -1|d+1=>(d+1:Nat)
theorem Gp_(h:d≠0):pd d=d:=by cases d with|zero=>exact (h rfl).elim|succ d=>rfl
structure WOK(H:Hp)(t t':TypeId)(lw lm:Nat)(a:Pl)(st:WS):Prop where
 row:H[lw]?=some (.row true t [.sl a 48 5,.sl (some (lm,0)) 48 1,.int .i64 (pd st.deep),.int .i64 st.count])
 met:H[lm]?=some (.row true t' (st.met.map GV.bool))
 len:st.met.length=48
 ne:lw≠lm
section
variable{H H':Hp}{t t':TypeId}{lw lm:Nat}{a:Pl}{st:WS}{lo hi:Nat}
theorem WOK.mono(h:WOK H t t' lw lm a st)(r:H<+:H'):WOK H' t t' lw lm a st:=
 ⟨by rw[a9_ r (kC.1 h.row).1];exact h.row,by rw[a9_ r (kC.1 h.met).1];exact h.met,h.len,h.ne⟩
theorem Ch.set(x:Obj)(A:lo<=l)(r:l<hi):Ch lo hi H (H.set l x):=
 ⟨t_,λD _ C=>g_⟩
def ce_(h:H[l]?=some (.row true own cs))(A:j<cs.length)(r:K (H.set l (.row true own (cs.set j v)))):wr H l j v K:=by
 rw[pM_ h A];exact r
def nO_ {Q:Post} {l o:Nat} {c:PC} {p:Pg} {deep:Nat} (h:WOK H t t' lw lm a st) (hg:gt H l (o+2)=some (.sl c.a1 c.n1 1)) (hn:c.n1=p.keys.length) (h4:p.keys.length<=1000) (hd:1<=deep) (hc:st.count<=1000000) (hlw:lo<=lw) (hhi:lw<hi) (hne:l≠lw)
 (hQ1:leafD p deep st=none->∀H',Ch lo hi H H'->Q (gB false) H') (hQ2:∀st' H',leafD p deep st=some st'->Ch lo hi H H'->WOK H' t t' lw lm a st'->Q (gB true) H'):
 bE_ [yQ lw,gP (some (l,o)),gI (deep:Int)] H Q:=by
 obtain⟨hr,hm,hl,ne⟩:=h;have hlt:=(kC.1 hr).1;refine⟨2,?_⟩;rw[qH_,ad_,ac_ (v:= .int .i64 (pd st.deep)) (by rw[aY_ hr];rfl),ai_];have fin:∀(d:Nat)(H1:Hp),H1[lw]?=some (.row true t [.sl a 48 5,.sl (some (lm,0)) 48 1,.int .i64 (d:Int),.int .i64 st.count])->H1[lm]?=H[lm]? ->H1[l]?=H[l]? ->Ch lo hi H H1->leafD p deep st=(match decide (d=deep) with|true=>some ⟨st.met,deep,st.count+p.keys.length⟩|false=>none)->
  bE_.l3 1 (some (lw,0)) (some (l,o)) (deep:Int) H1 Q:=by
  intro d H1 hr1 hm1 hl1 c1 he;have hlt1:=(kC.1 hr1).1;rw[bE_.l3_eq,ad_,ac_ (v:= .int .i64 st.count) (by rw[aY_ hr1];rfl),ai_,ad_];rw[ac_ (v:= .sl c.a1 c.n1 1) (by rw[<-hg];unfold gt;rw[hl1]),ah_,ad_];refine ce_ hr1 t_ ?_;rw[ad_];have hr2:=kH (a:=(Obj.row true t ([GV.sl a 48 5,.sl (some (lm,0)) 48 1,.int .i64 (d:Int),.int .i64 st.count].set 3 (.int .i64 (ae_ .i64 ((st.count:Int)+nI c.n1)))))) hlt1;rw[ac_ (v:= .int .i64 (d:Int)) (by rw[aY_ hr2];rfl),ai_,iF_];have c2:=c1.trans (Ch.set (Obj.row true t ([GV.sl a 48 5,.sl (some (lm,0)) 48 1,.int .i64 (d:Int),.int .i64 st.count].set 3 (.int .i64 (ae_ .i64 ((st.count:Int)+nI c.n1))))) hlw hhi);by_cases e:d=deep
  ·subst e;rw[lE rfl]at he;rw[lE rfl];refine hQ2 _ _ he c2 ⟨?_,?_,hl,ne⟩
   .rw[hr2];have w:ae_ .i64 ((st.count:Int)+nI c.n1)=((st.count+p.keys.length:Nat):Int):=by rw[cf_ s_ s_];simp[hn]
    rw[w,Gp_ (d:=d) o_];rfl
   .rw[kF ne,hm1];exact hm
  .rw[lH e]at he;have e': ¬ ((d:Int)=(deep:Int)):=by omega
   rw[lH e'];exact hQ1 he _ c2
 cases hd0:st.deep with
 |zero=>
  rw[ay_ d_,ad_];rw[hd0]at hr;refine ce_ hr t_ ?_;refine fin deep _ ?_ (by rw[kF ne]) (by rw[kF (Ne.symm hne)]) (Ch.set _ hlw hhi) ?_
  .rw[kH hlt];rfl
  .unfold leafD;rw[hd0];simp
 |succ d=>
  rw[aB_ (by simp[pd];omega)];rw[hd0]at hr;refine fin (d+1) H hr rfl rfl (Ch.refl _ _ _) ?_;unfold leafD;rw[hd0];simp only[Nat.add_one_ne_zero,decide_false];by_cases e:d+1=deep
  .simp[e]
  .simp[e]
end
end Go.Am
