import Derived.Test.YtdfongaafdnljaaGreatM3
set_option linter.all false
set_option autoImplicit true
set_option relaxedAutoImplicit true
namespace Go.Am
open List
section
variable {H:Hp} {Q:Post} {a:Pl} {n:Nat} {ks:List ByteArray} {lo hi:ByteArray}
theorem vJ_ (s:ByteArray):(s=mkS [])↔s.size=0:=by
 constructor
 ·simp_all
 ·intro e;apply iM_;apply eq_nil_of_length_eq_zero;simp_all
theorem lK_ (h:Ss H a n ks) (N:op=decide (hi.size=0)) (I:Q (.g (.bool (f4_ lo hi ks))) H):bf_ [.agg [.str lo,.str hi,.bool op],.g (.sl a n 1)] H Q:=by
 have Y:=h.len;have G:=h.lim;have A:∀ f k:Nat,ks.length - k < f→k≤ks.length→f4_ lo hi (ks.take k)=true→bf_.l2 f lo hi op a n (nI n) k H Q:=by
  intro f;induction f with
  | zero=>omega
  | succ f W=>
   intro k O U F;rw[bf_.l2_eq];by_cases r:k < ks.length
   ·have V:f4_ lo hi (ks.take (k+1))=(!(blt ks[k] lo)&&(decide (hi.size=0)||blt ks[k] hi)):=by
     rw[take_succ_eq_append_getElem r];unfold f4_ at F ⊢;rw[all_append,F]; simp
    have C:(!(blt ks[k] lo)&&(decide (hi.size=0)||blt ks[k] hi))=false→f4_ lo hi ks=false:=by
     intro e;unfold f4_;rw[all_eq_false];exact⟨ks[k],kE r,by rw[e]; simp⟩
    have go:(!(blt ks[k] lo)&&(decide (hi.size=0)||blt ks[k] hi))=true→bf_.l2 f lo hi op a n (nI n) (ac_ .i64 (k+1)) H Q:=by
     rw[an_ (by omega)];grind
    rw[az_ (by simp; omega),ae_,h.rd k rfl r,iO_,iO_];refine aa_ (fun e=> ?_) (fun e=> ?_)
    ·rw[C (by rw[e]; rfl)] at I; exact I
    ·refine aa_ (fun J=> ?_) (fun J=> ?_)
     ·refine aa_ (fun D=> ?_) (fun D=> ?_)
      ·grind
      ·exact go (by rw[e]; simp at D; simp [D])
     ·grind
   ·rw[aD_ (by simp; omega)];grind
 refine⟨ks.length+2,?_⟩;rw[nN_];exact A _ 0 (by omega) (kP _) (by simp [f4_])
theorem le_ (h:Ss H a n p.keys) (C:∀ k∈p.keys,1≤k.size) (N:op=decide (hi.size=0)) (J:i≤n) (D:Q (.agg [.str (loK p lo i),.str (hiK p hi i),.bool (decide ((hiK p hi i).size=0))]) H):
 bo_ [.agg [.str lo,.str hi,.bool op],.g (.sl a n 1),.g (.int .i64 (i:Int))] H Q:=by
 have O:=h.len;have I:=h.lim;refine⟨2,?_⟩;rw[my_];have key:bo_.l3 1 a n i (loK p lo i) hi op (mkS []) (mkS []) false H Q:=by
  rw[bo_.l3_eq];refine aa_ (fun e=> ?_) (fun e=> ?_)
  ·have r:i < p.keys.length:=by simp_all
   rw[ae_,h.rd i rfl r];have A:hiK p hi i=p.keys[i]:=by unfold hiK; rw[kG r]; rfl
   rw[A] at D;have:=C p.keys[i] (kE r);rw[decide_eq_false (by omega)] at D;exact D
  ·have r:p.keys.length≤i:=by simp_all
   have A:hiK p hi i=hi:=by unfold hiK; rw[getElem?_eq_none r]; rfl
   grind
 refine aa_ (fun e=> ?_) (fun e=> ?_)
 ·have F:0 < i:=by simp_all
  obtain⟨j,rfl⟩:∃ j,i=j+1:=⟨i - 1,by omega⟩;have G:j < p.keys.length:=by omega
  rw[ae_,d5_ (by omega),h.rd j rfl G];have A:loK p lo (j+1)=p.keys[j]:=by unfold loK; simp [G]
  grind
 ·have F:i=0:=by simp_all
  subst F;exact key
end
def pd (d:Nat):Int:=match d with | 0=> -1 | d+1=>(d+1:Nat)
theorem Ep_ (h:d≠0):pd d=d:=by cases d with | zero=>exact (h rfl).elim | succ d=>rfl
structure WOK (H:Hp) (t t':TypeId) (lw lm:Nat) (a:Pl) (st:WS):Prop where
 row:H[lw]? =some (.row true t [.sl a 48 5,.sl (some (lm,0)) 48 1,.int .i64 (pd st.deep),.int .i64 st.count])
 met:H[lm]? =some (.row true t' (st.met.map GV.bool))
 len:st.met.length=48
 ne:lw≠lm
section
variable {H H':Hp} {t t':TypeId} {lw lm:Nat} {a:Pl} {st:WS} {lo hi:Nat}
theorem WOK.mono (h:WOK H t t' lw lm a st) (r:H<+:H'):WOK H' t t' lw lm a st:=
 ⟨by rw[br_ r (kC.1 h.row).1]; exact h.row,by rw[br_ r (kC.1 h.met).1]; exact h.met,h.len,h.ne⟩
theorem Ch.set (x:Obj) (A:lo≤l) (r:l < hi):Ch lo hi H (H.set l x):=
 ⟨by simp,fun D _ C=>by grind⟩
theorem cr_ (h:H[l]? =some (.row true own cs)) (A:j < cs.length) (r:K (H.set l (.row true own (cs.set j v)))):wr H l j v K:=by
 rw[qz_ h A]; exact r
theorem mP_ {Q:Post} {l o:Nat} {c:PC} {p:Pg} {deep:Nat} (h:WOK H t t' lw lm a st) (hg:gt H l (o+2)=some (.sl c.a1 c.n1 1)) (hn:c.n1=p.keys.length) (h4:p.keys.length≤1000) (hd:1≤deep) (hc:st.count≤1000000) (hlw:lo≤lw) (hhi:lw < hi) (hne:l≠lw)
 (hQ1:leafD p deep st=none→∀ H',Ch lo hi H H'→Q (.g (.bool false)) H') (hQ2:∀ st' H',leafD p deep st=some st'→Ch lo hi H H'→WOK H' t t' lw lm a st'→Q (.g (.bool true)) H'):
 bI_ [.g (.ptr (some (lw,0))),.g (.ptr (some (l,o))),.g (.int .i64 (deep:Int))] H Q:=by
 obtain⟨hr,hm,hl,ne⟩:=h;have hlt:=(kC.1 hr).1;refine⟨2,?_⟩;rw[qe_,af_,ad_ (v:= .int .i64 (pd st.deep)) (by rw[bw_ hr]; rfl),ai_];have fin:∀ (d:Nat) (H1:Hp),H1[lw]? =some (.row true t [.sl a 48 5,.sl (some (lm,0)) 48 1,.int .i64 (d:Int),.int .i64 st.count])→H1[lm]? =H[lm]? →H1[l]? =H[l]? →Ch lo hi H H1→leafD p deep st=(match decide (d=deep) with | true=>some ⟨st.met,deep,st.count+p.keys.length⟩ | false=>none)→
  bI_.l3 1 (some (lw,0)) (some (l,o)) (deep:Int) H1 Q:=by
  intro d H1 hr1 hm1 hl1 c1 he;have hlt1:=(kC.1 hr1).1;rw[bI_.l3_eq,af_,ad_ (v:= .int .i64 st.count) (by rw[bw_ hr1]; rfl),ai_,af_];rw[ad_ (v:= .sl c.a1 c.n1 1) (by rw[←hg]; unfold gt; rw[hl1]),ah_,af_];refine cr_ hr1 (by simp) ?_;rw[af_];have hr2:=kH (a:=(Obj.row true t ([GV.sl a 48 5,.sl (some (lm,0)) 48 1,.int .i64 (d:Int),.int .i64 st.count].set 3 (.int .i64 (ac_ .i64 ((st.count:Int)+nI c.n1)))))) hlt1;rw[ad_ (v:= .int .i64 (d:Int)) (by rw[bw_ hr2]; rfl),ai_,ij_];have c2:=c1.trans (Ch.set (Obj.row true t ([GV.sl a 48 5,.sl (some (lm,0)) 48 1,.int .i64 (d:Int),.int .i64 st.count].set 3 (.int .i64 (ac_ .i64 ((st.count:Int)+nI c.n1))))) hlw hhi);by_cases e:d=deep
  ·subst e;rw[decide_eq_true rfl] at he;rw[decide_eq_true rfl];refine hQ2 _ _ he c2 ⟨?_,?_,hl,ne⟩
   ·rw[hr2];have w:ac_ .i64 ((st.count:Int)+nI c.n1)=((st.count+p.keys.length:Nat):Int):=by rw[cy_ (by simp; omega) (by simp; omega)]; simp [hn]
    rw[w,Ep_ (d:=d) (by omega)];rfl
   ·rw[kF ne,hm1]; exact hm
  ·rw[decide_eq_false e] at he;have e': ¬ ((d:Int)=(deep:Int)):=by omega
   rw[decide_eq_false e'];exact hQ1 he _ c2
 cases hd0:st.deep with
 | zero=>
  rw[az_ (by decide),af_];rw[hd0] at hr;refine cr_ hr (by simp) ?_;refine fin deep _ ?_ (by rw[kF ne]) (by rw[kF (Ne.symm hne)]) (Ch.set _ hlw hhi) ?_
  ·rw[kH hlt]; rfl
  ·unfold leafD; rw[hd0]; simp
 | succ d=>
  rw[aD_ (by simp [pd]; omega)];rw[hd0] at hr;refine fin (d+1) H hr rfl rfl (Ch.refl _ _ _) ?_;unfold leafD;rw[hd0];simp only[Nat.add_one_ne_zero,decide_false];by_cases e:d+1=deep
  ·simp [e]
  ·simp [e]
end
end Go.Am
