import Derived.Test.YtddbjihiflcbbaaGreatM5
set_option linter.unusedVariables false
set_option linter.unusedSimpArgs false
namespace Go.Am
section
variable {H:Hp} {Q:Post} {a:Pl} {n:Nat} {ks:List ByteArray} {lo hi:ByteArray}
theorem ng_ (s:ByteArray):(s=mkS [])↔s.size=0:=by
 constructor
 ·intro e; subst e; rfl
 ·intro e;apply hA_;apply List.eq_nil_of_length_eq_zero;rw[cp_,e]
theorem jT_ (h:Ss H a n ks) {op:Bool} (hop:op=decide (hi.size=0)) (hQ:Q (.g (.bool (e9_ lo hi ks))) H):a6_ [.agg [.str lo,.str hi,.bool op],.g (.sl a n 1)] H Q:=by
 have hn:=h.len;have hlim:=h.lim;have loop:∀ f k:Nat,ks.length - k < f→k≤ks.length→e9_ lo hi (ks.take k)=true→a6_.l2 f lo hi op a n (nI n) (k:Int) H Q:=by
  intro f;induction f with
  | zero=>intro k hf; omega
  | succ f ih=>
   intro k hf hk hh;rw[a6_.l2_eq];by_cases hkn:k < ks.length
   ·have hs:e9_ lo hi (ks.take (k+1))=(!(blt ks[k] lo)&&(decide (hi.size=0)||blt ks[k] hi)):=by
     rw[List.take_succ_eq_append_getElem hkn];unfold e9_ at hh ⊢;rw[List.all_append,hh]; simp
    have hall:(!(blt ks[k] lo)&&(decide (hi.size=0)||blt ks[k] hi))=false→e9_ lo hi ks=false:=by
     intro e;unfold e9_;rw[List.all_eq_false];exact⟨ks[k],List.getElem_mem hkn,by rw[e]; simp⟩
    have go:(!(blt ks[k] lo)&&(decide (hi.size=0)||blt ks[k] hi))=true→a6_.l2 f lo hi op a n (nI n) (ad_ .i64 ((k:Int)+1)) H Q:=by
     intro e;rw[ar_ (by omega)];exact ih (k+1) (by omega) (by omega) (by rw[hs,e])
    rw[aQ_ (by simp; omega),am_,h.rd k rfl hkn,id_,id_];refine aa_ (fun e=> ?_) (fun e=> ?_)
    ·rw[hall (by rw[e]; rfl)] at hQ; exact hQ
    ·refine aa_ (fun e2=> ?_) (fun e2=> ?_)
     ·refine aa_ (fun e3=> ?_) (fun e3=> ?_)
      ·rw[hall (by rw[e]; rw[hop] at e2; simp at e2 e3; simp [e2,e3])] at hQ; exact hQ
      ·exact go (by rw[e]; simp at e3; simp [e3])
     ·exact go (by rw[e]; rw[hop] at e2; simp at e2; simp [e2])
   ·rw[aL_ (by simp; omega)];rw[List.take_of_length_le (by omega)] at hh;rw[hh] at hQ; exact hQ
 refine⟨ks.length+2,?_⟩;rw[lj_];exact loop _ 0 (by omega) (Nat.zero_le _) (by simp [e9_])
theorem iX_ {p:Pg} (h:Ss H a n p.keys) (hsz:∀ k∈p.keys,1≤k.size) {op:Bool} (hop:op=decide (hi.size=0)) {i:Nat} (hi':i≤n) (hQ:Q (.agg [.str (loK p lo i),.str (hiK p hi i),.bool (decide ((hiK p hi i).size=0))]) H):
 be_ [.agg [.str lo,.str hi,.bool op],.g (.sl a n 1),.g (.int .i64 (i:Int))] H Q:=by
 have hn:=h.len;have hlim:=h.lim;refine⟨2,?_⟩;rw[kk_];have key:be_.l3 1 a n (i:Int) (loK p lo i) hi op (mkS []) (mkS []) false H Q:=by
  rw[be_.l3_eq];refine aa_ (fun e=> ?_) (fun e=> ?_)
  ·have hk:i < p.keys.length:=by simp at e; omega
   rw[am_,h.rd i rfl hk];have e1:hiK p hi i=p.keys[i]:=by unfold hiK; rw[List.getElem?_eq_getElem hk]; rfl
   rw[e1] at hQ;have:=hsz p.keys[i] (List.getElem_mem hk);rw[decide_eq_false (by omega)] at hQ;exact hQ
  ·have hk:p.keys.length≤i:=by simp at e; omega
   have e1:hiK p hi i=hi:=by unfold hiK; rw[List.getElem?_eq_none hk]; rfl
   rw[e1,←hop] at hQ;exact hQ
 refine aa_ (fun e=> ?_) (fun e=> ?_)
 ·have h0:0 < i:=by simpa using e
  obtain⟨j,rfl⟩:∃ j,i=j+1:=⟨i - 1,by omega⟩;have hj:j < p.keys.length:=by omega
  rw[am_,dt_ (by omega),h.rd j rfl hj];have e1:loK p lo (j+1)=p.keys[j]:=by unfold loK; rw[decide_eq_true (by omega)]; simp [hj]
  rw[e1] at key;exact key
 ·have h0:i=0:=by simp at e; omega
  subst h0;exact key
end
def pd (d:Nat):Int:=match d with | 0=> -1 | d+1=>(d+1:Nat)
theorem AD_ {d:Nat} (h:d≠0):pd d=d:=by cases d with | zero=>exact (h rfl).elim | succ d=>rfl
structure WOK (H:Hp) (t t':TypeId) (lw lm:Nat) (a:Pl) (st:WS):Prop where
 row:H[lw]? =some (.row true t [.sl a 48 5,.sl (some (lm,0)) 48 1,.int .i64 (pd st.deep),.int .i64 st.count])
 met:H[lm]? =some (.row true t' (st.met.map GV.bool))
 len:st.met.length=48
 ne:lw≠lm
section
variable {H H':Hp} {t t':TypeId} {lw lm:Nat} {a:Pl} {st:WS} {lo hi:Nat}
theorem WOK.mono (h:WOK H t t' lw lm a st) (hp:H<+:H'):WOK H' t t' lw lm a st:=
 ⟨by rw[cd_ hp (List.getElem?_eq_some_iff.1 h.row).1]; exact h.row,by rw[cd_ hp (List.getElem?_eq_some_iff.1 h.met).1]; exact h.met,h.len,h.ne⟩
theorem Ch.set {l:Nat} (x:Obj) (h1:lo≤l) (h2:l < hi):Ch lo hi H (H.set l x):=
 ⟨by simp,fun l' _ hn=>by rw[List.getElem?_set_ne]; intro e; subst e; exact hn ⟨h1,h2⟩⟩
theorem c3_ {l j:Nat} {own:TypeId} {cs:List GV} {v:GV} {K:Hp→Prop} (h:H[l]? =some (.row true own cs)) (hj:j < cs.length) (hK:K (H.set l (.row true own (cs.set j v)))):wr H l j v K:=by
 rw[kV_ h hj]; exact hK
theorem lB_ {Q:Post} {l o:Nat} {c:PC} {p:Pg} {deep:Nat} (h:WOK H t t' lw lm a st) (hg:gt H l (o+2)=some (.sl c.a1 c.n1 1)) (hn:c.n1=p.keys.length) (h4:p.keys.length≤1000) (hd:1≤deep) (hc:st.count≤1000000) (hlw:lo≤lw) (hhi:lw < hi) (hne:l≠lw)
 (hQ1:h7_ p deep st=none→∀ H',Ch lo hi H H'→Q (.g (.bool false)) H') (hQ2:∀ st' H',h7_ p deep st=some st'→Ch lo hi H H'→WOK H' t t' lw lm a st'→Q (.g (.bool true)) H'):
 bq_ [.g (.ptr (some (lw,0))),.g (.ptr (some (l,o))),.g (.int .i64 (deep:Int))] H Q:=by
 obtain⟨hr,hm,hl,ne⟩:=h;have hlt:=(List.getElem?_eq_some_iff.1 hr).1;refine⟨2,?_⟩;rw[na_,ah_,ag_ (v:= .int .i64 (pd st.deep)) (by rw[bO_ hr]; rfl),ak_];have fin:∀ (d:Nat) (H1:Hp),H1[lw]? =some (.row true t [.sl a 48 5,.sl (some (lm,0)) 48 1,.int .i64 (d:Int),.int .i64 st.count])→H1[lm]? =H[lm]? →H1[l]? =H[l]? →Ch lo hi H H1→h7_ p deep st=(match decide (d=deep) with | true=>some ⟨st.met,deep,st.count+p.keys.length⟩ | false=>none)→
  bq_.l3 1 (some (lw,0)) (some (l,o)) (deep:Int) H1 Q:=by
  intro d H1 hr1 hm1 hl1 c1 he;have hlt1:=(List.getElem?_eq_some_iff.1 hr1).1;rw[bq_.l3_eq,ah_,ag_ (v:= .int .i64 st.count) (by rw[bO_ hr1]; rfl),ak_,ah_];rw[ag_ (v:= .sl c.a1 c.n1 1) (by rw[←hg]; unfold gt; rw[hl1]),as_,ah_];refine c3_ hr1 (by simp) ?_;rw[ah_];have hr2:=List.getElem?_set_self (a:=(Obj.row true t ([GV.sl a 48 5,.sl (some (lm,0)) 48 1,.int .i64 (d:Int),.int .i64 st.count].set 3 (.int .i64 (ad_ .i64 ((st.count:Int)+nI c.n1)))))) hlt1;rw[ag_ (v:= .int .i64 (d:Int)) (by rw[bO_ hr2]; rfl),ak_,hL_];have c2:=c1.trans (Ch.set (Obj.row true t ([GV.sl a 48 5,.sl (some (lm,0)) 48 1,.int .i64 (d:Int),.int .i64 st.count].set 3 (.int .i64 (ad_ .i64 ((st.count:Int)+nI c.n1))))) hlw hhi);by_cases e:d=deep
  ·subst e;rw[decide_eq_true rfl] at he;rw[decide_eq_true rfl];refine hQ2 _ _ he c2 ⟨?_,?_,hl,ne⟩
   ·rw[hr2];have w:ad_ .i64 ((st.count:Int)+nI c.n1)=((st.count+p.keys.length:Nat):Int):=by rw[cJ_ (by simp; omega) (by simp; omega)]; simp [hn]
    rw[w,AD_ (d:=d) (by omega)];rfl
   ·rw[List.getElem?_set_ne ne,hm1]; exact hm
  ·rw[decide_eq_false e] at he;have e': ¬ ((d:Int)=(deep:Int)):=by omega
   rw[decide_eq_false e'];exact hQ1 he _ c2
 cases hd0:st.deep with
 | zero=>
  rw[aQ_ (by decide),ah_];rw[hd0] at hr;refine c3_ hr (by simp) ?_;refine fin deep _ ?_ (by rw[List.getElem?_set_ne ne]) (by rw[List.getElem?_set_ne (Ne.symm hne)]) (Ch.set _ hlw hhi) ?_
  ·rw[List.getElem?_set_self hlt]; rfl
  ·unfold h7_; rw[hd0]; simp
 | succ d=>
  rw[aL_ (by simp [pd]; omega)];rw[hd0] at hr;refine fin (d+1) H hr rfl rfl (Ch.refl _ _ _) ?_;unfold h7_;rw[hd0];simp only[Nat.add_one_ne_zero,decide_false];by_cases e:d+1=deep
  ·simp [e]
  ·simp [e]
end
end Go.Am
