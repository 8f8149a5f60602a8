import Derived.Test.YtddbjihiflcbbaaGreatM9
set_option linter.unusedVariables false
set_option linter.unusedSimpArgs false
section
namespace Go.Am
section
variable {T:List Pg} {a:Pl} {cs:List PC} {H0:Hp} {lo hi lb lm:Nat} {t t':TypeId}
theorem rj_ {H:Hp} {Q:Post} {x:Pl} {n:Nat} {i d:Int} {kl kh:ByteArray} (f:Nat) (hB:BW H t lb lm t') (ne:lb≠lm) (l1:lo≤lb) (l2:lb < hi) (hQ:∀ H',Ch lo hi H H'→BW H' t lb lm t'→Q (.tup []) H'):
 ae_.at (f+1) [.g (.ptr (some (lb,0))),.agg [.sl x n 5],.g (.int .i64 i),.g (.int .i64 d),.g (.str kl),.g (.str kh)] H Q:=by
 obtain⟨⟨d0,m0,hr⟩,met,hl,hm⟩:=hB;refine⟨1,?_⟩;rw[hX_,ah_,ag_ (v:= .bool true) (by rw[bO_ hr]; rfl),al_,fI_,ah_];refine c3_ hr (by simp) (hQ _ (Ch.set _ l1 l2) ⟨⟨d0,m0,?_⟩,met,hl,?_⟩)
 ·rw[List.getElem?_set_self (List.getElem?_eq_some_iff.1 hr).1]; rfl
 ·rw[List.getElem?_set_ne ne]; exact hm
set_option maxRecDepth 100000 in
theorem r1_ (hT:Tr H0 a 48 cs T) (hlo:H0.length≤lo) (l1:lo≤lb) (l2:lb < hi) (m1:lo≤lm) (m2:lm < hi):
 ∀ (f at_ deep:Nat) (kl kh:ByteArray) (st:WS) (H:Hp) (Q:Post),fb_ st.met < f→H0<+:H→BOK H t t' lb lm st→at_ < 48→1≤deep→deep+f≤1000→st.count+4*fb_ st.met≤1000→
  (∀ H',Ch lo hi H H'→BW H' t lb lm t'→cj_ T f at_ deep kl kh st=none→Q (.tup []) H')→
  (∀ H' st',Ch lo hi H H'→BOK H' t t' lb lm st'→cj_ T f at_ deep kl kh st=some st'→Q (.tup []) H')→
  ae_.at f [.g (.ptr (some (lb,0))),.agg [.sl a 48 5],.g (.int .i64 (at_:Int)),.g (.int .i64 (deep:Int)),.g (.str kl),.g (.str kh)] H Q:=by
 intro f;induction f with
 | zero=>intro _ _ _ _ _ _ _ h; omega
 | succ f ih=>
  intro at_ deep kl kh st H Q hu h0 hB hat hd1 hdf hct hQ1 hQ2
  obtain⟨l,o,c,p,rfl,hc,hp,hpc,g0,g1,g2,g3,g4⟩:=hT.get hat;have hl0:=AT_ g0;simp only[h0_ T f at_ deep kl kh st hp] at hQ1 hQ2;have hpH:=hpc.mono h0;have hpl:p.leaf=c.l:=hpc.leaf;have hlm:st.met.length=48:=hB.len;have hmet:st.met[at_]? =some (st.met[at_]'(by omega)):=List.getElem?_eq_getElem (by omega);have mlt:=(List.getElem?_eq_some_iff.1 hB.met).1;have no:okD p at_ kl kh st=false→∀ H',Ch lo hi H H'→BW H' t lb lm t'→Q (.tup []) H':=fun e H' c' b'=>hQ1 H' c' b' (by rw[e])
  refine⟨3*p.kids.length+5,?_⟩;rw[hX_,ah_,ag_ (v:= .bool false) (by rw[bO_ hB.row]; rfl),al_,dY_];rw[ah_,ag_ (v:= .sl (some (lm,0)) 48 1) (by rw[bO_ hB.row]; rfl),as_,am_];refine ab_ (by simp; omega) ?_;have etN:tN (at_:Int)=at_:=rfl
  rw[ah_,etN,ag_ (v:= .bool (st.met[at_]'(by omega))) (by rw[bO_ hB.met]; simp [hlm,hat]),al_];refine aa_ (fun e=>hB.wrong l1 l2 fun H' c' b'=>no (by unfold okD; rw[hmet,e]; rfl) H' c' b') (fun em=> ?_);rw[am_];refine ab_ (by simp; omega) ?_;rw[ah_,ea_ (b5_ h0 g0) (b5_ h0 g1) (b5_ h0 g2) (b5_ h0 g3) (b5_ h0 g4)];refine nT_ hpH fun b hb=> ?_;simp only[aK_,al_];refine aa_ (fun e=>hB.wrong l1 l2 fun H' c' b'=>no (by unfold okD; cases hm:j3_ p with | true=>(rw[hb.2 ((eg_ p).1 hm)] at e; cases e) | false=>simp) H' c' b') (fun eb=> ?_);have hmay:mD_ p:=hb.1 (by cases b<;>simp_all);have hmayB:j3_ p=true:=(eg_ p).2 hmay;have hn1:=hpH.keys.len;rw[ah_,ag_ (v:= .sl (some (lm,0)) 48 1) (by rw[bO_ hB.row]; rfl),as_,am_];refine ab_ (by simp; omega) ?_;rw[ah_];refine c3_ hB.met (by simp [hlm]; omega) ?_;have ez:0+at_*1=at_:=by omega
  rw[ez,←List.map_set];have c1:Ch lo hi H (H.set lm (.row true t' ((st.met.set at_ true).map GV.bool))):=Ch.set _ m1 m2;have h02:=c1.pre h0 hlo;have hB2:BOK (H.set lm (.row true t' ((st.met.set at_ true).map GV.bool))) t t' lb lm ⟨st.met.set at_ true,st.deep,st.count⟩:=
   ⟨by rw[List.getElem?_set_ne (Ne.symm hB.ne)]; exact hB.row,List.getElem?_set_self mlt,by simp [hlm],hB.ne⟩
  generalize H.set lm (.row true t' ((st.met.set at_ true).map GV.bool))=H2 at c1 h02 hB2 ⊢;rw[am_];refine ab_ (by simp; omega) ?_;rw[ah_,ea_ (b5_ h02 g0) (b5_ h02 g1) (b5_ h02 g2) (b5_ h02 g3) (b5_ h02 g4)];have hks:Ss H2 c.a1 c.n1 p.keys:=(hpc.mono h02).keys;have wrong2:okD p at_ kl kh st=false→pS (some (lb,0)) fun n m=>wr H2 n (m+3) (.bool true) fun H'=>Q (.tup []) H':=fun e=>hB2.wrong l1 l2 fun H' c' b'=>no e H' (c1.trans c') b'
  have tail:okD p at_ kl kh st=true→af_ c.l (pS (some (lb,0)) fun n88 n89=>rd H2 n88 (n89+1) fun v90=>dI .i64 v90 fun i91=>af_ (eqI i91 0)
   (pS (some (lb,0)) fun n92 n93=>wr H2 n92 (n93+1) (.int .i64 (deep:Int)) fun H94=>ae_.l10 (ae_.at f) (3*p.kids.length+4) (some (lb,0)) (deep:Int) c.u c.l c.a1 c.n1 c.a2 c.n2 c.a3 c.n3 H94 Q)
   (ae_.l10 (ae_.at f) (3*p.kids.length+4) (some (lb,0)) (deep:Int) c.u c.l c.a1 c.n1 c.a2 c.n2 c.a3 c.n3 H2 Q))
   (ae_.l13 (ae_.at f) (3*p.kids.length+4) (some (lb,0)) (deep:Int) kl kh (some (l,o)) 48 c.u c.l c.a1 c.n1 c.a2 c.n2 c.a3 c.n3 0 H2 Q):=by
   intro hok;rw[hok] at hQ1 hQ2;dsimp only at hQ1 hQ2;refine aa_ (fun e=> ?_) (fun e=> ?_)
   ·have hlf:p.leaf=true:=by rw[hpl,e]
    rw[hlf] at hQ1 hQ2;dsimp only at hQ1 hQ2;have lblt:=(List.getElem?_eq_some_iff.1 hB2.row).1;have fin:∀ (d:Nat) (H3:Hp),H3[lb]? =some (.row true t [.sl (some (lm,0)) 48 1,.int .i64 (d:Int),.int .i64 st.count,.bool false])→H3[lm]? =H2[lm]? →Ch lo hi H H3→
     h7_ p deep ⟨st.met.set at_ true,st.deep,st.count⟩=(match decide (d=deep) with | true=>some ⟨st.met.set at_ true,deep,st.count+p.keys.length⟩ | false=>none)→
     ae_.l10 (ae_.at f) (3*p.kids.length+4) (some (lb,0)) (deep:Int) c.u c.l c.a1 c.n1 c.a2 c.n2 c.a3 c.n3 H3 Q:=by
     intro d H3 hr3 hm3 c3 he;have lb3:=(List.getElem?_eq_some_iff.1 hr3).1;rw[ae_.l10_eq,ah_,ag_ (v:= .int .i64 (d:Int)) (by rw[bO_ hr3]; rfl),ak_,ah_];refine c3_ hr3 (by simp) ?_;have hr4:=List.getElem?_set_self (a:=(Obj.row true t ([GV.sl (some (lm,0)) 48 1,.int .i64 (d:Int),.int .i64 st.count,.bool false].set 3 (.bool (!(eqI (d:Int) (deep:Int))))))) lb3;have c4:=c3.trans (Ch.set (Obj.row true t ([GV.sl (some (lm,0)) 48 1,.int .i64 (d:Int),.int .i64 st.count,.bool false].set 3 (.bool (!(eqI (d:Int) (deep:Int)))))) l1 l2);have hm4:(H3.set lb (Obj.row true t ([GV.sl (some (lm,0)) 48 1,.int .i64 (d:Int),.int .i64 st.count,.bool false].set 3 (.bool (!(eqI (d:Int) (deep:Int)))))))[lm]? =H2[lm]? :=by rw[List.getElem?_set_ne hB2.ne,hm3]
     generalize H3.set lb (Obj.row true t ([GV.sl (some (lm,0)) 48 1,.int .i64 (d:Int),.int .i64 st.count,.bool false].set 3 (.bool (!(eqI (d:Int) (deep:Int))))))=H4 at hr4 c4 hm4 ⊢;have lb4:=(List.getElem?_eq_some_iff.1 hr4).1;rw[ah_,ag_ (v:= .int .i64 st.count) (by rw[bO_ hr4]; rfl),ak_,ah_];have w:ad_ .i64 ((st.count:Int)+nI c.n1)=((st.count+p.keys.length:Nat):Int):=by have:=hmay.1; rw[cJ_ (by simp; omega) (by simp; omega)]; simp [hn1]
     rw[w];refine c3_ hr4 (by simp) ?_;have c5:=c4.trans (Ch.set (Obj.row true t (([GV.sl (some (lm,0)) 48 1,.int .i64 (d:Int),.int .i64 st.count,.bool false].set 3 (.bool (!(eqI (d:Int) (deep:Int))))).set (0+2) (.int .i64 ((st.count+p.keys.length:Nat):Int)))) l1 l2);have hr5:=List.getElem?_set_self (a:=(Obj.row true t (([GV.sl (some (lm,0)) 48 1,.int .i64 (d:Int),.int .i64 st.count,.bool false].set 3 (.bool (!(eqI (d:Int) (deep:Int))))).set (0+2) (.int .i64 ((st.count+p.keys.length:Nat):Int))))) lb4;by_cases ed:d=deep
     ·subst ed;rw[decide_eq_true rfl] at he;refine hQ2 _ _ c5 ⟨?_,?_,by simp [hlm],hB2.ne⟩ he
      ·rw[hr5]; simp [hL_]
      ·rw[List.getElem?_set_ne hB2.ne,hm4]; exact hB2.met
     ·rw[decide_eq_false ed] at he;refine hQ1 _ c5 ⟨⟨(d:Int),((st.count+p.keys.length:Nat):Int),?_⟩,st.met.set at_ true,by simp [hlm],?_⟩ he
      ·have ed': ¬ ((d:Int)=(deep:Int)):=by omega
       rw[hr5]; simp [hL_,ed']
      ·rw[List.getElem?_set_ne hB2.ne,hm4]; exact hB2.met
    rw[ah_,ag_ (v:= .int .i64 st.deep) (by rw[bO_ hB2.row]; rfl),ak_];refine aa_ (fun ez=> ?_) (fun ez=> ?_)
    ·have hz:st.deep=0:=by simp at ez; omega
     rw[ah_];refine c3_ hB2.row (by simp) ?_;refine fin deep _ ?_ (by rw[List.getElem?_set_ne hB2.ne]) (c1.trans (Ch.set _ l1 l2)) ?_
     ·rw[List.getElem?_set_self lblt]; rfl
     ·unfold h7_; simp [hz]
    ·have hz: ¬ st.deep=0:=by simp at ez; omega
     refine fin st.deep H2 hB2.row rfl c1 ?_;unfold h7_;dsimp only;rw[decide_eq_false hz];by_cases ed:st.deep=deep
     ·rw[decide_eq_true ed]
     ·rw[decide_eq_false ed]
   ·have hlf:p.leaf=false:=by rw[hpl,e]
    rw[hlf] at hQ1 hQ2;dsimp only at hQ1 hQ2;obtain⟨k1,k2,k3,k4,k5⟩:=hmay.2.inner hlf;have hm1:st.met[at_]? =some false:=by rw[hmet,em]
    have hus:=lO_ hm1;have hn3:=hpH.kids.len;have hk5:p.kids.length≤5:=by have:=hmay.1; omega
    have hf1:1≤f:=by omega
    generalize hR:fp_ (fun k i s=>cj_ T f k.toNat (deep+1) (loK p kl i) (hiK p kh i) s) p.kids 0 ⟨st.met.set at_ true,st.deep,st.count⟩=R at hQ1 hQ2;have wd:ad_ .i64 ((deep:Int)+1)=((deep+1:Nat):Int):=ar_ (by omega);have step:∀ (g i:Nat) (H3:Hp) (hik:i < p.kids.length),H0<+:H3→
     (ae_.at f [.g (.ptr (some (lb,0))),.agg [.sl (some (l,o)) 48 5],.g (.int .i64 p.kids[i]),.g (.int .i64 ((deep+1:Nat):Int)),.g (.str (loK p kl i)),.g (.str (hiK p kh i))] H3 fun r4 H5=>
      ae_.l13 (ae_.at f) g (some (lb,0)) (deep:Int) kl kh (some (l,o)) 48 c.u c.l c.a1 c.n1 c.a2 c.n2 c.a3 c.n3 ((i+1:Nat):Int) H5 Q)→
     ae_.l13 (ae_.at f) (g+3) (some (lb,0)) (deep:Int) kl kh (some (l,o)) 48 c.u c.l c.a1 c.n1 c.a2 c.n2 c.a3 c.n3 (i:Int) H3 Q:=by
     intro g i H3 hik h03 hstep;have hkeys:Ss H3 c.a1 c.n1 p.keys:=(hpc.mono h03).keys;have hkids:Is H3 c.a3 c.n3 p.kids:=(hpc.mono h03).kids;rw[ae_.l13_eq,aQ_ (by simp; omega)];have s20:∀ x y,x=loK p kl i→y=hiK p kh i→ae_.l20 (ae_.at f) (g+1) (some (lb,0)) (deep:Int) kl kh (some (l,o)) 48 c.u c.l c.a1 c.n1 c.a2 c.n2 c.a3 c.n3 (i:Int) x y H3 Q:=by
      intro x y ex ey;subst ex; subst ey;rw[ae_.l20_eq,am_,hkids.rd i rfl hik,wd,ar_ (by omega)];exact hstep
     have s18:∀ x,x=loK p kl i→ae_.l18 (ae_.at f) (g+2) (some (lb,0)) (deep:Int) kl kh (some (l,o)) 48 c.u c.l c.a1 c.n1 c.a2 c.n2 c.a3 c.n3 (i:Int) x kh H3 Q:=by
      intro x ex;rw[ae_.l18_eq];refine aa_ (fun e=> ?_) (fun e=> ?_)
      ·have hk:i < p.keys.length:=by have:=hkeys.len; simp at e; omega
       rw[am_,hkeys.rd i rfl hk];exact s20 _ _ ex (by unfold hiK; rw[List.getElem?_eq_getElem hk]; rfl)
      ·have hk:p.keys.length≤i:=by have:=hkeys.len; simp at e; omega
       exact s20 _ _ ex (by unfold hiK; rw[List.getElem?_eq_none hk]; rfl)
     refine aa_ (fun e=> ?_) (fun e=> ?_)
     ·have h0i:0 < i:=by simpa using e
      obtain⟨j,rfl⟩:∃ j,i=j+1:=⟨i - 1,by omega⟩;have hj:j < p.keys.length:=by omega
      rw[am_,dt_ (by omega),hkeys.rd j rfl hj];exact s18 _ (by unfold loK; rw[decide_eq_true (by omega)]; simp [hj])
     ·have h0i:i=0:=by simp at e; omega
      subst h0i;exact s18 _ rfl
    have bad:∀ (g i:Nat) (H3:Hp),3*(p.kids.length - i) < g→i≤p.kids.length→H0<+:H3→Ch lo hi H H3→BW H3 t lb lm t'→R=none→ae_.l13 (ae_.at f) g (some (lb,0)) (deep:Int) kl kh (some (l,o)) 48 c.u c.l c.a1 c.n1 c.a2 c.n2 c.a3 c.n3 (i:Int) H3 Q:=by
     intro g;induction g using Nat.strongRecOn with
     | _ g ihg=>
      intro i H3 hg hi' h03 c03 hW3 hRn;by_cases hik:i < p.kids.length
      ·obtain⟨g,rfl⟩:∃ g',g=g'+3:=⟨g - 3,by omega⟩;refine step g i H3 hik h03 ?_;obtain⟨f',rfl⟩:∃ f',f=f'+1:=⟨f - 1,by omega⟩;refine rj_ (lo:=lo) (hi:=hi) f' hW3 hB2.ne l1 l2 fun H4 c4 b4=> ?_;exact ihg g (by omega) (i+1) H4 (by omega) (by omega) (c4.pre h03 hlo) (c03.trans c4) b4 hRn
      ·obtain⟨g,rfl⟩:∃ g',g=g'+1:=⟨g - 1,by omega⟩;rw[ae_.l13_eq,aL_ (by have:=(hpc.mono h03).kids.len; simp; omega)];exact hQ1 H3 c03 hW3 hRn
    have loop:∀ (g i:Nat) (H3:Hp) (s3:WS),3*(p.kids.length - i) < g→i≤p.kids.length→H0<+:H3→Ch lo hi H H3→BOK H3 t t' lb lm s3→fb_ s3.met < f→s3.count+4*fb_ s3.met≤1000→
     fp_ (fun k i s=>cj_ T f k.toNat (deep+1) (loK p kl i) (hiK p kh i) s) (p.kids.drop i) i s3=R→
     ae_.l13 (ae_.at f) g (some (lb,0)) (deep:Int) kl kh (some (l,o)) 48 c.u c.l c.a1 c.n1 c.a2 c.n2 c.a3 c.n3 (i:Int) H3 Q:=by
     intro g;induction g using Nat.strongRecOn with
     | _ g ihg=>
      intro i H3 s3 hg hi' h03 c03 hW3 hu3 hc3 heq;by_cases hik:i < p.kids.length
      ·obtain⟨g,rfl⟩:∃ g',g=g'+3:=⟨g - 3,by omega⟩;refine step g i H3 hik h03 ?_;rw[List.drop_eq_getElem_cons hik,er_] at heq;have hk48:=k4 p.kids[i] (List.getElem_mem hik);have ek:p.kids[i]=((p.kids[i].toNat:Nat):Int):=by omega
       have hkl:(p.kids[i].toNat) < 48:=by omega
       generalize hkk:p.kids[i]=kk at*;rw[ek];refine ih kk.toNat (deep+1) (loK p kl i) (hiK p kh i) s3 H3 _ hu3 h03 hW3 hkl (by omega) (by omega) hc3 (fun H4 c4 b4 hw=> ?_) (fun H4 s4 c4 hW4 hw=> ?_)
       ·rw[hw] at heq;exact bad g (i+1) H4 (by omega) (by omega) (c4.pre h03 hlo) (c03.trans c4) b4 heq.symm
       ·rw[hw] at heq;dsimp only at heq;obtain⟨u1,u2,u3,u4⟩:=g7_ T _ _ _ _ _ _ _ hw;exact ihg g (by omega) (i+1) H4 s4 (by omega) (by omega) (c4.pre h03 hlo) (c03.trans c4) hW4 (by omega) (by omega) heq
      ·obtain⟨g,rfl⟩:∃ g',g=g'+1:=⟨g - 1,by omega⟩;rw[ae_.l13_eq,aL_ (by have:=(hpc.mono h03).kids.len; simp; omega)];rw[List.drop_of_length_le (by omega)] at heq;exact hQ2 H3 s3 c03 hW3 heq.symm
    exact loop _ 0 H2 _ (by omega) (Nat.zero_le _) h02 c1 hB2 (by dsimp only; omega) (by dsimp only; omega) hR
  have hB0:(!(decide (0 < at_)&&decide (p.keys.length < 2)))=true→okD p at_ kl kh st=e9_ kl kh p.keys:=by intro e; unfold okD; rw[hmet,em,hmayB,e]; simp
  refine aa_ (fun e=> ?_) (fun e=> ?_)
  ·have hz:0 < at_:=by simp at e; omega
   refine aa_ (fun e2=>wrong2 ?_) (fun e2=> ?_)
   ·have:p.keys.length < 2:=by simp at e2; omega
    unfold okD; simp [hz,this]
   ·have hs:(!(decide (0 < at_)&&decide (p.keys.length < 2)))=true:=by
     have: ¬ p.keys.length < 2:=by simp at e2; omega
     simp [this]
    exact ww_ hks hmay.2.rising (fun hh=>tail (by rw[hB0 hs,hh])) (fun hh=>wrong2 (by rw[hB0 hs,hh]))
  ·have hz:at_=0:=by simp at e; omega
   have hs:(!(decide (0 < at_)&&decide (p.keys.length < 2)))=true:=by subst hz; rfl
   exact ww_ hks hmay.2.rising (fun hh=>tail (by rw[hB0 hs,hh])) (fun hh=>wrong2 (by rw[hB0 hs,hh]))
end
end Go.Am
end
