import Derived.Test.YtdfongaafdnljaaGreatM5
set_option linter.all false
set_option autoImplicit true
set_option relaxedAutoImplicit true
section
namespace Go.Am
open List
section
variable {H:Hp} {Q:Post} {c:PC} {p:Pg}
theorem vE_ (h:jJ_ H u l a1 n1 a2 n2 a3 n3 p) {X:Bool→Prop} (F:X (cY_ p)):
 b2_ (!u) (b2_ (!l) (X (eqI (ac_ .i64 ((ac_ .i64 ((nI n1)+(nI n2)))+(nI n3))) 0)) (X false)) (X false):=by
 have ⟨J,O,C,r,A⟩:=h;have G:=C.len;have I:=r.len;have N:=A.len;have l1:=C.lim;have l2:=r.lim;have l3:=A.lim;unfold cY_ at F;refine aa_ (fun e=> ?_) (fun e=> ?_)
 ·refine aa_ (fun D=> ?_) (fun D=> ?_)
  ·rw[cy_ (n:=nI n1+nI n2) (by simp; omega) (by simp; omega),cy_ (by simp; omega) (by simp; omega),ij_];have:decide (nI n1+nI n2+nI n3=0)=(p.keys.isEmpty&&(p.vals.isEmpty&&p.kids.isEmpty)):=by
    rw[Bool.eq_iff_iff];simp only[decide_eq_true_eq,kR,isEmpty_iff_length_eq_zero];simp only[iI_];omega
   grind
  ·grind
 ·grind
theorem rx_ (h:c.at H p) (r:Q (.g (.bool (cY_ p))) H):fE_ [.agg [.bool c.u,.bool c.l,.sl c.a1 c.n1 1,.sl c.a2 c.n2 1,.sl c.a3 c.n3 1]] H Q:=by
 refine⟨1,?_⟩;rw[t9_];exact vE_ h (X:=fun b=>Q (.g (.bool b)) H) r
theorem rw_ (h:c.at H p) (r:Q (.g (.bool (cY_ p))) H):fF_ [.agg [.bool c.u,.bool c.l,.sl c.a1 c.n1 1,.sl c.a2 c.n2 1,.sl c.a3 c.n3 1]] H Q:=by
 refine⟨1,?_⟩;rw[uo_];exact vE_ h (X:=fun b=>Q (.g (.bool b)) H) r
end
def mm_ (T:List Pg) (met:List Bool) (k:Nat):Bool:=(List.range k).all fun i=>met[i]?.getD true||cY_ (T[i]?.getD noPg)
theorem pP_ (T:List Pg) (met:List Bool) (k:Nat):mm_ T met (k+1)=(mm_ T met k&&(met[k]?.getD true||cY_ (T[k]?.getD noPg))):=by simp [mm_,range_succ]
theorem AZ_ (h:mm_ T met k=false) (A:k≤m):mm_ T met m=false:=by
 induction A with
 | refl=>exact h
 | step _ r=>rw[pP_,r]; rfl
section
variable {T:List Pg} {a:Pl} {cs:List PC} {H0 H:Hp} {Q:Post} {lw lm:Nat} {t t':TypeId} {st:WS}
theorem ng_ (hT:Tr H0 a 48 cs T) (h0:H0<+:H) (hW:WOK H t t' lw lm a st) (hQ:Q (.g (.bool (g6_ T st.met))) H):bH_ [.g (.ptr (some (lw,0)))] H Q:=by
 have hlm:=hW.len;have hlT:=hT.lenT;have hQ':Q (.g (.bool (mm_ T st.met 48))) H:=by have:g6_ T st.met=mm_ T st.met 48:=by unfold g6_ mm_; rw[hlT]
                                                                                    rw[←this]; exact hQ
 have loop:∀ f k:Nat,48 - k < f→k≤48→mm_ T st.met k=true→bH_.l2 f (some (lw,0)) a 48 (nI 48) (k:Int) H Q:=by
  intro f;induction f with
  | zero=>intro k hf; omega
  | succ f ih=>
   intro k hf hk hr;rw[bH_.l2_eq];by_cases hkn:k < 48
   ·obtain⟨l,o,c,p,rfl,hc,hp,hpc,g0,g1,g2,g3,g4⟩:=(hT.mono h0).get hkn;have hs:=pP_ T st.met k;have hmet:st.met[k]? =some (st.met[k]'(by omega)):=kG (by omega);rw[hr,hmet,hp,Option.getD_some,Option.getD_some,Bool.true_and] at hs;rw[az_ (by simp; omega),ae_];refine ab_ (by simp; omega) ?_;have etN:tN (k:Int)=k:=rfl;rw[af_,etN,cD_ g0 g1 g2 g3 g4,af_,ad_ (v:= .sl (some (lm,0)) 48 1) (by rw[bw_ hW.row]; rfl),ah_,ae_];refine ab_ (by simp; omega) ?_;rw[af_,ad_ (v:= .bool (st.met[k]'(by omega))) (by rw[bw_ hW.met]; simp [hlm,hkn]),ak_,an_ (by omega)];refine aa_ (fun e=> ?_) (fun e=> ?_)
    ·have em:st.met[k]'(by omega)=false:=by simpa using e
     rw[em,Bool.false_or] at hs;refine rx_ hpc ?_;simp only[aN_,ak_];refine aa_ (fun e2=> ?_) (fun e2=> ?_)
     ·have:cY_ p=false:=by simpa using e2
      rw[this] at hs;rw[AZ_ hs (by omega)] at hQ';exact hQ'
     ·have:cY_ p=true:=by simpa using e2
      rw[this] at hs;exact ih (k+1) (by omega) (by omega) hs
    ·have em:st.met[k]'(by omega)=true:=by simpa using e
     rw[em,Bool.true_or] at hs;exact ih (k+1) (by omega) (by omega) hs
   ·obtain rfl:k=48:=by omega
    rw[aD_ (by decide)];rw[hr] at hQ';exact hQ'
 refine⟨50,?_⟩;rw[pG_,af_,ad_ (v:= .sl a 48 5) (by rw[bw_ hW.row]; rfl),ah_];exact loop 49 0 (by omega) (kP _) rfl
theorem rB_:∀ n,f7_ (replicate n false)=n
 | 0=>rfl
 | n+1=>by have:=rB_ n; unfold f7_; simp
set_option maxRecDepth 100000 in
theorem tQ_ {n lt:Nat} (hT:Tr H a n cs T) (hg:gt H lt 0=some (.sl a n 5)) (hQ:∀ H',H<+:H'→Q (.g (.int .i64 (aK_ T:Int))) H'):g0_ [.g (.ptr (some (lt,0)))] H Q:=by
 refine⟨1,?_⟩;have hlT:=hT.lenT;rw[wR_,af_,ad_ (v:= .sl a n 5) (by exact hg),ah_];refine aa_ (fun e=> ?_) (fun e=> ?_)
 ·have: ¬ T.length=48:=by simp at e; omega
  have h0:aK_ T=0:=by unfold aK_; rw[decide_eq_false this]
  grind
 ·obtain rfl:n=48:=by simp at e; omega
  have hlt:=EC_ hg;have p1:=b7_ H (.row true tB (ls_ (tN 48) [.bool false]));rw[af_,ad_ (v:= .sl a 48 5) (by exact hg),ah_,ad_ (v:= .sl a 48 5) (by exact b6_ p1 hg),ah_];refine⟨rfl,?_⟩;simp only[f0_,fb_];have p2:=p1.trans (b7_ _ (.row true Es_ [.sl a 48 5,.sl (some (H.length,0)) 48 1,.int .i64 (-1),.int .i64 0]));have hl1:(H++[Obj.row true tB (ls_ (tN 48) [.bool false])]).length=H.length+1:=by simp
  have hW:WOK ((H++[.row true tB (ls_ (tN 48) [.bool false])])++[.row true Es_ [.sl a 48 5,.sl (some (H.length,0)) 48 1,.int .i64 (-1),.int .i64 0]]) Es_ tB (H.length+1) H.length a ws0:=by
   refine⟨?_,?_,rfl,by omega⟩
   ·rw[getElem?_append_right (by simp),hl1]; simp [ws0,pd]
   ·rw[append_assoc,getElem?_append_right (kO _)]; simp; rfl
  rw[hl1];have hu:f7_ ws0.met=48:=rB_ 48;refine⟨49,?_⟩;refine t8_ (T:=T) (H0:=H) hT (lo:=H.length) (hi:=H.length+2) (kO _) (by omega) (by omega) (kO _) (by omega) 49 0 1 (mkS []) (mkS []) ws0 _ _ (by omega) p2 hW (by omega) (by omega) (by omega) (by rw[hu]; show 0+4*48≤1000; omega) (fun H' c' hw=> ?_) (fun H' st' c' hW' hw=> ?_)
  ·simp only[aN_,ak_];rw[az_ (by decide)];have h0:aK_ T=0:=by unfold aK_; rw[decide_eq_true hlT]; dsimp only; rw[hw]
   have:=hQ H' (c'.pre p2 (kO _));rw[h0] at this;omega
  ·simp only[aN_,ak_];rw[aD_ (by decide)];have p3:=c'.pre p2 (kO _);refine ng_ hT p3 hW' ?_;simp only[aN_,ak_];obtain⟨_,_,u3,u4⟩:=ir_ T _ _ _ _ _ _ _ hw;have hh:aK_ T=(match g6_ T st'.met&&decide (st'.count≤60) with | true=>st'.deep | false=>0):=by unfold aK_; rw[decide_eq_true hlT]; dsimp only; rw[hw]; rfl
   refine aa_ (fun e=> ?_) (fun e=> ?_)
   ·grind
   ·have er:g6_ T st'.met=true:=by simpa using e
    rw[er,Bool.true_and] at hh;rw[ad_ (v:= .int .i64 st'.count) (by rw[bw_ hW'.row]; rfl),ai_];refine aa_ (fun e=> ?_) (fun e=> ?_)
    ·have: ¬ st'.count≤60:=by simp at e; omega
     grind
    ·have:st'.count≤60:=by simp at e; omega
     rw[decide_eq_true this] at hh;rw[ad_ (v:= .int .i64 (pd st'.deep)) (by rw[bw_ hW'.row]; rfl),ai_,Ep_ (u3 (kO _))];have:=hQ H' p3;rw[hh] at this;omega
theorem hT_ (A:Tr H a n cs T) (C:∀ H',H<+:H'→Q (.g (.bool (decide (0 < aK_ T)))) H'):dV_ [.agg [.sl a n 5]] H Q:=by
 refine⟨1,?_⟩;rw[wq_];have r:=b7_ H (.row true tTr [.sl a n 5]);refine tQ_ (A.mono r) (by simp [gt]) fun H' D=> ?_;have:=C H' (r.trans D);simp_all
end
end Go.Am
end
