import Derived.Test.YtddbjihiflcbbaaGreatM7
set_option linter.unusedVariables false
set_option linter.unusedSimpArgs false
section
namespace Go.Am
section
variable {H:Hp} {Q:Post} {c:PC} {p:Pg}
theorem r9_ {H:Hp} {u l:Bool} {a1:Pl} {n1:Nat} {a2:Pl} {n2:Nat} {a3:Pl} {n3:Nat} {p:Pg} (h:mi_ H u l a1 n1 a2 n2 a3 n3 p) {X:Bool→Prop} (hX:X (c6_ p)):
 af_ (!u) (af_ (!l) (X (eqI (ad_ .i64 ((ad_ .i64 ((nI n1)+(nI n2)))+(nI n3))) 0)) (X false)) (X false):=by
 obtain⟨hu,hl,hk,hv,hi⟩:=h;have e1:=hk.len;have e2:=hv.len;have e3:=hi.len;have l1:=hk.lim;have l2:=hv.lim;have l3:=hi.lim;unfold c6_ at hX;rw[hu,hl] at hX;refine aa_ (fun e=> ?_) (fun e=> ?_)
 ·rw[e,Bool.true_and] at hX;refine aa_ (fun e'=> ?_) (fun e'=> ?_)
  ·rw[e',Bool.true_and] at hX;rw[cJ_ (n:=nI n1+nI n2) (by simp; omega) (by simp; omega),cJ_ (by simp; omega) (by simp; omega),hL_];have:decide (nI n1+nI n2+nI n3=0)=(p.keys.isEmpty&&(p.vals.isEmpty&&p.kids.isEmpty)):=by
    rw[Bool.eq_iff_iff];simp only[decide_eq_true_eq,Bool.and_eq_true,List.isEmpty_iff_length_eq_zero];simp only[iH_];omega
   rw[this];exact hX
  ·rw[e',Bool.false_and] at hX; exact hX
 ·rw[e,Bool.false_and] at hX; exact hX
theorem nH_ (h:c.at H p) (hQ:Q (.g (.bool (c6_ p))) H):ei_ [.agg [.bool c.u,.bool c.l,.sl c.a1 c.n1 1,.sl c.a2 c.n2 1,.sl c.a3 c.n3 1]] H Q:=by
 refine⟨1,?_⟩;rw[rh_];exact r9_ h (X:=fun b=>Q (.g (.bool b)) H) hQ
theorem n8_ (h:c.at H p) (hQ:Q (.g (.bool (c6_ p))) H):eh_ [.agg [.bool c.u,.bool c.l,.sl c.a1 c.n1 1,.sl c.a2 c.n2 1,.sl c.a3 c.n3 1]] H Q:=by
 refine⟨1,?_⟩;rw[ru_];exact r9_ h (X:=fun b=>Q (.g (.bool b)) H) hQ
end
def j4_ (T:List Pg) (met:List Bool) (k:Nat):Bool:=(List.range k).all fun i=>met[i]?.getD true||c6_ (T[i]?.getD noPg)
theorem mP_ (T:List Pg) (met:List Bool) (k:Nat):j4_ T met (k+1)=(j4_ T met k&&(met[k]?.getD true||c6_ (T[k]?.getD noPg))):=by simp [j4_,List.range_succ]
theorem wx_ {T:List Pg} {met:List Bool} {k m:Nat} (h:j4_ T met k=false) (hk:k≤m):j4_ T met m=false:=by
 induction hk with
 | refl=>exact h
 | step _ ih=>rw[mP_,ih]; rfl
section
variable {T:List Pg} {a:Pl} {cs:List PC} {H0 H:Hp} {Q:Post} {lw lm:Nat} {t t':TypeId} {st:WS}
theorem kM_ (hT:Tr H0 a 48 cs T) (h0:H0<+:H) (hW:WOK H t t' lw lm a st) (hQ:Q (.g (.bool (fN_ T st.met))) H):bp_ [.g (.ptr (some (lw,0)))] H Q:=by
 have hlm:=hW.len;have hlT:=hT.lenT;have hQ':Q (.g (.bool (j4_ T st.met 48))) H:=by have:fN_ T st.met=j4_ T st.met 48:=by unfold fN_ j4_; rw[hlT]
                                                                                    rw[←this]; exact hQ
 have loop:∀ f k:Nat,48 - k < f→k≤48→j4_ T st.met k=true→bp_.l2 f (some (lw,0)) a 48 (nI 48) (k:Int) H Q:=by
  intro f;induction f with
  | zero=>intro k hf; omega
  | succ f ih=>
   intro k hf hk hr;rw[bp_.l2_eq];by_cases hkn:k < 48
   ·obtain⟨l,o,c,p,rfl,hc,hp,hpc,g0,g1,g2,g3,g4⟩:=(hT.mono h0).get hkn;have hs:=mP_ T st.met k;have hmet:st.met[k]? =some (st.met[k]'(by omega)):=List.getElem?_eq_getElem (by omega);rw[hr,hmet,hp,Option.getD_some,Option.getD_some,Bool.true_and] at hs;rw[aQ_ (by simp; omega),am_];refine ab_ (by simp; omega) ?_;have etN:tN (k:Int)=k:=rfl;rw[ah_,etN,ea_ g0 g1 g2 g3 g4,ah_,ag_ (v:= .sl (some (lm,0)) 48 1) (by rw[bO_ hW.row]; rfl),as_,am_];refine ab_ (by simp; omega) ?_;rw[ah_,ag_ (v:= .bool (st.met[k]'(by omega))) (by rw[bO_ hW.met]; simp [hlm,hkn]),al_,ar_ (by omega)];refine aa_ (fun e=> ?_) (fun e=> ?_)
    ·have em:st.met[k]'(by omega)=false:=by simpa using e
     rw[em,Bool.false_or] at hs;refine nH_ hpc ?_;simp only[aK_,al_];refine aa_ (fun e2=> ?_) (fun e2=> ?_)
     ·have:c6_ p=false:=by simpa using e2
      rw[this] at hs;rw[wx_ hs (by omega)] at hQ';exact hQ'
     ·have:c6_ p=true:=by simpa using e2
      rw[this] at hs;exact ih (k+1) (by omega) (by omega) hs
    ·have em:st.met[k]'(by omega)=true:=by simpa using e
     rw[em,Bool.true_or] at hs;exact ih (k+1) (by omega) (by omega) hs
   ·obtain rfl:k=48:=by omega
    rw[aL_ (by decide)];rw[hr] at hQ';exact hQ'
 refine⟨50,?_⟩;rw[mV_,ah_,ag_ (v:= .sl a 48 5) (by rw[bO_ hW.row]; rfl),as_];exact loop 49 0 (by omega) (Nat.zero_le _) rfl
theorem oW_:∀ n,fb_ (List.replicate n false)=n
 | 0=>rfl
 | n+1=>by have:=oW_ n; unfold fb_ at this ⊢; simp [List.replicate_succ]
set_option maxRecDepth 100000 in
theorem qX_ {n lt:Nat} (hT:Tr H a n cs T) (hg:gt H lt 0=some (.sl a n 5)) (hQ:∀ H',H<+:H'→Q (.g (.int .i64 (aU_ T:Int))) H'):fn_ [.g (.ptr (some (lt,0)))] H Q:=by
 refine⟨1,?_⟩;have hlT:=hT.lenT;rw[uh_,ah_,ag_ (v:= .sl a n 5) (by exact hg),as_];refine aa_ (fun e=> ?_) (fun e=> ?_)
 ·have: ¬ T.length=48:=by simp at e; omega
  have h0:aU_ T=0:=by unfold aU_; rw[decide_eq_false this]
  have:=hQ H (List.prefix_refl _);rw[h0] at this;exact this
 ·obtain rfl:n=48:=by simp at e; omega
  have hlt:=AT_ hg;have p1:=ce_ H (.row true tB (iS_ (tN 48) [.bool false]));rw[ah_,ag_ (v:= .sl a 48 5) (by exact hg),as_,ag_ (v:= .sl a 48 5) (by exact b5_ p1 hg),as_];refine⟨rfl,?_⟩;simp only[fl_,e4_];have p2:=p1.trans (ce_ _ (.row true Aj_ [.sl a 48 5,.sl (some (H.length,0)) 48 1,.int .i64 (-1),.int .i64 0]));have hl1:(H++[Obj.row true tB (iS_ (tN 48) [.bool false])]).length=H.length+1:=by simp
  have hW:WOK ((H++[.row true tB (iS_ (tN 48) [.bool false])])++[.row true Aj_ [.sl a 48 5,.sl (some (H.length,0)) 48 1,.int .i64 (-1),.int .i64 0]]) Aj_ tB (H.length+1) H.length a ws0:=by
   refine⟨?_,?_,rfl,by omega⟩
   ·rw[List.getElem?_append_right (by rw[hl1]; omega),hl1]; simp [ws0,pd]
   ·rw[List.append_assoc,List.getElem?_append_right (Nat.le_refl _)]; simp; rfl
  rw[hl1];have hu:fb_ ws0.met=48:=oW_ 48;refine⟨49,?_⟩;refine qU_ (T:=T) (H0:=H) hT (lo:=H.length) (hi:=H.length+2) (Nat.le_refl _) (by omega) (by omega) (Nat.le_refl _) (by omega) 49 0 1 (mkS []) (mkS []) ws0 _ _ (by rw[hu]; omega) p2 hW (by omega) (by omega) (by omega) (by rw[hu]; show 0+4*48≤1000; omega) (fun H' c' hw=> ?_) (fun H' st' c' hW' hw=> ?_)
  ·simp only[aK_,al_];rw[aQ_ (by decide)];have h0:aU_ T=0:=by unfold aU_; rw[decide_eq_true hlT]; dsimp only; rw[hw]
   have:=hQ H' (c'.pre p2 (Nat.le_refl _));rw[h0] at this;exact this
  ·simp only[aK_,al_];rw[aL_ (by decide)];have p3:=c'.pre p2 (Nat.le_refl _);refine kM_ hT p3 hW' ?_;simp only[aK_,al_];obtain⟨_,_,u3,u4⟩:=g7_ T _ _ _ _ _ _ _ hw;have hh:aU_ T=(match fN_ T st'.met&&decide (st'.count≤60) with | true=>st'.deep | false=>0):=by unfold aU_; rw[decide_eq_true hlT]; dsimp only; rw[hw]; rfl
   refine aa_ (fun e=> ?_) (fun e=> ?_)
   ·have er:fN_ T st'.met=false:=by simpa using e
    rw[er,Bool.false_and] at hh;have:=hQ H' p3;rw[hh] at this;exact this
   ·have er:fN_ T st'.met=true:=by simpa using e
    rw[er,Bool.true_and] at hh;rw[ag_ (v:= .int .i64 st'.count) (by rw[bO_ hW'.row]; rfl),ak_];refine aa_ (fun e=> ?_) (fun e=> ?_)
    ·have: ¬ st'.count≤60:=by simp at e; omega
     rw[decide_eq_false this] at hh;have:=hQ H' p3;rw[hh] at this;exact this
    ·have:st'.count≤60:=by simp at e; omega
     rw[decide_eq_true this] at hh;rw[ag_ (v:= .int .i64 (pd st'.deep)) (by rw[bO_ hW'.row]; rfl),ak_,AD_ (u3 (Nat.le_refl _))];have:=hQ H' p3;rw[hh] at this;exact this
theorem qe_ {n:Nat} (hT:Tr H a n cs T) (hQ:∀ H',H<+:H'→Q (.g (.bool (decide (0 < aU_ T)))) H'):eG_ [.agg [.sl a n 5]] H Q:=by
 refine⟨1,?_⟩;rw[rT_];have p1:=ce_ H (.row true tTr [.sl a n 5]);refine qX_ (hT.mono p1) (by simp [gt]) fun H' p2=> ?_;simp only[aK_,ak_,nX_];have:=hQ H' (p1.trans p2);rwa [show decide ((0:Int) < (aU_ T:Int))=decide (0 < aU_ T) from by rw[Bool.eq_iff_iff]; simp]
end
end Go.Am
end
