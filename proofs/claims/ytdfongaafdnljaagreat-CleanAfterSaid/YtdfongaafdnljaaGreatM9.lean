import Derived.Test.YtdfongaafdnljaaGreatM8
set_option linter.all false
set_option autoImplicit true
set_option relaxedAutoImplicit true
section
namespace Go.Am
open List
section
variable {T:List Pg} {a:Pl} {cs:List PC} {H0 H:Hp} {Q:Post} {lb lm:Nat} {t t':TypeId} {lo hi:Nat}
theorem ta_ (hT:Tr H0 a 48 cs T) (hlo:H0.length≤lo) (l1:lo≤lb) (l2:lb < hi) (ne:lb≠lm) {met:List Bool} (hlm:met.length=48) {d m:Int} {w0:Bool}
 (hQ:∀ H' w,H0<+:H'→H'[lb]? =some (.row true t [.sl (some (lm,0)) 48 1,.int .i64 d,.int .i64 m,.bool w])→w=(w0|| !(g6_ T met))→
  (b2_ (!w) (Q (.tup [.s (.ptr (some (lb,0))),.s (.bool (decide (m≤60)))]) H') (Q (.tup [.s (.ptr (some (lb,0))),.s (.bool false)]) H'))):
 ∀ (f i:Nat) (w:Bool) (H:Hp),48 - i < f→i≤48→H0<+:H→H[lb]? =some (.row true t [.sl (some (lm,0)) 48 1,.int .i64 d,.int .i64 m,.bool w])→H[lm]? =some (.row true t' (met.map GV.bool))→w=(w0|| !(mm_ T met i))→
  co_.l6 f a 48 lb 0 (i:Int) lb 0 H Q:=by
 intro f;induction f with
 | zero=>intro i w H h; omega
 | succ f ih=>
  intro i w H hf hi' h0 hr hm hw;have hlT:=hT.lenT;rw[co_.l6_eq];by_cases hik:i < 48
  ·obtain⟨l,o,c,p,rfl,hc,hp,hpc,g0,g1,g2,g3,g4⟩:=(hT.mono h0).get hik;have hmet:met[i]? =some (met[i]'(by omega)):=kG (by omega);have hs:=pP_ T met i;rw[hmet,hp,Option.getD_some,Option.getD_some] at hs;have etN:tN (i:Int)=i:=rfl;rw[az_ (by simp; omega),ad_ (v:= .sl (some (lm,0)) 48 1) (by rw[bw_ hr]; rfl),ah_,ae_];refine ab_ (by simp; omega) ?_;rw[af_,etN,ad_ (v:= .bool (met[i]'(by omega))) (by rw[bw_ hm]; simp [hlm,hik]),ak_,an_ (by omega)];refine aa_ (fun e=> ?_) (fun e=> ?_)
   ·have em:met[i]'(by omega)=false:=by simpa using e
    rw[em,Bool.false_or] at hs;rw[ae_];refine ab_ (by simp; omega) ?_;rw[af_,cD_ g0 g1 g2 g3 g4];refine rw_ hpc ?_;simp only[aN_,ak_];refine aa_ (fun e2=> ?_) (fun e2=> ?_)
    ·have hn:cY_ p=false:=by simpa using e2
     rw[hn,Bool.and_false] at hs;refine cr_ hr (by simp) ?_;refine ih (i+1) true _ (by omega) (by omega) ((Ch.set (lo:=lo) (hi:=hi) _ l1 l2).pre h0 hlo) ?_ (by rw[kF ne]; exact hm) (by rw[hs]; simp);rw[kH (kC.1 hr).1]; rfl
    ·have hn:cY_ p=true:=by simpa using e2
     rw[hn,Bool.and_true] at hs;exact ih (i+1) w H (by omega) (by omega) h0 hr hm (by rw[hs]; exact hw)
   ·have em:met[i]'(by omega)=true:=by simpa using e
    rw[em,Bool.true_or,Bool.and_true] at hs;exact ih (i+1) w H (by omega) (by omega) h0 hr hm (by rw[hs]; exact hw)
  ·obtain rfl:i=48:=by omega
   rw[aD_ (by decide),ad_ (v:= .bool w) (by rw[bw_ hr]; rfl),ak_];have hrest:g6_ T met=mm_ T met 48:=by unfold g6_ mm_; rw[hlT]
   have:=hQ H w h0 hr (by rw[hrest]; exact hw);rw[ad_ (v:= .int .i64 m) (by rw[bw_ hr]; rfl),ai_,ke_];exact this
set_option maxRecDepth 100000 in
theorem r2_ {n:Nat} (hT:Tr H a n cs T) (hQ1:∀ H' r,H<+:H'→aK_ T=0→Q (.tup [.s (.ptr r),.s (.bool false)]) H') (hQ2:∀ H' l,H<+:H'→0 < aK_ T→gt H' l 1=some (.int .i64 (aK_ T:Int))→Q (.tup [.s (.ptr (some (l,0))),.s (.bool true)]) H'):
 co_ [.agg [.sl a n 5]] H Q:=by
 refine⟨51,?_⟩;have hlT:=hT.lenT;rw[vw_];refine aa_ (fun e=> ?_) (fun e=> ?_)
 ·have: ¬ T.length=48:=by simp at e; omega
  exact hQ1 H none (prefix_refl _) (by unfold aK_; rw[decide_eq_false this])
 ·obtain rfl:n=48:=by simp at e; omega
  simp only[f0_,fb_];have p2:=(b7_ H (.row true tB (ls_ (tN 48) [.bool false]))).trans (b7_ _ (.row true Br_ [.sl (some (H.length,0)) (tN 48) 1,.int .i64 0,.int .i64 0,.bool false]));have hl1:(H++[Obj.row true tB (ls_ (tN 48) [.bool false])]).length=H.length+1:=by simp
  have hW:BOK ((H++[.row true tB (ls_ (tN 48) [.bool false])])++[.row true Br_ [.sl (some (H.length,0)) (tN 48) 1,.int .i64 0,.int .i64 0,.bool false]]) Br_ tB (H.length+1) H.length ws0:=by
   refine⟨?_,?_,rfl,by omega⟩
   ·rw[getElem?_append_right (by rw[hl1]; omega),hl1]; simp [ws0]
   ·rw[append_assoc,getElem?_append_right (kO _)]; simp; rfl
  rw[hl1];have hu:f7_ ws0.met=48:=rB_ 48;refine⟨49,?_⟩;refine uC_ (T:=T) (H0:=H) hT (lo:=H.length) (hi:=H.length+2) (kO _) (by omega) (by omega) (kO _) (by omega) 49 0 1 (mkS []) (mkS []) ws0 _ _ (by rw[hu]; omega) p2 hW (by omega) (by omega) (by omega) (by rw[hu]; show 0+4*48≤1000; omega) (fun H' c' hb hw=> ?_) (fun H' st' c' hb hw=> ?_)
  ·have h0:aK_ T=0:=by unfold aK_; rw[decide_eq_true hlT]; dsimp only; rw[hw]
   obtain⟨⟨d,m,hr⟩,met,hml,hm⟩:=hb;refine ta_ (lo:=H.length) (hi:=H.length+2) (w0:=true) hT (kO _) (by omega) (by omega) (by omega) hml (fun H2 w h02 hr2 hw2=> ?_) 50 0 true H' (by omega) (kP _) (c'.pre p2 (kO _)) hr hm rfl;rw[Bool.true_or] at hw2;subst hw2;rw[aD_ (by decide)];exact hQ1 H2 _ h02 h0
  ·obtain⟨_,_,u3,u4⟩:=ir_ T _ _ _ _ _ _ _ hw;have hh:aK_ T=(match g6_ T st'.met&&decide (st'.count≤60) with | true=>st'.deep | false=>0):=by unfold aK_; rw[decide_eq_true hlT]; dsimp only; rw[hw]; rfl
   refine ta_ (lo:=H.length) (hi:=H.length+2) (w0:=false) hT (kO _) (by omega) (by omega) (by omega) hb.len (fun H2 w h02 hr2 hw2=> ?_) 50 0 false H' (by omega) (kP _) (c'.pre p2 (kO _)) hb.row hb.met rfl;rw[Bool.false_or] at hw2;have hd:=u3 (kO _);cases er:g6_ T st'.met with
   | false=>
    rw[er] at hh hw2;subst hw2;rw[Bool.false_and] at hh;rw[aD_ (by decide)];exact hQ1 H2 _ h02 hh
   | true=>
    rw[er] at hh hw2;subst hw2;rw[Bool.true_and] at hh;rw[az_ (by decide)];by_cases e:st'.count≤60
    ·rw[decide_eq_true e] at hh;rw[decide_eq_true (by omega)];refine hQ2 H2 _ h02 (by rw[hh]; dsimp only; omega) ?_;rw[bw_ hr2,hh]; rfl
    ·rw[decide_eq_false e] at hh;rw[decide_eq_false (by omega)];exact hQ1 H2 _ h02 hh
theorem mh_ (C:Tr H a n cs T) (D:∀ H',H<+:H'→Q (.g (.bool (decide (0 < aK_ T)))) H'):fM_ [.agg [.sl a n 5]] H Q:=by
 refine⟨1,?_⟩;rw[w8_];refine r2_ C (fun H' r p A=> ?_) (fun H' l p A F=> ?_)
 ·simp_all
 ·simp_all
end
end Go.Am
end
