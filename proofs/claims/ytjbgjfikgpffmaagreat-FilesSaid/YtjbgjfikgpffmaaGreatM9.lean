import Derived.Test.YtjbgjfikgpffmaaGreatM8
set_option linter.all false
set_option autoImplicit true
set_option relaxedAutoImplicit true
set_option maxRecDepth 100000
namespace Go.Am
open List
section
variable{T:List Pg}{a:Pl}{cs:List PC}{H0 H:Hp}{Q:Post}{lb lm:Nat}{t t':TypeId}{lo hi:Nat}
def uy_ (hT:Tr H0 a 48 cs T) (hlo:H0.length<=lo) (l1:lo<=lb) (l2:lb<hi) (ne:lb≠lm) {met:List Bool} (hlm:met.length=48) {d m:Int} {w0:Bool}
 (hQ:∀H' w,H0<+:H'->H'[lb]?=some (.row true t [.sl (some (lm,0)) 48 1,.int .i64 d,.int .i64 m,.bool w])->w=(w0|| !(hI_ T met))->
  (cq_ (!w) (Q (.tup [.s (.ptr (some (lb,0))),.s (.bool (decide (m<=60)))]) H') (Q (.tup [.s (.ptr (some (lb,0))),.s (.bool false)]) H'))):
 ∀(f i:Nat)(w:Bool)(H:Hp),48-i<f->i<=48->H0<+:H->H[lb]?=some (.row true t [.sl (some (lm,0)) 48 1,.int .i64 d,.int .i64 m,.bool w])->H[lm]?=some (.row true t' (met.map GV.bool))->w=(w0|| !(mF_ T met i))->
  cD_.l6 f a 48 lb 0 (i:Int) lb 0 H Q:=by
 intro f;induction f with
 |zero=>intro i w H h;omega
 | succ f ih=>
  intro i w H hf hi' h0 hr hm hw;have hlT:=hT.lenT;rw[cD_.l6_eq];by_cases hik:i<48
  ·obtain⟨l,o,c,p,rfl,hc,hp,hpc,g0,g1,g2,g3,g4⟩:=(hT.mono h0).get hik;have hmet:met[i]?=some (met[i]'o_):=kG o_;have hs:=p0_ T met i;rw[hmet,hp,Option.getD_some,Option.getD_some]at hs;have etN:tN (i:Int)=i:=rfl;rw[ay_ s_,ac_ (v:= .sl (some (lm,0)) 48 1) (by rw[aY_ hr];rfl),ah_,af_];refine ab_ s_ ?_;rw[ad_,etN,ac_ (v:= .bool (met[i]'o_)) (by rw[aY_ hm];simp[hlm,hik]),ak_,ao_ o_];refine aa_ (λe=>?_) (λe=>?_)
   ·have em:met[i]'o_=false:=by simpa using e
    rw[em,Bool.false_or]at hs;rw[af_];refine ab_ s_ ?_;rw[ad_,cx_ g0 g1 g2 g3 g4];refine rE_ hpc ?_;simp only[aJ_,ak_];refine aa_ (λe2=>?_) λe2=>?_
    .have hn:cS_ p=false:=by simpa using e2
     rw[hn,Bool.and_false]at hs;refine ce_ hr t_ ?_;refine ih (i+1) true _ o_ o_ ((Ch.set (lo:=lo) (hi:=hi) _ l1 l2).pre h0 hlo) ?_ (by rw[kF ne];exact hm) (by rw[hs];simp);rw[kH (kC.1 hr).1];rfl
    .have hn:cS_ p=true:=by simpa using e2
     rw[hn,Bool.and_true]at hs;exact ih (i+1) w H o_ o_ h0 hr hm (by rw[hs];exact hw)
   .have em:met[i]'o_=true:=by simpa using e
    rw[em,Bool.true_or,Bool.and_true]at hs;exact ih (i+1) w H o_ o_ h0 hr hm (by rw[hs];exact hw)
  .obtain rfl:i=48:=by omega
   rw[aB_ d_,ac_ (v:= .bool w) (by rw[aY_ hr];rfl),ak_];have hrest:hI_ T met=mF_ T met 48:=by unfold hI_ mF_;rw[hlT]
   have:=hQ H w h0 hr (by rw[hrest];exact hw);rw[ac_ (v:= .int .i64 m) (by rw[aY_ hr];rfl),ai_,kV_];exact this
def tf_ {n:Nat} (hT:Tr H a n cs T) (hQ1:∀H' r,H<+:H'->aL_ T=0->Q (.tup [.s (.ptr r),.s (.bool false)]) H') (hQ2:∀H' l,H<+:H'->0<aL_ T->gt H' l 1=some (.int .i64 (aL_ T:Int))->Q (.tup [.s (.ptr (some (l,0))),.s (.bool true)]) H'):
 cD_ [yA a n] H Q:=by
 refine⟨51,?_⟩;have hlT:=hT.lenT;rw[wH_];refine aa_ (λe=>?_) λe=>?_
 .have: ¬ T.length=48:=by simp at e;omega
  exact hQ1 H none (k8 _) (by unfold aL_;rw[lH this])
 ·obtain rfl:n=48:=by simp at e;omega
  simp only[fv_,ed_];have p2:=(b4_ H (.row true tB (lo_ (tN 48) [.bool false]))).trans (b4_ _ (.row true D5_ [.sl (some (H.length,0)) (tN 48) 1,.int .i64 0,.int .i64 0,.bool false]));have hl1:(H++[Obj.row true tB (lo_ (tN 48) [.bool false])]).length=H.length+1:=t_
  have hW:BOK ((H++[.row true tB (lo_ (tN 48) [.bool false])])++[.row true D5_ [.sl (some (H.length,0)) (tN 48) 1,.int .i64 0,.int .i64 0,.bool false]]) D5_ tB (H.length+1) H.length ws0:=by
   refine⟨?_,?_,rfl,o_⟩
   .rw[getElem?_append_right (by rw[hl1];omega),hl1];simp[ws0]
   .rw[kV,getElem?_append_right (kO _)];simp;rfl
  rw[hl1];have hu:gr_ ws0.met=48:=tV_ 48;refine⟨49,?_⟩;refine wc_ (T:=T) (H0:=H) hT (lo:=H.length) (hi:=H.length+2) (kO _) o_ o_ (kO _) o_ 49 0 1 (mkS []) (mkS []) ws0 _ _ (by rw[hu];omega) p2 hW o_ o_ o_ (by rw[hu];show 0+4*48<=1000;omega) (λH' c' hb hw=>?_) λH' st' c' hb hw=>?_
  .have h0:aL_ T=0:=by unfold aL_;rw[lE hlT];dsimp only;rw[hw]
   obtain⟨⟨d,m,hr⟩,met,hml,hm⟩:=hb;refine uy_ (lo:=H.length) (hi:=H.length+2) (w0:=true) hT (kO _) o_ o_ o_ hml (λH2 w h02 hr2 hw2=>?_) 50 0 true H' o_ (kP _) (c'.pre p2 (kO _)) hr hm rfl;rw[Bool.true_or]at hw2;subst hw2;rw[aB_ d_];exact hQ1 H2 _ h02 h0
  ·obtain⟨_,_,u3,u4⟩:=iU_ T _ _ _ _ _ _ _ hw;have hh:aL_ T=(match hI_ T st'.met&&decide (st'.count<=60) with|true=>st'.deep|false=>0):=by unfold aL_;rw[lE hlT];dsimp only;rw[hw];rfl
   refine uy_ (lo:=H.length) (hi:=H.length+2) (w0:=false) hT (kO _) o_ o_ o_ hb.len (λH2 w h02 hr2 hw2=>?_) 50 0 false H' o_ (kP _) (c'.pre p2 (kO _)) hb.row hb.met rfl;rw[Bool.false_or]at hw2;have hd:=u3 (kO _);cases er:hI_ T st'.met with
   |false=>
    rw[er]at hh hw2;subst hw2;rw[Bool.false_and]at hh;rw[aB_ d_];exact hQ1 H2 _ h02 hh
   |true=>
    rw[er]at hh hw2;subst hw2;rw[Bool.true_and]at hh;rw[ay_ d_];by_cases e:st'.count<=60
    .rw[lE e]at hh;rw[lE o_];refine hQ2 H2 _ h02 (by rw[hh];dsimp only;omega) ?_;rw[aY_ hr2,hh];rfl
    .rw[lH e]at hh;rw[lH o_];exact hQ1 H2 _ h02 hh
def mN_(C:Tr H a n cs T)(D:∀H',H<+:H'->Q (gB (decide (0<aL_ T))) H'):f1_ [yA a n] H Q:=by
 refine⟨1,?_⟩;rw[yV_];refine tf_ C (λH' r p A=>?_) λH' l p A F=>?_
 .simp_all
 .simp_all
end
end Go.Am
