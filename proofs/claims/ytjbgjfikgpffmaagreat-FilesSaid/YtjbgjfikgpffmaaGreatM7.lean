import Derived.Test.YtjbgjfikgpffmaaGreatM6
set_option linter.all false
set_option autoImplicit true
set_option relaxedAutoImplicit true
namespace Go.Am
open List
def vO_:∀x y z:List UInt8,Op.bytesLess x y=true->Op.bytesLess y z=true->Op.bytesLess x z=true
 |_,_,[],_,h=>by rename_i y _;cases y<;>simp[Op.bytesLess]at h
 |_,[],_::_,h,_=>by rename_i x _ _ _;cases x<;>simp[Op.bytesLess]at h
 |[],_::_,_::_,_,_=>rfl
 | a::x,b::y,c::z,A,r=>by
  simp[Op.bytesLess]at A r ⊢;rcases A with A|⟨rfl,A⟩
  .grind
  .rcases r with r|⟨rfl,r⟩
   .grind
   .exact .inr ⟨rfl,vO_ x y z A r⟩
theorem dw_(A:blt a b=true)(r:blt b c=true):blt a c=true:=vO_ _ _ _ A r
def o0_ (h:in_ ks):∀(i d:Nat)(r:i+d+1<ks.length),blt (ks[i]'o_) ks[i+d+1]=true:=by
 intro i d;induction d with
 |zero=>intro r;have:=h i r;rw[h2_]at this;exact this
 |succ d D=>
  intro r;have C:=D o_;have A:=h (i+d+1) o_;rw[h2_]at A;exact dw_ C A
def F0_ (A:in_ ks) (F:0<ks.length):gu_ lo hi ks=(!(blt (ks[0]'F) lo)&&(decide (hi.size=0)||blt (ks[ks.length-1]'o_) hi)):=by
 rw[Bool.eq_iff_iff];constructor
 .intro h;unfold gu_ at h;grind
 ·intro h;rw[kR]at h;have⟨D,r⟩:=h;unfold gu_;rw[all_eq_true];intro x I;obtain⟨i,G,rfl⟩:=kK I;rw[kR];constructor
  ·rcases Nat.eq_zero_or_pos i with e|e
   .grind
   ·cases q:blt ks[i] lo with
    |false=>rfl
    |true=>
     have:=o0_ A 0 (i-1) o_;simp only[(o_:0+(i-1)+1=i)]at this;rw[dw_ this q]at D;exact D
  ·rw[Bool.or_eq_true]at r ⊢;rcases r with r|r
   .grind
   .right;by_cases e:i=ks.length-1
    .grind
    .have:=o0_ A i (ks.length-1-i-1) o_;simp[(o_:i+(ks.length-1-i-1)+1=ks.length-1)]at this;exact dw_ this r
def Cq_ (h:Ss H a n ks) (hr:in_ ks) (V:gu_ lo hi ks=true->X) (W:gu_ lo hi ks=false->Y):
 cq_ (ltI 0 (nI n)) (chk true (chk ((leI 0 0)&&(ltI 0 (nI n))) (pS a λI F=>rd H I (F+((tN 0)*1)) λC=>dS C λG=>cq_ (dQ_ G lo) Y (cq_ (!(er_ hi (mkS [])))
  (chk true (chk ((leI 0 (ae_ .i64 ((nI n)-1)))&&(ltI (ae_ .i64 ((nI n)-1)) (nI n))) (pS a λO D=>rd H O (D+((tN (ae_ .i64 ((nI n)-1)))*1)) λJ=>dS J λN=>cq_ (!(dQ_ N hi)) Y X))) X)))) X:=by
 have hn:=h.len;have Z:=h.lim;refine aa_ (λe=>?_) λe=>?_
 ·have A:0<ks.length:=by simp_all
  have he:=F0_ (lo:=lo) (hi:=hi) hr A;have r:=h.rd 0 (i:=0) rfl A;rw[r,h2_];refine aa_ (λe1=>W g_) λe1=>aa_ (λU=>?_) λU=>?_
  .have hs: ¬ hi.size=0:=by intro q;rw[<-wr_]at q;simp[q]at U
   have w:ae_ .i64 ((nI n)-1)=((ks.length-1:Nat)):=by rw[cf_ s_ s_];simp;omega
   rw[w,h.rd (ks.length-1) rfl o_,h2_];refine aa_ (λe3=>W g_) λe3=>V g_
  .have hs:hi.size=0:=by simp_all
   grind
 .have A:ks=[]:=by simp_all
  exact V (by rw[A];rfl)
structure BOK(H:Hp)(t t':TypeId)(lb lm:Nat)(st:WS):Prop where
 row:H[lb]?=some (.row true t [.sl (some (lm,0)) 48 1,.int .i64 st.deep,.int .i64 st.count,.bool false])
 met:H[lm]?=some (.row true t' (st.met.map GV.bool))
 len:st.met.length=48
 ne:lb≠lm
def BW(H:Hp)(t:TypeId)(lb lm:Nat)(t':TypeId):Prop:=(∃d m,H[lb]?=some (.row true t [.sl (some (lm,0)) 48 1,.int .i64 d,.int .i64 m,.bool true]))/\(∃met:List Bool,met.length=48/\H[lm]?=some (.row true t' (met.map GV.bool)))
section
variable{H H':Hp}{t t':TypeId}{lb lm:Nat}{st:WS}{lo hi:Nat}
theorem BOK.mono(h:BOK H t t' lb lm st)(r:H<+:H'):BOK H' t t' lb lm st:=
 ⟨by rw[a9_ r (kC.1 h.row).1];exact h.row,by rw[a9_ r (kC.1 h.met).1];exact h.met,h.len,h.ne⟩
theorem BW.mono(h:BW H t lb lm t')(A:H<+:H'):BW H' t lb lm t':=by
 have⟨⟨d,m,r⟩,met,h2,h3⟩:=h;exact⟨⟨d,m,by rw[a9_ A (kC.1 r).1];exact r⟩,met,h2,by rw[a9_ A (kC.1 h3).1];exact h3⟩
def BOK.wrong(h:BOK H t t' lb lm st)(A:lo<=lb)(r:lb<hi)(C:∀H',Ch lo hi H H'->BW H' t lb lm t'->K H'):pS (some (lb,0)) λn m=>wr H n (m+3) (.bool true) K:=by
 refine ce_ h.row t_ (C _ (Ch.set _ A r) ⟨⟨st.deep,st.count,?_⟩,st.met,h.len,?_⟩)
 .rw[kH (kC.1 h.row).1];rfl
 .rw[kF h.ne];exact h.met
end
end Go.Am
