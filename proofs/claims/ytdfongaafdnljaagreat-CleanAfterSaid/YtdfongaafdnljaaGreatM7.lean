import Derived.Test.YtdfongaafdnljaaGreatM6
set_option linter.all false
set_option autoImplicit true
set_option relaxedAutoImplicit true
namespace Go.Am
open List
theorem wk_:∀ x y z:List UInt8,Op.bytesLess x y=true→Op.bytesLess y z=true→Op.bytesLess x z=true
 | _,_,[],_,h=>by rename_i y _; cases y<;>simp [Op.bytesLess] at h
 | _,[],_::_,h,_=>by rename_i x _ _ _; cases x<;>simp [Op.bytesLess] at h
 | [],_::_,_::_,_,_=>rfl
 | a::x,b::y,c::z,A,r=>by
  simp [Op.bytesLess] at A r ⊢;rcases A with A | ⟨rfl,A⟩
  ·grind
  ·rcases r with r | ⟨rfl,r⟩
   ·grind
   ·exact .inr ⟨rfl,wk_ x y z A r⟩
theorem eU_ (A:blt a b=true) (r:blt b c=true):blt a c=true:=wk_ _ _ _ A r
theorem ob_ (h:h4_ ks):∀ (i d:Nat) (r:i+d+1 < ks.length),blt (ks[i]'(by omega)) ks[i+d+1]=true:=by
 intro i d;induction d with
 | zero=>intro r; have:=h i r; rw[iO_] at this; exact this
 | succ d D=>
  intro r;have C:=D (by omega);have A:=h (i+d+1) (by omega);rw[iO_] at A;exact eU_ C A
theorem Dn_ (A:h4_ ks) (F:0 < ks.length):f4_ lo hi ks=(!(blt (ks[0]'F) lo)&&(decide (hi.size=0)||blt (ks[ks.length - 1]'(by omega)) hi)):=by
 rw[Bool.eq_iff_iff];constructor
 ·intro h;unfold f4_ at h;grind
 ·intro h;rw[kR] at h;have ⟨D,r⟩:=h;unfold f4_;rw[all_eq_true];intro x I;obtain⟨i,G,rfl⟩:=kK I;rw[kR];constructor
  ·rcases Nat.eq_zero_or_pos i with e | e
   ·grind
   ·cases q:blt ks[i] lo with
    | false=>rfl
    | true=>
     have:=ob_ A 0 (i - 1) (by omega);simp only[show 0+(i - 1)+1=i by omega] at this;rw[eU_ this q] at D; exact D
  ·rw[Bool.or_eq_true] at r ⊢;rcases r with r | r
   ·grind
   ·right;by_cases e:i=ks.length - 1
    ·grind
    ·have:=ob_ A i (ks.length - 1 - i - 1) (by omega);simp [show i+(ks.length - 1 - i - 1)+1=ks.length - 1 by omega] at this;exact eU_ this r
theorem Bf_ (h:Ss H a n ks) (hr:h4_ ks) (V:f4_ lo hi ks=true→X) (W:f4_ lo hi ks=false→Y):
 b2_ (ltI 0 (nI n)) (chk true (chk ((leI 0 0)&&(ltI 0 (nI n))) (pS a fun I F=>rd H I (F+((tN 0)*1)) fun C=>dS C fun G=>b2_ (dN_ G lo) Y (b2_ (!(ey_ hi (mkS [])))
  (chk true (chk ((leI 0 (ac_ .i64 ((nI n) - 1)))&&(ltI (ac_ .i64 ((nI n) - 1)) (nI n))) (pS a fun O D=>rd H O (D+((tN (ac_ .i64 ((nI n) - 1)))*1)) fun J=>dS J fun N=>b2_ (!(dN_ N hi)) Y X))) X)))) X:=by
 have hn:=h.len;have Z:=h.lim;refine aa_ (fun e=> ?_) (fun e=> ?_)
 ·have A:0 < ks.length:=by simp_all
  have he:=Dn_ (lo:=lo) (hi:=hi) hr A;have r:=h.rd 0 (i:=0) rfl A;rw[r,iO_];refine aa_ (fun e1=>W (by grind)) (fun e1=>aa_ (fun U=> ?_) (fun U=> ?_))
  ·have hs: ¬ hi.size=0:=by intro q; rw[←vJ_] at q; simp [q] at U
   have w:ac_ .i64 ((nI n) - 1)=((ks.length - 1:Nat)):=by rw[cy_ (by simp; omega) (by simp; omega)]; simp; omega
   rw[w,h.rd (ks.length - 1) rfl (by omega),iO_];refine aa_ (fun e3=>W (by grind)) (fun e3=>V (by grind))
  ·have hs:hi.size=0:=by simp_all
   grind
 ·have A:ks=[]:=by simp_all
  exact V (by rw[A]; rfl)
structure BOK (H:Hp) (t t':TypeId) (lb lm:Nat) (st:WS):Prop where
 row:H[lb]? =some (.row true t [.sl (some (lm,0)) 48 1,.int .i64 st.deep,.int .i64 st.count,.bool false])
 met:H[lm]? =some (.row true t' (st.met.map GV.bool))
 len:st.met.length=48
 ne:lb≠lm
def BW (H:Hp) (t:TypeId) (lb lm:Nat) (t':TypeId):Prop:=(∃ d m,H[lb]? =some (.row true t [.sl (some (lm,0)) 48 1,.int .i64 d,.int .i64 m,.bool true]))∧(∃ met:List Bool,met.length=48∧H[lm]? =some (.row true t' (met.map GV.bool)))
section
variable {H H':Hp} {t t':TypeId} {lb lm:Nat} {st:WS} {lo hi:Nat}
theorem BOK.mono (h:BOK H t t' lb lm st) (r:H<+:H'):BOK H' t t' lb lm st:=
 ⟨by rw[br_ r (kC.1 h.row).1]; exact h.row,by rw[br_ r (kC.1 h.met).1]; exact h.met,h.len,h.ne⟩
theorem BW.mono (h:BW H t lb lm t') (A:H<+:H'):BW H' t lb lm t':=by
 have ⟨⟨d,m,r⟩,met,h2,h3⟩:=h;exact⟨⟨d,m,by rw[br_ A (kC.1 r).1]; exact r⟩,met,h2,by rw[br_ A (kC.1 h3).1]; exact h3⟩
theorem BOK.wrong (h:BOK H t t' lb lm st) (A:lo≤lb) (r:lb < hi) (C:∀ H',Ch lo hi H H'→BW H' t lb lm t'→K H'):pS (some (lb,0)) fun n m=>wr H n (m+3) (.bool true) K:=by
 refine cr_ h.row (by simp) (C _ (Ch.set _ A r) ⟨⟨st.deep,st.count,?_⟩,st.met,h.len,?_⟩)
 ·rw[kH (kC.1 h.row).1]; rfl
 ·rw[kF h.ne]; exact h.met
end
end Go.Am
