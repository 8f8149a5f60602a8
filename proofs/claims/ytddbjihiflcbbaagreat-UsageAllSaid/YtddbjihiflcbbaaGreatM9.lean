import Derived.Test.YtddbjihiflcbbaaGreatM8
set_option linter.unusedVariables false
set_option linter.unusedSimpArgs false
namespace Go.Am
theorem rS_:∀ x y z:List UInt8,Op.bytesLess x y=true→Op.bytesLess y z=true→Op.bytesLess x z=true
 | _,_,[],_,h=>by rename_i y _; cases y<;>simp [Op.bytesLess] at h
 | _,[],_::_,h,_=>by rename_i x _ _ _; cases x<;>simp [Op.bytesLess] at h
 | [],_::_,_::_,_,_=>rfl
 | a::x,b::y,c::z,h1,h2=>by
  simp only[Op.bytesLess,Bool.or_eq_true,Bool.and_eq_true,decide_eq_true_eq,beq_iff_eq] at h1 h2 ⊢;rcases h1 with h1 | ⟨rfl,h1⟩
  ·rcases h2 with h2 | ⟨rfl,h2⟩
   ·exact .inl (UInt8.lt_trans h1 h2)
   ·exact .inl h1
  ·rcases h2 with h2 | ⟨rfl,h2⟩
   ·exact .inl h2
   ·exact .inr ⟨rfl,rS_ x y z h1 h2⟩
theorem dU_ {a b c:ByteArray} (h1:blt a b=true) (h2:blt b c=true):blt a c=true:=rS_ _ _ _ h1 h2
theorem lG_ {ks:List ByteArray} (h:gQ_ ks):∀ (i d:Nat) (hd:i+d+1 < ks.length),blt (ks[i]'(by omega)) ks[i+d+1]=true:=by
 intro i d;induction d with
 | zero=>intro hd; have:=h i hd; rw[id_] at this; exact this
 | succ d ih=>
  intro hd;have h1:=ih (by omega);have h2:=h (i+d+1) (by omega);rw[id_] at h2;exact dU_ h1 h2
theorem zJ_ {lo hi:ByteArray} {ks:List ByteArray} (hr:gQ_ ks) (h0:0 < ks.length):e9_ lo hi ks=(!(blt (ks[0]'h0) lo)&&(decide (hi.size=0)||blt (ks[ks.length - 1]'(by omega)) hi)):=by
 rw[Bool.eq_iff_iff];constructor
 ·intro h;unfold e9_ at h;rw[List.all_eq_true] at h;have a:=h ks[0] (List.getElem_mem _);have b:=h (ks[ks.length - 1]'(by omega)) (List.getElem_mem _);rw[Bool.and_eq_true] at a b ⊢;exact⟨a.1,b.2⟩
 ·intro h;rw[Bool.and_eq_true] at h;obtain⟨ha,hb⟩:=h;unfold e9_;rw[List.all_eq_true];intro x hx;obtain⟨i,hi',rfl⟩:=List.getElem_of_mem hx;rw[Bool.and_eq_true];constructor
  ·rcases Nat.eq_zero_or_pos i with e | e
   ·subst e; exact ha
   ·cases q:blt ks[i] lo with
    | false=>rfl
    | true=>
     have:=lG_ hr 0 (i - 1) (by omega);simp only[show 0+(i - 1)+1=i by omega] at this;rw[dU_ this q] at ha; exact ha
  ·rw[Bool.or_eq_true] at hb ⊢;rcases hb with hb | hb
   ·exact .inl hb
   ·right;by_cases e:i=ks.length - 1
    ·subst e; exact hb
    ·have:=lG_ hr i (ks.length - 1 - i - 1) (by omega);simp only[show i+(ks.length - 1 - i - 1)+1=ks.length - 1 by omega] at this;exact dU_ this hb
theorem ww_ {H:Hp} {a:Pl} {n:Nat} {ks:List ByteArray} {lo hi:ByteArray} (h:Ss H a n ks) (hr:gQ_ ks) {X Y:Prop} (hX:e9_ lo hi ks=true→X) (hY:e9_ lo hi ks=false→Y):
 af_ (ltI 0 (nI n)) (chk true (chk ((leI 0 0)&&(ltI 0 (nI n))) (pS a fun n67 n68=>rd H n67 (n68+((tN 0)*1)) fun v69=>dS v69 fun s70=>af_ (cS_ s70 lo) Y (af_ (!(co_ hi (mkS [])))
  (chk true (chk ((leI 0 (ad_ .i64 ((nI n) - 1)))&&(ltI (ad_ .i64 ((nI n) - 1)) (nI n))) (pS a fun n74 n75=>rd H n74 (n75+((tN (ad_ .i64 ((nI n) - 1)))*1)) fun v76=>dS v76 fun s77=>af_ (!(cS_ s77 hi)) Y X))) X)))) X:=by
 have hn:=h.len;have hlim:=h.lim;refine aa_ (fun e=> ?_) (fun e=> ?_)
 ·have h0:0 < ks.length:=by simp at e; omega
  have he:=zJ_ (lo:=lo) (hi:=hi) hr h0;rw[am_];have r:=h.rd 0 (i:=0) rfl h0;rw[r,id_];refine aa_ (fun e1=>hY (by rw[he,e1]; rfl)) (fun e1=> ?_);refine aa_ (fun e2=> ?_) (fun e2=> ?_)
  ·have hs: ¬ hi.size=0:=by rw[jc_] at e2; intro q; rw[←ng_] at q; simp [q] at e2
   rw[am_];have w:ad_ .i64 ((nI n) - 1)=((ks.length - 1:Nat):Int):=by rw[cJ_ (by simp; omega) (by simp; omega)]; simp; omega
   rw[w,h.rd (ks.length - 1) rfl (by omega),id_];refine aa_ (fun e3=>hY (by rw[he,e1,decide_eq_false hs]; simpa using e3)) (fun e3=>hX (by rw[he,e1,decide_eq_false hs]; simpa using e3))
  ·have hs:hi.size=0:=by rw[jc_] at e2; rw[←ng_]; simpa using e2
   exact hX (by rw[he,e1,decide_eq_true hs]; rfl)
 ·have h0:ks=[]:=by apply List.eq_nil_of_length_eq_zero; simp at e; omega
  exact hX (by rw[h0]; rfl)
structure BOK (H:Hp) (t t':TypeId) (lb lm:Nat) (st:WS):Prop where
 row:H[lb]? =some (.row true t [.sl (some (lm,0)) 48 1,.int .i64 st.deep,.int .i64 st.count,.bool false])
 met:H[lm]? =some (.row true t' (st.met.map GV.bool))
 len:st.met.length=48
 ne:lb≠lm
def BW (H:Hp) (t:TypeId) (lb lm:Nat) (t':TypeId):Prop:=(∃ d m,H[lb]? =some (.row true t [.sl (some (lm,0)) 48 1,.int .i64 d,.int .i64 m,.bool true]))∧(∃ met:List Bool,met.length=48∧H[lm]? =some (.row true t' (met.map GV.bool)))
section
variable {H H':Hp} {t t':TypeId} {lb lm:Nat} {st:WS} {lo hi:Nat}
theorem BOK.mono (h:BOK H t t' lb lm st) (hp:H<+:H'):BOK H' t t' lb lm st:=
 ⟨by rw[cd_ hp (List.getElem?_eq_some_iff.1 h.row).1]; exact h.row,by rw[cd_ hp (List.getElem?_eq_some_iff.1 h.met).1]; exact h.met,h.len,h.ne⟩
theorem BW.mono (h:BW H t lb lm t') (hp:H<+:H'):BW H' t lb lm t':=by
 obtain⟨⟨d,m,h1⟩,met,h2,h3⟩:=h;exact⟨⟨d,m,by rw[cd_ hp (List.getElem?_eq_some_iff.1 h1).1]; exact h1⟩,met,h2,by rw[cd_ hp (List.getElem?_eq_some_iff.1 h3).1]; exact h3⟩
theorem BOK.wrong {K:Hp→Prop} (h:BOK H t t' lb lm st) (h1:lo≤lb) (h2:lb < hi) (hK:∀ H',Ch lo hi H H'→BW H' t lb lm t'→K H'):pS (some (lb,0)) fun n m=>wr H n (m+3) (.bool true) K:=by
 rw[ah_];refine c3_ h.row (by simp) (hK _ (Ch.set _ h1 h2) ⟨⟨st.deep,st.count,?_⟩,st.met,h.len,?_⟩)
 ·rw[List.getElem?_set_self (List.getElem?_eq_some_iff.1 h.row).1]; rfl
 ·rw[List.getElem?_set_ne h.ne]; exact h.met
end
end Go.Am
