import Derived.Test.YtddbjihiflcbbaaGreatM1
import Derived.SliceStrings
import Derived.ChangeSlices
import Derived.ChangeArms
import Derived.WideShapes
import Derived.Carry
import Derived.Below
import Derived.SizedLaws
set_option linter.unusedVariables false
set_option linter.unusedSimpArgs false
namespace Go.Am
open Go.RowKit Go.ChangeShapes Go.WideShapes
def hb_ (H:Hp):Prop:=∀ (l:Nat) (o:Obj) (i:LI),H[l]? =some o→ ¬ o.mut i
def Zc (W:World) (v:Value):Prop:=∀ a n c,v= .slice (some a) n c→0 < W.heap.size
theorem Be_ {P:Program} {W:World} {r:Reach} {b:Nat} {t:TypeId} {v:Value} (h:Cell.okWide P W r b t v):Zc W v:=by
 intro a n c e;subst e;have key:W.has P r b a (match P.underlying t with | some (.slice e)=>e | _=>0) c:=by
  unfold Cell.okWide Cell.ok at h;cases hu:P.underlying t with
  | none=>rw[hu] at h; exact h.elim
  | some d=>
   rw[hu] at h;cases d<;>first | exact h.elim | exact h.2.2
 obtain⟨_,hs,row,cells,hsh,_⟩:=key;unfold World.shape? at hsh;rcases Nat.lt_or_ge a.block W.heap.size with h1 | h1
 ·omega
 ·simp [Array.getElem?_eq_none h1] at hsh
theorem vJ_ {W:World} {a:Addr} {v:Value} (h:W.cell? a=some v):a.spot=none∧a.block < W.heap.size:=by
 unfold World.cell? at h;rcases Nat.lt_or_ge a.block W.heap.size with h1 | h1
 ·refine⟨?_,h1⟩;split at h
  ·split at h
   ·cases h
   ·rename_i q; simpa using q
  ·cases h
 ·simp [Array.getElem?_eq_none h1] at h
theorem lg_ {a:Addr} (hs:a.spot=none) (j:Nat):a.add j=⟨a.block,a.off+j,none⟩:=by
 unfold Addr.add;split
 ·rename_i e; subst e; obtain⟨b,o,s⟩:=a; simp only at hs; subst hs; rfl
 ·rfl
theorem Is2.one_inv {φ:List LI} {c:GV} {xs:List Value} (h:Is2 φ [c] xs):∃ x,xs=[x]∧c.is φ x:=by
 obtain⟨x,r,rfl,h1,h2⟩:=h.cons_inv;rw[h2.nil_inv]; exact⟨x,rfl,h1⟩
section
variable {Hh:Type} {enc:TypeId × Value→Hh} {P:Program} {W:World} {held:Bool}
theorem si_ {φ:List LI} {H:Hp} (hr:cq_ φ H W) (hn:hb_ H) {a:Addr} {len cap z:Nat} (hl:len≤cap) (hz:0 < W.heap.size) (hsp:0 < cap→a.spot=none∧a.block < W.heap.size) (cs:List GV) (hc:cs.length=len*z)
 (hcell:∀ j v,cs[j]? =some v→∃ x,W.cell? (a.add j)=some x∧v.is φ x):
 ∃ φ' H' p,φ<+:φ'∧H<+:H'∧cq_ φ' H' W∧hb_ H'∧GV.is φ' (.sl p len z) (.slice (some a) len cap)∧cells? H' p (len*z)=some cs:=by
 have hno:∀ b,¬ gg_ φ H b:=fun b ⟨l,o,i,h1,_,_,h2⟩=>hn l o i h1 h2;have hN:∀ cs:List GV,hb_ (H++[.row false 0 cs]):=fun cs l o i h hm=>by
  rcases ew_ h with⟨_,h⟩ | ⟨_,h⟩
  ·exact hn l o i h hm
  ·cases h; exact absurd hm.1 (by decide)
 rcases Nat.eq_zero_or_pos cap with h0 | h0
 ·obtain rfl:len=0:=by omega
  rw[Nat.zero_mul] at hc;obtain rfl:cs=[]:=List.eq_nil_of_length_eq_zero hc;subst h0;obtain⟨R,_,_⟩:=hr.snoc (w':=W) (own:=false) (t:=0) (cs:=[]) (i:=⟨0,0,false,0,0⟩) (Nat.le_refl _) (fun _ _=>rfl)
   ⟨rfl,rfl,hz,⟨fun j v hj=>by simp at hj,fun q=>by cases q⟩⟩ (fun q=>by cases q) (hno _)
  refine⟨_,_,some (H.length,0),List.prefix_append _ _,List.prefix_append _ _,R,hN _,?_,?_⟩
  ·refine⟨⟨0,0,false,0,0⟩,a,0,?_,rfl,.inr rfl,Nat.le_refl _,by simp,fun q=>by cases q⟩;rw[←hr.len]; simp
  ·simp [cells?]
 ·obtain⟨hs,hb⟩:=hsp h0;obtain⟨R,_,_⟩:=hr.snoc (w':=W) (own:=false) (t:=0) (cs:=cs) (i:=⟨a.block,a.off,false,cs.length,0⟩) (Nat.le_refl _) (fun _ _=>rfl)
   ⟨rfl,rfl,hb,⟨fun j v hj=>by
    obtain⟨x,h1,h2⟩:=hcell j v hj;exact⟨x,by rw[←lg_ hs j]; exact h1,GV.is.mono (List.prefix_append _ _) h2⟩,fun q=>by cases q⟩⟩ (fun q=>by cases q) (hno _)
  refine⟨_,_,some (H.length,0),List.prefix_append _ _,List.prefix_append _ _,R,hN _,?_,?_⟩
  ·refine⟨⟨a.block,a.off,false,cs.length,0⟩,a,cap,?_,rfl,.inl ?_,hl,?_,fun q=>by cases q⟩
   ·rw[←hr.len]; simp
   ·have:=lg_ hs 0; simpa [Addr.add] using this
   ·show cs.length≤_; rw[hc]; have:=Nat.mul_le_mul_right z hl; omega
  ·simp [cells?,hc];rw[←hc,List.take_length]
theorem s4_ {t e:TypeId} (ht:P.underlying t=some (.slice e)) (he:P.underlying e=some .string) (hc:P.cellsOf e=1) (hb:P.bytesOf e=16) {fuel:Nat} {cs:List Value} {x:DataW Hh × List MemPlace}
 (h:DataW.trod enc P W 0 (fun _=>true) held fuel t cs=some x) (hz:∀ v∈cs,Zc W v) (hw:(DataW.weights P t x.1).all (· ≤reachBytes)=true) {φ:List LI} {H:Hp} (hr:cq_ φ H W) (hn:hb_ H):
 ∃ φ' H' p n xs v,cs=[v]∧φ<+:φ'∧H<+:H'∧cq_ φ' H' W∧hb_ H'∧GV.is φ' (.sl p n 1) v∧Ss H' p n xs:=by
 rcases open_strings ht he hc h with⟨rfl,rfl⟩ | ⟨a,len,cap,ss,rfl,_,hl,_,hlen,rfl,hcell,_⟩
 ·exact⟨φ,H,none,0,[],_,rfl,List.prefix_refl _,List.prefix_refl _,hr,hn,⟨rfl,rfl⟩,Ss.nil H⟩
 ·simp only[if_true] at hlen;obtain⟨φ',H',p,h1,h2,h3,h4,h5,h6⟩:=si_ (z:=1) hr hn hl (hz (.slice (some a) len cap) (List.mem_singleton.2 rfl) _ _ _ rfl) (fun h0=>by have:=hcell 0 (by omega); exact vJ_ (a:=a.add 0) this) ((ss.take len).map GV.str) (by simp; omega) (fun j v hj=>by
   rw[List.getElem?_map] at hj;cases hg:(ss.take len)[j]? with
   | none=>rw[hg] at hj; cases hj
   | some s=>
    rw[hg] at hj;simp at hj;subst hj;have hjl:j < ss.length:=by have:=(List.getElem?_eq_some_iff.1 hg).1; simp at this; omega
    have:=hcell j hjl;rw[List.getElem?_take] at hg;split at hg
    ·rw[List.getD_eq_getElem?_getD,hg] at this;exact⟨_,this,rfl⟩
    ·cases hg)
  rw[Nat.mul_one] at h6;refine⟨φ',H',p,len,ss.take len,_,rfl,h1,h2,h3,h4,h5,h6,by simp; omega,?_⟩;simp only[DataW.weights,ht] at hw;rw[List.all_cons,Bool.and_eq_true] at hw;have:=hw.1;simp only[decide_eq_true_eq,strs,List.length_map,List.length_take,List.length_drop,hb] at this;unfold reachBytes at this;omega
theorem zj_ {t e:TypeId} (ht:P.underlying t=some (.slice e)) (he:P.underlying e=some (.int .i64)) (hc:P.cellsOf e=1) (hb:P.bytesOf e=8) {fuel:Nat} {cs:List Value} {x:DataW Hh × List MemPlace}
 (h:DataW.trod enc P W 0 (fun _=>true) held fuel t cs=some x) (hz:∀ v∈cs,Zc W v) (hw:(DataW.weights P t x.1).all (· ≤reachBytes)=true) {φ:List LI} {H:Hp} (hr:cq_ φ H W) (hn:hb_ H):
 ∃ φ' H' p n xs v,cs=[v]∧φ<+:φ'∧H<+:H'∧cq_ φ' H' W∧hb_ H'∧GV.is φ' (.sl p n 1) v∧Is H' p n xs:=by
 rcases open_ints ht he hc h with⟨rfl,rfl⟩ | ⟨a,len,cap,ss,rfl,_,hl,_,hlen,rfl,hcell,_⟩
 ·exact⟨φ,H,none,0,[],_,rfl,List.prefix_refl _,List.prefix_refl _,hr,hn,⟨rfl,rfl⟩,Is.nil H⟩
 ·simp only[if_true] at hlen;obtain⟨φ',H',p,h1,h2,h3,h4,h5,h6⟩:=si_ (z:=1) hr hn hl (hz (.slice (some a) len cap) (List.mem_singleton.2 rfl) _ _ _ rfl) (fun h0=>by have:=hcell 0 (by omega); exact vJ_ (a:=a.add 0) this) ((ss.take len).map (GV.int .i64)) (by simp; omega) (fun j v hj=>by
   rw[List.getElem?_map] at hj;cases hg:(ss.take len)[j]? with
   | none=>rw[hg] at hj; cases hj
   | some s=>
    rw[hg] at hj;simp at hj;subst hj;have hjl:j < ss.length:=by have:=(List.getElem?_eq_some_iff.1 hg).1; simp at this; omega
    have:=hcell j hjl;rw[List.getElem?_take] at hg;split at hg
    ·rw[List.getD_eq_getElem?_getD,hg] at this;exact⟨_,this,rfl⟩
    ·cases hg)
  rw[Nat.mul_one] at h6;refine⟨φ',H',p,len,ss.take len,_,rfl,h1,h2,h3,h4,h5,h6,by simp; omega,?_⟩;simp only[DataW.weights,ht] at hw;rw[List.all_cons,Bool.and_eq_true] at hw;have:=hw.1;simp only[decide_eq_true_eq,lits,List.length_map,List.length_take,List.length_drop,hb] at this;unfold reachBytes at this;omega
theorem g1_ {ts:List TypeId} {ds:List (DataW Hh)} (h:(DataW.weightsEach P ts ds).all (· ≤reachBytes)=true) {j:Nat} {t:TypeId} {d:DataW Hh} (ht:ts[j]? =some t) (hd:ds[j]? =some d):(DataW.weights P t d).all (· ≤reachBytes)=true:=
 List.all_eq_true.2 fun n hn=>List.all_eq_true.1 h n (DataW.weights_mem_each ht hd n hn)
theorem Ba_ {φ φ':List LI} {H H':Hp} {W':World} (hn:hb_ H) (B:bH_ φ H W φ' H' W'):Below W.heap.size W W':=
 ⟨B.keeps.os,B.keeps.tape,B.keeps.output,B.keeps.size,fun k hk=>B.keeps.block k hk fun⟨l,o,i,h1,_,_,h2⟩=>hn l o i h1 h2⟩
theorem lT_ {f:FuncId} {s:Sm} (hS:ay_ P f s) {φ:List LI} {H:Hp} (hr:cq_ φ H W) (hn:hb_ H) {args:List FV} {vs:List Value} (ha:b6_ (FV.is φ) args vs) (h:s args H fun r _=>r= .g (.bool true)):
 Calls P f vs.toArray W fun e W'=>e= .returned (.bool true)∧Below W.heap.size W W':=by
 refine (hS args H _ h φ W vs hr ha).mono ?_;rintro e W' ⟨r,H',φ',x,rfl,rfl,hx,B⟩;exact⟨by rw[show x= .bool true from hx],Ba_ hn B⟩
theorem rz_ (W:World):cq_ [] [] W:=⟨rfl,fun l o h _=>by simp at h,fun l l' o o' i i' h=>by simp at h⟩
theorem lW_:hb_ []:=fun l o i h=>by simp at h
end
end Go.Am
