import Derived.Test.YtddbjihiflcbbaaGreatM4
import Derived.OpenShut
import Derived.ShutString
import Derived.ChangeOld
import Derived.ProofKit
import Derived.WalkKit
set_option linter.unusedVariables false
set_option linter.unusedSimpArgs false
namespace Go.Am
structure Pg where
 used:Bool
 leaf:Bool
 keys:List ByteArray
 vals:List ByteArray
 kids:List Int
structure mi_ (H:Hp) (u l:Bool) (a1:Pl) (n1:Nat) (a2:Pl) (n2:Nat) (a3:Pl) (n3:Nat) (p:Pg):Prop where
 used:p.used=u
 leaf:p.leaf=l
 keys:Ss H a1 n1 p.keys
 vals:Ss H a2 n2 p.vals
 kids:Is H a3 n3 p.kids
theorem mi_.mono {H H':Hp} (hp:H<+:H') {u l:Bool} {a1:Pl} {n1:Nat} {a2:Pl} {n2:Nat} {a3:Pl} {n3:Nat} {p:Pg} (h:mi_ H u l a1 n1 a2 n2 a3 n3 p):mi_ H' u l a1 n1 a2 n2 a3 n3 p:=
 ⟨h.used,h.leaf,h.keys.mono hp,h.vals.mono hp,h.kids.mono hp⟩
structure xw_ (p:Pg):Prop where
 used:p.used=true
 rising:gQ_ p.keys
 keys:∀ k∈p.keys,1≤k.size∧k.size≤6
 leaf:p.leaf=true→p.vals.length=p.keys.length∧p.kids=[]∧∀ v∈p.vals,v.size≤10
 inner:p.leaf=false→1≤p.keys.length∧p.vals=[]∧p.kids.length=p.keys.length+1∧(∀ k∈p.kids,1≤k∧k < 48)∧p.kids.Nodup
def mD_ (p:Pg):Prop:=p.keys.length≤4∧xw_ p
section
variable {H:Hp} {Q:Post} {u l:Bool} {a1:Pl} {n1:Nat} {a2:Pl} {n2:Nat} {a3:Pl} {n3:Nat} {p:Pg}
theorem s9_ (h:mi_ H u l a1 n1 a2 n2 a3 n3 p) (hQ:∀ b H',H<+:H'→(b=true↔xw_ p)→Q (.g (.bool b)) H'):
 gf_ [.agg [.bool u,.bool l,.sl a1 n1 1,.sl a2 n2 1,.sl a3 n3 1]] H Q:=by
 obtain⟨hu,hl,hk,hv,hi⟩:=h;have n1e:=hk.len;have n2e:=hv.len;have n3e:=hi.len;have l1:=hk.lim;have l3:=hi.lim;have EK:∀ (s:ByteArray) (H:Hp) (Q:Post),Q (.g (.bool (decide (1≤s.size)&&decide (s.size≤6)))) H→cN_ [(BL_,c1_),(Bu_,cc_),(Bk_,cV_)] BL_ [.g (.str s)] H Q:=
  fun s H Q q=>by rw[hS_]; exact tR_ q
 have EV:∀ (s:ByteArray) (H:Hp) (Q:Post),Q (.g (.bool (decide (s.size≤10)))) H→cN_ [(BL_,c1_),(Bu_,cc_),(Bk_,cV_)] Bu_ [.g (.str s)] H Q:=
  fun s H Q q=>by rw[mK_ (by decide),hS_]; exact rl_ q
 have EI:∀ (s:Int) (H:Hp) (Q:Post),Q (.g (.bool (decide (1≤s)&&decide (s < 48)))) H→cN_ [(BL_,c1_),(Bu_,cc_),(Bk_,cV_)] Bk_ [.g (.int .i64 s)] H Q:=
  fun s H Q q=>by rw[mK_ (by decide),mK_ (by decide),hS_]; exact tN_ q
 refine⟨1,?_⟩;rw[vM_];refine aa_ (fun e=>hQ _ _ (List.prefix_refl _) ⟨fun q=>(by cases q),fun q=> ?_⟩) (fun e=> ?_)
 ·rw[←hu,q.used] at e; cases e
 refine qg_ hk fun b hb=> ?_;simp only[aK_,al_];refine aa_ (fun e1=>hQ _ _ (List.prefix_refl _) ⟨fun q=>(by cases q),fun q=> ?_⟩) (fun e1=> ?_)
 ·rw[hb.2 q.rising] at e1; cases e1
 refine hh_ EK hk fun b2 H2 p2 hb2=> ?_;simp only[aK_,al_];have hkeys:(∀ k∈p.keys,1≤k.size∧k.size≤6)↔∀ s∈p.keys,(decide (1≤s.size)&&decide (s.size≤6))=true:=by simp
 refine aa_ (fun e2=>hQ _ _ p2 ⟨fun q=>(by cases q),fun q=> ?_⟩) (fun e2=> ?_)
 ·rw[hb2.2 (hkeys.1 q.keys)] at e2; cases e2
 have hR:gQ_ p.keys:=hb.1 (by cases b<;>simp_all);have hK:=hkeys.2 (hb2.1 (by cases b2<;>simp_all));have hU:p.used=true:=by rw[hu]; cases u<;>simp_all
 refine aa_ (fun e3=> ?_) (fun e3=> ?_)
 ·have hL:p.leaf=true:=by rw[hl]; exact e3
  refine aa_ (fun e4=> ?_) (fun e4=>hQ _ _ p2 ⟨fun q=>(by cases q),fun q=> ?_⟩)
  rotate_left
  ·have:=(q.leaf hL).1; simp at e4; omega
  refine aa_ (fun e5=> ?_) (fun e5=>hQ _ _ p2 ⟨fun q=>(by cases q),fun q=> ?_⟩)
  rotate_left
  ·have:=(q.leaf hL).2.1; simp [this] at n3e; simp at e5; omega
  refine hh_ EV (hv.mono p2) fun b3 H3 p3 hb3=> ?_;simp only[aK_,al_];refine hQ _ _ (p2.trans p3) (hb3.trans ⟨fun q=>⟨hU,hR,hK,fun _=>⟨?_,?_,by simpa using q⟩,fun q=>(by rw[hL] at q; cases q)⟩,fun q=>by simpa using (q.leaf hL).2.2⟩)
  ·simp at e4; omega
  ·simp at e5; exact List.eq_nil_of_length_eq_zero (by omega)
 ·have hL:p.leaf=false:=by rw[hl]; exact e3
  refine aa_ (fun e4=> ?_) (fun e4=>hQ _ _ p2 ⟨fun q=>(by cases q),fun q=> ?_⟩)
  rotate_left
  ·have:=(q.inner hL).1; simp at e4; omega
  refine aa_ (fun e5=> ?_) (fun e5=>hQ _ _ p2 ⟨fun q=>(by cases q),fun q=> ?_⟩)
  rotate_left
  ·have:=(q.inner hL).2.1; simp [this] at n2e; simp at e5; omega
  refine aa_ (fun e6=> ?_) (fun e6=>hQ _ _ p2 ⟨fun q=>(by cases q),fun q=> ?_⟩)
  rotate_left
  ·have:=(q.inner hL).2.2.1; simp only[iH_] at e6; rw[ar_ (by omega)] at e6; simp at e6; omega
  simp only[iH_] at e6;rw[ar_ (by omega)] at e6;refine nO_ EI (hi.mono p2) fun b3 H3 p3 hb3=> ?_;simp only[aK_,al_];refine aa_ (fun e7=> ?_) (fun e7=>hQ _ _ (p2.trans p3) ⟨fun q=>(by cases q),fun q=> ?_⟩)
  rotate_left
  ·rw[hb3.2 (by simpa using (q.inner hL).2.2.2.1)] at e7; cases e7
  refine oR_ (hi.mono (p2.trans p3)) fun b4 H4 p4 hb4=> ?_;simp only[aK_,al_];refine hQ _ _ ((p2.trans p3).trans p4) (hb4.trans ⟨fun q=>⟨hU,hR,hK,fun q=>(by rw[hL] at q; cases q),fun _=>⟨?_,?_,?_,by simpa using hb3.1 e7,q⟩⟩,fun q=>(q.inner hL).2.2.2.2⟩)
  ·simp at e4; omega
  ·simp at e5; exact List.eq_nil_of_length_eq_zero (by omega)
  ·simp at e6; omega
theorem tG_ (h:mi_ H u l a1 n1 a2 n2 a3 n3 p) (hQ:∀ b H',H<+:H'→(b=true↔mD_ p)→Q (.g (.bool b)) H'):
 hr_ [.agg [.bool u,.bool l,.sl a1 n1 1,.sl a2 n2 1,.sl a3 n3 1]] H Q:=by
 have n1e:=h.keys.len;refine⟨1,?_⟩;rw[wp_];refine aa_ (fun e=> ?_) (fun e=>hQ _ _ (List.prefix_refl _) ⟨fun q=>(by cases q),fun q=> ?_⟩)
 ·refine s9_ h fun b H' hp hb=> ?_;simp only[aK_,al_];simp at e;exact hQ _ _ hp (hb.trans ⟨fun q=>⟨by omega,q⟩,fun q=>q.2⟩)
 ·have:=q.1; simp at e; omega
theorem fJ_ {xs:List ByteArray} (h:Ss H a1 n1 xs) (hQ:∀ b,(b=true↔(gQ_ xs∧∀ k∈xs,1≤k.size∧k.size≤6))→Q (.g (.bool b)) H):bF_ [.g (.sl a1 n1 1)] H Q:=by
 have hn:=h.len;have hlim:=h.lim;have loop:∀ m k:Nat,xs.length - k=m→k≤xs.length→(∀ i,(hi:i < xs.length)→i < k→1≤xs[i].size∧xs[i].size≤6)→(∀ i,(hi:i+1 < xs.length)→i+1 < k→cS_ (xs[i]'(by omega)) xs[i+1]=true)→
  ∃ f,bF_.l2 f a1 n1 (k:Int) H Q:=by
  intro m;induction m with
  | zero=>
   intro k hm hle h1 h2;refine⟨1,?_⟩;rw[bF_.l2_eq,aL_ (by simp; omega)];exact hQ true ⟨fun _=>⟨fun i hi=>h2 i hi (by omega),fun s hs=>by obtain⟨i,hi,rfl⟩:=List.getElem_of_mem hs; exact h1 i hi (by omega)⟩,fun _=>rfl⟩
  | succ m ih=>
   intro k hm hle h1 h2;have hkn:k < xs.length:=by omega
   have hlt:ltI (k:Int) (nI n1)=true:=by simp; omega
   by_cases c1:xs[k].size < 1
   ·refine⟨1,?_⟩;rw[bF_.l2_eq,aQ_ hlt,am_,h.rd k rfl hkn,aQ_ (by simp; omega)];exact hQ false ⟨fun q=>(by cases q),fun q=>by have:=(q.2 _ (List.getElem_mem hkn)).1; omega⟩
   by_cases c2:6 < xs[k].size
   ·refine⟨1,?_⟩;rw[bF_.l2_eq,aQ_ hlt,am_,h.rd k rfl hkn,aL_ (by simp; omega),am_,h.rd k rfl hkn,aQ_ (by simp; omega)];exact hQ false ⟨fun q=>(by cases q),fun q=>by have:=(q.2 _ (List.getElem_mem hkn)).2; omega⟩
   have h1':∀ i,(hi:i < xs.length)→i < k+1→1≤xs[i].size∧xs[i].size≤6:=fun i hi hik=>by
    by_cases e:i=k
    ·subst e; omega
    ·exact h1 i hi (by omega)
   cases k with
   | zero=>
    obtain⟨f,hf⟩:=ih 1 (by omega) (by omega) h1' (fun i hi h=>by omega);refine⟨f+1,?_⟩;rw[bF_.l2_eq,aQ_ hlt,am_,h.rd 0 rfl hkn,aL_ (by simp; omega),am_,h.rd 0 rfl hkn,aL_ (by simp; omega),aL_ (by simp),ar_ (by omega)];exact hf
   | succ k=>
    cases hs:cS_ (xs[k]'(by omega)) xs[k+1] with
    | true=>
     obtain⟨f,hf⟩:=ih (k+1+1) (by omega) (by omega) h1' (fun i hi hik=>by
      by_cases e:i=k
      ·subst e; exact hs
      ·exact h2 i hi (by omega))
     refine⟨f+1,?_⟩;rw[bF_.l2_eq,aQ_ hlt,am_,h.rd (k+1) rfl hkn,aL_ (by simp; omega),am_,h.rd (k+1) rfl hkn,aL_ (by simp; omega),aQ_ (by simp<;>omega),am_,h.rd (k+1) rfl hkn,am_,
      h.rd k (dt_ (by omega)) (by omega),aL_ (by rw[uB_] at hs; simpa using hs),ar_ (by omega)]
     exact hf
    | false=>
     refine⟨1,?_⟩;rw[bF_.l2_eq,aQ_ hlt,am_,h.rd (k+1) rfl hkn,aL_ (by simp; omega),am_,h.rd (k+1) rfl hkn,aL_ (by simp; omega),aQ_ (by simp<;>omega),am_,h.rd (k+1) rfl hkn,am_,
      h.rd k (dt_ (by omega)) (by omega),aQ_ (by rw[uB_] at hs; rw[jc_]; rw[Bool.not_eq_false'] at hs; exact hs)]
     exact hQ false ⟨fun q=>(by cases q),fun q=>by rw[q.1 k hkn] at hs; cases hs⟩
 obtain⟨f,hf⟩:=loop _ 0 rfl (Nat.zero_le _) (fun i hi h=>by omega) (fun i hi h=>by omega);exact⟨f+1,by rw[sT_]; exact hf⟩
theorem ne_ {most:Nat} (hmost:most≤1000) (h:mi_ H u l a1 n1 a2 n2 a3 n3 p) (hQ:∀ b,(b=true↔(p.keys.length≤most∧xw_ p))→Q (.g (.bool b)) H):
 aH_ [.agg [.bool u,.bool l,.sl a1 n1 1,.sl a2 n2 1,.sl a3 n3 1],.g (.int .i64 most)] H Q:=by
 obtain⟨hu,hl,hk,hv,hi⟩:=h;have n1e:=hk.len;have n2e:=hv.len;have n3e:=hi.len;have l1:=hk.lim;have l2:=hv.lim;have l3:=hi.lim;have leafs:p.leaf=true→(∀ b,(b=true↔(p.vals.length=p.keys.length∧p.kids=[]∧∀ v∈p.vals,v.size≤10))→Q (.g (.bool b)) H)→∀ m k:Nat,p.vals.length - k=m→k≤p.vals.length→(∀ i,(hi:i < p.vals.length)→i < k→(p.vals[i]).size≤10)→
  ∃ f,aH_.l5 f u l a1 n1 a2 n2 a3 n3 (k:Int) H Q:=by
  intro hL hQ' m;induction m with
  | zero=>
   intro k hm hle h1;refine⟨1,?_⟩;rw[aH_.l5_eq,aL_ (by simp; omega)];have hall:∀ v∈p.vals,v.size≤10:=fun s hs=>by obtain⟨i,hi,rfl⟩:=List.getElem_of_mem hs; exact h1 i hi (by omega)
   refine aa_ (fun e=>hQ' _ ?_) (fun e=>hQ' _ ⟨fun q=>(by cases q),fun q=> ?_⟩)
   ·simp at e ⊢;refine⟨fun q=>⟨by omega,List.eq_nil_of_length_eq_zero (by omega),hall⟩,fun q=> ?_⟩;have:=q.2.1;rw[this] at n3e; exact n3e
   ·have:=q.1; simp at e; omega
  | succ m ih=>
   intro k hm hle h1;have hkn:k < p.vals.length:=by omega
   have hlt:ltI (k:Int) (nI n2)=true:=by simp; omega
   by_cases c1:10 < (p.vals[k]).size
   ·refine⟨1,?_⟩;rw[aH_.l5_eq,aQ_ hlt,am_,hv.rd k rfl hkn,aQ_ (by simp; omega)];exact hQ' false ⟨fun q=>(by cases q),fun q=>by have:=q.2.2 _ (List.getElem_mem hkn); omega⟩
   ·obtain⟨f,hf⟩:=ih (k+1) (by omega) (by omega) (fun i hi hik=>by
     by_cases e:i=k
     ·subst e; omega
     ·exact h1 i hi (by omega))
    refine⟨f+1,?_⟩;rw[aH_.l5_eq,aQ_ hlt,am_,hv.rd k rfl hkn,aL_ (by simp; omega),ar_ (by omega)];exact hf
 have inners:p.leaf=false→(∀ b,(b=true↔(1≤p.keys.length∧p.vals=[]∧p.kids.length=p.keys.length+1∧(∀ k∈p.kids,1≤k∧k < 48)∧p.kids.Nodup))→Q (.g (.bool b)) H)→∀ m k:Nat,p.kids.length - k=m→k≤p.kids.length→
  (∀ i,(hi:i < p.kids.length)→i < k→1≤p.kids[i]∧p.kids[i] < 48)→(∀ i j,(hj:j < p.kids.length)→(hij:i < j)→j < k→p.kids[i]'(by omega)≠p.kids[j])→
  ∃ f,aH_.l11 f u l a1 n1 a2 n2 a3 n3 (k:Int) H Q:=by
  intro hL hQ' m;induction m with
  | zero=>
   intro k hm hle h1 h2;refine⟨1,?_⟩;rw[aH_.l11_eq,aL_ (by simp; omega)];have hall:∀ v∈p.kids,1≤v∧v < 48:=fun s hs=>by obtain⟨i,hi,rfl⟩:=List.getElem_of_mem hs; exact h1 i hi (by omega)
   have hnd:p.kids.Nodup:=by
    rw[List.Nodup,List.pairwise_iff_getElem];exact fun i j _ hj hij=>h2 i j hj hij (by omega)
   refine aa_ (fun e=> ?_) (fun e=>hQ' _ ⟨fun q=>(by cases q),fun q=> ?_⟩)
   rotate_left
   ·have:=q.1; simp at e; omega
   refine aa_ (fun e2=>hQ' _ ?_) (fun e2=>hQ' _ ⟨fun q=>(by cases q),fun q=> ?_⟩)
   rotate_left
   ·have:=q.2.1; rw[this] at n2e; simp at e2 n2e; omega
   simp only[iH_];rw[ar_ (by omega)];simp at e e2 ⊢;exact⟨fun q=>⟨by omega,List.eq_nil_of_length_eq_zero (by omega),by omega,hall,hnd⟩,fun q=>by have:=q.2.2.1; omega⟩
  | succ m ih=>
   intro k hm hle h1 h2;have hkn:k < p.kids.length:=by omega
   have hlt:ltI (k:Int) (nI n3)=true:=by simp; omega
   by_cases c1:p.kids[k] < 1
   ·refine⟨1,?_⟩;rw[aH_.l11_eq,aQ_ hlt,am_,hi.rd k rfl hkn,aQ_ (by simpa using c1)];exact hQ' false ⟨fun q=>(by cases q),fun q=>by have:=q.2.2.2.1 _ (List.getElem_mem hkn); omega⟩
   by_cases c2:48≤p.kids[k]
   ·refine⟨1,?_⟩;rw[aH_.l11_eq,aQ_ hlt,am_,hi.rd k rfl hkn,aL_ (by simpa using c1),am_,hi.rd k rfl hkn,aQ_ (by simpa using c2)];exact hQ' false ⟨fun q=>(by cases q),fun q=>by have:=q.2.2.2.1 _ (List.getElem_mem hkn); omega⟩
   have loop:∀ m' j:Nat,k - j=m'→j≤k→(∀ i,(hi:i < j)→(hi2:i < k)→p.kids[i]'(by omega)≠p.kids[k])→∃ f,aH_.l16 f u l a1 n1 a2 n2 a3 n3 (k:Int) (j:Int) H Q:=by
    intro m';induction m' with
    | zero=>
     intro j hj hjk h3;obtain⟨f,hf⟩:=ih (k+1) (by omega) (by omega)
      (fun i hi hik=>by
       by_cases e:i=k
       ·subst e; omega
       ·exact h1 i hi (by omega))
      (fun i j' hj' hij hjk'=>by
       by_cases e:j'=k
       ·subst e; exact h3 i (by omega) hij
       ·exact h2 i j' hj' hij (by omega))
     refine⟨f+1,?_⟩;rw[aH_.l16_eq,aL_ (by simp; omega),ar_ (by omega)];exact hf
    | succ m' ih'=>
     intro j hj hjk h3;have hjn:j < p.kids.length:=by omega
     by_cases e:p.kids[j]=p.kids[k]
     ·refine⟨1,?_⟩;rw[aH_.l16_eq,aQ_ (by simp; omega),am_,hi.rd j rfl hjn,am_,hi.rd k rfl hkn,aQ_ (by simpa using e)];refine hQ' false ⟨fun q=>(by cases q),fun q=> ?_⟩;exact ((List.pairwise_iff_getElem.1 q.2.2.2.2) j k hjn hkn (by omega) e).elim
     ·obtain⟨f,hf⟩:=ih' (j+1) (by omega) (by omega) (fun i hi hi2=>by
       by_cases e':i=j
       ·subst e'; exact e
       ·exact h3 i (by omega) hi2)
      refine⟨f+1,?_⟩;rw[aH_.l16_eq,aQ_ (by simp; omega),am_,hi.rd j rfl hjn,am_,hi.rd k rfl hkn,aL_ (by simpa using e),ar_ (by omega)];exact hf
   obtain⟨f,hf⟩:=loop _ 0 rfl (Nat.zero_le _) (fun i hi=>by omega);refine⟨f+1,?_⟩;rw[aH_.l11_eq,aQ_ hlt,am_,hi.rd k rfl hkn,aL_ (by simpa using c1),am_,hi.rd k rfl hkn,aL_ (by simpa using c2)];exact hf
 by_cases cu:u=true
 rotate_left
 ·refine⟨1,?_⟩;rw[eC_,aQ_ (by cases u<;>simp_all)];exact hQ _ ⟨fun q=>(by cases q),fun q=>by have:=q.2.used; rw[hu] at this; exact (cu this).elim⟩
 by_cases cr:gQ_ p.keys∧∀ k∈p.keys,1≤k.size∧k.size≤6
 rotate_left
 ·refine⟨1,?_⟩;rw[eC_,aL_ (by rw[cu]; rfl)];refine fJ_ hk fun b hb=> ?_;simp only[aK_,al_];rw[aQ_ (by cases b with | false=>rfl | true=>exact (cr (hb.1 rfl)).elim)];exact hQ _ ⟨fun q=>(by cases q),fun q=>(cr ⟨q.2.rising,q.2.keys⟩).elim⟩
 by_cases cm:n1≤most
 rotate_left
 ·refine⟨1,?_⟩;rw[eC_,aL_ (by rw[cu]; rfl)];refine fJ_ hk fun b hb=> ?_;simp only[aK_,al_];rw[aL_ (by rw[hb.2 cr]; rfl),aQ_ (by simp; omega)];exact hQ _ ⟨fun q=>(by cases q),fun q=>by have:=q.1; omega⟩
 cases hL:p.leaf with
 | true=>
  obtain⟨f,hf⟩:=leafs hL (fun b hb=>hQ b (hb.trans ⟨fun q=>⟨by omega,by rw[hu]; exact cu,cr.1,cr.2,fun _=>q,fun e=>(by rw[hL] at e; cases e)⟩,fun q=>q.2.leaf hL⟩)) _ 0 rfl (Nat.zero_le _) (fun i hi h=>by omega);refine⟨f+1,?_⟩;rw[eC_,aL_ (by rw[cu]; rfl)];refine fJ_ hk fun b hb=> ?_;simp only[aK_,al_];rw[aL_ (by rw[hb.2 cr]; rfl),aL_ (by simp; omega),aQ_ (by rw[←hl]; exact hL)];exact hf
 | false=>
  obtain⟨f,hf⟩:=inners hL (fun b hb=>hQ b (hb.trans ⟨fun q=>⟨by omega,by rw[hu]; exact cu,cr.1,cr.2,fun e=>(by rw[hL] at e; cases e),fun _=>q⟩,fun q=>q.2.inner hL⟩)) _ 0 rfl (Nat.zero_le _) (fun i hi h=>by omega) (fun i j hj hij h=>by omega);refine⟨f+1,?_⟩;rw[eC_,aL_ (by rw[cu]; rfl)];refine fJ_ hk fun b hb=> ?_;simp only[aK_,al_];rw[aL_ (by rw[hb.2 cr]; rfl),aL_ (by simp; omega),aL_ (by rw[←hl]; exact hL)];exact hf
theorem nT_ (h:mi_ H u l a1 n1 a2 n2 a3 n3 p) (hQ:∀ b,(b=true↔mD_ p)→Q (.g (.bool b)) H):
 ep_ [.agg [.bool u,.bool l,.sl a1 n1 1,.sl a2 n2 1,.sl a3 n3 1]] H Q:=by
 refine⟨1,?_⟩;rw[rg_];refine ne_ (most:=4) (by omega) h fun b hb=> ?_;simp only[aK_,al_];exact hQ b hb
end
end Go.Am
namespace Go.Am
def Dj (a b:Pl):Prop:=∀ l,a=some (l,0)→b≠some (l,0)
theorem Dj.symm {a b:Pl} (h:Dj a b):Dj b a:=fun l h1 h2=>h l h2 h1
theorem Own.lt' {H:Hp} {b:Nat} {t:TypeId} {a:Pl} {n:Nat} {cs:List GV} (h:Own H b t a n cs) {l:Nat} (e:a=some (l,0)):l < H.length:=by subst e; exact h.lt
theorem Own.after {H0 H H':Hp} {b:Nat} {t:TypeId} {a a0:Pl} {n:Nat} {cs:List GV} (h:Own H b t a n cs) (hd:Dj a0 a) (hx:Ex H0 a0 H H'):Own H' b t a n cs:=
 h.keep fun l e=>hx.row l (h.lt' e) fun e0=>hd l e0 e
theorem Dj.fresh {H:Hp} {b:Nat} {t:TypeId} {a a':Pl} {n:Nat} {cs:List GV} (h:Own H b t a n cs) (hf:∀ l o,a'=some (l,o)→H.length≤l):Dj a' a:=fun l e1 e2=>by
 have:=hf l 0 e1; have:=h.lt' e2; omega
theorem Own.set {H:Hp} {b:Nat} {t:TypeId} {a:Pl} {n:Nat} {cs:List GV} (h:Own H b t a n cs) {l:Nat} (hd:a≠some (l,0)) (x:Obj):Own (H.set l x) b t a n cs:=
 h.keep fun l' e=>by rw[List.getElem?_set_ne]; intro q; subst q; exact hd e
structure nS_ (H:Hp) (b:Nat) (u l:Bool) (a1:Pl) (n1:Nat) (a2:Pl) (n2:Nat) (a3:Pl) (n3:Nat) (p:Pg):Prop where
 used:p.used=u
 leaf:p.leaf=l
 keys:Own H b tS a1 n1 (p.keys.map GV.str)
 vals:Own H b tS a2 n2 (p.vals.map GV.str)
 kids:Own H b tI a3 n3 (p.kids.map (GV.int .i64))
 d12:Dj a1 a2
 d13:Dj a1 a3
 d23:Dj a2 a3
 small:n1≤1000∧n2≤1000∧n3≤1000
theorem nS_.at {H:Hp} {b:Nat} {u l:Bool} {a1:Pl} {n1:Nat} {a2:Pl} {n2:Nat} {a3:Pl} {n3:Nat} {p:Pg} (h:nS_ H b u l a1 n1 a2 n2 a3 n3 p):mi_ H u l a1 n1 a2 n2 a3 n3 p:=by
 obtain⟨h1,h2,h3,h4,h5,_,_,_,s⟩:=h;refine⟨h1,h2,⟨h3.cells,?_,by omega⟩,⟨h4.cells,?_,by omega⟩,⟨h5.cells,?_,by omega⟩⟩
 ·have:=h3.len; simpa using this.symm
 ·have:=h4.len; simpa using this.symm
 ·have:=h5.len; simpa using this.symm
theorem Own.mono {H H':Hp} (hp:H<+:H') {b:Nat} {t:TypeId} {a:Pl} {n:Nat} {cs:List GV} (h:Own H b t a n cs):Own H' b t a n cs:=h.keep fun l e=>cd_ hp (h.lt' e)
theorem nS_.mono {H H':Hp} (hp:H<+:H') {b:Nat} {u l:Bool} {a1:Pl} {n1:Nat} {a2:Pl} {n2:Nat} {a3:Pl} {n3:Nat} {p:Pg} (h:nS_ H b u l a1 n1 a2 n2 a3 n3 p):nS_ H' b u l a1 n1 a2 n2 a3 n3 p:=
 ⟨h.used,h.leaf,h.keys.mono hp,h.vals.mono hp,h.kids.mono hp,h.d12,h.d13,h.d23,h.small⟩
def noPg:Pg:=⟨false,false,[],[],[]⟩
theorem A0_ (H:Hp) (b:Nat):nS_ H b false false none 0 none 0 none 0 noPg:=
 ⟨rfl,rfl,.inl ⟨rfl,rfl,rfl⟩,.inl ⟨rfl,rfl,rfl⟩,.inl ⟨rfl,rfl,rfl⟩,fun _ e=>(by cases e),fun _ e=>(by cases e),fun _ e=>(by cases e),by omega⟩
theorem Bw_ (H:Hp):mi_ H false false none 0 none 0 none 0 noPg:=(A0_ H 0).at
theorem bC_ {n:Int} {H:Hp} {Q:Post} (hQ:Q (.g (.int .i64 n)) H):b9_ [.g (.int .i64 n)] H Q:=⟨1,by rw[wc_]; exact hQ⟩
theorem tu_ {α:Type} {xs ys:List α} (h:xs.length=ys.length) (hk:∀ i,(h1:i < xs.length)→(h2:i < ys.length)→xs[i]=ys[i]):xs=ys:=List.ext_getElem h fun i h1 h2=>hk i h1 h2
section
variable {H:Hp} {Q:Post} {a1 a2:Pl} {n1 n2:Nat}
theorem hJ_ {xs ys:List ByteArray} (h1:Ss H a1 n1 xs) (h2:Ss H a2 n2 ys) (hQ:∀ b,(b=true↔xs=ys)→Q (.g (.bool b)) H):bz_ [.g (.sl a1 n1 1),.g (.sl a2 n2 1)] H Q:=by
 have e1:=h1.len;have e2:=h2.len;have l1:=h1.lim;by_cases hl:xs.length=ys.length
 ·have loop:∀ f k:Nat,xs.length - k < f→k≤xs.length→(∀ i,(h1:i < xs.length)→(h2:i < ys.length)→i < k→xs[i]=ys[i])→bz_.l4 f a1 n1 a2 n2 (k:Int) H Q:=by
   intro f;induction f with
   | zero=>intro k hf; omega
   | succ f ih=>
    intro k hf hk he;rw[bz_.l4_eq];by_cases hkn:k < xs.length
    ·rw[aQ_ (by simp; omega),am_,h1.rd k rfl hkn,am_];have hc:(ltI (k:Int) (nI n1))=(ltI (k:Int) (nI n2)):=by rw[e1,e2,hl]
     rw[h2.rd k rfl (by omega)];by_cases hs:xs[k]=ys[k]
     ·rw[aL_ (by simpa using hs),ar_ (by omega)];exact ih (k+1) (by omega) (by omega) fun i q1 q2 hik=>by
       by_cases e:i=k
       ·subst e; exact hs
       ·exact he i q1 q2 (by omega)
     ·rw[aQ_ (by simpa using hs)];exact hQ _ ⟨fun q=>(by cases q),fun q=>(hs (by simp [q])).elim⟩
    ·rw[aL_ (by simp; omega)];exact hQ _ ⟨fun _=>tu_ hl fun i q1 q2=>he i q1 q2 (by omega),fun _=>rfl⟩
  refine⟨xs.length+2,?_⟩;rw[iC_,aL_ (by simp; omega)];exact loop _ 0 (by omega) (Nat.zero_le _) (fun i _ _ h=>by omega)
 ·refine⟨1,?_⟩;rw[iC_,aQ_ (by simp; omega)];exact hQ _ ⟨fun q=>(by cases q),fun q=>(hl (by rw[q])).elim⟩
theorem nq_ {xs ys:List Int} (h1:Is H a1 n1 xs) (h2:Is H a2 n2 ys) (hQ:∀ b,(b=true↔xs=ys)→Q (.g (.bool b)) H):bT_ [.g (.sl a1 n1 1),.g (.sl a2 n2 1)] H Q:=by
 have e1:=h1.len;have e2:=h2.len;have l1:=h1.lim;by_cases hl:xs.length=ys.length
 ·have loop:∀ f k:Nat,xs.length - k < f→k≤xs.length→(∀ i,(h1:i < xs.length)→(h2:i < ys.length)→i < k→xs[i]=ys[i])→bT_.l4 f a1 n1 a2 n2 (k:Int) H Q:=by
   intro f;induction f with
   | zero=>intro k hf; omega
   | succ f ih=>
    intro k hf hk he;rw[bT_.l4_eq];by_cases hkn:k < xs.length
    ·rw[aQ_ (by simp; omega),am_,h1.rd k rfl hkn,am_];rw[h2.rd k rfl (by omega)];by_cases hs:xs[k]=ys[k]
     ·rw[aL_ (by simpa using hs),ar_ (by omega)];exact ih (k+1) (by omega) (by omega) fun i q1 q2 hik=>by
       by_cases e:i=k
       ·subst e; exact hs
       ·exact he i q1 q2 (by omega)
     ·rw[aQ_ (by simpa using hs)];exact hQ _ ⟨fun q=>(by cases q),fun q=>(hs (by simp [q])).elim⟩
    ·rw[aL_ (by simp; omega)];exact hQ _ ⟨fun _=>tu_ hl fun i q1 q2=>he i q1 q2 (by omega),fun _=>rfl⟩
  refine⟨xs.length+2,?_⟩;rw[jk_,aL_ (by simp; omega)];exact loop _ 0 (by omega) (Nat.zero_le _) (fun i _ _ h=>by omega)
 ·refine⟨1,?_⟩;rw[jk_,aQ_ (by simp; omega)];exact hQ _ ⟨fun q=>(by cases q),fun q=>(hl (by rw[q])).elim⟩
end
section
variable {H:Hp} {Q:Post} {u l:Bool} {a1:Pl} {n1:Nat} {a2:Pl} {n2:Nat} {a3:Pl} {n3:Nat} {p:Pg} {u' l':Bool} {a1':Pl} {n1':Nat} {a2':Pl} {n2':Nat} {a3':Pl} {n3':Nat} {q:Pg}
theorem mL_ (h1:mi_ H u l a1 n1 a2 n2 a3 n3 p) (h2:mi_ H u' l' a1' n1' a2' n2' a3' n3' q) (hQ:∀ b,(b=true↔p=q)→Q (.g (.bool b)) H):
 dQ_ [.agg [.bool u,.bool l,.sl a1 n1 1,.sl a2 n2 1,.sl a3 n3 1],.agg [.bool u',.bool l',.sl a1' n1' 1,.sl a2' n2' 1,.sl a3' n3' 1]] H Q:=by
 refine⟨1,?_⟩;rw[pH_];refine aa_ (fun e1=> ?_) (fun e1=>hQ _ ⟨fun q=>(by cases q),fun e=> ?_⟩)
 rotate_left
 ·rw[←h1.used,←h2.used,e] at e1; simp at e1
 refine aa_ (fun e2=> ?_) (fun e2=>hQ _ ⟨fun q=>(by cases q),fun e=> ?_⟩)
 rotate_left
 ·rw[←h1.leaf,←h2.leaf,e] at e2; simp at e2
 refine hJ_ h1.keys h2.keys fun b3 hb3=> ?_;simp only[aK_,al_];refine aa_ (fun e3=> ?_) (fun e3=>hQ _ ⟨fun q=>(by cases q),fun e=> ?_⟩)
 rotate_left
 ·rw[hb3.2 (by rw[e])] at e3; cases e3
 refine hJ_ h1.vals h2.vals fun b4 hb4=> ?_;simp only[aK_,al_];refine aa_ (fun e4=> ?_) (fun e4=>hQ _ ⟨fun q=>(by cases q),fun e=> ?_⟩)
 rotate_left
 ·rw[hb4.2 (by rw[e])] at e4; cases e4
 refine nq_ h1.kids h2.kids fun b5 hb5=> ?_;simp only[aK_,al_];refine hQ _ (hb5.trans ⟨fun e=> ?_,fun e=>by rw[e]⟩);have q1:=hb3.1 e3;have q2:=hb4.1 e4;have q3:=h1.used;have q4:=h1.leaf;have q5:=h2.used;have q6:=h2.leaf;simp at e1 e2;cases p; cases q; simp_all
end
theorem Own.wr {H0 H:Hp} {t:TypeId} {a:Pl} {n:Nat} {cs:List GV} {v:GV} {K:Hp→Prop} (h0:H0<+:H) (h:Own H H0.length t a n cs) (k:Nat) {i:Int} (hi:i=k) (hk:k < n)
 (hK:∀ H',Own H' H0.length t a n (cs.set k v)→Ex H0 a H H'→K H'):chk (leI 0 i&&ltI i (nI n)) (pS a fun n5 n6=>Am.wr H n5 (n6+tN i*1) v K):=by
 subst hi;refine ab_ (by simp; omega) ?_;rcases h with⟨_,rfl,_⟩ | ⟨l,rfl,hb,hl,hn⟩
 ·omega
 ·simp only[ah_,m9_,Int.toNat_natCast,Nat.mul_one,Nat.zero_add];rw[kV_ hl (by omega)];refine hK _ (.inr ⟨l,rfl,hb,List.getElem?_set_self (List.getElem?_eq_some_iff.1 hl).1,by simpa using hn⟩) ⟨d2_ h0 hb _,by simp,fun l' _ hne=> ?_⟩;rw[List.getElem?_set_ne];intro e; subst e; exact hne rfl
theorem Ex.trans {H0 H H1 H2:Hp} {a:Pl} (h:Ex H0 a H H1) (h':Ex H0 a H1 H2):Ex H0 a H H2:=
 ⟨h'.pre,Nat.le_trans h.len h'.len,fun l hl hne=>(h'.row l (Nat.lt_of_lt_of_le hl h.len) hne).trans (h.row l hl hne)⟩
theorem Ex.refl {H0 H:Hp} {a:Pl} (h:H0<+:H):Ex H0 a H H:=⟨h,Nat.le_refl _,fun _ _ _=>rfl⟩
section
variable {H0 H:Hp} {u l:Bool} {a1:Pl} {n1:Nat} {a2:Pl} {n2:Nat} {a3:Pl} {n3:Nat} {p:Pg}
theorem nS_.setVal (h:nS_ H H0.length u l a1 n1 a2 n2 a3 n3 p) (h0:H0<+:H) (k:Nat) {i:Int} (hi:i=k) (hk:k < n2) (s:ByteArray) {K:Hp→Prop}
 (hK:∀ H',H0<+:H'→nS_ H' H0.length u l a1 n1 a2 n2 a3 n3 { p with vals:=p.vals.set k s }→K H'):chk (leI 0 i&&ltI i (nI n2)) (pS a2 fun n5 n6=>Am.wr H n5 (n6+tN i*1) (.str s) K):=
 h.vals.wr h0 k hi hk fun H' o x=>hK H' x.pre ⟨h.used,h.leaf,h.keys.after h.d12.symm x,by rw[List.map_set]; exact o,h.kids.after h.d23 x,h.d12,h.d13,h.d23,h.small⟩
end
end Go.Am
namespace Go.Am
def iE_ (H:Hp) (lo hi:Nat) (t:TypeId) (a:Pl) (n:Nat) (cs:List GV):Prop:=
 (a=none∧n=0∧cs=[])∨∃ l o ds,a=some (l,o)∧lo≤l∧l < hi∧H[l]? =some (.row true t ds)∧o+n≤ds.length∧(ds.drop o).take n=cs
def Dr (a b:Pl):Prop:=∀ l o o',a=some (l,o)→b≠some (l,o')
structure Ch (lo hi:Nat) (H H':Hp):Prop where
 len:H.length≤H'.length
 row:∀ l,l < H.length→ ¬ (lo≤l∧l < hi)→H'[l]? =H[l]?
theorem Ch.trans {lo hi:Nat} {H H1 H2:Hp} (h:Ch lo hi H H1) (h':Ch lo hi H1 H2):Ch lo hi H H2:=
 ⟨Nat.le_trans h.len h'.len,fun l hl hn=>(h'.row l (Nat.lt_of_lt_of_le hl h.len) hn).trans (h.row l hl hn)⟩
theorem Ch.refl (lo hi:Nat) (H:Hp):Ch lo hi H H:=⟨Nat.le_refl _,fun _ _ _=>rfl⟩
theorem Ch.of_pre {lo hi:Nat} {H H':Hp} (h:H<+:H'):Ch lo hi H H':=⟨h.length_le,fun l hl _=>cd_ h hl⟩
theorem Ch.pre {lo hi:Nat} {H0 H H':Hp} (h:Ch lo hi H H') (h0:H0<+:H) (hl:H0.length≤lo):H0<+:H':=by
 rw[List.prefix_iff_eq_take];apply List.ext_getElem?;intro i;rw[List.getElem?_take];split
 ·rename_i hi;rw[h.row i (Nat.lt_of_lt_of_le hi h0.length_le) (by omega),cd_ h0 hi]
 ·rename_i hi;exact List.getElem?_eq_none (by omega)
section
variable {H H':Hp} {lo hi:Nat} {t:TypeId} {a:Pl} {n:Nat} {cs:List GV}
theorem iE_.keep (h:iE_ H lo hi t a n cs) (hk:∀ l o,a=some (l,o)→H'[l]? =H[l]?):iE_ H' lo hi t a n cs:=by
 rcases h with h | ⟨l,o,ds,rfl,h1,h2,h3,h4,h5⟩
 ·exact .inl h
 ·exact .inr ⟨l,o,ds,rfl,h1,h2,by rw[hk l o rfl]; exact h3,h4,h5⟩
theorem iE_.lt (h:iE_ H lo hi t a n cs) {l o:Nat} (e:a=some (l,o)):l < H.length∧lo≤l∧l < hi:=by
 rcases h with⟨h,_⟩ | ⟨l',o',ds,e',h1,h2,h3,_⟩
 ·rw[h] at e; cases e
 ·rw[e'] at e; cases e; exact⟨(List.getElem?_eq_some_iff.1 h3).1,h1,h2⟩
theorem iE_.mono (h:iE_ H lo hi t a n cs) (hp:H<+:H'):iE_ H' lo hi t a n cs:=h.keep fun l o e=>cd_ hp (h.lt e).1
theorem iE_.cells (h:iE_ H lo hi t a n cs):cells? H a n=some cs:=by
 rcases h with⟨rfl,rfl,rfl⟩ | ⟨l,o,ds,rfl,h1,h2,h3,h4,h5⟩
 ·rfl
 ·simp only[cells?,h3]; rw[if_pos h4,h5]
theorem iE_.len (h:iE_ H lo hi t a n cs):cs.length=n:=pj_ h.cells
theorem iE_.part (h:iE_ H lo hi t a n cs) (k m:Nat) (hm:k+m≤n):iE_ H lo hi t (shf a k) m ((cs.drop k).take m):=by
 rcases h with⟨rfl,rfl,rfl⟩ | ⟨l,o,ds,rfl,q1,q2,q3,q4,q5⟩
 ·exact .inl ⟨rfl,by omega,by simp⟩
 ·refine .inr ⟨l,o+k,ds,rfl,q1,q2,q3,by omega,?_⟩;rw[←q5,List.drop_take,List.take_take,List.drop_drop,Nat.min_eq_left (by omega)]
theorem Dr.shf {b:Pl} (h:Dr a b) (k m:Nat):Dr (shf a k) (shf b m):=by
 intro l o o' h1 h2;cases a with
 | none=>cases h1
 | some p=>
  cases b with
  | none=>cases h2
  | some q=>
   obtain⟨p1,p2⟩:=p;obtain⟨q1,q2⟩:=q;simp at h1 h2;exact h l p2 q2 (by rw[h1.1]) (by rw[h2.1])
theorem iE_.wr (h:iE_ H lo hi t a n cs) (k:Nat) {i:Int} (hi':i=k) (hk:k < n) {v:GV} {K:Hp→Prop}
 (hK:∀ H',iE_ H' lo hi t a n (cs.set k v)→Ch lo hi H H'→(∀ l,l < H.length→(∀ o,a≠some (l,o))→H'[l]? =H[l]?)→K H'):chk (leI 0 i&&ltI i (nI n)) (pS a fun n5 n6=>Am.wr H n5 (n6+tN i*1) v K):=by
 subst hi';refine ab_ (by simp; omega) ?_;rcases h with⟨_,rfl,_⟩ | ⟨l,o,ds,rfl,q1,q2,q3,q4,q5⟩
 ·omega
 ·simp only[ah_,m9_,Int.toNat_natCast,Nat.mul_one];rw[kV_ q3 (by omega)];have hl:=(List.getElem?_eq_some_iff.1 q3).1;refine hK _ (.inr ⟨l,o,_,rfl,q1,q2,List.getElem?_set_self hl,by simpa using q4,?_⟩) ⟨by simp,fun l' _ hne=> ?_⟩ (fun l' _ hne=> ?_)
  ·rw[←q5,List.drop_set,if_neg (by omega),List.take_set,show o+k - o=k by omega]
  ·rw[List.getElem?_set_ne]; intro e; subst e; exact hne ⟨q1,q2⟩
  ·rw[List.getElem?_set_ne]; intro e; subst e; exact hne o rfl
end
structure PgM (H:Hp) (lo hi:Nat) (u l:Bool) (a1:Pl) (n1:Nat) (a2:Pl) (n2:Nat) (a3:Pl) (n3:Nat) (p:Pg):Prop where
 used:p.used=u
 leaf:p.leaf=l
 keys:iE_ H lo hi tS a1 n1 (p.keys.map GV.str)
 vals:iE_ H lo hi tS a2 n2 (p.vals.map GV.str)
 kids:iE_ H lo hi tI a3 n3 (p.kids.map (GV.int .i64))
 d12:Dr a1 a2
 d13:Dr a1 a3
 d23:Dr a2 a3
 small:n1≤1000∧n2≤1000∧n3≤1000
section
variable {H H':Hp} {lo hi:Nat} {u l:Bool} {a1:Pl} {n1:Nat} {a2:Pl} {n2:Nat} {a3:Pl} {n3:Nat} {p:Pg}
theorem PgM.at (h:PgM H lo hi u l a1 n1 a2 n2 a3 n3 p):mi_ H u l a1 n1 a2 n2 a3 n3 p:=by
 obtain⟨h1,h2,h3,h4,h5,_,_,_,s⟩:=h;refine⟨h1,h2,⟨h3.cells,?_,by omega⟩,⟨h4.cells,?_,by omega⟩,⟨h5.cells,?_,by omega⟩⟩
 ·have:=h3.len; simpa using this.symm
 ·have:=h4.len; simpa using this.symm
 ·have:=h5.len; simpa using this.symm
theorem PgM.mono (h:PgM H lo hi u l a1 n1 a2 n2 a3 n3 p) (hp:H<+:H'):PgM H' lo hi u l a1 n1 a2 n2 a3 n3 p:=
 ⟨h.used,h.leaf,h.keys.mono hp,h.vals.mono hp,h.kids.mono hp,h.d12,h.d13,h.d23,h.small⟩
theorem Own.dr {b:Nat} {t t':TypeId} {a a':Pl} {n n':Nat} {cs cs':List GV} (h:Own H b t a n cs) (h':Own H b t' a' n' cs') (hd:Dj a a'):Dr a a':=by
 intro l o o' e e';rcases h with⟨q,_⟩ | ⟨m,q,_⟩
 ·rw[q] at e; cases e
 ·rcases h' with⟨q',_⟩ | ⟨m',q',_⟩
  ·rw[q'] at e'; cases e'
  ·rw[q] at e; rw[q'] at e';cases e; cases e';exact hd l q q'
end
end Go.Am
namespace Go.Am
structure PC where
 u:Bool
 l:Bool
 a1:Pl
 n1:Nat
 a2:Pl
 n2:Nat
 a3:Pl
 n3:Nat
def PC.cells (c:PC):List GV:=[.bool c.u,.bool c.l,.sl c.a1 c.n1 1,.sl c.a2 c.n2 1,.sl c.a3 c.n3 1]
@[simp] theorem PC.cells_length (c:PC):c.cells.length=5:=rfl
def PC.at (H:Hp) (c:PC) (p:Pg):Prop:=mi_ H c.u c.l c.a1 c.n1 c.a2 c.n2 c.a3 c.n3 p
theorem PC.at.mono {H H':Hp} (hp:H<+:H') {c:PC} {p:Pg} (h:c.at H p):c.at H' p:=mi_.mono hp h
def cb_ (cs:List PC):List GV:=cs.flatMap PC.cells
theorem db_ (cs:List PC):(cb_ cs).length=cs.length*5:=by
 unfold cb_;induction cs with
 | nil=>rfl
 | cons c cs ih=>simp [ih]; omega
theorem iL_ (cs ds:List PC):cb_ (cs++ds)=cb_ cs++cb_ ds:=by simp [cb_]
theorem ts_ {cs:List PC} {i j:Nat} (hi:i < cs.length) (hj:j < 5):(cb_ cs)[i*5+j]? =(cs[i].cells)[j]? :=by
 unfold cb_;induction cs generalizing i with
 | nil=>simp at hi
 | cons c cs ih=>
  simp only[List.flatMap_cons];cases i with
  | zero=>rw[List.getElem?_append_left (by simp; omega)]; simp
  | succ i=>
   rw[List.getElem?_append_right (by simp; omega)];have e:(i+1)*5+j - c.cells.length=i*5+j:=by simp; omega
   rw[e,ih (by simpa using hi)];simp
structure Tr (H:Hp) (a:Pl) (n:Nat) (cs:List PC) (T:List Pg):Prop where
 cells:cells? H a (n*5)=some (cb_ cs)
 len:cs.length=n
 lenT:T.length=n
 all:∀ i (h:i < cs.length) (h':i < T.length),(cs[i]).at H T[i]
theorem Tr.mono {H H':Hp} (hp:H<+:H') {a:Pl} {n:Nat} {cs:List PC} {T:List Pg} (h:Tr H a n cs T):Tr H' a n cs T:=⟨jv_ hp h.cells,h.len,h.lenT,fun i h1 h2=>(h.all i h1 h2).mono hp⟩
theorem Tr.get {H:Hp} {a:Pl} {n:Nat} {cs:List PC} {T:List Pg} (h:Tr H a n cs T) {i:Nat} (hi:i < n):∃ l o c p,a=some (l,o)∧cs[i]? =some c∧T[i]? =some p∧c.at H p∧
 gt H l (o+i*5)=some (.bool c.u)∧gt H l (o+i*5+1)=some (.bool c.l)∧gt H l (o+i*5+2)=some (.sl c.a1 c.n1 1)∧gt H l (o+i*5+3)=some (.sl c.a2 c.n2 1)∧gt H l (o+i*5+4)=some (.sl c.a3 c.n3 1):=by
 have h1:=h.len;have h2:=h.lenT;have hc:=h.cells;cases a with
 | none=>simp [cells?] at hc; omega
 | some q=>
  obtain⟨l,o⟩:=q;have hk:∀ j,j < 5→gt H l (o+i*5+j)=((cs[i]'(by omega)).cells)[j]? :=by
   intro j hj;have:=iY_ hc (j:=i*5+j) (by omega);rw[←Nat.add_assoc] at this;rw[this,ts_ (by omega) hj]
  exact⟨l,o,cs[i]'(by omega),T[i]'(by omega),rfl,by simp,by simp,h.all i (by omega) (by omega),hk 0 (by omega),hk 1 (by omega),hk 2 (by omega),hk 3 (by omega),hk 4 (by omega)⟩
theorem ea_ {H:Hp} {l j:Nat} {c:PC} {K:Bool→Bool→Pl→Nat→Pl→Nat→Pl→Nat→Prop} (h0:gt H l j=some (.bool c.u)) (h1:gt H l (j+1)=some (.bool c.l)) (h2:gt H l (j+2)=some (.sl c.a1 c.n1 1)) (h3:gt H l (j+3)=some (.sl c.a2 c.n2 1)) (h4:gt H l (j+4)=some (.sl c.a3 c.n3 1)):
 (rd H l j fun v0=>dB v0 fun b0=>rd H l (j+1) fun v1=>dB v1 fun b1=>rd H l (j+1+1) fun v2=>dL 1 v2 fun x2 n2=>rd H l (j+1+1+1) fun v3=>dL 1 v3 fun x3 n3=>rd H l (j+1+1+1+1) fun v4=>dL 1 v4 fun x4 n4=>K b0 b1 x2 n2 x3 n3 x4 n4)=K c.u c.l c.a1 c.n1 c.a2 c.n2 c.a3 c.n3:=by
 rw[ag_ h0,al_,ag_ h1,al_,ag_ h2,as_,ag_ h3,as_,ag_ h4,as_]
end Go.Am
section
namespace Go.Am
open Go.RowKit Go.ChangeShapes Go.WideShapes Go.Proofs
theorem vP_ {P:Program} {W:World} {r:Reach} {b:Nat} {t:TypeId} {fs:Array Field} {v:Value} (ht:P.underlying t=some (.struct fs)) (h:Value.okWide P W r b t v):∃ us:Array Value,v= .agg us∧∀ x∈us.toList,Zc W x:=by
 unfold Value.okWide at h;rw[ht] at h;obtain⟨us,rfl,_,ts,_,_,hc⟩:=h;refine⟨us,rfl,fun x hx=> ?_⟩;obtain⟨i,hi,rfl⟩:=List.getElem_of_mem hx;obtain⟨u,_,hu⟩:=hc i us[i] (by simp);simp only[Array.getElem_toList];exact Be_ hu
section
variable {Hh:Type} {enc:TypeId × Value→Hh} {W:World} {held:Bool}
set_option maxRecDepth 100000 in
theorem Bl_ {fuel:Nat} {cs:List Value} {x:DataW Hh × List MemPlace} (h:DataW.trod enc Tryz.prog W 0 (fun _=>true) held fuel 56 cs=some x) (hz:∀ v∈cs,Zc W v) (hw:(DataW.weights Tryz.prog 56 x.1).all (· ≤reachBytes)=true)
 {φ:List LI} {H:Hp} (hr:cq_ φ H W) (hn:hb_ H):
 ∃ φ' H' u l a1 n1 a2 n2 a3 n3 p,φ<+:φ'∧H<+:H'∧cq_ φ' H' W∧hb_ H'∧Is2 φ' [.bool u,.bool l,.sl a1 n1 1,.sl a2 n2 1,.sl a3 n3 1] cs∧mi_ H' u l a1 n1 a2 n2 a3 n3 p:=by
 obtain⟨xs,n,rfl,rfl,hlen,hxs,hf⟩:=DataW.trod_struct Tryz.underlying56 h;have h5:Tryz.prog.cellsOf 56=5:=by kernel_rfl
 have cB:Tryz.prog.cellsOf 4=1:=by kernel_rfl
 have c22:Tryz.prog.cellsOf 53=1:=by kernel_rfl
 have c23:Tryz.prog.cellsOf 54=1:=by kernel_rfl
 rw[h5] at hlen
 match cs,hlen with
 | [v0,v1,v2,v3,v4],_=>
  have f0:DataW.trod enc Tryz.prog W 0 (fun _=>true) held n 4 (([v0,v1,v2,v3,v4].drop 0).take (Tryz.prog.cellsOf 4))=xs[0]? :=hf 0 _ rfl;have f1:DataW.trod enc Tryz.prog W 0 (fun _=>true) held n 4 (([v0,v1,v2,v3,v4].drop 1).take (Tryz.prog.cellsOf 4))=xs[1]? :=hf 1 _ rfl;have f2:DataW.trod enc Tryz.prog W 0 (fun _=>true) held n 53 (([v0,v1,v2,v3,v4].drop 2).take (Tryz.prog.cellsOf 53))=xs[2]? :=hf 2 _ rfl;have f3:DataW.trod enc Tryz.prog W 0 (fun _=>true) held n 53 (([v0,v1,v2,v3,v4].drop 3).take (Tryz.prog.cellsOf 53))=xs[3]? :=hf 3 _ rfl;have f4:DataW.trod enc Tryz.prog W 0 (fun _=>true) held n 54 (([v0,v1,v2,v3,v4].drop 4).take (Tryz.prog.cellsOf 54))=xs[4]? :=hf 4 _ rfl;simp only[cB,c22,c23,List.drop_zero,List.drop_succ_cons,List.take_succ_cons,List.take_zero] at f0 f1 f2 f3 f4
  match xs,hxs with
  | [x0,x1,x2,x3,x4],_=>
   simp only[List.getElem?_cons_zero,List.getElem?_cons_succ] at f0 f1 f2 f3 f4;simp only[List.map_cons,List.map_nil,DataW.weights,Tryz.underlying56] at hw;obtain⟨u,e0,_⟩:=DataW.trod_bool Tryz.underlying4 f0;obtain⟨l,e1,_⟩:=DataW.trod_bool Tryz.underlying4 f1;simp only[List.cons.injEq,and_true] at e0 e1;subst e0; subst e1;obtain⟨φ1,H1,a1,n1,ks,w2,e2,p1,q1,r1,o1,i1,s1⟩:=s4_ Tryz.underlying53 Tryz.underlying9 (by kernel_rfl) (by kernel_rfl) f2 (fun v hv=>hz v (by simp at hv; simp [hv])) (g1_ hw (j:=2) rfl rfl) hr hn;obtain⟨φ2,H2,a2,n2,vs,w3,e3,p2,q2,r2,o2,i2,s2⟩:=s4_ Tryz.underlying53 Tryz.underlying9 (by kernel_rfl) (by kernel_rfl) f3 (fun v hv=>hz v (by simp at hv; simp [hv])) (g1_ hw (j:=3) rfl rfl) r1 o1;obtain⟨φ3,H3,a3,n3,is,w4,e4,p3,q3,r3,o3,i3,s3⟩:=zj_ Tryz.underlying54 Tryz.underlying3 (by kernel_rfl) (by kernel_rfl) f4 (fun v hv=>hz v (by simp at hv; simp [hv])) (g1_ hw (j:=4) rfl rfl) r2 o2;simp only[List.cons.injEq,and_true] at e2 e3 e4;subst e2; subst e3; subst e4;exact⟨φ3,H3,u,l,a1,n1,a2,n2,a3,n3,⟨u,l,ks,vs,is⟩,p1.trans (p2.trans p3),q1.trans (q2.trans q3),r3,o3,
    .cons rfl (.cons rfl (.cons (GV.is.mono (p2.trans p3) i1) (.cons (GV.is.mono p3 i2) (.cons i3 .nil)))),⟨rfl,rfl,s1.mono (q2.trans q3),s2.mono q3,s3⟩⟩
theorem qB_ {P:Program} {e:TypeId}:∀ {ds:List (DataW Hh)},(DataW.weightsAll P e ds).all (· ≤reachBytes)=true→∀ {i:Nat} {d:DataW Hh},ds[i]? =some d→(DataW.weights P e d).all (· ≤reachBytes)=true
 | [],_,i,d,h=>by simp at h
 | d0::r,hw,0,d,h=>by
  simp only[DataW.weightsAll,List.all_append,Bool.and_eq_true] at hw;simp at h; subst h; exact hw.1
 | d0::r,hw,i+1,d,h=>by
  simp only[DataW.weightsAll,List.all_append,Bool.and_eq_true] at hw;simp at h; exact qB_ hw.2 h
theorem Is2.get {φ:List LI} {cs:List GV} {vs:List Value} (h:Is2 φ cs vs) {j:Nat} {v:GV} (hj:cs[j]? =some v):∃ x,vs[j]? =some x∧v.is φ x:=b6_.get h hj
set_option maxRecDepth 100000 in
theorem xK_ {fuel:Nat} {cs:List Value} {x:DataW Hh × List MemPlace} (h:DataW.trod enc Tryz.prog W 0 (fun _=>true) held fuel 22 cs=some x) (hz:∀ v∈cs,Zc W v) (hw:(DataW.weights Tryz.prog 22 x.1).all (· ≤reachBytes)=true)
 {φ:List LI} {H:Hp} (hr:cq_ φ H W) (hn:hb_ H):
 ∃ φ' H' a n ps T v,cs=[v]∧φ<+:φ'∧H<+:H'∧cq_ φ' H' W∧hb_ H'∧GV.is φ' (.sl a n 5) v∧Tr H' a n ps T∧n*80≤140737488351232:=by
 have h5:Tryz.prog.cellsOf 56=5:=by kernel_rfl
 rcases DataW.trod_slice Tryz.underlying22 h with⟨rfl,rfl⟩ | ⟨a,len,cap,elems,rest,n,rfl,rfl,rfl,_,hl,hcap,hel,hi,hrest,_⟩
 ·exact⟨φ,H,none,0,[],[],_,rfl,List.prefix_refl _,List.prefix_refl _,hr,hn,⟨rfl,rfl⟩,⟨rfl,rfl,rfl,fun i h1=>(by simp at h1)⟩,by omega⟩
 rw[h5] at hi hrest;obtain⟨hrl,hrj⟩:=hrest rfl;simp only[DataW.weights,Tryz.underlying22] at hw;rw[List.all_cons,List.all_append,Bool.and_eq_true,Bool.and_eq_true] at hw;obtain⟨hw0,hw1,_⟩:=hw;have hpos:0 < W.heap.size:=hz (.slice (some a) len cap) (List.mem_singleton.2 rfl) _ _ _ rfl;have hsp:0 < cap→a.spot=none∧a.block < W.heap.size:=by
  intro h0;have hb:∃ cs0,W.cells? 0 (a.add 0) 5=some cs0:=by
   rcases Nat.eq_zero_or_pos len with e | e
   ·have:=hrj 0 (by omega);rw[e] at this;simp only[Nat.zero_add,Nat.zero_mul] at this;rw[List.getElem?_eq_getElem (by omega)] at this;cases hc:W.cells? 0 (a.add 0) 5 with
    | none=>rw[hc] at this; cases this
    | some c=>exact⟨c,rfl⟩
   ·have:=hi 0 e;simp only[Nat.zero_mul] at this;rw[List.getElem?_eq_getElem (by omega)] at this;cases hc:W.cells? 0 (a.add 0) 5 with
    | none=>rw[hc] at this; cases this
    | some c=>exact⟨c,rfl⟩
  obtain⟨c0,hc0⟩:=hb;obtain⟨_,hlen,hget⟩:=World.cells?_some hc0;have:=hget 0 (by omega);rw[List.getElem?_eq_getElem (by omega)] at this;have:=vJ_ this;simpa [Addr.add] using this
 have key:∀ k,k≤len→∃ (φ':List LI) (H':Hp) (ps:List PC) (T:List Pg),φ<+:φ'∧H<+:H'∧cq_ φ' H' W∧hb_ H'∧ps.length=k∧T.length=k∧(∀ i (h:i < ps.length) (h':i < T.length),(ps[i]).at H' T[i])∧
  ∀ j v,(cb_ ps)[j]? =some v→∃ x,W.cell? (a.add j)=some x∧v.is φ' x:=by
  intro k;induction k with
  | zero=>intro _; exact⟨φ,H,[],[],List.prefix_refl _,List.prefix_refl _,hr,hn,rfl,rfl,fun i h1=>(by simp at h1),fun j v hj=>(by simp [cb_] at hj)⟩
  | succ k ih=>
   intro hk;obtain⟨φ1,H1,ps,T,e1,g1,r1,n1,l1,l2,at1,c1⟩:=ih (by omega);have hik:=hi k (by omega);have hel':k < elems.length:=by omega
   rw[List.getElem?_eq_getElem hel'] at hik;cases hc:W.cells? 0 (a.add (k*5)) 5 with
   | none=>rw[hc] at hik; cases hik
   | some ck=>
    rw[hc] at hik;obtain⟨_,hlen,hget⟩:=World.cells?_some hc;obtain⟨φ2,H2,u,l,a1,n1',a2,n2,a3,n3,p,e2,g2,r2,n2',is2,at2⟩:=Bl_ (x:=elems[k]) hik (fun v hv=>by intro _ _ _ _; exact hpos) (qB_ hw1 (i:=k) (by rw[List.getElem?_map,List.getElem?_eq_getElem hel']; rfl)) r1 n1;obtain⟨hs,hb⟩:=hsp (by omega);refine⟨φ2,H2,ps++[⟨u,l,a1,n1',a2,n2,a3,n3⟩],T++[p],e1.trans e2,g1.trans g2,r2,n2',by simp [l1],by simp [l2],?_,?_⟩
    ·intro i h1 h2;rw[List.getElem_append,List.getElem_append];by_cases e:i < k
     ·rw[dif_pos (by omega),dif_pos (by omega)];exact (at1 i (by omega) (by omega)).mono g2
     ·rw[dif_neg (by omega),dif_neg (by omega)];simpa [PC.at] using at2
    ·intro j v hj;rw[iL_] at hj;rcases Nat.lt_or_ge j (k*5) with q | q
     ·rw[List.getElem?_append_left (by rw[db_]; omega)] at hj;obtain⟨x,x1,x2⟩:=c1 j v hj;exact⟨x,x1,GV.is.mono e2 x2⟩
     ·rw[List.getElem?_append_right (by rw[db_]; omega),db_,l1] at hj;have hj5:j - k*5 < 5:=by have:=(List.getElem?_eq_some_iff.1 hj).1; simpa [cb_] using this
      obtain⟨x,hx,hvx⟩:=Is2.get is2 (j:=j - k*5) (v:=v) (by simpa [cb_,PC.cells] using hj);refine⟨x,?_,hvx⟩;have:=hget (j - k*5) hj5;rw[hx] at this;rw[←this,lg_ hs,lg_ hs];rw[lg_ rfl];congr 2;show a.off+j=a.off+k*5+(j - k*5);omega
 obtain⟨φ1,H1,ps,T,e1,g1,r1,n1,l1,l2,at1,c1⟩:=key len (Nat.le_refl _);obtain⟨φ2,H2,p,e2,g2,r2,n2,i2,s2⟩:=si_ (z:=5) r1 n1 hl hpos hsp (cb_ ps) (by rw[db_,l1]) c1;refine⟨φ2,H2,p,len,ps,T,_,rfl,e1.trans e2,g1.trans g2,r2,n2,i2,⟨s2,l1,l2,fun i h1 h2=>(at1 i h1 h2).mono g2⟩,?_⟩;have hb:Tryz.prog.bytesOf 56=80:=by kernel_rfl
 simp only[decide_eq_true_eq,List.length_map,hb,hel] at hw0;unfold reachBytes at hw0;omega
set_option maxRecDepth 100000 in
theorem lY_ {fuel:Nat} {cs:List Value} {x:DataW Hh × List MemPlace} (h:DataW.trod enc Tryz.prog W 0 (fun _=>true) held fuel 24 cs=some x) (hz:∀ v∈cs,Zc W v) (hw:(DataW.weights Tryz.prog 24 x.1).all (· ≤reachBytes)=true)
 {φ:List LI} {H:Hp} (hr:cq_ φ H W) (hn:hb_ H):
 ∃ φ' H' a n ps T,φ<+:φ'∧H<+:H'∧cq_ φ' H' W∧hb_ H'∧Is2 φ' [.sl a n 5] cs∧Tr H' a n ps T∧n*80≤140737488351232:=by
 obtain⟨xs,n,rfl,rfl,hlen,hxs,hf⟩:=DataW.trod_struct Tryz.underlying24 h;have h1:Tryz.prog.cellsOf 24=1:=by kernel_rfl
 have c1:Tryz.prog.cellsOf 22=1:=by kernel_rfl
 rw[h1] at hlen
 match cs,hlen with
 | [v0],_=>
  have f0:DataW.trod enc Tryz.prog W 0 (fun _=>true) held n 22 (([v0].drop 0).take (Tryz.prog.cellsOf 22))=xs[0]? :=hf 0 _ rfl;simp only[c1,List.drop_zero,List.take_succ_cons,List.take_zero] at f0
  match xs,hxs with
  | [x0],_=>
   simp only[List.getElem?_cons_zero] at f0;simp only[List.map_cons,List.map_nil,DataW.weights,Tryz.underlying24] at hw;obtain⟨φ1,H1,a,m,ps,T,v,e,p1,q1,r1,o1,i1,s1,b1⟩:=xK_ f0 (fun v hv=>hz v hv) (g1_ hw (j:=0) rfl rfl) hr hn;simp only[List.cons.injEq,and_true] at e;subst e;exact⟨φ1,H1,a,m,ps,T,p1,q1,r1,o1,.cons i1 .nil,s1,b1⟩
end
end Go.Am
end
namespace Go.Am
structure gk_ {α β:Type} (ek:α→RV) (ev:β→RV) (H:Hp) (l:Nat) (ps:List (α × β)):Prop where
 ex:∃ es c,H[l]? =some (.map es c)∧es.map (fun e=>(e.2.1,e.2.2))=ps.map (fun p=>(ek p.1,ev p.2))∧(∀ e∈es,e.1 < c)∧(es.map (·.1)).Nodup
 nodup:(ps.map (·.1)).Nodup
structure uO_ {α:Type} (ag:Bool) (lv:List LK) (ek:α→RV):Prop where
 fit:∀ a,kD_ ag lv (ek a)=true
 inj:∀ a b,ek a=ek b→a=b
theorem xU_ {ag:Bool} {lv:List LK} {k k':RV} (h:kD_ ag lv k=true) (h':kD_ ag lv k'=true):∃ e,jh_ k.cells k'.cells=some e∧(e=true↔k=k'):=by
 cases ag with
 | false=>
  cases k with
  | a _=>cases h
  | s v=>cases k' with
   | a _=>cases h'
   | s v'=>
    obtain⟨e,he,hi⟩:=hT_ (a:=[v]) (b:=[v']) h h'
    exact⟨e,he,hi.trans ⟨fun q=>by cases q; rfl,fun q=>by cases q; rfl⟩⟩
 | true=>
  cases k with
  | s _=>cases h
  | a cs=>cases k' with
   | s _=>cases h'
   | a cs'=>
    obtain⟨e,he,hi⟩:=hT_ (a:=cs) (b:=cs') h h'
    exact⟨e,he,hi.trans ⟨fun q=>by cases q; rfl,fun q=>by cases q; rfl⟩⟩
section
variable {α β:Type} [DecidableEq α] {ek:α→RV} {ev:β→RV} {ag:Bool} {lv:List LK} {H:Hp} {l:Nat} {ps:List (α × β)}
def look (ps:List (α × β)) (k:α):Option β:=(ps.find? fun p=>decide (p.1=k)).map (·.2)
def f0_ (ps:List (α × β)) (k:α) (v:β):List (α × β):=match look ps k with
 | some _=>ps.map fun p=>if p.1=k then (k,v) else p
 | none=>ps++[(k,v)]
theorem x9_ (ok:uO_ ag lv ek) (k:α):∀ {es:List Ent} {ps:List (α × β)} (i:Nat),es.map (fun e=>(e.2.1,e.2.2))=ps.map (fun p=>(ek p.1,ev p.2))→
 (look ps k=none∧me_ ag lv (ek k) es i=some none∧∀ p∈ps,p.1≠k)∨∃ j v,look ps k=some v∧me_ ag lv (ek k) es i=some (some (i+j))∧ps[j]? =some (k,v)
 | [],[],i,_=> .inl ⟨rfl,rfl,by simp⟩
 | [],_::_,_,h=>by simp at h
 | _::_,[],_,h=>by simp at h
 | e::es,p::ps,i,h=>by
  simp only[List.map_cons,List.cons.injEq,Prod.mk.injEq] at h;obtain⟨⟨h1,h2⟩,h3⟩:=h;obtain⟨q,hq,hi⟩:=xU_ (ok.fit k) (ok.fit p.1);by_cases hk:p.1=k
  ·right;refine⟨0,p.2,by simp [look,hk],?_,by simp [←hk]⟩;have:q=true:=hi.2 (by rw[hk]);subst this;simp [me_,h1,ok.fit,hq]
  ·have hqf:q=false:=by
    cases q with
    | false=>rfl
    | true=>exact absurd (ok.inj _ _ (hi.1 rfl)).symm hk
   subst hqf;have hl:look (p::ps) k=look ps k:=by simp [look,hk]
   have hf:me_ ag lv (ek k) (e::es) i=me_ ag lv (ek k) es (i+1):=by simp [me_,h1,ok.fit,hq]
   rcases x9_ ok k (i+1) h3 with⟨a1,a2,a3⟩ | ⟨j,v,a1,a2,a3⟩
   ·exact .inl ⟨by rw[hl]; exact a1,by rw[hf]; exact a2,fun x hx=>by
     rcases List.mem_cons.1 hx with rfl | hx
     ·exact hk
     ·exact a3 x hx⟩
   ·exact .inr ⟨j+1,v,by rw[hl]; exact a1,by rw[hf,a2]; congr 2; omega,by simpa using a3⟩
end
section
variable {α β:Type} {ek:α→RV} {ev:β→RV} {ag:Bool} {lv:List LK} {H:Hp} {l:Nat} {ps:List (α × β)}
theorem Cx_ {es:List Ent} (h:es.map (fun e=>(e.2.1,e.2.2))=ps.map (fun p=>(ek p.1,ev p.2))) {j:Nat} {k:α} {v:β} (hj:ps[j]? =some (k,v)):∃ e,es[j]? =some e∧e.2.1=ek k∧e.2.2=ev v:=by
 have:=congrArg (fun l:List (RV × RV)=>l[j]?) h;simp only[List.getElem?_map,hj,Option.map_some] at this;cases he:es[j]? with
 | none=>rw[he] at this; simp at this
 | some e=>rw[he] at this; simp at this; exact⟨e,rfl,this.1,this.2⟩
end
section
variable {α β:Type} [DecidableEq α] {ek:α→RV} {ev:β→RV} {ag:Bool} {lv:List LK} {H:Hp} {l:Nat} {ps:List (α × β)}
theorem rG_ (ok:uO_ ag lv ek) (h:gk_ ek ev H l ps) (k:α) {z:RV} {K:RV→Bool→Prop} (h1:∀ v,look ps k=some v→K (ev v) true) (h2:look ps k=none→K z false):nB_ H (some l) ag lv (ek k) z K:=by
 obtain⟨es,c,hm,he,_,_⟩:=h.ex;unfold nB_;simp only[hm];rcases x9_ ok k 0 he with⟨a1,a2,_⟩ | ⟨j,v,a1,a2,a3⟩
 ·rw[a2]; exact h2 a1
 ·rw[a2];obtain⟨e,e1,e2,e3⟩:=Cx_ he a3;simp only[Nat.zero_add,e1,e3];exact h1 v a1
end
section
variable {α β:Type} {ek:α→RV} {ev:β→RV} {ag:Bool} {lv:List LK} {H:Hp} {l:Nat} {ps:List (α × β)}
theorem rx_ (h:gk_ ek ev H l ps) {K:Nat→Prop} (hK:K ps.length):pW_ H (some l) K:=by
 obtain⟨es,c,hm,he,_,_⟩:=h.ex;unfold pW_;simp only[hm];have:=congrArg List.length he;simp at this;rw[this]; exact hK
end
section
variable {α β:Type} [DecidableEq α] {ek:α→RV} {ev:β→RV} {ag:Bool} {lv:List LK} {H:Hp} {l:Nat} {ps:List (α × β)}
theorem dl_ {k:α} {v:β} (h:look ps k=some v):(k,v)∈ps:=by
 unfold look at h;cases hf:ps.find? fun p=>decide (p.1=k) with
 | none=>rw[hf] at h; cases h
 | some p=>
  rw[hf] at h; cases h;have h1:=List.find?_some hf;have h2:=List.mem_of_find?_eq_some hf;have:p.1=k:=by simpa using h1
  rw[←this]; exact h2
theorem lL_ {k:α} (h:look ps k=none):∀ p∈ps,p.1≠k:=by
 unfold look at h;rw[Option.map_eq_none_iff,List.find?_eq_none] at h;intro p hp; have:=h p hp; simpa using this
theorem lX_ (k:α) (v:β):(f0_ ps k v).map (·.1)=match look ps k with | some _=>ps.map (·.1) | none=>ps.map (·.1)++[k]:=by
 unfold f0_;cases look ps k with
 | none=>simp
 | some _=>
  simp only[List.map_map];apply List.map_congr_left;intro p _;simp only[Function.comp];split
  ·rename_i e; exact e.symm
  ·rfl
theorem of_ (ok:uO_ ag lv ek) (h:gk_ ek ev H l ps) (k:α) (v:β) {K:Hp→Prop} (hK:∀ H',H'.length=H.length→(∀ l',l'≠l→H'[l']? =H[l']?)→gk_ ek ev H' l (f0_ ps k v)→K H'):sf_ H (some l) ag lv (ek k) (ev v) K:=by
 obtain⟨es,c,hm,he,hb,hn⟩:=h.ex;have hlt:=(List.getElem?_eq_some_iff.1 hm).1;unfold sf_;simp only[hm];rcases x9_ ok k 0 he with⟨a1,a2,a3⟩ | ⟨j,v0,a1,a2,a3⟩
 ·rw[a2];refine hK _ (by simp) (fun l' hl=>by rw[List.getElem?_set_ne (Ne.symm hl)]) ⟨⟨es++[(c,ek k,ev v)],c+1,by rw[List.getElem?_set_self hlt],?_,?_,?_⟩,?_⟩
  ·unfold f0_; rw[a1]; simp [he]
  ·intro e hx;rcases List.mem_append.1 hx with q | q
   ·have:=hb e q; omega
   ·have:e=(c,ek k,ev v):=by simpa using q
    subst this; exact Nat.lt_succ_self _
  ·rw[List.map_append,List.nodup_append];refine⟨hn,by simp,fun a ha b hb' q=> ?_⟩;simp at hb';subst q; subst hb';obtain⟨e,he',e2⟩:=List.mem_map.1 ha;have:=hb e he'; omega
  ·rw[lX_,a1,List.nodup_append];refine⟨h.nodup,by simp,fun a ha b hb' q=> ?_⟩;simp at hb';subst q; subst hb';obtain⟨p,hp,e2⟩:=List.mem_map.1 ha;exact a3 p hp e2
 ·rw[a2];obtain⟨e,e1,e2,e3⟩:=Cx_ he a3;simp only[Nat.zero_add,e1];refine hK _ (by simp) (fun l' hl=>by rw[List.getElem?_set_ne (Ne.symm hl)]) ⟨⟨es.set j (e.1,e.2.1,ev v),c,by rw[List.getElem?_set_self hlt],?_,?_,?_⟩,?_⟩
  ·have hps:f0_ ps k v=ps.set j (k,v):=by
    unfold f0_; rw[a1];apply List.ext_getElem?;intro n;rw[List.getElem?_map,List.getElem?_set];by_cases hn':j=n
    ·subst hn';rw[a3]; simp [(List.getElem?_eq_some_iff.1 a3).1]
    ·rw[if_neg hn'];cases hx:ps[n]? with
     | none=>rfl
     | some p=>
      have hpk:p.1≠k:=fun q=>by
       have hj1:(ps.map (·.1))[j]? =some k:=by rw[List.getElem?_map,a3]; rfl
       have hn1:(ps.map (·.1))[n]? =some k:=by rw[List.getElem?_map,hx,Option.map_some,q]
       obtain⟨l1,e1⟩:=List.getElem?_eq_some_iff.1 hj1;obtain⟨l2,e2⟩:=List.getElem?_eq_some_iff.1 hn1;rcases Nat.lt_or_gt_of_ne hn' with g | g
       ·exact List.pairwise_iff_getElem.1 h.nodup j n l1 l2 g (by rw[e1,e2])
       ·exact List.pairwise_iff_getElem.1 h.nodup n j l2 l1 g (by rw[e1,e2])
      simp [hpk]
   rw[hps,List.map_set,List.map_set,he,e2]
  ·intro x hx;rcases List.mem_or_eq_of_mem_set hx with q | q
   ·exact hb x q
   ·rw[q]; exact hb e (List.mem_of_getElem? e1)
  ·rw[List.map_set];have:(es.map (·.1)).set j e.1=es.map (·.1):=by
    apply List.ext_getElem?;intro n;rw[List.getElem?_set];by_cases q:j=n
    ·subst q; rw[List.getElem?_map,e1]; simp [(List.getElem?_eq_some_iff.1 e1).1]
    ·simp [q]
   rw[this]; exact hn
  ·rw[lX_,a1]; exact h.nodup
end
end Go.Am
namespace Go.Am
structure fc_ {α β:Type} (ek:α→RV) (ev:β→RV) (H:Hp) (it l:Nat) (ps:List (α × β)) (js:List Nat):Prop where
 ex:∃ es c,H[l]? =some (.map es c)∧es.map (fun e=>(e.2.1,e.2.2))=ps.map (fun p=>(ek p.1,ev p.2))∧(∀ e∈es,e.1 < c)∧(es.map (·.1)).Nodup∧
  H[it]? =some (.iter (some l) c (js.map fun j=>((es[j]?).map (·.1)).getD 0) c)
 nod:js.Nodup
 lt:∀ j∈js,j < ps.length
section
variable {α β:Type} {ek:α→RV} {ev:β→RV} {H H':Hp} {it l:Nat} {ps:List (α × β)} {js:List Nat}
theorem gk_.keep (h:gk_ ek ev H l ps) (e:H'[l]? =H[l]?):gk_ ek ev H' l ps:=by
 obtain⟨es,c,hm,r⟩:=h.ex;exact⟨⟨es,c,by rw[e]; exact hm,r⟩,h.nodup⟩
theorem gk_.lt (h:gk_ ek ev H l ps):l < H.length:=by
 obtain⟨es,c,hm,_⟩:=h.ex;exact (List.getElem?_eq_some_iff.1 hm).1
theorem fc_.keep (h:fc_ ek ev H it l ps js) (e1:H'[l]? =H[l]?) (e2:H'[it]? =H[it]?):fc_ ek ev H' it l ps js:=by
 obtain⟨es,c,h1,h2,h3,h4,h5⟩:=h.ex;exact⟨⟨es,c,by rw[e1]; exact h1,h2,h3,h4,by rw[e2]; exact h5⟩,h.nod,h.lt⟩
theorem fc_.map (h:fc_ ek ev H it l ps js) (hn:(ps.map (·.1)).Nodup):gk_ ek ev H l ps:=by
 obtain⟨es,c,h1,h2,h3,h4,_⟩:=h.ex;exact⟨⟨es,c,h1,h2,h3,h4⟩,hn⟩
theorem vp_ (h:gk_ ek ev H l ps) {K:Hp→Prop} (hK:∀ o,fc_ ek ev (H++[o]) H.length l ps []→K (H++[o])):rng H (some l) K:=by
 obtain⟨es,c,hm,h2,h3,h4⟩:=h.ex;have hlt:=h.lt;unfold rng;simp only[hm];exact hK _ ⟨⟨es,c,by rw[List.getElem?_append_left hlt]; exact hm,h2,h3,h4,by rw[List.getElem?_concat_length]; rfl⟩,List.nodup_nil,fun j hj=>by cases hj⟩
theorem xo_ {es:List Ent} (h:es.map (fun e=>(e.2.1,e.2.2))=ps.map (fun p=>(ek p.1,ev p.2))):es.length=ps.length:=by
 have:=congrArg List.length h; simpa using this
theorem ze_ {es:List Ent} (h:es.map (fun e=>(e.2.1,e.2.2))=ps.map (fun p=>(ek p.1,ev p.2))) {j:Nat} (hj:j < ps.length) (he:j < es.length):es[j].2.1=ek ps[j].1∧es[j].2.2=ev ps[j].2:=by
 have:=congrArg (fun l:List (RV × RV)=>l[j]?) h;simp only[List.getElem?_map,List.getElem?_eq_getElem hj,List.getElem?_eq_getElem he,Option.map_some,Option.some.injEq,Prod.mk.injEq] at this;exact this
theorem Ag_ {es:List Ent} (hn:(es.map (·.1)).Nodup) {i j:Nat} (hi:i < es.length) (hj:j < es.length) (h:es[i].1=es[j].1):i=j:=by
 rcases Nat.lt_trichotomy i j with g | g | g
 ·exact absurd (by rw[List.getElem_map,List.getElem_map]; exact h) (List.pairwise_iff_getElem.1 hn i j (by simpa using hi) (by simpa using hj) g)
 ·exact g
 ·exact absurd (by rw[List.getElem_map,List.getElem_map]; exact h.symm) (List.pairwise_iff_getElem.1 hn j i (by simpa using hj) (by simpa using hi) g)
theorem vR_ (h:fc_ ek ev H it l ps js) (hne:it≠l) {K1:RV→RV→Hp→Prop} {K2:Hp→Prop}
 (h1:∀ j (hj:j < ps.length),j∉js→∀ H',H'.length=H.length→(∀ l',l'≠it→H'[l']? =H[l']?)→fc_ ek ev H' it l ps (js++[j])→K1 (ek ps[j].1) (ev ps[j].2) H')
 (h2:js.Perm (List.range ps.length)→K2 H):nxt H it 0 K1 K2:=by
 obtain⟨es,c,hm,he,hb,hn,hit⟩:=h.ex;have hl:=xo_ he;have hlt:=(List.getElem?_eq_some_iff.1 hit).1;have born:∀ j (hj:j < es.length),((es[j]?).map (·.1)).getD 0=es[j].1:=fun j hj=>by simp [List.getElem?_eq_getElem hj]
 refine⟨rfl,?_⟩;simp only[hit,hm];refine⟨?_,fun e hmem hns=> ?_,fun hall=> ?_⟩
 ·cases es with
  | nil=>exact .inr (.inl rfl)
  | cons e es=>exact .inr (.inr ⟨e,by simp,hb e (by simp)⟩)
 ·obtain⟨j,hj,rfl⟩:=List.getElem_of_mem hmem;have hjs:j∉js:=fun q=>hns (List.mem_map.2 ⟨j,q,born j hj⟩);obtain⟨e1,e2⟩:=ze_ he (by omega) hj;rw[e1,e2];refine h1 j (by omega) hjs _ (by simp) (fun l' hl'=>by rw[List.getElem?_set_ne (Ne.symm hl')]) ⟨⟨es,c,by rw[List.getElem?_set_ne hne]; exact hm,he,hb,hn,?_⟩,?_,?_⟩
  ·rw[List.getElem?_set_self hlt,List.map_append,List.map_singleton,born j hj]
  ·rw[List.nodup_append];exact⟨h.nod,by simp,fun a ha b hb' q=>by simp at hb'; subst q; subst hb'; exact hjs ha⟩
  ·intro i hi;rcases List.mem_append.1 hi with q | q
   ·exact h.lt i q
   ·have:i=j:=by simpa using q
    omega
 ·refine h2 ((List.perm_ext_iff_of_nodup h.nod List.nodup_range).2 fun j=>⟨fun q=>List.mem_range.2 (h.lt j q),fun q=> ?_⟩);have hj:j < es.length:=by have:=List.mem_range.1 q; omega
  have hmem:es[j].1∈js.map fun j=>((es[j]?).map (·.1)).getD 0:=by
   refine Decidable.byContradiction fun z=> ?_;have h1:=hall es[j] (List.getElem_mem hj) z;have h2:=hb es[j] (List.getElem_mem hj);omega
  obtain⟨i,hi,e⟩:=List.mem_map.1 hmem;have hi':i < es.length:=by have:=h.lt i hi; omega
  rw[born i hi'] at e;rw[←Ag_ hn hi' hj e]; exact hi
theorem rC_ {j:Nat} (h:fc_ ek ev H it l ps (js++[j])) (hj:j < ps.length) {K:RV→RV→Prop} (hK:K (ek ps[j].1) (ev ps[j].2)):vi_ H it 0 K:=by
 obtain⟨es,c,hm,he,hb,hn,hit⟩:=h.ex;have hl:=xo_ he;have hj':j < es.length:=by omega
 refine⟨rfl,?_⟩;simp only[hit,hm,List.map_append,List.map_singleton,List.getLast?_concat,List.getElem?_eq_getElem hj',Option.map_some,Option.getD_some];have hf:es.find? (fun e=>e.1==es[j].1)=some es[j]:=by
  have:∀ {l:List Ent},(l.map (·.1)).Nodup→∀ e∈l,l.find? (fun x=>x.1==e.1)=some e:=by
   intro l;induction l with
   | nil=>intro _ e he; cases he
   | cons x l ih=>
    intro hn e he;rw[List.map_cons,List.nodup_cons] at hn;rw[List.find?_cons];rcases List.mem_cons.1 he with rfl | he
    ·simp
    ·have:(x.1==e.1)=false:=by
      rw[beq_eq_false_iff_ne];intro q;exact hn.1 (List.mem_map.2 ⟨e,he,q.symm⟩)
     rw[this]; exact ih hn.2 e he
  exact this hn _ (List.getElem_mem hj')
 obtain⟨e1,e2⟩:=ze_ he hj hj';simp only[hf,e1,e2];exact⟨trivial,hK⟩
end
end Go.Am
namespace Go.Am
def qJ_ (n:Int):Bool:=(leI 97 n&&leI n 122)||(leI 48 n&&leI n 57)
def hO_ (s:ByteArray):Nat→Bool
 | 0=>true
 | i+1=>hO_ s i&&qJ_ (byt s i)
def bm_ (s:ByteArray) (m:Int):Bool:=hO_ s s.size&&(leI 1 (sz s)&&leI (sz s) m)
theorem iG_ {s:ByteArray} {i:Nat} (h:qJ_ (byt s i)=false):∀ n,i < n→hO_ s n=false
 | 0,hn=>by omega
 | n+1,hn=>by
  rcases Nat.lt_or_ge i n with q | q
  ·simp [hO_,iG_ h n q]
  ·obtain rfl:i=n:=by omega
   simp [hO_,h]
section
variable {H:Hp} {Q:Post} {s:ByteArray}
theorem iU_:s=mkS []↔s.size=0:=by
 constructor
 ·intro h; rw[h]; rfl
 ·intro h;have:bs s=[]:=List.length_eq_zero_iff.1 (by rw[cp_]; exact h);exact hA_ (by rw[this]; rfl)
theorem mt_ {m:Int} (hs:s.size≤140737488351232) (hQ:Q (.g (.bool (bm_ s m))) H):cB_ [.g (.str s),.g (.int .i64 m)] H Q:=by
 refine⟨s.size+2,?_⟩;rw[w0_];have loop:∀ (f i:Nat),s.size - i < f→i≤s.size→hO_ s i=true→cB_.l2 f s m (sz s) (i:Int) H Q:=by
  intro f;induction f with
  | zero=>intro i h; omega
  | succ f ih=>
   intro i hf hi hw;rw[cB_.l2_eq];rcases Nat.lt_or_ge i s.size with hi' | hi'
   ·rw[aQ_ (by simp [ij_]; omega)];refine ab_ (by simp [ij_]; omega) ?_;have etN:tN (i:Int)=i:=rfl;rw[etN,ar_ (by omega)];have nx:qJ_ (byt s i)=true→cB_.l2 f s m (sz s) ((i+1:Nat):Int) H Q:=fun h=>ih (i+1) (by omega) (by omega) (by simp [hO_,hw,h]);have no:qJ_ (byt s i)=false→Q (.g (.bool false)) H:=fun h=>by
     have:bm_ s m=false:=by unfold bm_; rw[iG_ h _ hi']; rfl
     rw[←this]; exact hQ
    generalize byt s i=b at*;refine aa_ (fun e1=>aa_ (fun e2=>no ?_) (fun e2=>aa_ (fun e3=>no ?_) (fun e3=>nx ?_))) (fun e1=>aa_ (fun e2=>aa_ (fun e3=>no ?_) (fun e3=>aa_ (fun e4=>no ?_) (fun e4=>nx ?_))) (fun e2=>nx ?_))<;>
     simp [qJ_] at* <;>omega
   ·obtain rfl:i=s.size:=by omega
    rw[aL_ (by simp [ij_])];unfold bm_ at hQ;rw[hw,Bool.true_and] at hQ;refine aa_ (fun e=> ?_) (fun e=> ?_)
    ·have h0:s.size≠0:=fun z=>by rw[iU_.2 z] at e; simp at e
     rw[show leI 1 (sz s)=true by simp [ij_]; omega,Bool.true_and] at hQ;exact hQ
    ·have h0:s.size=0:=iU_.1 (by simpa using e);rw[show leI 1 (sz s)=false by simp [ij_]; omega,Bool.false_and] at hQ;exact hQ
 exact loop _ 0 (by omega) (Nat.zero_le _) rfl
theorem j0_ {m:Int} (hs:s.size≤140737488351232) (hQ:Q (.g (.bool (bm_ s m))) H):bX_ [.g (.str s),.g (.int .i64 m)] H Q:=by
 refine⟨s.size+2,?_⟩;rw[tO_];have loop:∀ (f i:Nat),s.size - i < f→i≤s.size→hO_ s i=true→bX_.l2 f s m (i:Int) H Q:=by
  intro f;induction f with
  | zero=>intro i h; omega
  | succ f ih=>
   intro i hf hi hw;rw[bX_.l2_eq];rcases Nat.lt_or_ge i s.size with hi' | hi'
   ·rw[aQ_ (by simp [ij_]; omega)];have hck:(leI 0 (i:Int)&&ltI (i:Int) (sz s))=true:=by simp [ij_]; omega
    rw[hck];simp only[am_];have etN:tN (i:Int)=i:=rfl;rw[etN,ar_ (by omega)];have nx:qJ_ (byt s i)=true→bX_.l2 f s m ((i+1:Nat):Int) H Q:=fun h=>ih (i+1) (by omega) (by omega) (by simp [hO_,hw,h]);have no:qJ_ (byt s i)=false→Q (.g (.bool false)) H:=fun h=>by
     have:bm_ s m=false:=by unfold bm_; rw[iG_ h _ hi']; rfl
     rw[←this]; exact hQ
    generalize byt s i=b at*;refine aa_ (fun e1=>aa_ (fun e2=>nx ?_) (fun e2=>aa_ (fun e3=>aa_ (fun e4=>no ?_) (fun e4=>nx ?_)) (fun e3=>no ?_))) (fun e1=>aa_ (fun e3=>aa_ (fun e4=>no ?_) (fun e4=>nx ?_)) (fun e3=>no ?_))<;>
     simp [qJ_] at* <;>omega
   ·obtain rfl:i=s.size:=by omega
    rw[aL_ (by simp [ij_])];unfold bm_ at hQ;rw[hw,Bool.true_and] at hQ;refine aa_ (fun e=> ?_) (fun e=> ?_)
    ·rw[e,Bool.true_and] at hQ; exact hQ
    ·rw[e,Bool.false_and] at hQ; exact hQ
 exact loop _ 0 (by omega) (Nat.zero_le _) rfl
end
end Go.Am
namespace Go.Am
theorem cR_ {b:Bool} (h:(!b)=true):b=false:=by cases b<;>simp_all
theorem c7_ {b:Bool} (h:(!b)=false):b=true:=by cases b<;>simp_all
theorem i7_ (s:ByteArray) (l h:Nat):(sub s l h).size≤s.size:=by
 unfold sub;rw[ByteArray.size_extract]; omega
theorem iK_ (s:ByteArray) (j:Nat):0≤byt s j∧byt s j≤255:=by
 unfold byt;have:((s.data.toList.getD j 0).toNat) < 256:=UInt8.toNat_lt _;omega
theorem eb_ (s:ByteArray) (j:Nat):ad_ .i64 (byt s j)=byt s j:=by
 have:=iK_ s j;exact cJ_ (by omega) (by omega)
def bZ_ (s:ByteArray):Option ByteArray:=match leI 1 (sz s)&&(eqI (byt s 0) 115&&bm_ (sub s 1 s.size) 4) with | true=>some (sub s 1 s.size) | false=>none
def bM_ (s:ByteArray):Option (Int × ByteArray):=match leI 2 (sz s)&&(eqI (byt s 0) 102&&(leI 1 (byt s 1)&&bm_ (sub s 2 s.size) 3)) with | true=>some (byt s 1,sub s 2 s.size) | false=>none
def ct_ (s:ByteArray):Option Int:=match eqI (sz s) 2&&(eqI (byt s 0) 105&&leI 1 (byt s 1)) with | true=>some (byt s 1) | false=>none
structure SnapR where
 id:Int
 kind:Int
 parent:ByteArray
 label:ByteArray
 deriving DecidableEq
structure InoR where
 links:Int
 content:ByteArray
 deriving DecidableEq
def SnapR.cells (x:SnapR):List GV:=[.int .i64 x.id,.int .i64 x.kind,.str x.parent,.str x.label]
def InoR.cells (x:InoR):List GV:=[.int .i64 x.links,.str x.content]
def iy_:SnapR:=⟨0,0,mkS [],mkS []⟩
def tX_:InoR:=⟨0,mkS []⟩
def eR_ (x:SnapR):Bool:=(leI 1 x.id&&leI x.id 255)&&((leI 0 x.kind&&leI x.kind 2)&&((co_ x.parent (mkS [])||bm_ x.parent 4)&&leI (sz x.label) 3))
def d8_ (x:InoR):Bool:=(leI 1 x.links&&leI x.links 255)&&leI (sz x.content) 6
def kG_ (s:ByteArray):SnapR:=⟨byt s 0,byt s 1,sub s 3 (tN (3+byt s 2)),sub s (tN (3+byt s 2)) s.size⟩
def qx_ (s:ByteArray):InoR:=⟨byt s 0,sub s 1 s.size⟩
def bu_ (s:ByteArray):Option SnapR:=match leI 3 (sz s)&&(leI (3+byt s 2) (sz s)&&eR_ (kG_ s)) with | true=>some (kG_ s) | false=>none
def cl_ (s:ByteArray):Option InoR:=match leI 1 (sz s)&&d8_ (qx_ s) with | true=>some (qx_ s) | false=>none
def DG_ (o:Option SnapR):Int:=match o with | some _=>0 | none=>1700
def DC_ (o:Option InoR):Int:=match o with | some _=>0 | none=>1800
section
variable {H:Hp} {Q:Post} {s:ByteArray}
theorem fZ_ (hs:s.size≤140737488351232) (hQ:Q (.g (.bool (bm_ s 4))) H):c0_ [.g (.str s)] H Q:=by
 refine⟨1,?_⟩;rw[tT_];refine mt_ hs ?_;simp only[aK_,al_]; exact hQ
theorem j5_ (hs:s.size≤140737488351232) (hQ:Q (.g (.bool (bm_ s 3))) H):eu_ [.g (.str s)] H Q:=by
 refine⟨1,?_⟩;rw[ue_];refine mt_ hs ?_;simp only[aK_,al_]; exact hQ
theorem bR_ (hs:s.size≤140737488351232) (hQ:Q (.g (.bool (bm_ s 4))) H):bb_ [.g (.str s)] H Q:=by
 refine⟨1,?_⟩;rw[oZ_];refine j0_ hs ?_;simp only[aK_,al_]; exact hQ
theorem eO_ (hs:s.size≤140737488351232) (hQ:Q (.g (.bool (bm_ s 3))) H):bY_ [.g (.str s)] H Q:=by
 refine⟨1,?_⟩;rw[pw_];refine j0_ hs ?_;simp only[aK_,al_]; exact hQ
theorem is_ {n:Int} (hQ:Q (.g (.bool (leI 1 n&&leI n 255))) H):gu_ [.g (.int .i64 n)] H Q:=by
 refine⟨1,?_⟩;rw[zH_];refine aa_ (fun e=> ?_) (fun e=> ?_)
 ·rw[e,Bool.true_and] at hQ; exact hQ
 ·rw[e,Bool.false_and] at hQ; exact hQ
theorem fM_ {n:Int} (hQ:Q (.g (.bool (leI 1 n&&leI n 255))) H):cy_ [.g (.int .i64 n)] H Q:=by
 refine⟨1,?_⟩;rw[te_];refine aa_ (fun e=> ?_) (fun e=> ?_)
 ·rw[e,Bool.true_and] at hQ; exact hQ
 ·rw[e,Bool.false_and] at hQ; exact hQ
theorem k1_ {p n:Int} (hn:1≤n) (hQ:Q (.g (.bool (leI n (sz s)&&eqI (byt s 0) p))) H):hv_ [.g (.str s),.g (.int .u8 p),.g (.int .i64 n)] H Q:=by
 refine⟨1,?_⟩;rw[zN_];refine aa_ (fun e=> ?_) (fun e=> ?_)
 ·rw[e,Bool.true_and] at hQ;refine ab_ (by simp at e ⊢; omega) ?_;exact hQ
 ·rw[e,Bool.false_and] at hQ; exact hQ
theorem tU_ (hs:s.size≤140737488351232) (hQ:Q (.tup [.s (.str ((bZ_ s).getD (mkS []))),.s (.bool (bZ_ s).isSome)]) H):hd_ [.g (.str s)] H Q:=by
 have hz:=i7_ s 1 s.size;refine⟨1,?_⟩;rw[wL_];refine k1_ (by omega) ?_;simp only[aK_,al_];refine aa_ (fun e=> ?_) (fun e=> ?_)
 ·have:bZ_ s=none:=by unfold bZ_; rw[←Bool.and_assoc,cR_ e]; rfl
  rw[this] at hQ; exact hQ
 ·have e':(leI 1 (sz s)&&eqI (byt s 0) 115)=true:=by simpa using e
  have h1:1≤s.size:=by simp at e'; omega
  refine ab_ (by simp; omega) ?_;refine fZ_ (Nat.le_trans hz hs) ?_;simp only[aK_,al_];refine aa_ (fun e2=> ?_) (fun e2=> ?_)
  ·have:bZ_ s=none:=by unfold bZ_; rw[←Bool.and_assoc,e',show bm_ (sub s 1 s.size) 4=false by simpa using e2]; rfl
   rw[this] at hQ; exact hQ
  ·have:bZ_ s=some (sub s 1 s.size):=by unfold bZ_; rw[←Bool.and_assoc,e',show bm_ (sub s 1 s.size) 4=true by simpa using e2]; rfl
   rw[this] at hQ;refine ab_ (by simp; omega) ?_;exact hQ
theorem nD_ (hs:s.size≤140737488351232) (hQ:Q (.tup [.s (.str ((bZ_ s).getD (mkS []))),.s (.bool (bZ_ s).isSome)]) H):ej_ [.g (.str s)] H Q:=by
 have hz:=i7_ s 1 s.size;refine⟨1,?_⟩;rw[rm_];refine aa_ (fun e=> ?_) (fun e=> ?_)
 ·have:bZ_ s=none:=by unfold bZ_; rw[show leI 1 (sz s)=false by simp at e ⊢; omega]; rfl
  rw[this] at hQ; exact hQ
 ·have h1:1≤s.size:=by simp at e; omega
  have e0:leI 1 (sz s)=true:=by simp; omega
  refine ab_ (by simp; omega) ?_;refine aa_ (fun e1=> ?_) (fun e1=> ?_)
  ·have:bZ_ s=none:=by unfold bZ_; rw[show eqI (byt s 0) 115=false by simpa using e1,e0]; rfl
   rw[this] at hQ; exact hQ
  have e1':eqI (byt s 0) 115=true:=by simpa using e1
  refine ab_ (by simp; omega) ?_;refine bR_ (Nat.le_trans hz hs) ?_;simp only[aK_,al_];refine aa_ (fun e2=> ?_) (fun e2=> ?_)
  ·have:bZ_ s=none:=by unfold bZ_; rw[e0,e1',show bm_ (sub s 1 s.size) 4=false by simpa using e2]; rfl
   rw[this] at hQ; exact hQ
  ·have:bZ_ s=some (sub s 1 s.size):=by unfold bZ_; rw[e0,e1',show bm_ (sub s 1 s.size) 4=true by simpa using e2]; rfl
   rw[this] at hQ;refine ab_ (by simp; omega) ?_;exact hQ
theorem uf_ (hs:s.size≤140737488351232) (hQ:Q (.tup [.s (.int .i64 ((bM_ s).map (·.1) |>.getD 0)),.s (.str ((bM_ s).map (·.2) |>.getD (mkS []))),.s (.bool (bM_ s).isSome)]) H):hf_ [.g (.str s)] H Q:=by
 have hz:=i7_ s 2 s.size;refine⟨1,?_⟩;rw[wl_];refine k1_ (by omega) ?_;simp only[aK_,al_];refine aa_ (fun e=> ?_) (fun e=> ?_)
 ·have:bM_ s=none:=by unfold bM_; rw[←Bool.and_assoc,cR_ e]; rfl
  rw[this] at hQ; exact hQ
 ·have e':(leI 2 (sz s)&&eqI (byt s 0) 102)=true:=by simpa using e
  have h1:2≤s.size:=by simp at e'; omega
  have hb:=iK_ s 1;refine ab_ (by simp; omega) ?_;refine is_ ?_;simp only[aK_,al_];rw[show tN 1=1 from rfl,eb_];refine aa_ (fun e2=> ?_) (fun e2=> ?_)
  ·have:bM_ s=none:=by unfold bM_; rw[←Bool.and_assoc,e',show leI 1 (byt s 1)=false by simp at e2 ⊢; omega]; rfl
   rw[this] at hQ; exact hQ
  ·have e3:leI 1 (byt s 1)=true:=by simp at e2 ⊢; omega
   refine ab_ (by simp; omega) ?_;refine j5_ (Nat.le_trans hz hs) ?_;simp only[aK_,al_];refine aa_ (fun e4=> ?_) (fun e4=> ?_)
   ·have:bM_ s=none:=by unfold bM_; rw[←Bool.and_assoc,e',e3,show bm_ (sub s 2 s.size) 3=false by simpa using e4]; rfl
    rw[this] at hQ; exact hQ
   ·have:bM_ s=some (byt s 1,sub s 2 s.size):=by unfold bM_; rw[←Bool.and_assoc,e',e3,show bm_ (sub s 2 s.size) 3=true by simpa using e4]; rfl
    rw[this] at hQ;exact ab_ (by simp; omega) (ab_ (by simp; omega) hQ)
theorem nZ_ (hs:s.size≤140737488351232) (hQ:Q (.tup [.s (.int .i64 ((bM_ s).map (·.1) |>.getD 0)),.s (.str ((bM_ s).map (·.2) |>.getD (mkS []))),.s (.bool (bM_ s).isSome)]) H):em_ [.g (.str s)] H Q:=by
 have hz:=i7_ s 2 s.size;have hb:=iK_ s 1;refine⟨1,?_⟩;rw[rp_];refine aa_ (fun e=> ?_) (fun e=> ?_)
 ·have:bM_ s=none:=by unfold bM_; rw[show leI 2 (sz s)=false by simp at e ⊢; omega]; rfl
  rw[this] at hQ; exact hQ
 ·have h1:2≤s.size:=by simp at e; omega
  have e0:leI 2 (sz s)=true:=by simp; omega
  refine ab_ (by simp; omega) ?_;refine aa_ (fun e1=> ?_) (fun e1=> ?_)
  ·have:bM_ s=none:=by unfold bM_; rw[show eqI (byt s 0) 102=false by simpa using e1,e0]; rfl
   rw[this] at hQ; exact hQ
  have e1':eqI (byt s 0) 102=true:=by simpa using e1
  refine ab_ (by simp; omega) ?_;rw[show tN 1=1 from rfl,eb_];refine aa_ (fun e2=> ?_) (fun e2=> ?_)
  ·have:bM_ s=none:=by unfold bM_; rw[e0,e1',show leI 1 (byt s 1)=false by simp at e2 ⊢; omega]; rfl
   rw[this] at hQ; exact hQ
  ·have e3:leI 1 (byt s 1)=true:=by simp at e2 ⊢; omega
   refine ab_ (by simp; omega) ?_;refine eO_ (Nat.le_trans hz hs) ?_;simp only[aK_,al_];refine aa_ (fun e4=> ?_) (fun e4=> ?_)
   ·have:bM_ s=none:=by unfold bM_; rw[e0,e1',e3,show bm_ (sub s 2 s.size) 3=false by simpa using e4]; rfl
    rw[this] at hQ; exact hQ
   ·have:bM_ s=some (byt s 1,sub s 2 s.size):=by unfold bM_; rw[e0,e1',e3,show bm_ (sub s 2 s.size) 3=true by simpa using e4]; rfl
    rw[this] at hQ;exact ab_ (by simp; omega) (ab_ (by simp; omega) hQ)
theorem qS_ (hQ:Q (.tup [.s (.int .i64 ((ct_ s).getD 0)),.s (.bool (ct_ s).isSome)]) H):fs_ [.g (.str s)] H Q:=by
 have hb:=iK_ s 1;refine⟨1,?_⟩;rw[t8_];refine k1_ (by omega) ?_;simp only[aK_,al_];refine aa_ (fun e=> ?_) (fun e=> ?_)
 ·have:ct_ s=none:=by
   unfold ct_;have:(eqI (sz s) 2&&(eqI (byt s 0) 105&&leI 1 (byt s 1)))=false:=by
    cases h:(eqI (sz s) 2&&(eqI (byt s 0) 105&&leI 1 (byt s 1))) with
    | false=>rfl
    | true=>simp at h e; omega
   rw[this]
  rw[this] at hQ; exact hQ
 ·have e':(leI 2 (sz s)&&eqI (byt s 0) 105)=true:=by simpa using e
  have e1:eqI (byt s 0) 105=true:=by simp at e' ⊢; exact e'.2
  refine aa_ (fun e2=> ?_) (fun e2=> ?_)
  ·have:ct_ s=none:=by unfold ct_; rw[show eqI (sz s) 2=false by simpa using e2]; rfl
   rw[this] at hQ; exact hQ
  ·have e2':eqI (sz s) 2=true:=by simpa using e2
   have h2:s.size=2:=by simp at e2'; omega
   refine ab_ (by simp; omega) ?_;refine is_ ?_;simp only[aK_,al_];rw[show tN 1=1 from rfl,eb_];refine aa_ (fun e3=> ?_) (fun e3=> ?_)
   ·have:ct_ s=none:=by unfold ct_; rw[e2',e1,show leI 1 (byt s 1)=false by simp at e3 ⊢; omega]; rfl
    rw[this] at hQ; exact hQ
   ·have:ct_ s=some (byt s 1):=by unfold ct_; rw[e2',e1,show leI 1 (byt s 1)=true by simp at e3 ⊢; omega]; rfl
    rw[this] at hQ;exact ab_ (by simp; omega) hQ
theorem l8_ (hQ:Q (.tup [.s (.int .i64 ((ct_ s).getD 0)),.s (.bool (ct_ s).isSome)]) H):dj_ [.g (.str s)] H Q:=by
 have hb:=iK_ s 1;refine⟨1,?_⟩;rw[on_];refine aa_ (fun e2=> ?_) (fun e2=> ?_)
 ·have:ct_ s=none:=by unfold ct_; rw[show eqI (sz s) 2=false by simpa using e2]; rfl
  rw[this] at hQ; exact hQ
 ·have e2':eqI (sz s) 2=true:=by simpa using e2
  have h2:s.size=2:=by simp at e2'; omega
  refine ab_ (by simp; omega) ?_;refine aa_ (fun e1=> ?_) (fun e1=> ?_)
  ·have:ct_ s=none:=by unfold ct_; rw[e2',show eqI (byt s 0) 105=false by simpa using e1]; rfl
   rw[this] at hQ; exact hQ
  have e1':eqI (byt s 0) 105=true:=by simpa using e1
  refine ab_ (by simp; omega) ?_;rw[show tN 1=1 from rfl,eb_];refine aa_ (fun e3=> ?_) (fun e3=> ?_)
  ·have:ct_ s=none:=by unfold ct_; rw[e2',e1',show leI 1 (byt s 1)=false by simp at e3 ⊢; omega]; rfl
   rw[this] at hQ; exact hQ
  ·have:ct_ s=some (byt s 1):=by unfold ct_; rw[e2',e1',show leI 1 (byt s 1)=true by simp at e3 ⊢; omega]; rfl
   rw[this] at hQ;exact ab_ (by simp; omega) hQ
end
end Go.Am
namespace Go.Am
section
variable {H:Hp} {Q:Post} {s:ByteArray}
theorem kw_ {n:Int} (hQ:Q (.g (.bool (leI 0 n&&leI n 2))) H):e2_ [.g (.int .i64 n)] H Q:=by
 refine⟨1,?_⟩;rw[vr_];refine aa_ (fun e=> ?_) (fun e=> ?_)
 ·rw[e,Bool.true_and] at hQ; exact hQ
 ·rw[e,Bool.false_and] at hQ; exact hQ
theorem hu_ (hQ:Q (.g (.bool (leI (sz s) 3))) H):dZ_ [.g (.str s)] H Q:=⟨1,by rw[tW_]; exact hQ⟩
theorem il_ (hQ:Q (.g (.bool (leI (sz s) 6))) H):cU_ [.g (.str s)] H Q:=⟨1,by rw[pS_]; exact hQ⟩
theorem tL_ {x:SnapR} (hs:x.parent.size≤140737488351232) (hQ:Q (.g (.bool (eR_ x))) H):hq_ [.agg [.int .i64 x.id,.int .i64 x.kind,.str x.parent,.str x.label]] H Q:=by
 refine⟨1,?_⟩;rw[wf_];unfold eR_ at hQ;refine is_ ?_;simp only[aK_,al_];refine aa_ (fun e1=> ?_) (fun e1=> ?_)
 rotate_left
 ·rw[e1,Bool.false_and] at hQ; exact hQ
 rw[e1,Bool.true_and] at hQ;refine kw_ ?_;simp only[aK_,al_];refine aa_ (fun e2=> ?_) (fun e2=> ?_)
 rotate_left
 ·rw[e2,Bool.false_and] at hQ; exact hQ
 rw[e2,Bool.true_and] at hQ;refine aa_ (fun e3=> ?_) (fun e3=> ?_)
 ·rw[e3,Bool.true_or,Bool.true_and] at hQ;refine hu_ ?_;simp only[aK_,al_];exact hQ
 ·rw[e3,Bool.false_or] at hQ;refine fZ_ hs ?_;simp only[aK_,al_];refine aa_ (fun e4=> ?_) (fun e4=> ?_)
  ·rw[e4,Bool.true_and] at hQ;refine hu_ ?_;simp only[aK_,al_];exact hQ
  ·rw[e4,Bool.false_and] at hQ; exact hQ
theorem h3_ {x:SnapR} (hs:x.parent.size≤140737488351232) (hQ:Q (.g (.bool (eR_ x))) H):cT_ [.agg [.int .i64 x.id,.int .i64 x.kind,.str x.parent,.str x.label]] H Q:=by
 refine⟨1,?_⟩;rw[oU_];unfold eR_ at hQ;refine fM_ ?_;simp only[aK_,al_];refine aa_ (fun e1=> ?_) (fun e1=> ?_)
 rotate_left
 ·rw[e1,Bool.false_and] at hQ; exact hQ
 rw[e1,Bool.true_and] at hQ;refine aa_ (fun e2=> ?_) (fun e2=> ?_)
 rotate_left
 ·rw[e2,Bool.false_and,Bool.false_and] at hQ; exact hQ
 refine aa_ (fun e5=> ?_) (fun e5=> ?_)
 rotate_left
 ·rw[e5,Bool.and_false,Bool.false_and] at hQ; exact hQ
 rw[e2,e5,Bool.true_and,Bool.true_and] at hQ;refine aa_ (fun e3=> ?_) (fun e3=> ?_)
 ·rw[e3,Bool.true_or,Bool.true_and] at hQ;exact hQ
 ·rw[e3,Bool.false_or] at hQ;refine bR_ hs ?_;simp only[aK_,al_];refine aa_ (fun e4=> ?_) (fun e4=> ?_)
  ·rw[e4,Bool.true_and] at hQ;exact hQ
  ·rw[e4,Bool.false_and] at hQ; exact hQ
theorem r2_ {x:InoR} (hQ:Q (.g (.bool (d8_ x))) H):f5_ [.agg [.int .i64 x.links,.str x.content]] H Q:=by
 refine⟨1,?_⟩;rw[vg_];unfold d8_ at hQ;refine is_ ?_;simp only[aK_,al_];refine aa_ (fun e1=> ?_) (fun e1=> ?_)
 ·rw[e1,Bool.true_and] at hQ;refine il_ ?_;simp only[aK_,al_];exact hQ
 ·rw[e1,Bool.false_and] at hQ; exact hQ
theorem hE_ {x:InoR} (hQ:Q (.g (.bool (d8_ x))) H):cC_ [.agg [.int .i64 x.links,.str x.content]] H Q:=by
 refine⟨1,?_⟩;rw[n6_];unfold d8_ at hQ;refine fM_ ?_;simp only[aK_,al_];refine aa_ (fun e1=> ?_) (fun e1=> ?_)
 ·rw[e1,Bool.true_and] at hQ;exact hQ
 ·rw[e1,Bool.false_and] at hQ; exact hQ
theorem tS_ (hs:s.size≤140737488351232) (hQ:Q (.tup [.a ((bu_ s).getD iy_).cells,.s (.int .i64 (DG_ (bu_ s)))]) H):hn_ [.g (.str s)] H Q:=by
 have hb:=iK_ s 2;refine⟨1,?_⟩;rw[wR_];refine aa_ (fun e1=> ?_) (fun e1=> ?_)
 ·have:bu_ s=none:=by unfold bu_; rw[show leI 3 (sz s)=false by simp at e1 ⊢; omega]; rfl
  rw[this] at hQ; exact hQ
 have h3:3≤s.size:=by simp at e1; omega
 have e1':leI 3 (sz s)=true:=by simp; omega
 have t2:tN 2=2:=rfl;have t1:tN 1=1:=rfl;have t0:tN 0=0:=rfl;have t3:tN 3=3:=rfl;rw[t0,t1,t2,t3,eb_,eb_,eb_,cJ_ (n:=sz s - 3) (by simp; omega) (by simp; omega),cJ_ (n:=3+byt s 2) (by omega) (by omega)];refine ab_ (by simp; omega) ?_;refine aa_ (fun e2=> ?_) (fun e2=> ?_)
 ·have:bu_ s=none:=by unfold bu_; rw[show leI (3+byt s 2) (sz s)=false by simp at e2 ⊢; omega,e1']; rfl
  rw[this] at hQ; exact hQ
 have e2':leI (3+byt s 2) (sz s)=true:=by simp at e2 ⊢; omega
 have hle:(tN (3+byt s 2))≤s.size:=by simp [tN] at e2' ⊢; omega
 refine ab_ (by simp; omega) (ab_ (by simp; omega) (ab_ (by simp; omega) (ab_ (by simp; omega) (ab_ (by simp at hle ⊢; omega) ?_))));refine ab_ (by simp; omega) (ab_ (by simp at hle ⊢; omega) ?_);refine tL_ (x:=kG_ s) (Nat.le_trans (i7_ _ _ _) hs) ?_;simp only[aK_,al_];refine aa_ (fun e3=> ?_) (fun e3=> ?_)
 ·have:bu_ s=none:=by unfold bu_; rw[e1',e2',cR_ e3]; rfl
  rw[this] at hQ; exact hQ
 ·have:bu_ s=some (kG_ s):=by unfold bu_; rw[e1',e2',c7_ e3]; rfl
  rw[this] at hQ; exact hQ
theorem mS_ (hs:s.size≤140737488351232) (hQ:Q (.tup [.a ((bu_ s).getD iy_).cells,.s (.int .i64 (DG_ (bu_ s)))]) H):dS_ [.g (.str s)] H Q:=by
 have hb:=iK_ s 2;refine⟨1,?_⟩;rw[qa_];refine aa_ (fun e1=> ?_) (fun e1=> ?_)
 ·have:bu_ s=none:=by unfold bu_; rw[show leI 3 (sz s)=false by simp at e1 ⊢; omega]; rfl
  rw[this] at hQ; exact hQ
 have h3:3≤s.size:=by simp at e1; omega
 have e1':leI 3 (sz s)=true:=by simp; omega
 have t2:tN 2=2:=rfl;have t1:tN 1=1:=rfl;have t0:tN 0=0:=rfl;have t3:tN 3=3:=rfl;rw[t0,t1,t2,t3,eb_,eb_,eb_,cJ_ (n:=3+byt s 2) (by omega) (by omega)];refine ab_ (by simp; omega) ?_;refine aa_ (fun e2=> ?_) (fun e2=> ?_)
 ·have:bu_ s=none:=by unfold bu_; rw[show leI (3+byt s 2) (sz s)=false by simp at e2 ⊢; omega,e1']; rfl
  rw[this] at hQ; exact hQ
 have e2':leI (3+byt s 2) (sz s)=true:=by simp at e2 ⊢; omega
 have hle:(tN (3+byt s 2))≤s.size:=by simp [tN] at e2' ⊢; omega
 refine ab_ (by simp; omega) (ab_ (by simp; omega) (ab_ (by simp; omega) (ab_ (by simp; omega) (ab_ (by simp at hle ⊢; omega) ?_))));refine ab_ (by simp; omega) (ab_ (by simp at hle ⊢; omega) ?_);refine h3_ (x:=kG_ s) (Nat.le_trans (i7_ _ _ _) hs) ?_;simp only[aK_,al_];refine aa_ (fun e3=> ?_) (fun e3=> ?_)
 ·have:bu_ s=none:=by unfold bu_; rw[e1',e2',cR_ e3]; rfl
  rw[this] at hQ; exact hQ
 ·have:bu_ s=some (kG_ s):=by unfold bu_; rw[e1',e2',c7_ e3]; rfl
  rw[this] at hQ; exact hQ
theorem ta_ (hs:s.size≤140737488351232) (hQ:Q (.tup [.a ((cl_ s).getD tX_).cells,.s (.int .i64 (DC_ (cl_ s)))]) H):gb_ [.g (.str s)] H Q:=by
 refine⟨1,?_⟩;rw[vG_];refine aa_ (fun e1=> ?_) (fun e1=> ?_)
 ·have h0:s.size=0:=iU_.1 (by simpa using e1);have:cl_ s=none:=by unfold cl_; rw[show leI 1 (sz s)=false by simp; omega]; rfl
  rw[this] at hQ; exact hQ
 have h0:s.size≠0:=fun z=>by rw[iU_.2 z] at e1; simp at e1
 have e1':leI 1 (sz s)=true:=by simp; omega
 rw[show tN 0=0 from rfl,show tN 1=1 from rfl,eb_];refine ab_ (by simp; omega) (ab_ (by simp; omega) ?_);refine r2_ (x:=qx_ s) ?_;simp only[aK_,al_];refine aa_ (fun e3=> ?_) (fun e3=> ?_)
 ·have:cl_ s=none:=by unfold cl_; rw[e1',cR_ e3]; rfl
  rw[this] at hQ; exact hQ
 ·have:cl_ s=some (qx_ s):=by unfold cl_; rw[e1',c7_ e3]; rfl
  rw[this] at hQ; exact hQ
theorem mg_ (hs:s.size≤140737488351232) (hQ:Q (.tup [.a ((cl_ s).getD tX_).cells,.s (.int .i64 (DC_ (cl_ s)))]) H):di_ [.g (.str s)] H Q:=by
 refine⟨1,?_⟩;rw[n5_];refine aa_ (fun e1=> ?_) (fun e1=> ?_)
 ·have h0:s.size=0:=iU_.1 (by simpa using e1);have:cl_ s=none:=by unfold cl_; rw[show leI 1 (sz s)=false by simp; omega]; rfl
  rw[this] at hQ; exact hQ
 have h0:s.size≠0:=fun z=>by rw[iU_.2 z] at e1; simp at e1
 have e1':leI 1 (sz s)=true:=by simp; omega
 rw[show tN 0=0 from rfl,show tN 1=1 from rfl,eb_];refine ab_ (by simp; omega) (ab_ (by simp; omega) ?_);refine hE_ (x:=qx_ s) ?_;simp only[aK_,al_];refine aa_ (fun e3=> ?_) (fun e3=> ?_)
 ·have:cl_ s=none:=by unfold cl_; rw[e1',cR_ e3]; rfl
  rw[this] at hQ; exact hQ
 ·have:cl_ s=some (qx_ s):=by unfold cl_; rw[e1',c7_ e3]; rfl
  rw[this] at hQ; exact hQ
end
end Go.Am
namespace Go.Am
def blt (a b:ByteArray):Bool:=Op.bytesLess (bs a) (bs b)
theorem id_ (a b:ByteArray):cS_ a b=blt a b:=ia_ a b
def Cj_:List ByteArray→Bool
 | []=>true
 | [_]=>true
 | a::b::r=>Op.bytesLess (bs a) (bs b)&&Cj_ (b::r)
theorem s8_:∀ xs:List ByteArray,Cj_ xs=true↔gQ_ xs
 | []=>⟨fun _ i h=>absurd h (by simp),fun _=>rfl⟩
 | [_]=>⟨fun _ i h=>absurd h (by simp),fun _=>rfl⟩
 | a::b::r=>by
  have ih:=s8_ (b::r);simp only[Cj_,Bool.and_eq_true,ih,←ia_];constructor
  ·rintro⟨h1,h2⟩ i hi;cases i with
   | zero=>exact h1
   | succ i=>exact h2 i (by simp at hi ⊢; omega)
  ·intro h;refine⟨h 0 (by simp),fun i hi=> ?_⟩;exact h (i+1) (by simp at hi ⊢; omega)
def nodB:List Int→Bool
 | []=>true
 | a::r=> !(r.contains a)&&nodB r
theorem wq_:∀ xs:List Int,nodB xs=true↔xs.Nodup
 | []=>by simp [nodB]
 | a::r=>by simp [nodB,wq_ r]
def yQ_ (p:Pg):Bool:=p.used&&(Cj_ p.keys&&(p.keys.all (fun k=>decide (1≤k.size)&&decide (k.size≤6))&&
 (match p.leaf with
  | true=>decide (p.vals.length=p.keys.length)&&(p.kids.isEmpty&&p.vals.all (fun v=>decide (v.size≤10)))
  | false=>decide (1≤p.keys.length)&&(p.vals.isEmpty&&(decide (p.kids.length=p.keys.length+1)&&(p.kids.all (fun k=>decide (1≤k)&&decide (k < 48))&&nodB p.kids))))))
theorem zi_ (p:Pg):yQ_ p=true↔xw_ p:=by
 obtain⟨u,l,ks,vs,is⟩:=p;cases l with
 | true=>
  simp only[yQ_,Bool.and_eq_true,s8_,List.all_eq_true,decide_eq_true_eq,List.isEmpty_iff];exact⟨fun h=>⟨h.1,h.2.1,h.2.2.1,fun _=>h.2.2.2,fun q=>(by cases q)⟩,fun h=>⟨h.used,h.rising,h.keys,h.leaf rfl⟩⟩
 | false=>
  simp only[yQ_,Bool.and_eq_true,s8_,wq_,List.all_eq_true,decide_eq_true_eq,List.isEmpty_iff];exact⟨fun h=>⟨h.1,h.2.1,h.2.2.1,fun q=>(by cases q),fun _=>h.2.2.2⟩,fun h=>⟨h.used,h.rising,h.keys,h.inner rfl⟩⟩
def j3_ (p:Pg):Bool:=decide (p.keys.length≤4)&&yQ_ p
theorem eg_ (p:Pg):j3_ p=true↔mD_ p:=by simp [j3_,mD_,zi_]
structure WS where
 met:List Bool
 deep:Nat
 count:Nat
def e9_ (lo hi:ByteArray) (ks:List ByteArray):Bool:=ks.all fun k=> !(blt k lo)&&(decide (hi.size=0)||blt k hi)
def loK (p:Pg) (lo:ByteArray) (i:Nat):ByteArray:=match decide (0 < i) with | true=>p.keys[i - 1]?.getD lo | false=>lo
def hiK (p:Pg) (hi:ByteArray) (i:Nat):ByteArray:=p.keys[i]?.getD hi
def fp_ (rec:Int→Nat→WS→Option WS):List Int→Nat→WS→Option WS
 | [],_,st=>some st
 | k::ks,i,st=>match rec k i st with
  | none=>none
  | some st'=>fp_ rec ks (i+1) st'
def okD (p:Pg) (at_:Nat) (lo hi:ByteArray) (st:WS):Bool:= !(st.met[at_]?.getD true)&&(j3_ p&&(!(decide (0 < at_)&&decide (p.keys.length < 2))&&e9_ lo hi p.keys))
def h7_ (p:Pg) (deep:Nat) (st:WS):Option WS:=match decide (st.deep=0) with
 | true=>some ⟨st.met,deep,st.count+p.keys.length⟩
 | false=>match decide (st.deep=deep) with
  | true=>some ⟨st.met,deep,st.count+p.keys.length⟩
  | false=>none
def cj_ (T:List Pg):Nat→Nat→Nat→ByteArray→ByteArray→WS→Option WS
 | 0,_,_,_,_,_=>none
 | f+1,at_,deep,lo,hi,st=>match T[at_]? with
  | none=>none
  | some p=>match okD p at_ lo hi st with
   | false=>none
   | true=>match p.leaf with
    | true=>h7_ p deep ⟨st.met.set at_ true,st.deep,st.count⟩
    | false=>fp_ (fun k i s=>cj_ T f k.toNat (deep+1) (loK p lo i) (hiK p hi i) s) p.kids 0 ⟨st.met.set at_ true,st.deep,st.count⟩
def c6_ (p:Pg):Bool:= !p.used&&(!p.leaf&&(p.keys.isEmpty&&(p.vals.isEmpty&&p.kids.isEmpty)))
def fN_ (T:List Pg) (met:List Bool):Bool:=(List.range T.length).all fun i=>met[i]?.getD true||c6_ (T[i]?.getD noPg)
def ws0:WS:=⟨List.replicate 48 false,0,0⟩
def aU_ (T:List Pg):Nat:=match decide (T.length=48) with
 | false=>0
 | true=>match cj_ T 49 0 1 (mkS []) (mkS []) ws0 with
  | none=>0
  | some st=>match fN_ T st.met&&decide (st.count≤60) with
   | true=>st.deep
   | false=>0
def fb_ (met:List Bool):Nat:=(met.filter (! ·)).length
theorem lO_:∀ {met:List Bool} {i:Nat},met[i]? =some false→fb_ (met.set i true)+1=fb_ met
 | [],i,h=>by simp at h
 | b::met,0,h=>by simp at h; subst h; simp [fb_]
 | b::met,i+1,h=>by
  have:=lO_ (met:=met) (i:=i) (by simpa using h);unfold fb_ at this ⊢;cases b<;>simp<;>simpa using this
theorem g7_ (T:List Pg):∀ f at_ deep lo hi st st',cj_ T f at_ deep lo hi st=some st'→fb_ st'.met≤fb_ st.met∧st'.met.length=st.met.length∧(1≤deep→st'.deep≠0)∧st'.count+4*fb_ st'.met≤st.count+4*fb_ st.met:=by
 intro f;induction f with
 | zero=>intro _ _ _ _ _ _ h; cases h
 | succ f ih=>
  intro at_ deep lo hi st st' h
  unfold cj_ at h;cases hp:T[at_]? with
  | none=>rw[hp] at h; cases h
  | some p=>
   rw[hp] at h;dsimp only at h;cases hok:okD p at_ lo hi st with
   | false=>rw[hok] at h; cases h
   | true=>
    rw[hok] at h;dsimp only at h;have hm:st.met[at_]? =some false:=by
     unfold okD at hok;rw[Bool.and_eq_true] at hok;have:=hok.1;cases hq:st.met[at_]? with
     | none=>rw[hq] at this; simp at this
     | some b=>rw[hq] at this; simp at this; rw[this]
    have hu:=lO_ hm;have h4:p.keys.length≤4:=by
     unfold okD at hok;simp only[Bool.and_eq_true] at hok;exact ((eg_ p).1 hok.2.1).1
    cases hl:p.leaf with
    | true=>
     rw[hl] at h;dsimp only[h7_] at h;split at h
     ·cases h; exact⟨by dsimp only; omega,by simp,fun hd=>by dsimp only; omega,by dsimp only; omega⟩
     ·split at h
      ·cases h; exact⟨by dsimp only; omega,by simp,fun hd=>by dsimp only; omega,by dsimp only; omega⟩
      ·cases h
    | false=>
     rw[hl] at h;dsimp only at h;have hk:p.kids≠[]:=by
      intro e;unfold okD at hok;simp only[Bool.and_eq_true] at hok;have:=((eg_ p).1 hok.2.1).2.inner hl;rw[e] at this;simp at this
     have key:∀ (ks:List Int) (i:Nat) (s s':WS),fp_ (fun k i s=>cj_ T f k.toNat (deep+1) (loK p lo i) (hiK p hi i) s) ks i s=some s'→fb_ s'.met≤fb_ s.met∧s'.met.length=s.met.length∧(ks≠[]∨s.deep≠0→s'.deep≠0)∧s'.count+4*fb_ s'.met≤s.count+4*fb_ s.met:=by
      intro ks;induction ks with
      | nil=>intro i s s' h; cases h; exact⟨Nat.le_refl _,rfl,fun q=>by rcases q with q | q; exact (q rfl).elim; exact q,Nat.le_refl _⟩
      | cons k ks ihk=>
       intro i s s' h;unfold fp_ at h;cases hw:cj_ T f k.toNat (deep+1) (loK p lo i) (hiK p hi i) s with
       | none=>rw[hw] at h; cases h
       | some s1=>
        rw[hw] at h;obtain⟨u1,u2,u3,u4⟩:=ih _ _ _ _ _ _ hw;obtain⟨v1,v2,v3,v4⟩:=ihk _ _ _ h;exact⟨by omega,by omega,fun _=>v3 (.inr (u3 (by omega))),by omega⟩
     obtain⟨u1,u2,u3,u4⟩:=key _ _ _ _ h;dsimp only at u1 u2 u4;exact⟨by omega,by rw[u2]; simp,fun _=>u3 (.inl hk),by omega⟩
theorem h0_ (T:List Pg) (f at_ deep:Nat) (lo hi:ByteArray) (st:WS) {p:Pg} (hp:T[at_]? =some p):cj_ T (f+1) at_ deep lo hi st=(match okD p at_ lo hi st with
 | false=>none
 | true=>match p.leaf with
  | true=>h7_ p deep ⟨st.met.set at_ true,st.deep,st.count⟩
  | false=>fp_ (fun k i s=>cj_ T f k.toNat (deep+1) (loK p lo i) (hiK p hi i) s) p.kids 0 ⟨st.met.set at_ true,st.deep,st.count⟩):=by
 rw[cj_,hp]
end Go.Am
