import Derived.Test.YtdfongaafdnljaaGreatM10
set_option linter.all false
set_option autoImplicit true
set_option relaxedAutoImplicit true
namespace Go.Am
open List
section
variable {H:Hp} {Q:Post} {sp ms ml mi:Nat} {c0 c4:GV} {st:StD}
theorem oe_ {ev:β→RV} {ps:List (α × β)} (R:e3_ ek ev G it l ps js):js.length≤ps.length:=by
 have h:=(dP_ (List.range ps.length) js R.nod fun x r=>mem_range.2 (R.lt x r)).1;grind
theorem Aj_ {ns:List Int} (U:ns.Nodup) (J:∀ n,n∈ns↔eX_ st n≠0) (hi:(st.inos.map (·.1)).Nodup) (Z:∀ x∈st.inos,(eX_ st x.1:Int)=x.2.links) (I:∀ x∈st.inos,1≤x.2.links):ns.length=st.inos.length↔dn_ st=true:=by
 have r:∀ i∈st.inos.map (·.1),i∈ns:=fun i h=>by
  grind
 have C:(st.inos.all fun x=>decide ((eX_ st x.1)=x.2.links))=true:=by
  grind
 have N:∀ l∈st.links,l.2.1∈ns:=fun l I=>by
  rw[J];have:0 < eX_ st l.2.1:=countP_pos_iff.2 ⟨l,I,by simp⟩;omega
 unfold dn_;rw[C,Bool.and_true,all_eq_true];constructor
 ·intro e l A;have O:l.2.1∈st.inos.map (·.1):=by
   refine Classical.byContradiction fun q=> ?_;have V:=(dP_ ns (l.2.1::st.inos.map (·.1)) (nodup_cons.2 ⟨q,hi⟩) fun x F=>by
    rcases mem_cons.1 F with z | z
    ·grind
    ·exact r x z).1
   grind
  grind
 ·intro h;have Y:=(dP_ ns (st.inos.map (·.1)) hi r).1;have V:=(dP_ (st.inos.map (·.1)) ns U fun n G=>by
   have W:=(J n).1 G;have:0 < eX_ st n:=by omega
   have ⟨l,A,e⟩:=countP_pos_iff.1 this;have e:l.2.1=n:=by simpa using e
   have ⟨x,F,D⟩:=any_eq_true.1 (h l A);have D:x.1=l.2.1:=by simpa using D
   exact mem_map.2 ⟨x,F,by rw[D,e]⟩).1
  grind
theorem pn_ (h:gL_ H sp c0 ms ml mi c4 st) (hn:st.links.length≤1000∧st.inos.length≤1000) (hlk:∀ x∈st.inos,1≤x.2.links) (hQ:∀ H',H<+:H'→Q (.g (.bool (dn_ st))) H'):
 aF_ [.g (.ptr (some (sp,0)))] H Q:=by
 obtain⟨t,hr⟩:=h.row;have hsp:=(kC.1 hr).1;have hml:ml < H.length:=h.links.lt;have hmi:mi < H.length:=h.inos.lt;refine⟨st.links.length+st.inos.length+4,?_⟩;rw[lY_];simp only[af_,kN,f0_,fb_];have p0:=b7_ H (.map [] 0);have h0:=h.keep (H':=H++[.map [] 0]) fun l hl=>by rw[kM hl]
 obtain⟨_,_,g2,_⟩:=h0.rd;rw[ad_ g2,dW_];refine vM_ h0.links fun o R0=> ?_;have e0:(H++[Obj.map [] 0]).length=H.length+1:=by simp
 rw[e0] at R0 ⊢;have second:∀ (f:Nat) (js:List Nat) (G:Hp) (ns:List (Int × Int)),st.inos.length - js.length < f→H<+:G→e3_ ekI evI G (H.length+2) mi st.inos js→dO_ ekI evN G H.length ns→
  (∀ n,look ns n=lkN (eX_ st n))→(∀ j∈js,∀ (hj:j < st.inos.length),(eX_ st st.inos[j].1:Int)=st.inos[j].2.links)→js.length≤st.inos.length→
  aF_.l7 f (some (sp,0)) (some H.length) (H.length+2) 0 G Q:=by
  intro f;induction f with
  | zero=>intro js G ns h; omega
  | succ f ih=>
   intro js G ns hf hG R M hm hok hle;rw[aF_.l7_eq];refine u2_ R (by omega) (fun j hj hjs G1 l1 k1 R1=> ?_) (fun hperm=> ?_)
   ·refine qw_ R1 hj ?_;have hc:(evI st.inos[j].2)= .a [.int .i64 st.inos[j].2.links,.str st.inos[j].2.content]:=rfl;rw[hc];simp only[ekI,bB_,ax_,dS_,aV_,ai_,bi_];have hv:(match look ns st.inos[j].1 with | some v=>v | none=>0)=(eX_ st st.inos[j].1:Int):=by
     rw[hm]; cases eX_ st st.inos[j].1<;>rfl
    have fin:b2_ (!(eqI (eX_ st st.inos[j].1:Int) st.inos[j].2.links)) (Q (.g (.bool false)) G1) (aF_.l7 f (some (sp,0)) (some H.length) (H.length+2) 0 G1 Q):=by
     have hG1:H<+:G1:=j1_ hG (by have:=(IsPrefix.length_le hG); omega) fun l hl=>by rw[k1 l (by omega)]
     refine aa_ (fun e=> ?_) (fun e=> ?_)
     ·have hne: ¬ (eX_ st st.inos[j].1:Int)=st.inos[j].2.links:=by simpa using e
      have:dn_ st=false:=by
       unfold dn_;have:(st.inos.all fun x=>decide ((eX_ st x.1:Int)=x.2.links))=false:=by
        rw[Bool.eq_false_iff]; intro q;rw[all_eq_true] at q;exact hne (by simpa using q _ (kE hj))
       rw[this,Bool.and_false]
      rw[←this];exact hQ _ hG1
     ·have heq:(eX_ st st.inos[j].1:Int)=st.inos[j].2.links:=by simpa using e
      have hlj:=oe_ R1;rw[kI,length_singleton] at hlj;refine ih (js++[j]) G1 ns (by rw[kI,length_singleton]; omega) hG1 R1 (M.keep (k1 _ (by omega))) hm (fun i hi hj'=> ?_) (by rw[kI,length_singleton]; omega);rcases kD.1 hi with q | q
      ·exact hok i q hj'
      ·have:i=j:=by simpa using q
       subst this; exact heq
    refine hl_ (ev:=evN) okI (M.keep (k1 _ (by omega))) st.inos[j].1 (fun v hl=> ?_) (fun hl=> ?_)
    ·rw[hl] at hv;simp only[evN,bB_,ai_];rw[show v=(eX_ st st.inos[j].1:Int) from hv]; exact fin
    ·rw[hl] at hv;simp only[bB_,ai_];rw[show (0:Int)=(eX_ st st.inos[j].1:Int) from hv]; exact fin
   ·refine lJ_ M ?_;have hG':=h.keep (H':=G) fun l hl=>br_ hG hl;obtain⟨_,_,_,g3,_⟩:=hG'.rd;simp only[af_,kN];rw[ad_ g3,dW_];refine lJ_ hG'.inos ?_;have hc:∀ x∈st.inos,(eX_ st x.1:Int)=x.2.links:=fun x hx=>by
     obtain⟨j,hj,rfl⟩:=kK hx;exact hok j (hperm.mem_iff.2 (mem_range.2 hj)) hj
    have key:=Aj_ (st:=st) (ns:=ns.map (·.1)) M.nodup (fun n=>by
     rw[ni_,hm n];cases eX_ st n<;>simp [lkN]) h.inos.nodup hc hlk
    rw[length_map] at key;have:eqI (nI ns.length) (nI st.inos.length)=dn_ st:=by
     rw[Bool.eq_iff_iff];simp only[ij_,iI_,decide_eq_true_eq];rw[←key]; omega
    rw[this];exact hQ G hG
 have first:∀ (f:Nat) (js:List Nat) (G:Hp) (ns:List (Int × Int)),(st.links.length - js.length)+st.inos.length+2 < f→H<+:G→G.length=H.length+2→e3_ ekL evL G (H.length+1) ml st.links js→dO_ ekI evN G H.length ns→
  (∀ n,look ns n=lkN (cj st js n))→js.length≤st.links.length→aF_.l3 f (some (sp,0)) (some H.length) (H.length+1) 0 G Q:=by
  intro f;induction f with
  | zero=>intro js G ns h; omega
  | succ f ih=>
   intro js G ns hf hG hl R M hm hle;rw[aF_.l3_eq];refine u2_ R (by omega) (fun j hj hjs G1 l1 k1 R1=> ?_) (fun hperm=> ?_)
   ·refine qw_ R1 hj ?_;simp only[ekL,evL,bB_,ax_,ak_,dS_,aV_,ai_,bi_];have hlj:=oe_ R1;rw[kI,length_singleton] at hlj;have hcb:cj st js st.links[j].2.1≤js.length:=countP_le_length;have hstep:∀ n,cj st (js++[j]) n=if n=st.links[j].2.1 then cj st js n+1 else cj st js n:=fun n=>by
     unfold cj;rw[countP_append,countP_singleton,kG hj];by_cases e:n=st.links[j].2.1
     ·rw[if_pos e]; simp [e]
     ·rw[if_neg e]; simp [Ne.symm e]
    have go:∀ v:Int,v=(cj st js st.links[j].2.1:Int)→yn_ G1 (some H.length) false [.int .i64] (.s (.int .i64 st.links[j].2.1)) (.s (.int .i64 (ac_ .i64 (v+1)))) fun H23=>aF_.l3 f (some (sp,0)) (some H.length) (H.length+1) 0 H23 Q:=fun v hv=>by
     rw[hv,an_ (by omega)];refine kk_ (ev:=evN) okI (M.keep (k1 _ (by omega))) st.links[j].2.1 ((cj st js st.links[j].2.1+1:Nat):Int) fun G2 l2 k2 M2=> ?_;refine ih (js++[j]) G2 _ (by rw[kI,length_singleton]; omega) ?_ (by omega) (R1.keep (k2 _ (by omega)) (k2 _ (by omega))) M2 (fun n=> ?_) (by rw[kI,length_singleton]; omega)
     ·refine j1_ hG (by omega) fun l hl=> ?_;rw[k2 l (by omega),k1 l (by omega)]
     ·rw[DJ_,hstep n,hm n];by_cases e:n=st.links[j].2.1
      ·rw[if_pos e,if_pos e,e]; rfl
      ·rw[if_neg e,if_neg e]
    refine hl_ (ev:=evN) okI (M.keep (k1 _ (by omega))) st.links[j].2.1 (fun v hl=> ?_) (fun hl=> ?_)
    ·simp only[evN,bB_,ai_];refine go v ?_;rw[hm] at hl;cases hcj:cj st js st.links[j].2.1 with
     | zero=>rw[hcj] at hl; cases hl
     | succ c=>rw[hcj] at hl; cases hl; rfl
    ·simp only[bB_,ai_];refine go 0 ?_;rw[hm] at hl;cases hcj:cj st js st.links[j].2.1 with
     | zero=>rfl
     | succ c=>rw[hcj] at hl; cases hl
   ·have hG':=h.keep (H':=G) fun l hl=>br_ hG hl;obtain⟨_,_,_,g3,_⟩:=hG'.rd;simp only[af_,kN];rw[ad_ g3,dW_];refine vM_ hG'.inos fun o R2=> ?_;simp only[fb_];rw[hl] at R2 ⊢;exact second f [] _ ns (by simp; omega) (hG.trans (b7_ _ _)) R2 (M.keep (by rw[kM (by omega)])) (fun n=>by rw[hm n,HA_ hperm]) (fun j hj=>absurd hj not_mem_nil) (by simp)
 refine first _ [] _ [] (by simp) (p0.trans (b7_ _ _)) (by simp) R0 ((lj_ H).keep (by rw[kM (by simp)])) (fun n=>rfl) (by simp)
end
end Go.Am
namespace Go.Am
open List
open Go.Proofs
theorem Im_:∀ x y:List UInt8,Lib.compareBytes x y=if Op.bytesLess x y=true then -1 else if Op.bytesLess y x=true then 1 else 0
 | [],[]=>rfl
 | [],_::_=>rfl
 | _::_,[]=>rfl
 | a::x,b::y=>by
  simp [Op.bytesLess,Lib.compareBytes];rcases Nat.lt_trichotomy a.toNat b.toNat with h | h | h
  ·grind
  ·have r:=UInt8.toNat_inj.1 h;subst r;have A: ¬ a < a:=fun q=>by grind
   simp [A];exact Im_ x y
  ·grind
def zZ_ (a b:ByteArray):Int:=if blt a b=true then -1 else if blt b a=true then 1 else 0
theorem HX_ (a b:ByteArray):Lib.compareBytes a.data.toList b.data.toList=zZ_ a b:=Im_ _ _
theorem Co_ (a b:ByteArray):ltI (zZ_ a b) 0=blt a b:=by
 unfold zZ_ ltI;grind
theorem Cr_ (a b:ByteArray):eqI (zZ_ a b) 0=decide (a=b):=by
 unfold zZ_;rcases hq_ a b with h | h | h
 ·simp_all
 ·rw[h.2.1,h.2.2]; simp [h.1]
 ·simp_all
theorem Ap_ {i j:Nat} (h:i+j≤1000000000):ac_ .i64 (qN_ .u64 (ac_ .u64 (ac_ .i64 ((i:Int)+j))) 1)=(((i+j) / 2:Nat):Int):=by
 rw[cy_ (n:=(i:Int)+j) (by omega) (by omega)];have e:ac_ .u64 (i+j)=i+j:=by
  simp [ac_,IntKind.wrap,IntKind.bits]; omega
 rw[e];have r:qN_ .u64 (i+j) 1=(((i+j) / 2:Nat)):=by
  show Int.fdiv (i+j) (2 ^ (min 1 64))=_;grind
 rw[r,cy_ (by omega) (by omega)]
abbrev FileR:=ByteArray × ByteArray × Bool
def xu_ (f:FileR):List GV:=[.str f.1,.str f.2.1,.bool f.2.2]
def ci_:List FileR→List GV
 | []=>[]
 | f::fs=>xu_ f++ci_ fs
theorem gU_:∀ fs:List FileR,(ci_ fs).length=fs.length*3
 | []=>rfl
 | f::fs=>by rw[ci_,kI,gU_ fs,length_cons]; simp [xu_]; omega
theorem l8_:∀ fs r:List FileR,ci_ (fs++r)=ci_ fs++ci_ r
 | [],_=>rfl
 | f::fs,r=>by rw[cons_append,ci_,ci_,l8_ fs r,append_assoc]
theorem xT_:∀ (fs:List FileR) (i:Nat) (h:i < fs.length),(ci_ fs)[i*3]? =some (.str fs[i].1)∧(ci_ fs)[i*3+1]? =some (.str fs[i].2.1)∧(ci_ fs)[i*3+2]? =some (.bool fs[i].2.2)
 | [],i,h=>by grind
 | f::fs,0,_=>⟨rfl,rfl,rfl⟩
 | f::fs,i+1,h=>by
  have A:=xT_ fs i (by grind);have r:∀ k,(ci_ (f::fs))[(i+1)*3+k]? =(ci_ fs)[i*3+k]? :=fun k=>by
   rw[ci_,getElem?_append_right (by simp [xu_]; omega)];congr 1; simp [xu_]; omega
  exact⟨by rw[show (i+1)*3=(i+1)*3+0 from rfl,r 0]; exact A.1,by grind,by rw[r 2]; exact A.2.2⟩
theorem Au_ (fs:List FileR) (i:Nat) (h:i≤fs.length):(ci_ fs).take (i*3)=ci_ (fs.take i):=by
 have e:ci_ fs=ci_ (fs.take i)++ci_ (fs.drop i):=by rw[←l8_,take_append_drop]
 rw[e,List.take_left' (by rw[gU_,length_take]; omega)]
theorem AU_ (fs:List FileR) (i:Nat) (h:i≤fs.length):(ci_ fs).drop (i*3)=ci_ (fs.drop i):=by
 have e:ci_ fs=ci_ (fs.take i)++ci_ (fs.drop i):=by rw[←l8_,take_append_drop]
 rw[e,List.drop_left' (by rw[gU_,length_take]; omega)]
def c1_ (H:Hp) (a:Pl) (fs:List FileR):Prop:=(a=none∧fs=[])∨∃ l,a=some (l,0)∧H[l]? =some (.row true 122 (ci_ fs))
def ov_ (fs:List FileR):Prop:=fs.Pairwise fun x y=>blt x.1 y.1=true
def he_ (fs:List FileR) (s:ByteArray):Nat:=fs.countP fun f=>blt f.1 s
theorem yQ_ (fs:List FileR) (s:ByteArray):he_ fs s≤fs.length:=countP_le_length
theorem jw_:∀ {fs:List FileR} (h:ov_ fs) (s:ByteArray) (i:Nat) (hi:i < fs.length),blt fs[i].1 s=true↔i < he_ fs s
 | [],_,_,_,hi=>by grind
 | f::fs,h,s,i,hi=>by
  have r:=pairwise_cons.1 h;unfold he_;rw[countP_cons];cases e:blt f.1 s with
  | true=>
   rw[if_pos rfl];cases i with
   | zero=>simp [e]
   | succ i=>
    have:=jw_ r.2 s i (by grind);simp;rw[this]; unfold he_; omega
  | false=>
   have A:fs.countP (fun f=>blt f.1 s)=0:=by
    rw[countP_eq_zero];intro x C q;rw[eU_ (r.1 x C) q] at e; cases e
   rw[A];cases i with
   | zero=>simp [e]
   | succ i=>
    grind
end Go.Am
namespace Go.Am
open List
open Go.Proofs
section
variable {H:Hp} {Q:Post}
theorem c1_.gets (h:H[l]? =some (.row true 122 (ci_ fs))) (i:Nat) (hi:i < fs.length):gt H l (i*3)=some (.str fs[i].1)∧gt H l (i*3+1)=some (.str fs[i].2.1)∧gt H l (i*3+1+1)=some (.bool fs[i].2.2):=by
 have:=xT_ fs i hi;simp [bw_ h];grind
theorem iC_ (r:Q (.g (.int .i64 (zZ_ a b))) H):c3_ [.g (.str a),.g (.str b)] H Q:=by
 refine⟨1,?_⟩;rw[pK_];refine⟨1,?_⟩;rw[kF_];refine⟨a,b,rfl,?_⟩;rw[HX_];simp_all
theorem ip_ (r:Q (.g (.int .i64 (zZ_ a b))) H):c5_ [(171,c4_)] 171 [.agg [.str a,.str c,.bool d],.g (.str b)] H Q:=by
 refine⟨1,?_⟩;rw[pB_];refine iC_ ?_;simp_all
theorem p9_ {a:Pl} {fs:List FileR} {s:ByteArray} (h:c1_ H a fs) (ha:ov_ fs) (hn:fs.length≤1000)
 (hQ:Q (.tup [.s (.int .i64 ((he_ fs s:Nat):Int)),.s (.bool (fs.any fun f=>decide (f.1=s)))]) H):
 fe_ [.g (.sl a fs.length 3),.g (.str s)] H Q:=by
 refine⟨1,?_⟩;rw[sr_];refine⟨fs.length+2,?_⟩;rw[en_];have go:∀ (f i j:Nat),j - i < f→i≤he_ fs s→he_ fs s≤j→j≤fs.length→∀ {R:Post},R (.tup [.s (.int .i64 ((he_ fs s:Nat):Int)),.s (.bool (fs.any fun f=>decide (f.1=s)))]) H→
  am_.l3 (c5_ [(171,c4_)]) f a fs.length s 171 [] ((fs.length:Nat):Int) ((i:Nat):Int) ((j:Nat):Int) H R:=by
  intro f;induction f with
  | zero=>intro i j h; omega
  | succ f ih=>
   intro i j hf h1 h2 h3 R hR;rw[am_.l3_eq];refine aa_ (fun e=> ?_) (fun e=> ?_)
   ·have hij:i < j:=by simpa using e
    rw[Ap_ (by omega)];have hm:(i+j) / 2 < fs.length:=by omega
    refine ab_ rfl (ab_ (by simp; omega) ?_);rcases h with⟨_,h⟩ | ⟨l,rfl,h⟩
    ·rw[h] at hm; cases hm
    ·obtain⟨r1,r2,r3⟩:=c1_.gets h _ hm;have etn:∀ k:Nat,tN (k:Int)=k:=fun _=>rfl;simp only[af_,kN,etn];rw[ad_ r1,ax_,ad_ r2,ax_,ad_ r3,ak_];refine ip_ ?_;simp only[aN_,ai_];rw[Co_,an_ (by omega)];have hp:=jw_ ha s _ hm;refine aa_ (fun e=> ?_) (fun e=> ?_)
     ·exact ih _ _ (by omega) (by have:=hp.1 e; omega) h2 h3 hR
     ·exact ih _ _ (by omega) h1 (by rw[e] at hp; have: ¬ (i+j) / 2 < he_ fs s:=fun q=>by cases hp.2 q
                                     omega) (by omega) hR
   ·have hij: ¬ i < j:=by simpa using e
    have hi:i=he_ fs s:=by omega
    subst hi;refine aa_ (fun e=> ?_) (fun e=> ?_)
    ·have hm:he_ fs s < fs.length:=by simpa using e
     refine ab_ rfl (ab_ (by simp; omega) ?_);rcases h with⟨_,h⟩ | ⟨l,rfl,h⟩
     ·rw[h] at hm; cases hm
     ·obtain⟨r1,r2,r3⟩:=c1_.gets h _ hm;have etn:∀ k:Nat,tN (k:Int)=k:=fun _=>rfl;simp only[af_,kN,etn];rw[ad_ r1,ax_,ad_ r2,ax_,ad_ r3,ak_];refine ip_ ?_;simp only[aN_,ai_];rw[Cr_];have:decide (fs[he_ fs s].1=s)=fs.any fun f=>decide (f.1=s):=by
       rw[Bool.eq_iff_iff,any_eq_true];simp only[decide_eq_true_eq];refine⟨fun e=>⟨_,kE hm,e⟩,fun⟨x,hx,e⟩=> ?_⟩;obtain⟨k,hk,rfl⟩:=kK hx;have hk1:=jw_ ha s k hk;rw[e,cA_] at hk1;have hle:he_ fs s≤k:=by
        refine Nat.le_of_not_lt fun q=> ?_;cases hk1.2 q
       rcases Nat.lt_or_eq_of_le hle with q | q
       ·have hlt:=(pairwise_iff_getElem.1 ha) _ _ hm hk q;rw[e] at hlt;have:=(jw_ ha s _ hm).1 hlt;omega
       ·simp only[q]; exact e
      rw[this]; exact hR
    ·have hm: ¬ he_ fs s < fs.length:=by simpa using e
     have:(fs.any fun f=>decide (f.1=s))=false:=by
      rw[any_eq_false];intro x hx q;obtain⟨k,hk,rfl⟩:=kK hx;have hk1:=jw_ ha s k hk;have q':fs[k].1=s:=by simpa using q
      rw[q',cA_] at hk1;have: ¬ k < he_ fs s:=fun z=>by cases hk1.2 z
      omega
     rw[this] at hR; exact hR
 refine go _ 0 fs.length (by omega) (kP _) (yQ_ _ _) (kO _) ?_;simp only[aI_,aB_,bB_,ai_,ak_,aT_];exact hQ
end
end Go.Am
namespace Go.Am
open List
section
def bq_ (st:StD) (l:LKey × LVal):FileR:=(l.1.2,(match look st.inos l.2.1 with | some x=>x.content | none=>mkS []),l.2.2)
structure cF_ (st:StD) (id:Int) (fs:List FileR):Prop where
 asc:ov_ fs
 mem:∀ f,f∈fs↔∃ l∈st.links,l.1.1=id∧f=bq_ st l
theorem ov_.ext:∀ {fs A:List FileR},ov_ fs→ov_ A→(∀ f,f∈fs↔f∈A)→fs=A
 | [],[],_,_,_=>rfl
 | [],g::A,_,_,h=>absurd ((h g).2 mem_cons_self) not_mem_nil
 | f::fs,[],_,_,h=>absurd ((h f).1 mem_cons_self) not_mem_nil
 | f::fs,g::A,F,G,h=>by
  have D:=pairwise_cons.1 F;have C:=pairwise_cons.1 G;have e:f=g:=by
   rcases mem_cons.1 ((h f).1 mem_cons_self) with q | q
   ·exact q
   ·rcases mem_cons.1 ((h g).2 mem_cons_self) with r | r
    ·grind
    ·have:=et_ (C.1 f q);grind
  subst e;congr 1;refine ov_.ext D.2 C.2 fun x=>⟨fun q=> ?_,fun q=> ?_⟩
  ·rcases mem_cons.1 ((h x).1 (mem_cons_of_mem _ q)) with r | r
   ·have:=D.1 x q; rw[r,cA_] at this; cases this
   ·exact r
  ·rcases mem_cons.1 ((h x).2 (mem_cons_of_mem _ q)) with r | r
   ·have:=C.1 x q; rw[r,cA_] at this; cases this
   ·exact r
theorem cF_.unique {id:Int} (r:cF_ st id fs) (A:cF_ st id gs):fs=gs:=r.asc.ext A.asc fun f=>(r.mem f).trans (A.mem f).symm
theorem Ek_ (h:ov_ fs) (s:ByteArray):(∀ x∈fs.take (he_ fs s),blt x.1 s=true)∧(∀ x∈fs.drop (he_ fs s),blt x.1 s=false):=by
 constructor
 ·intro x A;obtain⟨i,D,rfl⟩:=kK A;have C:i < he_ fs s∧i < fs.length:=by grind
  rw[getElem_take];exact (jw_ h s i C.2).2 C.1
 ·intro x A;obtain⟨i,D,rfl⟩:=kK A;have r:he_ fs s+i < fs.length:=by grind
  rw[getElem_drop];have:=jw_ h s _ r;cases e:blt fs[he_ fs s+i].1 s with
  | false=>rfl
  | true=>have:=this.1 e; omega
theorem ov_.put (h:ov_ fs) (f:FileR) (N:∀ x∈fs,x.1≠f.1):ov_ (fs.take (he_ fs f.1)++(f::fs.drop (he_ fs f.1))):=by
 have ⟨I,O⟩:=Ek_ h f.1;have A:(fs.take (he_ fs f.1)++fs.drop (he_ fs f.1)).Pairwise fun x y=>blt x.1 y.1=true:=by rw[take_append_drop]; exact h
 have ⟨C,F,U⟩:=pairwise_append.1 A;have G:∀ x∈fs.drop (he_ fs f.1),blt f.1 x.1=true:=fun x D=>by
  rcases hq_ x.1 f.1 with r | r | r
  ·grind
  ·grind
  ·grind
 refine pairwise_append.2 ⟨C,pairwise_cons.2 ⟨G,F⟩,fun x D y J=> ?_⟩;grind
theorem Gd_ {fs:List FileR} (p:Nat):x∈fs.take p++(f::fs.drop p)↔x=f∨x∈fs:=by
 have:x∈fs↔x∈fs.take p∨x∈fs.drop p:=by rw[←kD,take_append_drop]
 grind
end
section
variable {H:Hp} {Q:Post} {sp ms ml mi:Nat} {c0 c4:GV} {st:StD}
theorem sm_ {G:Hp} {f:FileR} {i b:Nat} {R:Post} (h:c1_ G a fs) (O:∀ l o,a=some (l,o)→b≤l) (J:b≤G.length) (hi:i≤fs.length) (U:fs.length≤1000)
 (hR:∀ r a',c1_ r a' (fs.take i++(f::fs.drop i))→(∀ l o,a'=some (l,o)→b≤l)→G.length≤r.length→(∀ l,l < b→r[l]? =G[l]?)→R (.g (.sl a' (fs.length+1) 3)) r):
 slices_Insert__api_File_api_File [(.g (.sl a fs.length 3)),(.g (.int .i64 ((i:Nat):Int))),(.g (.sl (some (G.length,0)) 1 3))] (G++[.row false tn_ (xu_ f)]) R:=by
 refine⟨a,fs.length,i,G.length,xu_ f,rfl,hi,by unfold Lim; omega,by simp,rfl,?_⟩;rcases h with⟨rfl,rfl⟩ | ⟨l,rfl,F⟩
 ·refine .inl ⟨rfl,rfl,?_⟩;refine hR _ _ (.inr ⟨_,rfl,?_⟩) (fun l o e=>by cases e; simp; omega) (by simp) (fun l F=>by rw[f0_,kM (by grind),kM (by omega)]);simp [ci_]
 ·have I:=(kC.1 F).1;have hbl':=O l 0 rfl;refine .inr ⟨l,ci_ fs,rfl,by grind,gU_ fs,?_⟩;refine hR _ _ (.inr ⟨_,rfl,?_⟩) (fun l o e=>by cases e; simp; omega) (by simp_all) (fun V N=>by
   rw[f0_,kM (by simp; omega),kF (by omega),kM (by omega)])
  rw[Au_ _ _ hi,AU_ _ _ hi,l8_,ci_];simp
theorem rZ_ (h:gL_ H sp c0 ms ml mi c4 st) (id:Int) (hn:st.links.length≤900) (hQ:∀ H' a fs,H<+:H'→c1_ H' a fs→cF_ st id fs→(∀ l o,a=some (l,o)→H.length≤l)→Q (.g (.sl a fs.length 3)) H'):
 bj_ [.g (.ptr (some (sp,0))),.g (.int .i64 id)] H Q:=by
 refine⟨st.links.length+3,?_⟩;rw[ns_];obtain⟨_,_,g2,_⟩:=h.rd;have hml:ml < H.length:=h.links.lt;simp only[af_,kN,fb_];rw[ad_ g2,dW_];refine vM_ h.links fun o R0=> ?_;have go:∀ (f:Nat) (js:List Nat) (G:Hp) (a:Pl) (fs:List FileR),st.links.length - js.length < f→H<+:G→H.length+1≤G.length→e3_ ekL evL G H.length ml st.links js→
  c1_ G a fs→(∀ l o,a=some (l,o)→H.length+1≤l)→ov_ fs→fs.length≤js.length→(∀ f,f∈fs↔∃ j∈js,∃ hj:j < st.links.length,st.links[j].1.1=id∧f=bq_ st st.links[j])→
  bj_.l3 f (some (sp,0)) id a fs.length H.length 0 G Q:=by
  intro f;induction f with
  | zero=>intro js G a fs h; omega
  | succ f ih=>
   intro js G a fs hf hG hl R hfa hal hasc hle hmem;rw[bj_.l3_eq];refine u2_ R (by omega) (fun j hj hjs G1 l1 k1 R1=> ?_) (fun hperm=> ?_)
   ·have hlj:=oe_ R1;rw[kI,length_singleton] at hlj;refine qw_ R1 hj ?_;simp only[ekL,evL,bB_,ax_,ak_,dS_,aV_,ai_,bi_];have hG1:H<+:G1:=j1_ hG l1 fun l hl=>by rw[k1 l (by omega)]
    have hfa1:c1_ G1 a fs:=by
     rcases hfa with q | ⟨l,rfl,q⟩
     ·exact .inl q
     ·have:=hal l 0 rfl;exact .inr ⟨l,rfl,by rw[k1 l (by omega)]; exact q⟩
    refine aa_ (fun e=> ?_) (fun e=> ?_)
    ·have hid:st.links[j].1.1=id:=by simpa using e
     refine p9_ hfa1 hasc (by omega) ?_;simp only[aI_,aB_,bB_,ai_,ak_,aT_,af_,kN];have hS:=h.keep (H':=G1) fun l hl=>br_ hG1 hl;obtain⟨_,_,_,g3,_⟩:=hS.rd;rw[ad_ g3,dW_];have hnew:∀ x∈fs,x.1≠(bq_ st st.links[j]).1:=fun x hx q=>by
      obtain⟨i,hi,hi',hid',rfl⟩:=(hmem x).1 hx;have hk:st.links[i].1=st.links[j].1:=Prod.ext (by rw[hid,hid']) q;have nd:=h.links.nodup;have:i=j:=by
       refine Classical.byContradiction fun hne=> ?_;have hp:=pairwise_iff_getElem.1 nd;rcases Nat.lt_or_gt_of_ne hne with z | z
       ·exact hp i j (by simpa using hi') (by simpa using hj) z (by simpa using hk)
       ·exact hp j i (by simpa using hj) (by simpa using hi') z (by simpa using hk.symm)
      subst this;exact hjs hi
     have step:∀ c,c=(bq_ st st.links[j]).2.1→slices_Insert__api_File_api_File [(.g (.sl a fs.length 3)),(.g (.int .i64 ((he_ fs st.links[j].1.2:Nat):Int))),(.g (.sl (some (G1.length,0)) 1 3))] (G1++[.row false tn_ [.str st.links[j].1.2,.str c,.bool st.links[j].2.2]]) fun r43 H44=>
      rG r43 fun v45=>dL 3 v45 fun x46 n47=>bj_.l3 f (some (sp,0)) id x46 n47 H.length 0 H44 Q:=fun c hc=>by
      subst hc;refine sm_ (f:=bq_ st st.links[j]) (b:=H.length+1) hfa1 hal (by omega) (yQ_ _ _) (by omega) fun G2 a' hf2 hb2 hl2 k2=> ?_;simp only[aN_];refine⟨.inr rfl,?_⟩;have e1:fs.length+1=(fs.take (he_ fs st.links[j].1.2)++(bq_ st st.links[j]::fs.drop (he_ fs st.links[j].1.2))).length:=by
       have:=yQ_ fs st.links[j].1.2;simp; omega
      rw[e1];have hG2:H<+:G2:=by
       rw[prefix_iff_eq_take];apply ext_getElem?;intro i;rw[getElem?_take];split
       ·rename_i hi;rw[k2 i (by omega),br_ hG1 hi]
       ·exact getElem?_eq_none (by omega)
      refine ih (js++[j]) G2 a' _ (by rw[kI,length_singleton]; omega) hG2 (by omega) (R1.keep (k2 _ (by omega)) (k2 _ (by omega))) hf2 hb2 (hasc.put _ hnew) (by rw[←e1,kI,length_singleton]; omega) fun x=> ?_;rw[Gd_,hmem x];constructor
      ·rintro (q | ⟨i,hi,r⟩)
       ·exact⟨j,by simp,hj,hid,q⟩
       ·exact⟨i,by simp [hi],r⟩
      ·rintro⟨i,hi,hi',r⟩;rcases kD.1 hi with q | q
       ·exact .inr ⟨i,q,hi',r⟩
       ·have:i=j:=by simpa using q
        subst this;exact .inl r.2
     refine hl_ (ev:=evI) okI hS.inos st.links[j].2.1 (fun v hlk=> ?_) (fun hlk=> ?_)
     ·have hc:evI v= .a [.int .i64 v.links,.str v.content]:=rfl;rw[hc];simp only[dS_,aV_,ai_,ax_,bi_];exact step _ (by simp [bq_,hlk])
     ·simp only[dS_,aV_,ai_,ax_,bi_];exact step _ (by simp [bq_,hlk])
    ·have hid: ¬ st.links[j].1.1=id:=by simpa using e
     refine ih (js++[j]) G1 a fs (by rw[kI,length_singleton]; omega) hG1 (by omega) R1 hfa1 hal hasc (by rw[kI,length_singleton]; omega) fun x=> ?_;rw[hmem x];constructor
     ·rintro⟨i,hi,r⟩;exact⟨i,by simp [hi],r⟩
     ·rintro⟨i,hi,hi',r⟩;rcases kD.1 hi with q | q
      ·exact⟨i,q,hi',r⟩
      ·have:i=j:=by simpa using q
       subst this;exact absurd r.1 hid
   ·refine hQ G a fs hG hfa ⟨hasc,fun x=> ?_⟩ fun l o e=>by have:=hal l o e; omega
    rw[hmem x];constructor
    ·rintro⟨i,_,hi',r⟩;exact⟨_,kE hi',r⟩
    ·rintro⟨l,hl',r⟩;obtain⟨i,hi,rfl⟩:=kK hl';exact⟨i,hperm.mem_iff.2 (mem_range.2 hi),hi,r⟩
 exact go _ [] _ none [] (by simp) (b7_ _ _) (by simp) R0 (.inl ⟨rfl,rfl⟩) (fun l o e=>by cases e) Pairwise.nil (by simp) (fun x=>by simp)
end
end Go.Am
namespace Go.Am
open List
structure InfoR where
 name:ByteArray
 kind:Int
 parent:ByteArray
 label:ByteArray
 files:List FileR
 deriving DecidableEq
def iz_ (p:Pl) (i:InfoR):List GV:=[.str i.name,.int .i64 i.kind,.str i.parent,.str i.label,.sl p i.files.length 3]
inductive fZ_ (H:Hp) (b:Nat) (a:Pl):List GV→List InfoR→Prop
 | nil:fZ_ H b a [] []
 | cons {p:Pl} {i:InfoR} {cs:List GV} {is:List InfoR}:c1_ H p i.files→(∀ l o,p=some (l,o)→b≤l∧∀ o',a≠some (l,o'))→fZ_ H b a cs is→fZ_ H b a (iz_ p i++cs) (i::is)
theorem c1_.lt (h:c1_ H (some (l,o)) fs):l < H.length:=by
 rcases h with⟨q,_⟩ | ⟨r,e,q⟩
 ·cases q
 ·grind
theorem c1_.keep (h:c1_ H p fs) (r:∀ l o,p=some (l,o)→H'[l]? =H[l]?):c1_ H' p fs:=by
 rcases h with q | ⟨l,rfl,q⟩
 ·exact .inl q
 ·exact .inr ⟨l,rfl,by grind⟩
theorem fZ_.keep {a D:Pl} (C:∀ l,b≤l→(∀ o,a≠some (l,o))→l < H.length→H'[l]? =H[l]? ∧∀ o,D≠some (l,o)):∀ {cs:List GV} {is:List InfoR},fZ_ H b a cs is→fZ_ H' b D cs is:=by
 intro cs is h;induction h with
 | nil=>exact .nil
 | cons A r _ F=>
  refine .cons (A.keep fun l o e=> ?_) (fun l o e=> ?_) F
  ·subst e; exact (C l (r l o rfl).1 (r l o rfl).2 A.lt).1
  ·subst e; exact⟨(r l o rfl).1,(C l (r l o rfl).1 (r l o rfl).2 A.lt).2⟩
theorem fZ_.snoc (h:fZ_ H b a cs is) (A:c1_ H p i.files) (D:∀ l o,p=some (l,o)→b≤l∧∀ F,a≠some (l,F)):fZ_ H b a (cs++iz_ p i) (is++[i]):=by
 induction h with
 | nil=>simpa using (fZ_.cons A D .nil)
 | cons r G _ C=>exact .cons r G C
theorem fZ_.len (h:fZ_ H b a cs is):cs.length=is.length*5:=by
 induction h with
 | nil=>rfl
 | cons _ _ _ r=>simp [iz_]; omega
def cH_ (H:Hp) (b:Nat) (a:Pl) (is:List InfoR):Prop:=(a=none∧is=[])∨∃ l cs,a=some (l,0)∧b≤l∧H[l]? =some (.row true 45 cs)∧fZ_ H b a cs is
theorem s1_ (h:cH_ H b a is) (G:b≤H.length) (C:c1_ H p i.files) (F:∀ l o,p=some (l,o)→b≤l∧∀ I,a≠some (l,I)) (hn:is.length≤1000)
 (D:∀ N H',cH_ H' b N (is++[i])→(∀ l,l < b→H'[l]? =H[l]?)→H.length≤H'.length→K N (is++[i]).length H'):ap H 45 5 80 a is.length (iz_ p i) 1 K:=by
 have J:(iz_ p i).length=1*5:=rfl;unfold ap app?;rw[if_pos ⟨by unfold Lim; omega,J⟩];rw[kI,length_singleton] at D;rcases h with⟨rfl,rfl⟩ | ⟨l,cs,rfl,Y,r,O⟩
 ·simp only[length_nil,if_pos];rw[if_neg (by omega)];refine D _ _ (.inr ⟨H.length,iz_ p i,rfl,G,by simp,?_⟩) (fun l J=>by rw[kM (by omega)]) (by simp);have:iz_ p i=iz_ p i++[]:=by simp
  rw[this];refine .cons (C.keep fun l o e=> ?_) (fun l o e=> ?_) .nil
  ·subst e; rw[kM C.lt]
  ·subst e; exact⟨(F l o rfl).1,fun I q=>by cases q; exact absurd C.lt (Nat.lt_irrefl _)⟩
 ·have U:=(kC.1 r).1;simp only[r];rw[if_pos ⟨trivial,trivial,O.len⟩];refine D _ _ (.inr ⟨H.length,cs++iz_ p i,rfl,G,by simp,?_⟩) (fun V hl'=>by rw[kM (by simp; omega),kF (by omega)]) (by simp);refine fZ_.keep (H:=H) (fun V W Z A=>⟨?_,fun o q=>by cases q; exact absurd A (Nat.lt_irrefl _)⟩) (O.snoc C F);grind
end Go.Am
namespace Go.Am
open List
section
variable {H:Hp} {Q:Post} {sp ms ml mi:Nat} {c0 c4:GV} {st:StD}
structure st_ (st:StD) (i:InfoR):Prop where
 mem:∃ x,look st.snaps i.name=some x∧i.kind=x.kind∧i.parent=x.parent∧i.label=x.label∧cF_ st x.id i.files
theorem xS_ {ev:β→RV} {l f t:Nat} (h:dO_ ekS ev H l ps) (hs:∀ x∈ps,x.1.size≤140737488351232) (hn:ps.length≤1000) (hf:Go.Proofs.keysFn f)
 (hK:∀ zs:List ByteArray,zs.Perm (ps.map (·.1))→zs.Pairwise (fun a b=>blt a b=true)→∀ H' a,H<+:H'→(∀ i (hi:i < zs.length),∃ l,a=some (l,0)∧gt H' l i=some (.str zs[i]))→K (.g (.sl a zs.length 1)) H'):
 slices_Sorted_string [.g (.fn f [(H.length,0)])] (H++[.row true t [.map (some l)]]) K:=by
 have ⟨A,c,hm,J,U,N⟩:=h.ex;have V:=h.lt;have F:A.map (fun e=>kL_ e.2.1)=ps.map (·.1):=by
  have e1:A.map (fun e=>kL_ e.2.1)=(A.map fun e=>(e.2.1,e.2.2)).map fun q=>kL_ q.1:=by simp
  rw[e1,J,map_map]; rfl
 have Y:A.length=ps.length:=by have:=congrArg length J; simpa
 have D:∀ e∈A,∃ x∈ps,e.2.1= .s (.str x.1):=fun e r=>by
  have:(e.2.1,e.2.2)∈A.map fun e=>(e.2.1,e.2.2):=mem_map.2 ⟨e,r,rfl⟩;rw[J] at this;have ⟨x,W,q⟩:=mem_map.1 this;have q':=congrArg Prod.fst q;exact⟨x,W,q'.symm⟩
 refine⟨f,H.length,t,[.map (some l)],some l,hf,rfl,by simp,rfl,?_⟩;refine⟨A,c,by rw[kM V]; exact hm,⟨fun e r=> ?_,U,N,by rw[F]; exact h.nodup,by omega⟩,fun zs O I=> ?_⟩
 ·have ⟨x,W,q⟩:=D e r;exact⟨x.1,q,hs x W⟩
 ·rw[F] at O;have nd:=O.nodup_iff.2 h.nodup;have asc:zs.Pairwise (fun a b=>blt a b=true):=by
   rw[pairwise_iff_getElem] at I ⊢;intro i j hi hj G;have Z:blt zs[j] zs[i]=false:=I i j hi hj G;rcases hq_ zs[i] zs[j] with q | q | q
   ·exact q.1
   ·exact absurd q.1 (pairwise_iff_getElem.1 nd i j hi hj G)
   ·rw[q.1] at Z; cases Z
  refine⟨fun e=> ?_,fun e=> ?_⟩
  ·simp_all
  ·refine hK zs O asc _ _ ((b7_ _ _).trans (b7_ _ _)) fun i hi=>⟨_,rfl,?_⟩;simp only[f0_,fb_];rw[bw_ (by rw[getElem?_append_right (kO _),Nat.sub_self]; rfl)];simp
theorem rR_ (h:gL_ H sp c0 ms ml mi c4 st) (hs:∀ x∈st.snaps,x.1.size≤140737488351232) (hn:st.snaps.length≤1000) {E:Nat→Sm} {K:Post}
 (hK:∀ zs:List ByteArray,zs.Perm (st.snaps.map (·.1))→zs.Pairwise (fun a b=>blt a b=true)→∀ H' a,H<+:H'→(∀ i (hi:i < zs.length),∃ l,a=some (l,0)∧gt H' l i=some (.str zs[i]))→K (.g (.sl a zs.length 1)) H'):
 cl (aY_ E) [(.g (.map (some ms)))] H fun r4 H5=>rG r4 fun v6=>cl slices_Sorted_string [(.g v6)] H5 K:=by
 refine⟨1,?_⟩;rw[eY_];simp only[aN_,fb_,f0_];exact xS_ h.snaps hs hn (.inr rfl) hK
end
end Go.Am
namespace Go.Am
open List
theorem d7_ {H H':Hp} (p:H<+:H') (h:gt H l o=some v):gt H' l o=some v:=by
 by_cases r:l < H.length
 ·unfold gt; rw[br_ p r]; exact h
 ·unfold gt at h; rw[getElem?_eq_none (by omega)] at h; cases h
theorem cH_.pre {H H':Hp} (h:cH_ H b a is) (p:H<+:H'):cH_ H' b a is:=by
 rcases h with q | ⟨l,G,rfl,F,D,I⟩
 ·exact .inl q
 ·exact .inr ⟨l,G,rfl,F,by rw[br_ p (kC.1 D).1]; exact D,I.keep fun J _ A r=>⟨br_ p r,A⟩⟩
theorem cH_.lt (h:cH_ H b (some (l,o)) is):l < H.length:=by
 rcases h with⟨q,_⟩ | ⟨r,D,e,G,A,F⟩
 ·cases q
 ·grind
section
variable {H:Hp} {Q:Post} {sp ms ml mi:Nat} {c0 c4:GV} {st:StD}
theorem pw_ {H G:Hp} (r:H.length≤G.length) (h:∀ l,l < H.length→G[l]? =H[l]?):H<+:G:=by
 rw[prefix_iff_eq_take];apply ext_getElem?;grind
structure cG_ (st:StD) (is:List InfoR):Prop where
 perm:(is.map (·.name)).Perm (st.snaps.map (·.1))
 asc:(is.map (·.name)).Pairwise fun a b=>blt a b=true
 info:∀ i∈is,st_ st i
theorem sc_ (h:gL_ H sp c0 ms ml mi c4 st) (hs:∀ x∈st.snaps,x.1.size≤140737488351232) (hn:st.snaps.length≤900) (V:st.links.length≤900)
 (hQ:∀ H' b a is,H<+:H'→H.length≤b→cH_ H' b a is→cG_ st is→Q (.g (.sl a is.length 5)) H'):
 bx_ E [.g (.ptr (some (sp,0)))] H Q:=by
 refine⟨st.snaps.length+2,?_⟩;rw[nW_];have ⟨_,g1,_⟩:=h.rd;simp;rw[ad_ g1,dW_];refine rR_ h hs (by omega) fun r hp hasc H1 az J hz=>⟨.inr rfl,?_⟩;have hzl:r.length=st.snaps.length:=by rw[hp.length_eq,length_map]
 have go:∀ (f k) G a is,r.length - k < f→k≤r.length→H1<+:G→cH_ G H1.length a is→is.map (·.name)=r.take k→(∀ i∈is,st_ st i)→
  bx_.l3 E f (some (sp,0)) a is.length az r.length (r.length) (k) G Q:=by
  intro f;induction f with
  | zero=>omega
  | succ f ih=>
   intro k G a is hf hk O N D I;rw[bx_.l3_eq];have hil:is.length=k:=by have:=congrArg length D; rw[length_map,length_take] at this; omega
   refine aa_ (fun e=> ?_) (fun e=> ?_)
   ·have A:k < r.length:=by simpa using e
    obtain⟨lz,rfl,hgz⟩:=hz k A;refine ab_ rfl (ab_ (by simp; omega) ?_);have etn:∀ k:Nat,tN (k:Int)=k:=fun _=>rfl;simp [af_];rw[ad_ (d7_ O hgz),ax_];have hS:=h.keep (H':=G) fun l V=>br_ (J.trans O) V;have ⟨_,g1',_⟩:=hS.rd;rw[ad_ g1',dW_];have Y:=hp.mem_iff.1 (kE A);refine hl_ okS hS.snaps r[k] (fun x U=> ?_) (fun U=> ?_)
    ·have hc:evS x= .a [.int .i64 x.id,.int .i64 x.kind,.str x.parent,.str x.label]:=rfl;rw[hc];simp [dS_];refine rZ_ hS x.id V fun G2 p fs F hfa hfo Z=>⟨.inr rfl,ab_ rfl (s1_ (i:=⟨r[k],x.kind,x.parent,x.label,fs⟩) (N.pre F) (Nat.le_trans O.length_le F.length_le) hfa (fun l o e=>⟨Nat.le_trans O.length_le (Z l o e),fun o' q=> ?_⟩) (by omega) fun a' G3 W hk3 hl3=> ?_)⟩
     ·subst q; have:=N.lt; have:=Z l o e; omega
     ·rw[an_ (by omega)];refine ih (k+1) G3 a' _ (by omega) A (pw_ (Nat.le_trans (O.trans F).length_le hl3) fun l V=>by rw[hk3 l V,br_ (O.trans F) V]) W ?_ fun i hi=> ?_
      ·rw[kL,D,take_add_one,kG A]; rfl
      ·rcases kD.1 hi with q | q
       ·exact I i q
       ·have:i=⟨r[k],x.kind,x.parent,x.label,fs⟩:=by simpa using q
        subst this;exact⟨⟨x,U,rfl,rfl,rfl,hfo⟩⟩
    ·have ⟨x,hx,e⟩:=mem_map.1 Y;exact absurd e (n2_ U x hx)
   ·have A: ¬ k < r.length:=by simpa using e
    have hke:k=r.length:=by omega
    subst hke;rw[take_length] at D;exact hQ G H1.length a is (J.trans O) J.length_le N ⟨by rw[D]; exact hp,by rw[D]; exact hasc,I⟩
 exact go _ 0 H1 none [] (by omega) (kP _) (prefix_refl _) (.inl ⟨rfl,rfl⟩) (by simp) (fun i hi=>by cases hi)
end
end Go.Am
namespace Go.Am
open List
def f2_ (H:Hp) (a:Pl) (fs:List FileR):Prop:=∀ i (hi:i < fs.length),∃ l o,a=some (l,o)∧gt H l (o+i*3)=some (.str fs[i].1)∧gt H l (o+i*3+1)=some (.str fs[i].2.1)∧gt H l (o+i*3+1+1)=some (.bool fs[i].2.2)
theorem c1_.rd (h:c1_ H a fs):f2_ H a fs:=fun i r=>by
 rcases h with⟨_,rfl⟩ | ⟨l,rfl,h⟩
 ·cases r
 ·exact⟨l,0,rfl,by simpa using c1_.gets h i r⟩
theorem f2_.pre {H H':Hp} (h:f2_ H a fs) (p:H<+:H'):f2_ H' a fs:=fun i F=>by
 have ⟨l,o,e,A,D,r⟩:=h i F;exact⟨l,o,e,d7_ p A,d7_ p D,d7_ p r⟩
def dT_ (H:Hp) (a:Pl) (is:List InfoR):Prop:=∀ i (hi:i < is.length),∃ l o p,a=some (l,o)∧gt H l (o+i*5)=some (.str is[i].name)∧gt H l (o+i*5+1)=some (.int .i64 is[i].kind)∧gt H l (o+i*5+1+1)=some (.str is[i].parent)∧gt H l (o+i*5+1+1+1)=some (.str is[i].label)∧
 gt H l (o+i*5+1+1+1+1)=some (.sl p is[i].files.length 3)∧f2_ H p is[i].files
theorem dT_.pre {H H':Hp} (h:dT_ H a is) (p:H<+:H'):dT_ H' a is:=fun i J=>by
 have ⟨l,o,q,e,G,I,r,F,D,A⟩:=h i J;exact⟨l,o,q,e,d7_ p G,d7_ p I,d7_ p r,d7_ p F,d7_ p D,A.pre p⟩
theorem fZ_.at (h:fZ_ H b a cs is):∀ i (hi:i < is.length),∃ p,cs[i*5]? =some (.str is[i].name)∧cs[i*5+1]? =some (.int .i64 is[i].kind)∧cs[i*5+2]? =some (.str is[i].parent)∧cs[i*5+3]? =some (.str is[i].label)∧
 cs[i*5+4]? =some (.sl p is[i].files.length 3)∧f2_ H p is[i].files:=by
 induction h with
 | nil=>intro i hi; cases hi
 | @cons p x cs is D F _ A=>
  intro i hi;cases i with
  | zero=>exact⟨p,rfl,rfl,rfl,rfl,rfl,D.rd⟩
  | succ i=>
   have ⟨q,g⟩:=A i (by simp_all);have r:∀ k,(iz_ p x++cs)[(i+1)*5+k]? =cs[i*5+k]? :=fun k=>by
    rw[getElem?_append_right (by simp [iz_]; omega)];congr 1; simp [iz_]; omega
   refine⟨q,?_⟩;rw[show (i+1)*5=(i+1)*5+0 from rfl,r 0,show ∀ k,(i+1)*5+0+k=(i+1)*5+k from fun _=>rfl,show ∀ k,(i+1)*5+0+k=(i+1)*5+k from fun _=>rfl,r 1,r 2,r 3,r 4];exact g
theorem cH_.rd (h:cH_ H b a is):dT_ H a is:=fun i r=>by
 rcases h with⟨_,rfl⟩ | ⟨l,N,rfl,_,A,D⟩
 ·cases r
 ·have ⟨p,O,G,I,U,J,F⟩:=D.at i r;refine⟨l,0,p,rfl,?_,?_,?_,?_,?_,F⟩<;>rw[bw_ A,kN]<;>assumption
end Go.Am
namespace Go.Am
open List
open Go.Proofs
def hB_ (fs:List InfoR):Prop:=fs.Pairwise fun x y=>blt x.name y.name=true
def e1_ (fs:List InfoR) (s:ByteArray):Nat:=fs.countP fun f=>blt f.name s
theorem F1_ (fs:List InfoR) (s:ByteArray):e1_ fs s≤fs.length:=countP_le_length
theorem iA_:∀ {fs:List InfoR} (h:hB_ fs) (s:ByteArray) (i:Nat) (hi:i < fs.length),blt fs[i].name s=true↔i < e1_ fs s
 | [],_,_,_,hi=>by grind
 | f::fs,h,s,i,hi=>by
  have r:=pairwise_cons.1 h;unfold e1_;rw[countP_cons];cases e:blt f.name s with
  | true=>
   rw[if_pos rfl];cases i with
   | zero=>simp [e]
   | succ i=>
    have:=iA_ r.2 s i (by grind);simp;rw[this]; unfold e1_; omega
  | false=>
   have A:fs.countP (fun f=>blt f.name s)=0:=by
    rw[countP_eq_zero];intro x D q;rw[eU_ (r.1 x D) q] at e; cases e
   rw[A];cases i with
   | zero=>simp [e]
   | succ i=>
    grind
section
variable {H:Hp} {Q:Post}
theorem ly_ (r:Q (.g (.int .i64 (zZ_ a b))) H):c5_ [(176,e4_)] 176 [.agg [.str a,.int .i64 d,.str c,.str e,.sl p m 3],.g (.str b)] H Q:=by
 refine⟨1,?_⟩;rw[vG_];refine iC_ ?_;simp_all
theorem wz_ {a:Pl} {fs:List InfoR} {s:ByteArray} (h:dT_ H a fs) (ha:hB_ fs) (hn:fs.length≤1000)
 (hQ:Q (.tup [.s (.int .i64 ((e1_ fs s:Nat):Int)),.s (.bool (fs.any fun f=>decide (f.name=s)))]) H):
 h5_ [.g (.sl a fs.length 5),.g (.str s)] H Q:=by
 refine⟨1,?_⟩;rw[yt_];refine⟨fs.length+2,?_⟩;rw[eh_];have go:∀ (f i j:Nat),j - i < f→i≤e1_ fs s→e1_ fs s≤j→j≤fs.length→∀ {R:Post},R (.tup [.s (.int .i64 ((e1_ fs s:Nat):Int)),.s (.bool (fs.any fun f=>decide (f.name=s)))]) H→
  al_.l3 (c5_ [(176,e4_)]) f a fs.length s 176 [] ((fs.length:Nat):Int) ((i:Nat):Int) ((j:Nat):Int) H R:=by
  intro f;induction f with
  | zero=>intro i j h; omega
  | succ f ih=>
   intro i j hf h1 h2 h3 R hR;rw[al_.l3_eq];refine aa_ (fun e=> ?_) (fun e=> ?_)
   ·have hij:i < j:=by simpa using e
    rw[Ap_ (by omega)];have hm:(i+j) / 2 < fs.length:=by omega
    refine ab_ rfl (ab_ (by simp; omega) ?_);obtain⟨l,o,p,rfl,r1,r2,r3,r4,r5,_⟩:=h _ hm
    ·skip;have etn:∀ k:Nat,tN (k:Int)=k:=fun _=>rfl;simp only[af_,etn];rw[ad_ r1,ax_,ad_ r2,ai_,ad_ r3,ax_,ad_ r4,ax_,ad_ r5];refine⟨.inr rfl,?_⟩;refine ly_ ?_;simp only[aN_,ai_];rw[Co_,an_ (by omega)];have hp:=iA_ ha s _ hm;refine aa_ (fun e=> ?_) (fun e=> ?_)
     ·exact ih _ _ (by omega) (by have:=hp.1 e; omega) h2 h3 hR
     ·exact ih _ _ (by omega) h1 (by rw[e] at hp; have: ¬ (i+j) / 2 < e1_ fs s:=fun q=>by cases hp.2 q
                                     omega) (by omega) hR
   ·have hij: ¬ i < j:=by simpa using e
    have hi:i=e1_ fs s:=by omega
    subst hi;refine aa_ (fun e=> ?_) (fun e=> ?_)
    ·have hm:e1_ fs s < fs.length:=by simpa using e
     refine ab_ rfl (ab_ (by simp; omega) ?_);obtain⟨l,o,p,rfl,r1,r2,r3,r4,r5,_⟩:=h _ hm
     ·skip;have etn:∀ k:Nat,tN (k:Int)=k:=fun _=>rfl;simp only[af_,etn];rw[ad_ r1,ax_,ad_ r2,ai_,ad_ r3,ax_,ad_ r4,ax_,ad_ r5];refine⟨.inr rfl,?_⟩;refine ly_ ?_;simp only[aN_,ai_];rw[Cr_];have:decide (fs[e1_ fs s].name=s)=fs.any fun f=>decide (f.name=s):=by
       rw[Bool.eq_iff_iff,any_eq_true];simp only[decide_eq_true_eq];refine⟨fun e=>⟨_,kE hm,e⟩,fun⟨x,hx,e⟩=> ?_⟩;obtain⟨k,hk,rfl⟩:=kK hx;have hk1:=iA_ ha s k hk;rw[e,cA_] at hk1;have hle:e1_ fs s≤k:=by
        refine Nat.le_of_not_lt fun q=> ?_;cases hk1.2 q
       rcases Nat.lt_or_eq_of_le hle with q | q
       ·have hlt:=(pairwise_iff_getElem.1 ha) _ _ hm hk q;rw[e] at hlt;have:=(iA_ ha s _ hm).1 hlt;omega
       ·simp only[q]; exact e
      rw[this]; exact hR
    ·have hm: ¬ e1_ fs s < fs.length:=by simpa using e
     have:(fs.any fun f=>decide (f.name=s))=false:=by
      rw[any_eq_false];intro x hx q;obtain⟨k,hk,rfl⟩:=kK hx;have hk1:=iA_ ha s k hk;have q':fs[k].name=s:=by simpa using q
      rw[q',cA_] at hk1;have: ¬ k < e1_ fs s:=fun z=>by cases hk1.2 z
      omega
     rw[this] at hR; exact hR
 refine go _ 0 fs.length (by omega) (kP _) (F1_ _ _) (kO _) ?_;simp only[aI_,aB_,bB_,ai_,ak_,aT_];exact hQ
end
end Go.Am
namespace Go.Am
open List
def dj_ (is:List InfoR):Nat→Nat→Bool
 | 0,_=>false
 | f+1,i=>match is[i]? with
  | none=>false
  | some x=>if x.parent=mkS [] then true else (is.any fun y=>decide (y.name=x.parent))&&match is[e1_ is x.parent]? with
   | none=>false
   | some y=>eqI y.kind 2&&dj_ is f (e1_ is x.parent)
theorem GC_ (h:hB_ is) (A:(is.any fun y=>decide (y.name=s))=true):e1_ is s < is.length:=by
 have ⟨x,G,e⟩:=any_eq_true.1 A;have F:x.name=s:=by grind
 obtain⟨k,D,rfl⟩:=kK G;have r:=iA_ h s k D;rw[F,cA_] at r;grind
section
variable {H:Hp} {Q:Post}
theorem pO_ (h:dT_ H a is) (J:hB_ is) (Y:is.length≤1000) (hi:i < is.length) (A:Q (.g (.bool (dj_ is is.length i))) H):
 bZ_ [.g (.sl a is.length 5),.g (.int .i64 ((i:Nat):Int))] H Q:=by
 refine⟨is.length+2,?_⟩;rw[sv_];have I:∀ k:Nat,tN (k:Int)=k:=fun _=>rfl;have go:∀ (f i k),f=is.length - k→k≤is.length→i < is.length→Q (.g (.bool (dj_ is f i))) H→bZ_.l2 (f+1) a is.length (i) (is.length) (k) H Q:=by
  intro f;induction f with
  | zero=>
   intro i k O V hi A;rw[bZ_.l2_eq];refine aa_ (fun e=> ?_) (fun e=>A);have:k < is.length:=by simp_all
   omega
  | succ f U=>
   intro i k O V hi A;rw[bZ_.l2_eq];refine aa_ (fun e=> ?_) (fun e=> ?_)
   ·refine ab_ rfl (ab_ (by simp; omega) ?_);obtain⟨l,o,p,rfl,Z,r2,W,r4,r5,_⟩:=h _ hi;simp only[af_,I];rw[ad_ W,ax_];rw[dj_,kG hi] at A;dsimp at A;refine aa_ (fun e=> ?_) (fun e=> ?_)
    ·have G:is[i].parent=mkS []:=by simpa using e
     rw[if_pos G] at A; exact A
    ·have G: ¬ is[i].parent=mkS []:=by simpa using e
     rw[if_neg G] at A;refine wz_ h J Y ?_;simp only[aI_,aB_,bB_,ai_];refine aa_ (fun e=> ?_) (fun e=> ?_)
     ·rw[show (is.any fun y=>decide (y.name=is[i].parent))=false by simpa only[Bool.not_eq_true'] using e,Bool.false_and] at A;exact A
     ·have N:(is.any fun y=>decide (y.name=is[i].parent))=true:=by simpa using e
      have F:=GC_ J N;rw[N,Bool.true_and,kG F] at A;dsimp at A;refine ab_ rfl (ab_ (by simp; omega) ?_);obtain⟨l',o',p',q,_,D,_⟩:=h _ F;cases q;simp;rw[ad_ D,ai_];refine aa_ (fun e=> ?_) (fun e=> ?_)
      ·rw[show eqI is[e1_ is is[i].parent].kind 2=false by simpa using e,Bool.false_and] at A; exact A
      ·rw[show eqI is[e1_ is is[i].parent].kind 2=true by simpa using e,Bool.true_and] at A;rw[an_ (by omega)];exact U _ (k+1) (by omega) (by omega) F A
   ·have: ¬ k < is.length:=by simpa using e
    omega
 exact go is.length i 0 (by omega) (kP _) hi A
end
end Go.Am
namespace Go.Am
open List
def ei_ (cl:Bool) (f:FileR):Bool:=bk_ f.1 3&&(leI (sz f.2.1) 6&& !(cl&&f.2.2))
def yy_ {α:Type} (lt:α→α→Bool):List α→Bool
 | []=>true
 | [_]=>true
 | x::y::l=>lt x y&&yy_ lt (y::l)
theorem pJ_:∀ {l:List α},yy_ lt l=true↔∀ i (h:i+1 < l.length),lt l[i] l[i+1]=true
 | []=>⟨fun _ i h=>absurd h (by simp),fun _=>rfl⟩
 | [x]=>⟨fun _ i h=>absurd h (by simp),fun _=>rfl⟩
 | x::y::l=>by
  rw[yy_,kR,pJ_];constructor
  ·rintro⟨A,r⟩ i h;cases i with
   | zero=>exact A
   | succ i=>exact r i (by grind)
  ·exact fun h=>⟨h 0 (by simp),fun i D=>h (i+1) (by grind)⟩
theorem Bw_ (h:yy_ (fun x y=>blt x.name y.name) fs=true):hB_ fs:=by
 rw[pJ_] at h;unfold hB_;rw[pairwise_iff_getElem];intro i j F D r;induction j with
 | zero=>omega
 | succ j A=>
  rcases Nat.lt_or_eq_of_le (Nat.le_of_lt_succ r) with q | q
  ·exact eU_ (A (by omega) q) (h j D)
  ·grind
end Go.Am
namespace Go.Am
def cu_ (cl:Bool) (fs:List FileR):Nat→Nat→Bool
 | 0,_=>leI (fs.length:Int) 4
 | f+1,k=>match fs[k]? with
  | none=>false
  | some x=>ei_ cl x&&((match k with | 0=>true | j+1=>match fs[j]? with | none=>false | some y=>blt y.1 x.1)&&cu_ cl fs f (k+1))
section
variable {H:Hp} {Q:Post}
theorem qf_ {a:Pl} {fs:List FileR} {c:Bool} (h:f2_ H a fs) (hn:fs.length≤100000) (hs:∀ f∈fs,f.1.size≤140737488351232) (hQ:Q (.g (.bool (cu_ c fs fs.length 0))) H):
 bJ_ [.g (.sl a fs.length 3),.g (.bool c)] H Q:=by
 refine⟨fs.length+2,?_⟩;rw[up_];have etn:∀ k:Nat,tN (k:Int)=k:=fun _=>rfl;have go:∀ (f k:Nat),f=fs.length - k→k≤fs.length→Q (.g (.bool (cu_ c fs f k))) H→bJ_.l2 (f+1) a fs.length c a fs.length ((fs.length:Nat):Int) ((k:Nat):Int) H Q:=by
  intro f;induction f with
  | zero=>
   intro k hf hk hQ;rw[bJ_.l2_eq];refine aa_ (fun e=> ?_) (fun e=>hQ);have:k < fs.length:=by simpa using e
   omega
  | succ f ih=>
   intro k hf hk hQ;have hkl:k < fs.length:=by omega
   rw[bJ_.l2_eq];refine aa_ (fun e=> ?_) (fun e=> ?_)
   ·refine ab_ rfl (ab_ (by simp; omega) ?_);obtain⟨l,o,rfl,r1,r2,r3⟩:=h _ hkl;rw[cu_,kG hkl] at hQ;dsimp only at hQ;simp only[af_,etn];rw[ad_ r1,ax_,ad_ r2,ax_,ad_ r3,ak_];refine iN_ (hs _ (kE hkl)) ?_;simp only[aN_,ak_];refine aa_ (fun e=> ?_) (fun e=> ?_)
    ·have e':bk_ fs[k].1 3=false:=by simpa only[Bool.not_eq_true'] using e
     rw[show ei_ c fs[k]=false by unfold ei_; rw[e',Bool.false_and],Bool.false_and] at hQ; exact hQ
    have e1:bk_ fs[k].1 3=true:=by simpa only[Bool.not_eq_false'] using e
    refine j4_ ?_;simp only[aN_,ak_];refine aa_ (fun e=> ?_) (fun e=> ?_)
    ·have e':leI (sz fs[k].2.1) 6=false:=by simpa only[Bool.not_eq_true'] using e
     rw[show ei_ c fs[k]=false by unfold ei_; rw[e',e1]; rfl,Bool.false_and] at hQ; exact hQ
    have e2:leI (sz fs[k].2.1) 6=true:=by simpa only[Bool.not_eq_false'] using e
    have tail:ei_ c fs[k]=true→b2_ (ltI 0 ((k:Nat):Int)) (chk true (chk ((leI 0 (ac_ .i64 (((k:Nat):Int) - 1)))&&(ltI (ac_ .i64 (((k:Nat):Int) - 1)) ((fs.length:Nat):Int))) (rd H l ((o+((tN (ac_ .i64 (((k:Nat):Int) - 1)))*3))+0) fun v18=>
     dS v18 fun s19=>b2_ (!(dN_ s19 fs[k].1)) (Q (.g (.bool false)) H) (bJ_.l2 (f+1) (some (l,o)) fs.length c (some (l,o)) fs.length ((fs.length:Nat):Int) (ac_ .i64 (((k:Nat):Int)+1)) H Q))))
     (bJ_.l2 (f+1) (some (l,o)) fs.length c (some (l,o)) fs.length ((fs.length:Nat):Int) (ac_ .i64 (((k:Nat):Int)+1)) H Q):=fun hok=>by
     rw[hok,Bool.true_and] at hQ;rw[an_ (by omega)];cases k with
     | zero=>
      refine aa_ (fun e=>by simp at e) (fun e=> ?_);dsimp only at hQ;rw[Bool.true_and] at hQ;exact ih 1 (by omega) (by omega) hQ
     | succ j=>
      refine aa_ (fun e=> ?_) (fun e=>by simp at e);rw[d5_ (by omega)];refine ab_ rfl (ab_ (by simp; omega) ?_);have hj:j < fs.length:=by omega
      obtain⟨l',o',q,r1',_⟩:=h j hj;cases q;simp only[etn,kQ];rw[ad_ r1',ax_,jp_];dsimp only at hQ;rw[kG hj] at hQ;dsimp only at hQ;refine aa_ (fun e=> ?_) (fun e=> ?_)
      ·rw[show blt fs[j].1 fs[j+1].1=false by unfold blt; simpa only[Bool.not_eq_true'] using e,Bool.false_and] at hQ; exact hQ
      ·rw[show blt fs[j].1 fs[j+1].1=true by unfold blt; simpa only[Bool.not_eq_false'] using e,Bool.true_and] at hQ;exact ih (j+1+1) (by omega) (by omega) hQ
    refine aa_ (fun ec=> ?_) (fun ec=> ?_)
    ·refine aa_ (fun e=> ?_) (fun e=> ?_)
     ·rw[show ei_ c fs[k]=false by unfold ei_; rw[e1,e2,ec,e]; rfl,Bool.false_and] at hQ; exact hQ
     ·exact tail (by unfold ei_; rw[e1,e2,ec,e]; rfl)
    ·exact tail (by unfold ei_; rw[e1,e2,ec]; rfl)
   ·have: ¬ k < fs.length:=by simpa using e
    omega
 exact go fs.length 0 (by omega) (kP _) hQ
end
end Go.Am
namespace Go.Am
open List
def cX_ (x:InfoR):Bool:=bk_ x.name 4&&((leI 0 x.kind&&leI x.kind 2)&&(leI (sz x.label) 3&&cu_ (eqI x.kind 1) x.files x.files.length 0))
def gF_ (is:List InfoR):Nat→Nat→Bool
 | 0,_=>leI (is.length:Int) 6
 | f+1,k=>dj_ is is.length k&&gF_ is f (k+1)
def bA_ (is:List InfoR):Nat→Nat→Bool
 | 0,_=>gF_ is is.length 0
 | f+1,k=>match is[k]? with
  | none=>false
  | some x=>cX_ x&&((match k with | 0=>true | j+1=>match is[j]? with | none=>false | some y=>blt y.name x.name)&&bA_ is f (k+1))
section
variable {H:Hp} {Q:Post}
theorem qh_ (h:dT_ H a is) (A:hB_ is) (D:is.length≤1000):∀ (f k:Nat),f=is.length - k→k≤is.length→Q (.g (.bool (gF_ is f k))) H→bG_.l8 (f+1) a is.length ((is.length:Nat):Int) ((k:Nat):Int) H Q:=by
 intro f;induction f with
 | zero=>
  intro k I F r;rw[bG_.l8_eq];refine aa_ (fun e=> ?_) (fun e=>r);have:k < is.length:=by simp_all
  omega
 | succ f G=>
  intro k I F r;rw[bG_.l8_eq];refine aa_ (fun e=> ?_) (fun e=> ?_)
  ·refine pO_ h A D (by omega) ?_;rw[gF_] at r;refine aa_ (fun e=> ?_) (fun e=> ?_)
   ·grind
   ·rw[show dj_ is is.length k=true by simpa using e,Bool.true_and] at r;rw[an_ (by omega)];exact G (k+1) (by omega) (by omega) r
  ·have: ¬ k < is.length:=by simpa using e
   omega
end
end Go.Am
namespace Go.Am
open List
section
variable {H:Hp} {Q:Post}
theorem uj_ {a:Pl} {is:List InfoR} (h:dT_ H a is) (hn:is.length≤1000) (hs:∀ x∈is,x.name.size≤140737488351232∧x.files.length≤100000∧∀ f∈x.files,f.1.size≤140737488351232) (hQ:Q (.g (.bool (bA_ is is.length 0))) H):
 bG_ [.g (.sl a is.length 5)] H Q:=by
 refine⟨is.length*2+3,?_⟩;rw[wQ_];have etn:∀ k:Nat,tN (k:Int)=k:=fun _=>rfl;have mono:∀ (f k:Nat),bG_.l8 (is.length+1) a is.length ((is.length:Nat):Int) ((0:Nat):Int) H Q→True:=fun _ _ _=>trivial;have go:∀ (f k:Nat),f=is.length - k→k≤is.length→(∀ i (hi:i+1 < is.length),i+1 < k→blt is[i].name is[i+1].name=true)→Q (.g (.bool (bA_ is f k))) H→
  bG_.l2 (f+(is.length+2)) a is.length a is.length ((is.length:Nat):Int) ((k:Nat):Int) H Q:=by
  intro f;induction f with
  | zero=>
   intro k hf hk hp hQ;rw[show 0+(is.length+2)=(is.length+1)+1 by omega,bG_.l2_eq];refine aa_ (fun e=> ?_) (fun e=> ?_)
   ·have:k < is.length:=by simpa using e
    omega
   ·exact qh_ h (Bw_ (pJ_.2 fun i hi=>hp i hi (by omega))) hn is.length 0 (by omega) (kP _) hQ
  | succ f ih=>
   intro k hf hk hp hQ;have hkl:k < is.length:=by omega
   rw[show f+1+(is.length+2)=(f+(is.length+2))+1 by omega,bG_.l2_eq];refine aa_ (fun e=> ?_) (fun e=> ?_)
   ·refine ab_ rfl (ab_ (by simp; omega) ?_);obtain⟨l,o,p,rfl,r1,r2,r3,r4,r5,r6⟩:=h _ hkl;obtain⟨s1,s2,s3⟩:=hs _ (kE hkl);rw[bA_,kG hkl] at hQ;dsimp only at hQ;simp only[af_,etn];rw[ad_ r1,ax_,ad_ r2,ai_,ad_ r3,ax_,ad_ r4,ax_,ad_ r5];refine⟨.inr rfl,?_⟩;refine gS_ s1 ?_;simp only[aN_,ak_];refine aa_ (fun e=> ?_) (fun e=> ?_)
    ·have e':bk_ is[k].name 4=false:=by simpa only[Bool.not_eq_true'] using e
     rw[show cX_ is[k]=false by unfold cX_; rw[e',Bool.false_and],Bool.false_and] at hQ; exact hQ
    have e1:bk_ is[k].name 4=true:=by simpa only[Bool.not_eq_false'] using e
    refine nb_ ?_;simp only[aN_,ak_];refine aa_ (fun e=> ?_) (fun e=> ?_)
    ·have e':(leI 0 is[k].kind&&leI is[k].kind 2)=false:=by simpa only[Bool.not_eq_true'] using e
     rw[show cX_ is[k]=false by unfold cX_; rw[e1,e',Bool.false_and,Bool.true_and],Bool.false_and] at hQ; exact hQ
    have e2:(leI 0 is[k].kind&&leI is[k].kind 2)=true:=by simpa only[Bool.not_eq_false'] using e
    refine iS_ ?_;simp only[aN_,ak_];refine aa_ (fun e=> ?_) (fun e=> ?_)
    ·have e':leI (sz is[k].label) 3=false:=by simpa only[Bool.not_eq_true'] using e
     rw[show cX_ is[k]=false by unfold cX_; rw[e1,e2,e']; rfl,Bool.false_and] at hQ; exact hQ
    have e3:leI (sz is[k].label) 3=true:=by simpa only[Bool.not_eq_false'] using e
    refine qf_ r6 s2 s3 ?_;simp only[aN_,ak_];have eq:cX_ is[k]=cu_ (eqI is[k].kind 1) is[k].files is[k].files.length 0:=by unfold cX_; rw[e1,e2,e3]; rfl
    rw[eq] at hQ;refine aa_ (fun e=> ?_) (fun e=> ?_)
    ·rw[show cu_ (eqI is[k].kind 1) is[k].files is[k].files.length 0=false by simpa only[Bool.not_eq_true'] using e,Bool.false_and] at hQ; exact hQ
    rw[show cu_ (eqI is[k].kind 1) is[k].files is[k].files.length 0=true by simpa only[Bool.not_eq_false'] using e,Bool.true_and] at hQ;rw[an_ (by omega)];cases k with
    | zero=>
     refine aa_ (fun e=>by simp at e) (fun e=> ?_);dsimp only at hQ;rw[Bool.true_and] at hQ;exact ih 1 (by omega) (by omega) (fun i hi h=>by omega) hQ
    | succ j=>
     refine aa_ (fun e=> ?_) (fun e=>by simp at e);rw[d5_ (by omega)];refine ab_ rfl (ab_ (by simp; omega) ?_);have hj:j < is.length:=by omega
     obtain⟨l',o',p',q,r1',_⟩:=h j hj;cases q;simp only[etn,kQ];rw[ad_ r1',ax_,jp_];dsimp only at hQ;rw[kG hj] at hQ;dsimp only at hQ;refine aa_ (fun e=> ?_) (fun e=> ?_)
     ·rw[show blt is[j].name is[j+1].name=false by unfold blt; simpa only[Bool.not_eq_true'] using e,Bool.false_and] at hQ; exact hQ
     ·have hb:blt is[j].name is[j+1].name=true:=by unfold blt; simpa only[Bool.not_eq_false'] using e
      rw[hb,Bool.true_and] at hQ;refine ih (j+1+1) (by omega) (by omega) (fun i hi h=> ?_) hQ;by_cases c:i+1 < j+1
      ·exact hp i hi c
      ·have:i=j:=by omega
       subst this; exact hb
   ·have: ¬ k < is.length:=by simpa using e
    omega
 have:=go is.length 0 (by omega) (kP _) (fun i hi h=>by omega) hQ;rw[show is.length+(is.length+2)=is.length*2+2 by omega] at this;exact this
end
end Go.Am
namespace Go.Am
open List
section
variable {H:Hp} {Q:Post}
theorem w3_ (h:dT_ H a is) (Y:is.length≤1000)
 (V:∀ i (hi:i < is.length),is[i].name=s→(∀ j (A:j < is.length),j < i→is[j].name≠s)→Q (.g (.int .i64 ((i:Nat):Int))) H)
 (J:(∀ j (A:j < is.length),is[j].name≠s)→Q (.g (.int .i64 (-1))) H):b1_ [.g (.sl a is.length 5),.g (.str s)] H Q:=by
 refine⟨is.length+2,?_⟩;rw[AH_];have W:∀ k:Nat,tN (k:Int)=k:=fun _=>rfl;have go:∀ (f k),f=is.length - k→k≤is.length→(∀ j A,j < k→is[j].name≠s)→b1_.l2 (f+1) a is.length s (k) H Q:=by
  intro f;induction f with
  | zero=>
   intro k I N F;rw[b1_.l2_eq];refine aa_ (fun e=> ?_) (fun e=>J fun j A=>F j A (by omega));have:k < is.length:=by simpa using e
   omega
  | succ f O=>
   intro k I N F;have D:k < is.length:=by omega
   rw[b1_.l2_eq];refine aa_ (fun e=> ?_) (fun e=> ?_)
   ·refine ab_ rfl (ab_ (by simp; omega) ?_);obtain⟨l,o,p,rfl,U,_⟩:=h _ D;simp [af_];rw[ad_ U,ax_];refine aa_ (fun e=> ?_) (fun e=> ?_)
    ·exact V k D (by simpa using e) F
    ·rw[an_ (by omega)];refine O (k+1) (by omega) (by omega) fun j A G=> ?_;rcases Nat.lt_or_eq_of_le (Nat.le_of_lt_succ G) with q | q
     ·exact F j A q
     ·subst q; simpa using e
   ·have: ¬ k < is.length:=by simpa using e
    omega
 grind
end
end Go.Am
namespace Go.Am
def i0_ (is:List InfoR):Nat→ByteArray→Bool
 | 0,p=>decide (p=mkS [])
 | f+1,p=>if p=mkS [] then true else (is.any fun y=>decide (y.name=p))&&match is[e1_ is p]? with
  | none=>false
  | some y=>eqI y.kind 2&&i0_ is f y.parent
theorem zc_ (h:hB_ is) (hi:i < is.length):e1_ is is[i].name=i:=by
 have D:=iA_ h is[i].name i hi;rw[cA_] at D;have r:e1_ is is[i].name≤i:=Nat.le_of_not_lt fun q=>by grind
 rcases Nat.lt_or_eq_of_le r with q | q
 ·have A:=(List.pairwise_iff_getElem.1 h) _ _ (by omega) hi q;have:=(iA_ h is[i].name _ (by omega)).1 A;omega
 ·exact q
theorem wv_ (h:hB_ is) (D:(is.any fun y=>decide (y.name=s))=true):∃ F:e1_ is s < is.length,is[e1_ is s].name=s:=by
 have ⟨x,A,e⟩:=List.any_eq_true.1 D;obtain⟨k,r,rfl⟩:=kK A;have:=zc_ h r;grind
theorem oh_:∀ (f i:Nat) (hi:i < is.length),dj_ is (f+1) i=i0_ is f is[i].parent
 | 0,i,hi=>by
  rw[dj_,i0_,kG hi];by_cases e:is[i].parent=mkS []
  ·grind
  ·simp;cases is[e1_ is is[i].parent]? with
   | none=>simp
   | some y=>simp [dj_]
 | f+1,i,hi=>by
  rw[dj_,i0_,kG hi];dsimp;by_cases e:is[i].parent=mkS []
  ·grind
  ·by_cases r:e1_ is is[i].parent < is.length
   ·rw[kG r,oh_ f _ r]
   ·grind
theorem CB_ (a b:ByteArray):(dN_ a b||ey_ a b)= !(blt b a):=by
 rw[jp_,oa_];change (blt a b||decide (a=b))= !(blt b a);rcases hq_ a b with⟨A,r,D⟩ | ⟨A,r,D⟩ | ⟨A,r,D⟩
 ·grind
 ·grind
 ·grind
theorem rT_ {cl:Bool}:∀ (f k:Nat),cu_ cl fs f k=true→leI (fs.length:Int) 4=true
 | 0,_,h=>h
 | f+1,k,h=>by
  rw[cu_] at h;cases r:fs[k]? with
  | none=>rw[r] at h; cases h
  | some x=>
   rw[r] at h;simp at h;exact rT_ f _ h.2.2
section
variable {H:Hp} {Q:Post}
theorem fH_ (h:dT_ H a is) (G:hB_ is) (F:is.length≤1000)
 (I:(is.any fun y=>decide (y.name=s))=true→Q (.g (.int .i64 ((e1_ is s:Nat):Int))) H)
 (D:(is.any fun y=>decide (y.name=s))=false→Q (.g (.int .i64 (-1))) H):b1_ [.g (.sl a is.length 5),.g (.str s)] H Q:=by
 refine w3_ h F (fun i r e _=> ?_) (fun q=> ?_)
 ·have:=zc_ G r;grind
 ·refine D ?_;rw[List.any_eq_false];intro x A;obtain⟨j,J,rfl⟩:=kK A;grind
theorem tN_ (h:dT_ H a is) (G:hB_ is) (U:is.length≤1000):∀ (f s:Nat) (p:ByteArray),s+f=7→Q (.g (.bool (i0_ is f p))) H→∀ m,aX_.l11 (f+1+m) a is.length p ((s:Nat):Int) H Q:=by
 have F:∀ k:Nat,tN (k:Int)=k:=fun _=>rfl;intro f;induction f with
 | zero=>
  intro s p W A m;rw[show 0+1+m=m+1 by omega,aX_.l11_eq];rw[i0_] at A;refine aa_ (fun e=> ?_) (fun e=> ?_)
  ·have I: ¬ p=mkS []:=by simpa using e
   have e2:decide (p=mkS [])=false:=by simpa
   rw[e2] at A;refine fH_ h G U (fun D=> ?_) (fun D=> ?_)
   ·simp only[aN_,ai_];have ⟨J,_⟩:=wv_ G D;refine aa_ (fun e=>A) (fun e=> ?_);refine ab_ rfl (ab_ (by simp; omega) ?_);obtain⟨l,o,q,rfl,V,N,O,Z,Y,_⟩:=h _ J;simp only[af_,F];rw[ad_ N,ai_];refine aa_ (fun e=>A) (fun e=> ?_);simp_all
   ·simp only[aN_,ai_];refine aa_ (fun e=>A) (fun e=>by simp at e)
  ·simp_all
 | succ f ih=>
  intro s p W A m;rw[show f+1+1+m=(f+1+m)+1 by omega,aX_.l11_eq];rw[i0_] at A;refine aa_ (fun e=> ?_) (fun e=> ?_)
  ·have I: ¬ p=mkS []:=by simpa using e
   rw[if_neg I] at A;refine fH_ h G U (fun D=> ?_) (fun D=> ?_)
   ·simp only[aN_,ai_];obtain⟨J,_⟩:=wv_ G D;rw[D,Bool.true_and,kG J] at A;dsimp at A;refine aa_ (fun e=> ?_) (fun e=> ?_)
    ·simp at e; omega
    refine ab_ rfl (ab_ (by simp; omega) ?_);obtain⟨l,o,q,rfl,V,N,O,Z,Y,_⟩:=h _ J;simp only[af_,F];rw[ad_ N,ai_];refine aa_ (fun e=> ?_) (fun e=> ?_)
    ·grind
    rw[show eqI is[e1_ is p].kind 2=true by simpa only[Bool.not_eq_false'] using e,Bool.true_and] at A;refine aa_ (fun e=> ?_) (fun e=> ?_)
    ·have:(6:Int) < s:=by simpa using e
     omega
    refine ab_ rfl (ab_ (by simp; omega) ?_);rw[ad_ O,ax_,an_ (by omega)];exact ih (s+1) _ (by omega) A m
   ·simp_all
  ·have I:p=mkS []:=by simpa using e
   rw[if_pos I] at A; exact A
theorem qd_ {a p:Pl} {is:List InfoR} {x:InfoR} (h:dT_ H a is) (ha:hB_ is) (hn:is.length≤1000) (hf:f2_ H p x.files) (hfn:x.files.length≤100000) (hs:x.name.size≤140737488351232) (hs2:∀ f∈x.files,f.1.size≤140737488351232)
 (hQ:Q (.g (.bool (cX_ x&&i0_ is 7 x.parent))) H):
 aX_ [.g (.sl a is.length 5),.agg [.str x.name,.int .i64 x.kind,.str x.parent,.str x.label,.sl p x.files.length 3]] H Q:=by
 refine⟨x.files.length+10+1,?_⟩;rw[sz_];have etn:∀ k:Nat,tN (k:Int)=k:=fun _=>rfl;refine cb_ hs ?_;simp only[aN_,ak_];refine aa_ (fun e=> ?_) (fun e=> ?_)
 ·rw[show cX_ x=false by unfold cX_; rw[show bk_ x.name 4=false by simpa only[Bool.not_eq_true'] using e,Bool.false_and],Bool.false_and] at hQ; exact hQ
 have e1:bk_ x.name 4=true:=by simpa only[Bool.not_eq_false'] using e
 refine aa_ (fun e=> ?_) (fun e=> ?_)
 ·rw[show cX_ x=false by unfold cX_; rw[show leI 0 x.kind=false by simp at e ⊢; omega]; simp,Bool.false_and] at hQ; exact hQ
 have e2:leI 0 x.kind=true:=by simp at e ⊢; omega
 refine aa_ (fun e=> ?_) (fun e=> ?_)
 ·rw[show cX_ x=false by unfold cX_; rw[show leI x.kind 2=false by simp at e ⊢; omega]; simp,Bool.false_and] at hQ; exact hQ
 have e3:leI x.kind 2=true:=by simp at e ⊢; omega
 refine aa_ (fun e=> ?_) (fun e=> ?_)
 ·rw[show cX_ x=false by unfold cX_; rw[show leI (sz x.label) 3=false by simp at e ⊢; omega]; simp,Bool.false_and] at hQ; exact hQ
 have e4:leI (sz x.label) 3=true:=by simp at e ⊢; omega
 have eq:cX_ x=cu_ (eqI x.kind 1) x.files x.files.length 0:=by unfold cX_; rw[e1,e2,e3,e4]; rfl
 rw[eq] at hQ;refine aa_ (fun e=> ?_) (fun e=> ?_)
 ·have:cu_ (eqI x.kind 1) x.files x.files.length 0=false:=by
   cases hff:cu_ (eqI x.kind 1) x.files x.files.length 0 with
   | false=>rfl
   | true=>
    have:=rT_ _ _ hff;simp at e this; omega
  rw[this,Bool.false_and] at hQ; exact hQ
 have e5:leI (x.files.length:Int) 4=true:=by simp at e ⊢; omega
 have go:∀ (f k:Nat),f=x.files.length - k→k≤x.files.length→Q (.g (.bool (cu_ (eqI x.kind 1) x.files f k&&i0_ is 7 x.parent))) H→
  aX_.l4 (f+10) a is.length x.name x.kind x.parent x.label p x.files.length ((k:Nat):Int) H Q:=by
  intro f;induction f with
  | zero=>
   intro k hf' hk hQ;rw[show 0+10=9+1 by omega,aX_.l4_eq];refine aa_ (fun e=> ?_) (fun e=> ?_)
   ·have:k < x.files.length:=by simpa using e
    omega
   ·rw[cu_,e5,Bool.true_and] at hQ;exact tN_ h ha hn 7 0 _ rfl hQ 1
  | succ f ih=>
   intro k hf' hk hQ;have hkl:k < x.files.length:=by omega
   rw[show f+1+10=(f+10)+1 by omega,aX_.l4_eq];refine aa_ (fun e=> ?_) (fun e=>by simp at e; omega);refine ab_ rfl (ab_ (by simp; omega) ?_);obtain⟨l,o,rfl,r1,r2,r3⟩:=hf _ hkl;rw[cu_,kG hkl] at hQ;dsimp only at hQ;simp only[af_,etn];rw[ad_ r1,ax_,ad_ r2,ax_,ad_ r3,ak_];refine fD_ (hs2 _ (kE hkl)) ?_;simp only[aN_,ak_];refine aa_ (fun e=> ?_) (fun e=> ?_)
   ·rw[show ei_ (eqI x.kind 1) x.files[k]=false by unfold ei_; rw[show bk_ x.files[k].1 3=false by simpa only[Bool.not_eq_true'] using e,Bool.false_and],Bool.false_and,Bool.false_and] at hQ; exact hQ
   have e6:bk_ x.files[k].1 3=true:=by simpa only[Bool.not_eq_false'] using e
   refine aa_ (fun e=> ?_) (fun e=> ?_)
   ·rw[show ei_ (eqI x.kind 1) x.files[k]=false by unfold ei_; rw[show leI (sz x.files[k].2.1) 6=false by simp at e ⊢; omega]; simp,Bool.false_and,Bool.false_and] at hQ; exact hQ
   have e7:leI (sz x.files[k].2.1) 6=true:=by simp at e ⊢; omega
   have tail:ei_ (eqI x.kind 1) x.files[k]=true→b2_ (ltI 0 ((k:Nat):Int)) (chk true (chk ((leI 0 (ac_ .i64 (((k:Nat):Int) - 1)))&&(ltI (ac_ .i64 (((k:Nat):Int) - 1)) (nI x.files.length))) (
    rd H l ((o+((tN (ac_ .i64 (((k:Nat):Int) - 1)))*3))+0) fun v18=>
    dS v18 fun s19=>b2_ ((dN_ x.files[k].1 s19)||(ey_ x.files[k].1 s19)) (Q (.g (.bool false)) H)
     (aX_.l4 (f+10) a is.length x.name x.kind x.parent x.label (some (l,o)) x.files.length (ac_ .i64 (((k:Nat):Int)+1)) H Q))))
    (aX_.l4 (f+10) a is.length x.name x.kind x.parent x.label (some (l,o)) x.files.length (ac_ .i64 (((k:Nat):Int)+1)) H Q):=fun hok=>by
    rw[hok,Bool.true_and] at hQ;rw[an_ (by omega)];cases k with
    | zero=>
     refine aa_ (fun e=>by simp at e) (fun e=> ?_);dsimp only at hQ;rw[Bool.true_and] at hQ;exact ih 1 (by omega) (by omega) hQ
    | succ j=>
     refine aa_ (fun e=> ?_) (fun e=>by simp at e);rw[d5_ (by omega)];refine ab_ rfl (ab_ (by simp; omega) ?_);have hj:j < x.files.length:=by omega
     obtain⟨l',o',q,r1',_⟩:=hf j hj;cases q;simp only[etn,kQ];rw[ad_ r1',ax_,CB_];dsimp only at hQ;rw[kG hj] at hQ;dsimp only at hQ;refine aa_ (fun e=> ?_) (fun e=> ?_)
     ·rw[show blt x.files[j].1 x.files[j+1].1=false by simpa only[Bool.not_eq_true'] using e,Bool.false_and,Bool.false_and] at hQ; exact hQ
     ·rw[show blt x.files[j].1 x.files[j+1].1=true by simpa only[Bool.not_eq_false'] using e,Bool.true_and] at hQ;exact ih (j+1+1) (by omega) (by omega) hQ
   refine aa_ (fun eo=> ?_) (fun eo=> ?_)
   ·refine aa_ (fun e=> ?_) (fun e=> ?_)
    ·rw[show ei_ (eqI x.kind 1) x.files[k]=false by unfold ei_; rw[e6,e7,eo,e]; rfl,Bool.false_and,Bool.false_and] at hQ; exact hQ
    ·exact tail (by unfold ei_; rw[e6,e7,eo,e]; rfl)
   ·exact tail (by unfold ei_; rw[e6,e7,eo]; simp)
 exact go _ 0 rfl (kP _) hQ
end
end Go.Am
namespace Go.Am
open List
theorem xU_ {α:Type} {p q:α→Bool}:∀ {l:List α},(∀ x∈l,p x=true→q x=true)→(∃ x∈l,q x=true∧p x=false)→l.countP p < l.countP q
 | [],_,⟨x,h,_⟩=>by grind
 | y::l,A,G=>by
  have I:l.countP p≤l.countP q:=countP_mono_left fun x r=>A x (by grind);have ⟨x,r,D,F⟩:=G;rcases mem_cons.1 r with rfl | r
  ·grind
  ·have:=xU_ (fun x r=>A x (by grind)) ⟨x,r,D,F⟩;grind
theorem rQ_:∀ (f i:Nat),dj_ is f i=true→dj_ is (f+1) i=true
 | 0,i,h=>by cases h
 | f+1,i,h=>by
  rw[dj_] at h ⊢;cases D:is[i]? with
  | none=>rw[D] at h; cases h
  | some x=>
   rw[D] at h;dsimp at h ⊢;by_cases e:x.parent=mkS []
   ·grind
   ·rw[if_neg e] at h ⊢;rw[kR] at h ⊢;refine⟨h.1,?_⟩;have r:=h.2;cases A:is[e1_ is x.parent]? with
    | none=>rw[A] at r; cases r
    | some y=>
     rw[A] at r;rw[kR] at r ⊢;exact⟨r.1,rQ_ f _ r.2⟩
theorem pj_ (r:f≤g) (h:dj_ is f i=true):dj_ is g i=true:=by
 induction g with
 | zero=>have:f=0:=by omega
         grind
 | succ g A=>
  rcases Nat.lt_or_eq_of_le r with q | q
  ·exact rQ_ g i (A (by omega))
  ·grind
theorem CL_ (h:dj_ is f i=true):i < is.length:=by
 cases f with
 | zero=>cases h
 | succ f=>
  rw[dj_] at h;grind
theorem Dc_ (r:dj_ is (f+2) i=true) (D:dj_ is (f+1) i=false):∃ j,dj_ is (f+1) j=true∧dj_ is f j=false:=by
 rw[dj_] at r D;cases A:is[i]? with
 | none=>rw[A] at r; cases r
 | some x=>
  grind
theorem x7_:∀ (f i:Nat),dj_ is (f+1) i=true→dj_ is f i=false→f+1≤(List.range is.length).countP (dj_ is (f+1))
 | 0,i,r,_=>countP_pos_iff.2 ⟨i,mem_range.2 (CL_ r),r⟩
 | f+1,i,r,A=>by
  have ⟨j,G,D⟩:=Dc_ r A;have I:=x7_ f j G D;have:=xU_ (q:=dj_ is (f+2)) (fun x _ F=>rQ_ _ _ F) ⟨i,mem_range.2 (CL_ r),r,A⟩;grind
theorem wA_:∀ (m i:Nat),dj_ is m i=true→dj_ is is.length i=true
 | 0,i,h=>by cases h
 | m+1,i,h=>by
  by_cases A:m+1≤is.length
  ·exact pj_ A h
  ·cases r:dj_ is m i with
   | true=>exact wA_ m i r
   | false=>
    have D:=x7_ m i h r;have F:(List.range is.length).countP (dj_ is (m+1))≤(List.range is.length).length:=countP_le_length;grind
theorem Bv_ (A:is.length≤6) (i:Nat):dj_ is 8 i=dj_ is is.length i:=by
 cases h:dj_ is is.length i with
 | true=>exact pj_ (by omega) h
 | false=>
  cases r:dj_ is 8 i with
  | false=>rfl
  | true=>rw[wA_ 8 i r] at h; cases h
theorem jo_:∀ (f k:Nat),f=is.length - k→k≤is.length→(gF_ is f k=true↔(∀ j,k≤j→j < is.length→dj_ is is.length j=true)∧leI (is.length:Int) 6=true)
 | 0,k,A,r=>by
  rw[gF_];grind
 | f+1,k,A,r=>by
  rw[gF_,kR,jo_ f (k+1) (by omega) (by omega)];grind
theorem km_:∀ (f k:Nat),bA_ is f k=true→gF_ is is.length 0=true
 | 0,_,h=>h
 | f+1,k,h=>by
  rw[bA_] at h;cases r:is[k]? with
  | none=>rw[r] at h; cases h
  | some x=>
   rw[r] at h;simp at h;exact km_ f _ h.2.2
section
variable {H:Hp} {Q:Post}
theorem dU_ {a:Pl} {is:List InfoR} (h:dT_ H a is) (ha:hB_ is) (hn:is.length≤1000) (hs:∀ x∈is,x.name.size≤140737488351232∧x.files.length≤100000∧∀ f∈x.files,f.1.size≤140737488351232) (hQ:Q (.g (.bool (bA_ is is.length 0))) H):
 aU_ [.g (.sl a is.length 5)] H Q:=by
 refine⟨is.length+2,?_⟩;rw[pH_];have etn:∀ k:Nat,tN (k:Int)=k:=fun _=>rfl;refine aa_ (fun e=> ?_) (fun e=> ?_)
 ·have:bA_ is is.length 0=false:=by
   cases hi:bA_ is is.length 0 with
   | false=>rfl
   | true=>
    have:=(jo_ (is:=is) _ 0 rfl (kP _)).1 (km_ _ _ hi);have h6:=this.2;simp at e h6; omega
  rw[this] at hQ; exact hQ
 have h6:is.length≤6:=by simp at e; omega
 have go:∀ (f k:Nat),f=is.length - k→k≤is.length→(∀ j,j < k→dj_ is is.length j=true)→Q (.g (.bool (bA_ is f k))) H→
  aU_.l4 (f+1) a is.length ((k:Nat):Int) H Q:=by
  intro f;induction f with
  | zero=>
   intro k hf hk hr hQ;rw[aU_.l4_eq];refine aa_ (fun e=> ?_) (fun e=> ?_)
   ·have:k < is.length:=by simpa using e
    omega
   ·have:bA_ is 0 k=true:=(jo_ (is:=is) _ 0 rfl (kP _)).2 ⟨fun j _ hj=>hr j (by omega),by simp; omega⟩;rw[this] at hQ; exact hQ
  | succ f ih=>
   intro k hf hk hr hQ;have hkl:k < is.length:=by omega
   rw[aU_.l4_eq];refine aa_ (fun e=> ?_) (fun e=>by simp at e; omega);refine ab_ rfl (ab_ (by simp; omega) ?_);obtain⟨l,o,p,rfl,r1,r2,r3,r4,r5,r6⟩:=h _ hkl;obtain⟨s1,s2,s3⟩:=hs _ (kE hkl);simp only[af_,etn];rw[ad_ r1,ax_,ad_ r2,ai_,ad_ r3,ax_,ad_ r4,ax_,ad_ r5];refine⟨.inr rfl,?_⟩;refine qd_ h ha hn r6 s2 s1 s3 ?_;simp only[aN_,ak_];have hw:i0_ is 7 is[k].parent=dj_ is is.length k:=by rw[←oh_ 7 k hkl,Bv_ h6]
   rw[hw];refine aa_ (fun e=> ?_) (fun e=> ?_)
   ·have e':(cX_ is[k]&&dj_ is is.length k)=false:=by simpa only[Bool.not_eq_true'] using e
    have:bA_ is (f+1) k=false:=by
     cases hi:bA_ is (f+1) k with
     | false=>rfl
     | true=>
      have hroot:=((jo_ (is:=is) _ 0 rfl (kP _)).1 (km_ _ _ hi)).1 k (kP _) hkl;rw[bA_,kG hkl] at hi;dsimp only at hi;rw[kR] at hi;rw[hi.1,hroot] at e'; cases e'
    rw[this] at hQ; exact hQ
   ·have e':(cX_ is[k]&&dj_ is is.length k)=true:=by simpa only[Bool.not_eq_false'] using e
    rw[kR] at e';rw[bA_,kG hkl] at hQ;dsimp only at hQ;rw[e'.1,Bool.true_and] at hQ;have hr':∀ j,j < k+1→dj_ is is.length j=true:=fun j hj=>by
     rcases Nat.lt_or_eq_of_le (Nat.le_of_lt_succ hj) with q | q
     ·exact hr j q
     ·subst q; exact e'.2
    rw[an_ (by omega)];cases k with
    | zero=>
     refine aa_ (fun e=>by simp at e) (fun e=> ?_);dsimp only at hQ;rw[Bool.true_and] at hQ;exact ih 1 (by omega) (by omega) hr' hQ
    | succ j=>
     refine aa_ (fun e=> ?_) (fun e=>by simp at e);refine ab_ rfl (ab_ (by simp; omega) ?_);simp only[af_,etn,kQ];rw[ad_ r1,ax_,d5_ (by omega)];refine ab_ rfl (ab_ (by simp; omega) ?_);have hj:j < is.length:=by omega
     obtain⟨l',o',p',q,r1',_⟩:=h j hj;cases q;simp only[etn,kQ];rw[ad_ r1',ax_,CB_];dsimp only at hQ;rw[kG hj] at hQ;dsimp only at hQ;have hb:blt is[j].name is[j+1].name=true:=(pairwise_iff_getElem.1 ha) _ _ hj hkl (Nat.lt_succ_self _);rw[hb,Bool.true_and] at hQ;rw[hb];exact ih (j+1+1) (by omega) (by omega) hr' hQ
 exact go _ 0 rfl (kP _) (fun j hj=>by omega) hQ
end
end Go.Am
section
namespace Go.Am
open List
section
variable {B H:Hp} {t:TypeId} {ps:KV} {lf lt:Nat} {lo hi:ByteArray} {Q:Post}
theorem qW_ (g:SJ B H t ps) (O:gt B lf 0=some (.str lo)) (F:gt B lt 0=some (.str hi)) (G:ps.length≤1000) (k v:ByteArray)
 (I:∀ H',SJ B H' t (ps++[(k,v)].filter (inR lo hi))→Q (.tup []) H'):ep_ [.agg [.str k,.str v],.g (.ptr (some (lf,0))),.g (.ptr (some (lt,0))),.g (.ptr (some (B.length,0)))] H Q:=by
 have D:inR lo hi (k,v)=false→Q (.tup []) H:=fun e=>I H (by grind);have r:inR lo hi (k,v)=true→∀ H',SJ B H' t (ps++[(k,v)])→Q (.tup []) H':=fun e H' U=>I H' (by grind);rw[Hn_] at D r;refine⟨1,?_⟩;rw[t4_,ad_ (b6_ g.pre O),ax_,iO_];refine aa_ (fun e=> ?_) (fun e=>D (by grind));rw[ad_ (b6_ g.pre F),ax_];refine aa_ (fun N=> ?_) (fun N=> ?_)
 ·have A:hi=mkS []:=by simp_all
  exact g.add k v G (r (by grind))
 ·have A: ¬ hi=mkS []:=by simp_all
  rw[ad_ (b6_ g.pre F),ax_,iO_];refine aa_ (fun J=> ?_) (fun J=> ?_)
  ·exact g.add k v G (r (by grind))
  ·grind
end
section
variable {H0 B:Hp} {x:Pl} {cs:List PC} {T:List Pg} {t:TypeId} {lp lf lt gf:Nat} {lo hi:ByteArray} {E:Nat→Sm}
set_option maxRecDepth 100000 in
theorem vt_ (hT:Tr H0 x 48 cs T) (h0B:H0<+:B) (hlp:gt B lp 0=some (.sl x 48 5)) (hf:gt B lf 0=some (.str lo)) (ht:gt B lt 0=some (.str hi)) (hE:E gf=ep_):
 ∀ (f at_:Nat) (H:Hp) (Q:Post) (ps:KV),WfT T f at_→at_ < 48→SJ B H t ps→ps.length+(allD T f at_).length≤1000→(∀ H',SJ B H' t (ps++(allD T f at_).filter (inR lo hi))→Q (.tup []) H')→
  bh_.at E f [.g (.ptr (some (lp,0))),.g (.int .i64 (at_:Int)),.g (.fn gf [(lf,0),(lt,0),(B.length,0)])] H Q:=by
 intro f;induction f with
 | zero=>intro _ _ _ _ h; exact h.elim
 | succ f ih=>
  intro at_ H Q ps hg hat g hb hQ
  obtain⟨p,hp,hm,hkids⟩:=hg;obtain⟨l,o,c,p',rfl,hc,hp',hpc,g0,g1,g2,g3,g4⟩:=hT.get hat;rw[hp] at hp'; cases hp';obtain⟨hv1,hv2⟩:=z3_ hm;have hswap:p.keys.zip p.vals++(p.kids.flatMap fun k=>allD T f k.toNat)=(p.kids.flatMap fun k=>allD T f k.toNat)++p.keys.zip p.vals:=by
   cases hl:p.leaf with
   | true=>rw[(hm.2.leaf hl).2.1]; simp
   | false=>rw[(hm.2.inner hl).2.1]; simp
  rw[CW_ hp,hswap] at hb hQ;rw[kI,hv2] at hb;have hn1:=hpc.keys.len;have hn2:=hpc.vals.len;have hn3:=hpc.kids.len;have hl3:=hpc.kids.lim;have hl2:=hpc.vals.lim;have k48:∀ k∈p.kids,1≤k∧k < 48:=fun k hk=>by
   cases hlf:p.leaf with
   | true=>rw[(hm.2.leaf hlf).2.1] at hk; simp at hk
   | false=>exact (hm.2.inner hlf).2.2.2.1 k hk
  have etN:tN (at_:Int)=at_:=rfl
  have l7:∀ (F i:Nat) (H:Hp) (qs:KV),p.vals.length - i < F→i≤p.vals.length→SJ B H t qs→qs.length+(p.vals.length - i)≤1000→qs++((p.keys.zip p.vals).drop i).filter (inR lo hi)=ps++((p.kids.flatMap fun k=>allD T f k.toNat)++p.keys.zip p.vals).filter (inR lo hi)→
   bh_.l7 E (bh_.at E f) F gf [(lf,0),(lt,0),(B.length,0)] l (o+at_*5) c.a2 c.n2 (nI c.n2) (i:Int) H Q:=by
   intro F;induction F with
   | zero=>intro i _ _ h; omega
   | succ F ihF=>
    intro i H qs hF hi' g hb he;have hH:=h0B.trans g.pre;rw[bh_.l7_eq];by_cases hik:i < p.vals.length
    ·rw[az_ (by simp; omega),ae_,(hpc.mono hH).vals.rd i rfl hik,ad_ (v:= .sl c.a1 c.n1 1) (by exact b6_ hH g2),ah_,ae_,(hpc.mono hH).keys.rd i rfl (by omega)];have e:(p.keys.zip p.vals).drop i=(p.keys[i]'(by omega),p.vals[i])::(p.keys.zip p.vals).drop (i+1):=by
      rw[drop_eq_getElem_cons (by omega)]; simp
     rw[e] at he;rw[hE];refine qW_ g hf ht (by omega) _ _ fun H' g'=> ?_;rw[an_ (by omega)];have hfl:([(p.keys[i]'(by omega),p.vals[i])].filter (inR lo hi)).length≤1:=length_filter_le _ _;refine ihF (i+1) H' _ (by omega) (by omega) g' (by rw[kI]; omega) ?_;rw[append_assoc,←filter_append];exact he
    ·rw[aD_ (by simp; omega)];rw[drop_of_length_le (by omega),filter_nil,append_nil] at he;subst he;exact hQ H g
  have l2:∀ (F i:Nat) (H:Hp) (qs:KV),p.kids.length - i+p.vals.length+2 < F→i≤p.kids.length→SJ B H t qs→qs.length+((p.kids.drop i).flatMap fun k=>allD T f k.toNat).length+p.vals.length≤1000→
   qs++(((p.kids.drop i).flatMap fun k=>allD T f k.toNat)++p.keys.zip p.vals).filter (inR lo hi)=ps++((p.kids.flatMap fun k=>allD T f k.toNat)++p.keys.zip p.vals).filter (inR lo hi)→
   bh_.l2 E (bh_.at E f) F (some (lp,0)) gf [(lf,0),(lt,0),(B.length,0)] l (o+at_*5) c.a3 c.n3 (nI c.n3) (i:Int) H Q:=by
   intro F;induction F with
   | zero=>intro i _ _ h; omega
   | succ F ihF=>
    intro i H qs hF hi' g hb he;have hH:=h0B.trans g.pre;rw[bh_.l2_eq];by_cases hik:i < p.kids.length
    ·rw[Bd_ p.kids i hik] at hb he;rw[kI] at hb;have hmem:=kE hik;have hk:=k48 _ hmem;have ek:p.kids[i]=((p.kids[i].toNat:Nat):Int):=by omega
     rw[az_ (by simp; omega),ae_,(hpc.mono hH).kids.rd i rfl hik];generalize hkk:p.kids[i]=kk at*;rw[ek];refine ih kk.toNat H _ qs (hkids kk hmem) (by omega) g (by omega) fun H' g'=> ?_;rw[an_ (by omega)];have hfl:((allD T f kk.toNat).filter (inR lo hi)).length≤(allD T f kk.toNat).length:=length_filter_le _ _;refine ihF (i+1) H' _ (by omega) (by omega) g' (by rw[kI]; omega) ?_;rw[append_assoc,←filter_append,←append_assoc (allD T f kk.toNat)];exact he
    ·rw[aD_ (by simp; omega),ad_ (v:= .sl c.a2 c.n2 1) (by exact b6_ hH g3),ah_];rw[drop_of_length_le (by omega),flatMap_nil,nil_append] at he;rw[drop_of_length_le (by omega)] at hb;exact l7 F 0 H qs (by omega) (by omega) g (by simp at hb; omega) (by rw[drop_zero]; exact he)
  have hH:=h0B.trans g.pre;refine⟨p.vals.length+p.kids.length+4,?_⟩;rw[yz_,af_,ad_ (v:= .sl (some (l,o)) 48 5) (by exact b6_ g.pre hlp),ah_,ae_];refine ab_ (by simp; omega) ?_;rw[af_,etN,ad_ (v:= .sl c.a3 c.n3 1) (by exact b6_ hH g4),ah_];exact l2 _ 0 H ps (by omega) (by omega) g (by rw[drop_zero]; omega) (by rw[drop_zero])
end
section
variable {H:Hp} {Q:Post} {x:Pl} {n:Nat} {cs:List PC} {T:List Pg} {lo hi:ByteArray}
theorem uc_ (J:Tr H x n cs T) (G:∀ a m H',H<+:H'→Own H' H.length tKV a (m*2) (bW_ (td_ T lo hi))→(td_ T lo hi).length=m→Q (.tup [.s (.sl a m 2),.s (.int .i64 (jd_ 1400 T))]) H'):g1_ [.agg [.sl x n 5],.g (.str lo),.g (.str hi)] H Q:=by
 refine⟨1,?_⟩;rw[wN_];simp only[f0_,fb_];generalize N:(((H++[Obj.row true tTr [.sl x n 5]])++[Obj.row true tS [.str lo]])++[Obj.row true tS [.str hi]])=B0;have F:H<+:B0:=by grind
 have U:gt B0 H.length 0=some (.sl x n 5):=by rw[←N]; simp [gt]
 have gf:gt B0 (H++[Obj.row true tTr [.sl x n 5]]).length 0=some (.str lo):=by rw[←N]; simp [gt]
 have O:gt B0 ((H++[Obj.row true tTr [.sl x n 5]])++[Obj.row true tS [.str lo]]).length 0=some (.str hi):=by rw[←N]; simp [gt]
 rw[ad_ U,ah_];refine hT_ (J.mono F) fun V r=> ?_;simp only[aN_,ak_];by_cases h:0 < aK_ T
 ·have I:jd_ 1400 T=0:=by unfold jd_; rw[decide_eq_true h]
  have D:d3_ T=cS_ T:=by unfold d3_; rw[decide_eq_true h]
  rw[I] at G;rw[decide_eq_true h,aD_ (by simp)];have ⟨st,s⟩:=SF.of h;have hn:n=48:=by have:=J.lenT; have:=s.len; omega
  subst hn;refine⟨49,vt_ (t:=IF_) (J.mono (F.trans r)) (prefix_refl _) (b6_ r U) (b6_ r gf) (b6_ r O) (by rw[ok_]) 49 0 _ _ [] s.good (by omega)
   ⟨b7_ _ _,none,0,by simp,.inl ⟨rfl,rfl,rfl⟩,rfl⟩ (by have:=s.ents.2.2.2; unfold cS_ at this; simp; omega) fun Z g=> ?_⟩
  have ⟨a,m,A,W,Y⟩:=g.out;rw[ad_ (by rw[bw_ A]; rfl),ah_];refine G a m Z (F.trans (r.trans g.pre)) ?_ ?_
  ·unfold td_; rw[D]; exact W.base (by grind)
  ·unfold td_; rw[D]; exact Y
 ·have I:jd_ 1400 T=1400:=by unfold jd_; rw[decide_eq_false h]
  have D:td_ T lo hi=[]:=by unfold td_ d3_; rw[decide_eq_false h]; rfl
  rw[I,D] at G;rw[decide_eq_false h,az_ (by simp)];exact G none 0 V (F.trans r) (.inl ⟨rfl,rfl,rfl⟩) rfl
theorem o1_ (r:Tr H x n cs T) (A:∀ a m H',H<+:H'→Own H' H.length tKV a (m*2) (bW_ (d3_ T))→(d3_ T).length=m→Q (.tup [.s (.sl a m 2),.s (.int .i64 (jd_ 1400 T))]) H'):hC_ [.agg [.sl x n 5]] H Q:=by
 refine⟨1,?_⟩;rw[Bg_];refine uc_ r fun a m H' p o l=> ?_;rw[D2_] at o l;simp_all
end
end Go.Am
end
namespace Go.Am
open List
def snE (p:ByteArray × ByteArray):Option (ByteArray × SnapR):=match ch_ p.1 with | some n=>(bF_ p.2).map fun x=>(n,x) | none=>none
def lnE (p:ByteArray × ByteArray):Option (LKey × LVal):=match bX_ p.1 with | some k=>(eS_ p.2).map fun x=>(k,x) | none=>none
def inE (p:ByteArray × ByteArray):Option (Int × InoR):=match cQ_ p.1 with | some i=>(cx_ p.2).map fun x=>(i,x) | none=>none
def okE (p:ByteArray × ByteArray):Bool:=(snE p).isSome||((lnE p).isSome||(inE p).isSome)
theorem jC_ (h:ch_ k=some n):bX_ k=none∧cQ_ k=none:=by
 have ⟨_,A,_⟩:=fA_ h;constructor
 ·cases r:bX_ k with
  | none=>rfl
  | some x=>have:=(fC_ r).2.1; rw[A] at this; cases this
 ·cases r:cQ_ k with
  | none=>rfl
  | some x=>have:=(gk_ r).2.1; rw[A] at this; cases this
theorem jL_ {x:LKey} (h:bX_ k=some x):ch_ k=none∧cQ_ k=none:=by
 have ⟨_,A,_⟩:=fC_ h;constructor
 ·cases r:ch_ k with
  | none=>rfl
  | some x=>have:=(fA_ r).2.1; rw[A] at this; cases this
 ·cases r:cQ_ k with
  | none=>rfl
  | some x=>have:=(gk_ r).2.1; rw[A] at this; cases this
theorem sP_ (h:cQ_ k=some x):ch_ k=none∧bX_ k=none:=by
 have ⟨_,A,_⟩:=gk_ h;constructor
 ·cases r:ch_ k with
  | none=>rfl
  | some x=>have:=(fA_ r).2.1; rw[A] at this; cases this
 ·cases r:bX_ k with
  | none=>rfl
  | some x=>have:=(fC_ r).2.1; rw[A] at this; cases this
def Hw_ (st:StD) (p:ByteArray × ByteArray):StD:=⟨st.snaps++(snE p).toList,st.links++(lnE p).toList,st.inos++(inE p).toList⟩
theorem Eu_ (st:StD) (p:ByteArray × ByteArray):iZ_ st p=if okE p=true then some (Hw_ st p) else none:=by
 unfold iZ_ okE Hw_ snE lnE inE;cases A:ch_ p.1 with
 | some n=>
  have ⟨G,r⟩:=jC_ A;grind
 | none=>
  cases D:bX_ p.1 with
  | some k=>
   have ⟨_,r⟩:=jL_ D;grind
  | none=>
   cases F:cQ_ p.1 with
   | some i=>cases cx_ p.2<;>simp
   | none=>simp
theorem AY_:∀ (ps:KV) (st:StD),hN_ iZ_ st ps=if (ps.all okE)=true then some ⟨st.snaps++ps.filterMap snE,st.links++ps.filterMap lnE,st.inos++ps.filterMap inE⟩ else none
 | [],st=>by simp [hN_]
 | p::ps,st=>by
  unfold hN_;rw[Eu_];by_cases h:okE p=true
  ·rw[if_pos h];dsimp only;rw[AY_ ps,all_cons,h,Bool.true_and];have r:∀ {β:Type} (f:ByteArray × ByteArray→Option β),(p::ps).filterMap f=(f p).toList++ps.filterMap f:=fun f=>by
    grind
   simp [r,Hw_]
  ·grind
theorem pN_ (ps:KV):el_ ps=if (ps.all okE)=true then some ⟨ps.filterMap snE,ps.filterMap lnE,ps.filterMap inE⟩ else none:=by
 unfold el_; rw[AY_]; rfl
theorem iv_ (h:el_ ps=some st):(∀ p∈ps,okE p=true)∧st=⟨ps.filterMap snE,ps.filterMap lnE,ps.filterMap inE⟩:=by
 rw[pN_] at h;grind
structure y9_ (st:StD):Prop where
 snaps:∀ x∈st.snaps,bk_ x.1 4=true∧fk_ x.2=true
 links:∀ x∈st.links,(1≤x.1.1∧x.1.1≤255)∧bk_ x.1.2 3=true∧0≤x.2.1∧x.2.1≤255
 inos:∀ x∈st.inos,(1≤x.1∧x.1≤255)∧ec_ x.2=true
theorem A1_ (h:bF_ s=some x):fk_ x=true:=by
 unfold bF_ at h;grind
theorem BH_ (h:cx_ s=some x):ec_ x=true:=by
 unfold cx_ at h;grind
theorem mX_ (h:snE p=some x):ch_ p.1=some x.1∧bF_ p.2=some x.2:=by
 unfold snE at h;cases A:ch_ p.1 with
 | none=>rw[A] at h; cases h
 | some n=>
  rw[A] at h;cases r:bF_ p.2 with
  | none=>rw[r] at h; cases h
  | some y=>rw[r] at h; cases h; exact⟨rfl,rfl⟩
theorem jz_ (h:lnE p=some x):bX_ p.1=some x.1∧eS_ p.2=some x.2:=by
 unfold lnE at h;cases A:bX_ p.1 with
 | none=>rw[A] at h; cases h
 | some n=>
  rw[A] at h;cases r:eS_ p.2 with
  | none=>rw[r] at h; cases h
  | some y=>rw[r] at h; cases h; exact⟨rfl,rfl⟩
theorem qx_ (h:inE p=some x):cQ_ p.1=some x.1∧cx_ p.2=some x.2:=by
 unfold inE at h;cases A:cQ_ p.1 with
 | none=>rw[A] at h; cases h
 | some n=>
  rw[A] at h;cases r:cx_ p.2 with
  | none=>rw[r] at h; cases h
  | some y=>rw[r] at h; cases h; exact⟨rfl,rfl⟩
theorem Dl_ (h:eS_ s=some x):0≤x.1∧x.1≤255:=by
 unfold eS_ at h;split at h
 ·cases h; exact kS_ _ _
 ·cases h
theorem of_ (h:el_ ps=some st):y9_ st:=by
 obtain⟨_,rfl⟩:=iv_ h;refine⟨fun x A=> ?_,fun x A=> ?_,fun x A=> ?_⟩
 ·have ⟨p,_,e⟩:=mem_filterMap.1 A;have ⟨D,r⟩:=mX_ e;exact⟨(fA_ D).2.2.1,A1_ r⟩
 ·have ⟨p,_,e⟩:=mem_filterMap.1 A;have ⟨D,r⟩:=jz_ e;have ⟨_,_,F,G,I⟩:=fC_ D;refine⟨?_,G,Dl_ r⟩;rw[I];exact⟨F,(kS_ _ _).2⟩
 ·have ⟨p,_,e⟩:=mem_filterMap.1 A;have ⟨D,r⟩:=qx_ e;have ⟨_,_,F,G⟩:=gk_ D;refine⟨?_,BH_ r⟩;rw[G];exact⟨F,(kS_ _ _).2⟩
theorem hP_ (h:el_ ps=some st):st.snaps.length≤ps.length∧st.links.length≤ps.length∧st.inos.length≤ps.length:=by
 obtain⟨_,rfl⟩:=iv_ h;grind
theorem Ar_ (h:el_ ps=some st):st.snaps.length+st.links.length+st.inos.length=ps.length:=by
 obtain⟨D,rfl⟩:=iv_ h;clear h;induction ps with
 | nil=>rfl
 | cons p ps N=>
  have r:=D p (by simp);have one:(snE p).toList.length+(lnE p).toList.length+(inE p).toList.length=1:=by
   unfold okE at r;cases F:snE p with
   | some x=>
    have ⟨J,A⟩:=jC_ (mX_ F).1;simp [lnE,inE,J,A]
   | none=>
    cases G:lnE p with
    | some x=>
     have ⟨_,A⟩:=jL_ (jz_ G).1;simp [inE,A]
    | none=>
     rw[F,G] at r;cases I:inE p with
     | some x=>rfl
     | none=>rw[I] at r; cases r
  grind
theorem do_ (h:bk_ s m=true):1≤(s.size:Int)∧(s.size:Int)≤m:=by
 unfold bk_ at h;simp_all
theorem C2_ (h:1≤s.size):∃ b,bs s=b::bs (sub s 1 s.size)∧((b.toNat:Nat):Int)=byt s 0:=by
 have e:=rH_ s 0 (by omega);cases r:bs s with
 | nil=>rw[r] at e; simp at e
 | cons b t=>
  refine⟨b,?_,by grind⟩;rw[ig_,r]; rfl
theorem qy_ (h:2≤s.size):∃ b c,bs s=b::c::bs (sub s 2 s.size)∧((b.toNat:Nat):Int)=byt s 0∧((c.toNat:Nat):Int)=byt s 1:=by
 have e:=rH_ s 0 (by omega);have A:=rH_ s 1 (by omega);cases r:bs s with
 | nil=>rw[r] at e; simp at e
 | cons b t=>
  cases t with
  | nil=>rw[r] at A; simp at A
  | cons c t=>
   rw[r] at e A;refine⟨b,c,?_,by grind,by simpa using A⟩;rw[ig_,r]; rfl
end Go.Am
namespace Go.Am
open List
theorem li_ (b c:UInt8) (s t:List UInt8):Op.bytesLess (b::s) (c::t)=(decide (b < c)||(b==c&&Op.bytesLess s t)):=rfl
theorem EF_ (h:ch_ k=some n) (I:ch_ k'=some n'):blt k k'=blt n n':=by
 have ⟨A,U,_,D⟩:=fA_ h;have ⟨J,N,_,G⟩:=fA_ I;have ⟨b,r,O⟩:=C2_ A;have ⟨c,F,V⟩:=C2_ J;unfold blt;rw[r,F,li_,D,G];have:b=c:=UInt8.toNat_inj.1 (by omega);grind
theorem GN_ (h:cQ_ k=some n) (D:cQ_ k'=some n'):blt k k'=decide (n < n'):=by
 have ⟨V,Z,_,J⟩:=gk_ h;have ⟨I,U,_,t3⟩:=gk_ D;have ⟨b,O,r,G,N⟩:=qy_ (s:=k) (by omega);have ⟨c,Y,A,f2,W⟩:=qy_ (s:=k') (by omega);have z:bs (sub k 2 k.size)=[]:=by rw[ig_]; exact drop_eq_nil_of_le (by rw[g3_]; omega)
 have F:bs (sub k' 2 k'.size)=[]:=by rw[ig_]; exact drop_eq_nil_of_le (by rw[g3_]; omega)
 unfold blt;rw[r,A,li_,li_,z,F];have:b=c:=UInt8.toNat_inj.1 (by omega);subst this;simp [Op.bytesLess,UInt8.lt_iff_toNat_lt];omega
theorem FL_ {x x':LKey} (h:bX_ k=some x) (D:bX_ k'=some x') (e:x.1=x'.1):blt k k'=blt x.2 x'.2:=by
 have ⟨s1,s2,_,_,F⟩:=fC_ h;have ⟨V,Z,_,_,O⟩:=fC_ D;have ⟨b,G,r,U,W⟩:=qy_ (s:=k) (by omega);obtain⟨c,N,A,f2,f3⟩:=qy_ (by omega);have Y:byt k 1=byt k' 1:=by grind
 have I:b=c:=UInt8.toNat_inj.1 (by omega);have J:G=N:=UInt8.toNat_inj.1 (by omega);subst I; subst J;unfold blt;rw[r,A,li_,li_,F,O];simp
structure zC_ (st:StD):Prop where
 snaps:st.snaps.Pairwise fun x y=>blt x.1 y.1=true
 links:st.links.Pairwise fun x y=>x.1≠y.1∧(x.1.1=y.1.1→blt x.1.2 y.1.2=true)
 inos:st.inos.Pairwise fun x y=>x.1 < y.1
theorem hk_ {α β:Type} {R:α→α→Prop} {S:β→β→Prop} {f:α→Option β} (r:∀ a b x y,R a b→f a=some x→f b=some y→S x y):∀ {l:List α},l.Pairwise R→(l.filterMap f).Pairwise S
 | [],_=>Pairwise.nil
 | a::l,h=>by
  have A:=pairwise_cons.1 h;rw[filterMap_cons];cases e:f a with
  | none=>exact hk_ r A.2
  | some x=>
   refine pairwise_cons.2 ⟨fun y D=> ?_,hk_ r A.2⟩;grind
theorem hV_ (I:Asc ps) (h:el_ ps=some st):zC_ st:=by
 obtain⟨_,rfl⟩:=iv_ h;refine⟨hk_ (fun a b x y r A D=> ?_) I,hk_ (fun a b x y r A D=> ?_) I,hk_ (fun a b x y r A D=> ?_) I⟩
 ·rw[←EF_ (mX_ A).1 (mX_ D).1]; exact r
 ·refine⟨fun q=> ?_,fun q=> ?_⟩
  ·have F:=(jz_ A).1;rw[q] at F;have:=wD_ F (jz_ D).1;have G:=r;rw[this,cA_] at G; cases G
  ·rw[←FL_ (jz_ A).1 (jz_ D).1 q]; exact r
 ·have G:=r;rw[GN_ (qx_ A).1 (qx_ D).1] at G;grind
def nQ_ (st:StD) (id:Int):List FileR:=(st.links.filter fun l=>decide (l.1.1=id)).map (bq_ st)
def aA_ (st:StD):List InfoR:=st.snaps.map fun x=>⟨x.1,x.2.kind,x.2.parent,x.2.label,nQ_ st x.2.id⟩
theorem fP_ [DecidableEq α] {x:α × β} (D:(ps.map (·.1)).Nodup) (r:x∈ps):look ps x.1=some x.2:=by
 cases h:look ps x.1 with
 | none=>exact absurd rfl (n2_ h x r)
 | some v=>
  have A:=dr_ h;have ⟨i,F,G⟩:=kK r;have ⟨j,J,I⟩:=kK A;have:i=j:=(getElem_inj (h₀:=by grind) (h₁:=by simpa) D).1 (by grind);grind
theorem BB_ (st:StD) (id:Int) (f:FileR):f∈nQ_ st id↔∃ l∈st.links,l.1.1=id∧f=bq_ st l:=by
 unfold nQ_;grind
theorem BP_ (r:zC_ st) (id:Int):cF_ st id (nQ_ st id):=by
 refine⟨?_,BB_ st id⟩;unfold nQ_ ov_;rw[pairwise_map];have h:=Pairwise.filter (fun l:LKey × LVal=>decide (l.1.1=id)) r.links;exact Pairwise.imp_of_mem (fun {a b} r A h=>h.2 (by grind)) h
theorem th_ (r:zC_ st):(st.snaps.map (·.1)).Nodup:=by
 refine Pairwise.map _ (fun a b h e=> ?_) r.snaps;rw[e,cA_] at h; cases h
theorem h6_ (r:zC_ st):cG_ st (aA_ st):=by
 have e:(aA_ st).map (·.name)=st.snaps.map (·.1):=by unfold aA_; rw[map_map]; rfl
 refine⟨by rw[e],?_,fun i A=> ?_⟩
 ·rw[e,pairwise_map]; exact r.snaps
 ·obtain⟨x,D,rfl⟩:=mem_map.1 A;exact⟨x.2,fP_ (th_ r) D,rfl,rfl,rfl,BP_ r _⟩
theorem zg_ {α:Type} {R:α→α→Prop} (D:∀ a,¬ R a a) (A:∀ a b,R a b→ ¬ R b a):∀ {l m:List α},l.Pairwise R→m.Pairwise R→(∀ x,x∈l↔x∈m)→l=m
 | [],[],_,_,_=>rfl
 | [],g::G,_,_,h=>absurd ((h g).2 mem_cons_self) not_mem_nil
 | f::O,[],_,_,h=>absurd ((h f).1 mem_cons_self) not_mem_nil
 | f::O,g::G,F,J,h=>by
  have I:=pairwise_cons.1 F;have N:=pairwise_cons.1 J;have e:f=g:=by
   rcases mem_cons.1 ((h f).1 mem_cons_self) with q | q
   ·exact q
   ·rcases mem_cons.1 ((h g).2 mem_cons_self) with r | r
    ·grind
    ·grind
  congr 1;refine zg_ D A I.2 N.2 fun x=>⟨fun q=> ?_,fun q=> ?_⟩
  ·grind
  ·grind
theorem cG_.unique (A:cG_ st is) (G:cG_ st js):is=js:=by
 have V:∀ a:ByteArray,¬ blt a a=true:=fun a q=>by rw[cA_] at q; cases q
 have Y:∀ a b:ByteArray,blt a b=true→ ¬ blt b a=true:=fun a b q r=>by rw[et_ q] at r; cases r
 have J:=zg_ V Y A.asc G.asc fun x=>A.perm.mem_iff.trans G.perm.mem_iff.symm;have W:is.length=js.length:=by have:=congrArg length J; simpa
 apply ext_getElem W;intro k D F;have ⟨x,I,x2,x3,x4,U⟩:=(A.info _ (kE D)).mem;have ⟨y,N,y2,Z,y4,O⟩:=(G.info _ (kE F)).mem;have e:is[k].name=js[k].name:=by
  have:=congrArg (fun l:List ByteArray=>l[k]?) J;grind
 rw[e,N] at I;cases I;have hf:=U.unique O;cases hi:is[k];cases hj:js[k];grind
def i8_ (st:StD):Bool:=dn_ st&&(decide (st.snaps.map fun x=>x.2.id).Nodup&&bA_ (aA_ st) (aA_ st).length 0)
def cP_ (ps:KV):Option StD:=match el_ ps with | some st=>(match i8_ st with | true=>some st | false=>none) | none=>none
def ofD (T:List Pg):Option StD:=match decide (0 < aK_ T) with | true=>cP_ (d3_ T) | false=>none
theorem kw_:cP_ ps=some st↔el_ ps=some st∧i8_ st=true:=by
 unfold cP_;cases el_ ps with
 | none=>simp
 | some s=>
  dsimp;cases h:i8_ s with
  | true=>exact⟨fun e=>by grind,fun e=>e.1⟩
  | false=>exact⟨fun e=>(by grind),fun⟨r,A⟩=>(by grind)⟩
end Go.Am
namespace Go.Am
open List
theorem cH_.hold (h:cH_ H b a is) (J:∀ l,b≤l→H'[l]? =H[l]?):cH_ H' b a is:=by
 rcases h with q | ⟨l,F,rfl,I,N,D⟩
 ·exact .inl q
 ·exact .inr ⟨l,F,rfl,I,by grind,D.keep fun G A r _=>⟨J G A,r⟩⟩
theorem cG_.sizes (ok:y9_ st) (h:cG_ st is) (A:st.links.length≤1000):is.length=st.snaps.length∧∀ x∈is,x.name.size≤140737488351232∧x.files.length≤100000∧∀ f∈x.files,f.1.size≤140737488351232:=by
 refine⟨by have:=h.perm.length_eq; simpa using this,fun x I=> ?_⟩;have ⟨y,J,_,_,_,G⟩:=(h.info x I).mem;refine⟨?_,?_,fun f F=> ?_⟩
 ·have:=do_ (ok.snaps _ (dr_ J)).1;grind
 ·have D:x.files.Nodup:=by
   refine Pairwise.imp (fun {a b} r e=> ?_) G.asc;rw[e,cA_] at r; cases r
  have:=(dP_ (st.links.map (bq_ st)) x.files D fun f F=>by
   have ⟨l,A,_,e⟩:=(G.mem f).1 F;exact mem_map.2 ⟨l,A,e.symm⟩).1
  grind
 ·have ⟨l,A,_,e⟩:=(G.mem f).1 F;have:=do_ (ok.links l A).2.1;rw[e]; unfold bq_; dsimp; omega
section
variable {H:Hp} {Q:Post} {x:Pl} {n:Nat} {cs:List PC} {T:List Pg} {E:Nat→Sm}
theorem BZ_ {ps:KV} (hi:i < ps.length) (st:StD):hN_ kx_ st (ps.drop i)=match kx_ st ps[i] with | some r=>hN_ kx_ r (ps.drop (i+1)) | none=>none:=by
 rw[drop_eq_getElem_cons hi]; rfl
structure IG_ (H H':Hp) (x:Pl) (n sp ms ml mi b:Nat) (a:Pl) (st:StD):Prop where
 at_:gL_ H' sp (.sl x n 5) ms ml mi (.sl a (aA_ st).length 5) st
 row:∃ t,H'[sp]? =some (.row true t [.sl x n 5,.map (some ms),.map (some ml),.map (some mi),.sl a (aA_ st).length 5])
 infos:cH_ H' b a (aA_ st)
 pre:H<+:H'
 low:H.length≤ms∧H.length≤ml∧H.length≤mi∧H.length≤sp∧H.length≤b
 lowb:sp < b∧ms < b∧ml < b∧mi < b
theorem o9_ (hT:Tr H x n cs T)
 (h1:ofD T=none→∀ H' p,H<+:H'→Q (.tup [.s (.ptr p),.s (.bool false)]) H')
 (h2:∀ st,ofD T=some st→∀ H' sp ms ml mi b a,IG_ H H' x n sp ms ml mi b a st→Q (.tup [.s (.ptr (some (sp,0))),.s (.bool true)]) H'):
 dz_ E [.agg [.sl x n 5]] H Q:=by
 refine⟨(d3_ T).length+3,?_⟩;rw[AG_];refine o1_ hT fun a m H1 p1 o1 l1=> ?_;simp only[aI_,aB_,bB_,ah_,ai_,aT_,f0_,fb_];have etn:∀ k:Nat,tN (k:Int)=k:=fun _=>rfl;have e0:(((H1++[Obj.map [] 0])++[Obj.map [] 0])++[Obj.map [] 0]).length=H1.length+3:=by simp
 have e1:((H1++[Obj.map [] 0])++[Obj.map [] 0]).length=H1.length+2:=by simp
 have e2:(H1++[Obj.map [] 0]).length=H1.length+1:=by simp
 rw[e0,e1,e2];have hl1:=p1.length_le;have hm60:=lg_ T;have hkv:=yW_ T;generalize hG:(((H1++[Obj.map [] 0])++[Obj.map [] 0])++[Obj.map [] 0])++[Obj.row true 100 [.sl x n 5,.map (some H1.length),.map (some (H1.length+1)),.map (some (H1.length+2)),.sl none 0 5]]=G0;have pG:H1<+:G0:=by rw[←hG]; exact (((b7_ _ _).trans (b7_ _ _)).trans (b7_ _ _)).trans (b7_ _ _)
 have lG:G0.length=H1.length+4:=by rw[←hG]; simp
 have atG:∀ (k:Nat),G0[H1.length+k]? =([Obj.map [] 0,Obj.map [] 0,Obj.map [] 0,Obj.row true 100 [.sl x n 5,.map (some H1.length),.map (some (H1.length+1)),.map (some (H1.length+2)),.sl none 0 5]]:List Obj)[k]? :=fun k=>by
  have:G0=H1++[Obj.map [] 0,Obj.map [] 0,Obj.map [] 0,Obj.row true 100 [.sl x n 5,.map (some H1.length),.map (some (H1.length+1)),.map (some (H1.length+2)),.sl none 0 5]]:=by rw[←hG]; simp
  rw[this,getElem?_append_right (by omega)];congr 1; omega
 have emp:∀ {α β:Type} {ek:α→RV} {ev:β→RV} (l:Nat),G0[l]? =some (.map [] 0)→dO_ ek ev G0 l ([]:List (α × β)):=fun l h=>
  ⟨⟨[],0,h,rfl,(fun e h=>absurd h not_mem_nil),nodup_nil⟩,nodup_nil⟩
 have S0:gL_ G0 (H1.length+3) (.sl x n 5) H1.length (H1.length+1) (H1.length+2) (.sl none 0 5) st0:=
  ⟨⟨100,by rw[atG 3]; rfl⟩,emp _ (by have:=atG 0; simpa using this),emp _ (by have:=atG 1; simpa using this),emp _ (by have:=atG 2; simpa using this),by omega,by omega,by omega⟩
 have hdec:hN_ kx_ st0 (d3_ T)=el_ (d3_ T):=EY_ (xl_ (ln_ T));have go:∀ (f i:Nat) (G:Hp) (st:StD),m - i < f→i≤m→H1<+:G→G.length=H1.length+4→gL_ G (H1.length+3) (.sl x n 5) H1.length (H1.length+1) (H1.length+2) (.sl none 0 5) st→
  hN_ kx_ st ((d3_ T).drop i)=el_ (d3_ T)→dz_.l4 E (f+1) (jd_ 1400 T) (H1.length+3) 0 (H1.length+3) 0 a m (nI m) ((i:Nat):Int) G Q:=by
  intro f;induction f with
  | zero=>intro i G st h; omega
  | succ f ih=>
   intro i G st hf hi hG1 hGl hS hd;rw[dz_.l4_eq];refine aa_ (fun e=> ?_) (fun e=> ?_)
   ·have him:i < m:=by simpa using e
    obtain⟨l,o,rfl,q1,q2⟩:=Kv.get (H:=G) (Kv.mono hG1 ⟨o1.cells,l1⟩) (i:=i) (by omega);refine ab_ rfl (ab_ (by simp; omega) ?_);simp only[af_,etn];rw[ad_ q1,ax_,ad_ q2,ax_];have hmem:=hkv _ (kE (show i < (d3_ T).length by omega));rw[BZ_ (by omega)] at hd;refine r8_ (by omega) (by omega) hS (fun hn G' hu=> ?_) (fun st' hs G' hu hS'=> ?_)
    ·simp only[aN_,ak_];rw[show kx_ st (d3_ T)[i]=none from hn] at hd;refine aa_ (fun _=> ?_) (fun e=>by cases e);refine h1 ?_ G' none (p1.trans (j1_ hG1 hu.len fun l hl=>hu.row l (by omega)));unfold ofD cP_;rw[←hd];cases decide (0 < aK_ T)<;>rfl
    ·simp only[aN_,ak_];rw[show kx_ st (d3_ T)[i]=some st' from hs] at hd;rw[an_ (by omega)];refine aa_ (fun e=>by cases e) (fun _=> ?_);refine ih (i+1) G' st' (by omega) him (j1_ hG1 hu.len fun l hl=>hu.row l (by omega)) (by rw[hu.len,hGl]) hS' hd
   ·have him:i=m:=by have: ¬ i < m:=by simpa using e
                     omega
    subst him;rw[drop_eq_nil_of_le (by omega)] at hd;have hd':el_ (d3_ T)=some st:=hd.symm;have pH:H<+:G:=p1.trans hG1;refine aa_ (fun e=> ?_) (fun e=> ?_)
    ·refine h1 ?_ G none pH;unfold ofD;cases hh:decide (0 < aK_ T) with
     | false=>rfl
     | true=>unfold jd_ at e; rw[hh] at e; cases e
    have hh:decide (0 < aK_ T)=true:=by
     cases hh:decide (0 < aK_ T) with
     | true=>rfl
     | false=>unfold jd_ at e; rw[hh] at e; cases e
    have hof:ofD T=match i8_ st with | true=>some st | false=>none:=by
     unfold ofD cP_; rw[hh,hd']<;>rfl
    obtain⟨n1,n2,n3⟩:=hP_ hd';have ok:=of_ hd';have hasc:=hV_ (ln_ T) hd';refine pn_ hS ⟨by omega,by omega⟩ (fun y hy=> ?_) fun G1 pG1=> ?_
    ·have:=(ok.inos y hy).2;unfold ec_ at this;simp only[kR] at this;simpa using this.1.1
    simp only[aN_,ak_];refine aa_ (fun e=> ?_) (fun e=> ?_)
    ·refine h1 ?_ G1 none (pH.trans pG1);rw[hof,show i8_ st=false by unfold i8_; rw[dY_ e,Bool.false_and]]
    have k1:=eE_ e;have hS1:=hS.keep (H':=G1) fun l hl=>br_ pG1 hl;refine q3_ hS1 (by omega) fun G2 pG2=> ?_;simp only[aN_,ak_];refine aa_ (fun e=> ?_) (fun e=> ?_)
    ·refine h1 ?_ G2 none (pH.trans (pG1.trans pG2));rw[hof,show i8_ st=false by unfold i8_; rw[dY_ e,Bool.false_and,Bool.and_false]]
    have k2:=eE_ e;have hS2:=hS1.keep (H':=G2) fun l hl=>br_ pG2 hl;refine sc_ hS2 (fun y hy=>by have:=do_ (ok.snaps y hy).1; omega) (by omega) (by omega) fun G3 b ia is pG3 hb hia hof3=> ?_;have his:is=aA_ st:=hof3.unique (h6_ hasc);subst his;have hS3:=hS2.keep (H':=G3) fun l hl=>br_ pG3 hl;obtain⟨t,hr⟩:=hS3.row;simp only[aN_,ah_];have gl:=pG1.length_le;have gl2:=pG2.length_le;have gl3:=pG3.length_le;have hne:H1.length+3 < b:=by omega
    refine cr_ hr (by simp) ?_;generalize hG4:G3.set (H1.length+3) (.row true t ([.sl x n 5,.map (some H1.length),.map (some (H1.length+1)),.map (some (H1.length+2)),.sl none 0 5].set (0+4) (.sl ia (aA_ st).length 5)))=G4;have r4:G4[H1.length+3]? =some (.row true t [.sl x n 5,.map (some H1.length),.map (some (H1.length+1)),.map (some (H1.length+2)),.sl ia (aA_ st).length 5]):=by
     rw[←hG4,kH (by omega)]; rfl
    have k4:∀ l,l≠H1.length+3→G4[l]? =G3[l]? :=fun l hl=>by rw[←hG4,kF (Ne.symm hl)]
    have l4:G4.length=G3.length:=by rw[←hG4]; simp
    have hia4:=hia.hold (H':=G4) fun l hl=>k4 l (by omega);rw[ad_ (v:= .sl ia (aA_ st).length 5) (by rw[bw_ r4]; rfl),ah_];have sz:=(h6_ hasc).sizes ok (by omega);refine uj_ hia4.rd (by omega) sz.2 ?_;simp only[aN_,ak_];have p4:H<+:G4:=j1_ (pH.trans (pG1.trans (pG2.trans pG3))) l4 fun l hl=>k4 l (by omega);cases hf:bA_ (aA_ st) (aA_ st).length 0 with
    | false=>exact h1 (by rw[hof,show i8_ st=false by unfold i8_; rw[hf,Bool.and_false,Bool.and_false]]) G4 _ p4
    | true=>
     have hS4:gL_ G4 (H1.length+3) (.sl x n 5) H1.length (H1.length+1) (H1.length+2) (.sl ia (aA_ st).length 5) st:=
      ⟨⟨t,r4⟩,hS3.snaps.keep (k4 _ (by omega)),hS3.links.keep (k4 _ (by omega)),hS3.inos.keep (k4 _ (by omega)),hS3.d1,hS3.d2,hS3.d3⟩
     exact h2 st (by rw[hof,show i8_ st=true by unfold i8_; rw[k1,k2,hf]; rfl]) G4 _ _ _ _ b ia ⟨hS4,⟨t,r4⟩,hia4,p4,⟨by omega,by omega,by omega,by omega,by omega⟩,⟨by omega,by omega,by omega,by omega⟩⟩
 exact go _ 0 G0 st0 (by omega) (kP _) pG lG S0 (by rw[drop_zero]; exact hdec)
end
end Go.Am
namespace Go.Am
open List
def dl_ (is:List InfoR) (s:ByteArray):Option InfoR:=is.find? fun i=>decide (i.name=s)
theorem jW_ (h:ofD T=some st):0 < aK_ T∧el_ (d3_ T)=some st∧i8_ st=true:=by
 unfold ofD at h;cases A:decide (0 < aK_ T) with
 | false=>rw[A] at h; cases h
 | true=>
  rw[A] at h;exact⟨of_decide_eq_true A,kw_.1 h⟩
theorem Ds_ (h:zC_ st):hB_ (aA_ st):=by
 have:=(h6_ h).asc;rw[pairwise_map] at this;exact this
theorem jX_ (A:hB_ is):(is.any fun y=>decide (y.name=s))=(dl_ is s).isSome∧∀ i,dl_ is s=some i→is[e1_ is s]? =some i:=by
 constructor
 ·unfold dl_;grind
 ·intro i r;unfold dl_ at r;have F:=mem_of_find?_eq_some r;obtain⟨k,D,rfl⟩:=kK F;have:=zc_ A D;grind
section
variable {H:Hp} {Q:Post} {x:Pl} {n:Nat} {cs:List PC} {T:List Pg} {E:Nat→Sm} {s:ByteArray}
end
end Go.Am
namespace Go.Am
open List
theorem cZ_ {α:Type} {f:α→List GV} (A:∀ x,(f x).length=m):∀ (l:List α) (i:Nat) (hi:i < l.length) (j:Nat),j < m→(l.flatMap f)[i*m+j]? =(f l[i])[j]?
 | [],i,hi,_,_=>by grind
 | x::l,0,hi,j,r=>by
  grind
 | x::l,i+1,hi,j,r=>by
  rw[flatMap_cons,getElem?_append_right (by grind),show (i+1)*m+j - (f x).length=i*m+j by rw[A,Nat.succ_mul]; omega,cZ_ A l i (by grind) j r]; rfl
theorem wt_ (h:Own H b t a n cs) (r:0 < n):∃ l,a=some (l,0)∧∀ j,gt H l j=cs[j]? :=by
 rcases h with⟨_,rfl,_⟩ | ⟨l,rfl,_,A,_⟩
 ·cases r
 ·exact⟨l,rfl,fun j=>bw_ A⟩
section
variable {B H:Hp} {Q:Post} {sp n1 n2 n3:Nat} {a1 a2 a3:Pl} {st:StD}
theorem cR_.mono (h:cR_ B H sp a1 n1 a2 n2 a3 n3 st) {H':Hp} (p:H<+:H'):cR_ B H' sp a1 n1 a2 n2 a3 n3 st:=by
 have ⟨t,r⟩:=h.row;exact⟨⟨t,by rw[br_ p (kC.1 r).1]; exact r⟩,h.pre.trans p,h.base,h.snaps.keep fun l e=>br_ p (h.snaps.lt' e),h.links.keep fun l e=>br_ p (h.links.lt' e),h.inos.keep fun l e=>br_ p (h.inos.lt' e),h.l1,h.l2,h.l3,h.d12,h.d13,h.d23,h.s1,h.s2,h.s3⟩
theorem cR_.snapG (h:cR_ B H sp a1 n1 a2 n2 a3 n3 st) (i:Nat) (hi:i < st.snaps.length):∃ l,a1=some (l,0)∧gt H l (i*5)=some (.str st.snaps[i].1)∧gt H l (i*5+1)=some (.int .i64 st.snaps[i].2.id)∧gt H l (i*5+1+1)=some (.int .i64 st.snaps[i].2.kind)∧
 gt H l (i*5+1+1+1)=some (.str st.snaps[i].2.parent)∧gt H l (i*5+1+1+1+1)=some (.str st.snaps[i].2.label):=by
 have ⟨l,e,A⟩:=wt_ h.snaps (by have:=h.l1; omega);have r:∀ x,(wu_ x).length=5:=fun x=>rfl;refine⟨l,e,?_,?_,?_,?_,?_⟩<;>rw[A]
 ·exact cZ_ r _ i hi 0 (by omega)
 ·exact cZ_ r _ i hi 1 (by omega)
 ·exact cZ_ r _ i hi 2 (by omega)
 ·exact cZ_ r _ i hi 3 (by omega)
 ·exact cZ_ r _ i hi 4 (by omega)
theorem cR_.linkG (h:cR_ B H sp a1 n1 a2 n2 a3 n3 st) (i:Nat) (hi:i < st.links.length):∃ l,a2=some (l,0)∧gt H l (i*4)=some (.int .i64 st.links[i].1.1)∧gt H l (i*4+1)=some (.str st.links[i].1.2)∧gt H l (i*4+1+1)=some (.int .i64 st.links[i].2.1)∧
 gt H l (i*4+1+1+1)=some (.bool st.links[i].2.2)∧gt H l (i*4+2)=some (.int .i64 st.links[i].2.1):=by
 have ⟨l,e,A⟩:=wt_ h.links (by have:=h.l2; omega);have r:∀ x,(A4_ x).length=4:=fun x=>rfl;refine⟨l,e,?_,?_,?_,?_,?_⟩<;>rw[A]
 ·exact cZ_ r _ i hi 0 (by omega)
 ·exact cZ_ r _ i hi 1 (by omega)
 ·exact cZ_ r _ i hi 2 (by omega)
 ·exact cZ_ r _ i hi 3 (by omega)
 ·exact cZ_ r _ i hi 2 (by omega)
theorem cR_.inoG (h:cR_ B H sp a1 n1 a2 n2 a3 n3 st) (i:Nat) (hi:i < st.inos.length):∃ l,a3=some (l,0)∧gt H l (i*3)=some (.int .i64 st.inos[i].1)∧gt H l (i*3+1)=some (.int .i64 st.inos[i].2.links)∧gt H l (i*3+1+1)=some (.str st.inos[i].2.content):=by
 have ⟨l,e,A⟩:=wt_ h.inos (by have:=h.l3; omega);have r:∀ x,(inoC x).length=3:=fun x=>rfl;refine⟨l,e,?_,?_,?_⟩<;>rw[A]
 ·exact cZ_ r _ i hi 0 (by omega)
 ·exact cZ_ r _ i hi 1 (by omega)
 ·exact cZ_ r _ i hi 2 (by omega)
def t1_ (l:List Int) (k:Int):Int:=match l.findIdx? (fun x=>decide (x=k)) with | some i=>(i:Int) | none=> -1
theorem uw_ {i:Nat} (hi:i < l.length) (h:l[i]=k) (r:∀ j (A:j < l.length),j < i→l[j]≠k):t1_ l k=i:=by
 unfold t1_;have:l.findIdx? (fun x=>decide (x=k))=some i:=by
  rw[findIdx?_eq_some_iff_getElem];grind
 grind
theorem xn_ (h:∀ j (r:j < l.length),l[j]≠k):t1_ l k= -1:=by
 unfold t1_;have:l.findIdx? (fun x=>decide (x=k))=none:=by
  rw[findIdx?_eq_none_iff];intro x A;obtain⟨j,r,rfl⟩:=kK A;grind
 grind
theorem iQ_ (h:cR_ B H sp a1 n1 a2 n2 a3 n3 st) (Z:st.snaps.length≤1000) {k:Int} (I:Q (.g (.int .i64 (t1_ (st.snaps.map (·.2.id)) k))) H):bd_ [.g (.ptr (some (sp,0))),.g (.int .i64 k)] H Q:=by
 have ⟨N,g2,g3⟩:=h.rd;refine⟨st.snaps.length+2,?_⟩;rw[on_];have O:∀ k:Nat,tN (k:Int)=k:=fun _=>rfl;have hl:=h.l1;have go:∀ (f i),f=st.snaps.length - i→i≤st.snaps.length→(∀ j A,j < i→st.snaps[j].2.id≠k)→bd_.l2 (f+1) (some (sp,0)) k (i) H Q:=by
  intro f;induction f with
  | zero=>
   intro i Y V G;rw[bd_.l2_eq];simp only[af_];rw[ad_ N,ah_];refine aa_ (fun e=> ?_) (fun e=> ?_)
   ·have:i < n1:=by simp_all
    omega
   ·rw[xn_ (fun j A=>by rw[getElem_map]; rw[length_map] at A; exact G j A (by omega))] at I;exact I
  | succ f W=>
   intro i Y V G;have F:i < st.snaps.length:=by omega
   rw[bd_.l2_eq];simp only[af_];rw[ad_ N,ah_];refine aa_ (fun e=> ?_) (fun e=>by simp at e; omega);rw[ad_ N,ah_];refine ab_ rfl (ab_ (by simp; omega) ?_);obtain⟨l,rfl,r1,U,_⟩:=h.snapG i F;simp [af_];rw[ad_ U,ai_];refine aa_ (fun e=> ?_) (fun e=> ?_)
   ·have J:st.snaps[i].2.id=k:=by simpa using e
    rw[uw_ (by simpa) (by rw[getElem_map]; exact J) (fun j A D=>by rw[getElem_map]; exact G j (by omega) D)] at I;exact I
   ·have J: ¬ st.snaps[i].2.id=k:=by simpa using e
    rw[an_ (by omega)];refine W (i+1) (by omega) F fun j A D=> ?_;rcases Nat.lt_or_eq_of_le (Nat.le_of_lt_succ D) with q | q
    ·exact G j A q
    ·subst q; exact J
 exact go _ 0 rfl (kP _) (fun j A h=>by omega)
theorem fo_ (h:cR_ B H sp a1 n1 a2 n2 a3 n3 st) (Z:st.inos.length≤1000) (G:Q (.g (.int .i64 (t1_ (st.inos.map (·.1)) k))) H):aQ_ [.g (.ptr (some (sp,0))),.g (.int .i64 k)] H Q:=by
 have ⟨g1,g2,J⟩:=h.rd;refine⟨st.inos.length+2,?_⟩;rw[nI_];have O:∀ k:Nat,tN (k:Int)=k:=fun _=>rfl;have hl:=h.l3;have go:∀ (f i),f=st.inos.length - i→i≤st.inos.length→(∀ j D,j < i→st.inos[j].1≠k)→aQ_.l2 (f+1) (some (sp,0)) k (i) H Q:=by
  intro f;induction f with
  | zero=>
   intro i Y V I;rw[aQ_.l2_eq];simp;rw[ad_ J,ah_];refine aa_ (fun e=> ?_) (fun e=> ?_)
   ·have:i < n3:=by simpa using e
    omega
   ·rw[xn_ (fun j D=>by grind)] at G;exact G
  | succ f W=>
   intro i Y V I;have F:i < st.inos.length:=by omega
   rw[aQ_.l2_eq];simp only[af_];rw[ad_ J,ah_];refine aa_ (fun e=> ?_) (fun e=>by simp at e; omega);rw[ad_ J,ah_];refine ab_ rfl (ab_ (by simp; omega) ?_);obtain⟨l,rfl,U,r2,_⟩:=h.inoG i F;simp [af_];rw[ad_ U,ai_];refine aa_ (fun e=> ?_) (fun e=> ?_)
   ·have N:st.inos[i].1=k:=by simpa using e
    rw[uw_ (by simpa) (by rw[getElem_map]; exact N) (fun j D A=>by rw[getElem_map]; exact I j (by omega) A)] at G;exact G
   ·have N: ¬ st.inos[i].1=k:=by simpa using e
    rw[an_ (by omega)];refine W (i+1) (by omega) F fun j D A=> ?_;rcases Nat.lt_or_eq_of_le (Nat.le_of_lt_succ A) with q | q
    ·exact I j D q
    ·subst q; exact N
 exact go _ 0 rfl (kP _) (fun j D h=>by omega)
theorem uv_ {l:List Int} {k:Int}:ltI (t1_ l k) 0= !(l.any fun x=>decide (x=k)):=by
 unfold t1_;cases h:l.findIdx? (fun x=>decide (x=k)) with
 | none=>
  simp_all
 | some i=>
  rw[findIdx?_eq_some_iff_getElem] at h;have ⟨r,e,_⟩:=h;have:(l.any fun x=>decide (x=k))=true:=any_eq_true.2 ⟨_,kE r,e⟩;rw[this]; simp
theorem qO_ (h:cR_ B H sp a1 n1 a2 n2 a3 n3 st) (hn:st.links.length≤1000∧st.inos.length≤1000) (hQ:Q (.g (.bool (dn_ st))) H):av_ [.g (.ptr (some (sp,0)))] H Q:=by
 obtain⟨g1,g2,g3⟩:=h.rd;refine⟨st.links.length+(st.inos.length*(st.links.length+2)+1)+2,?_⟩;rw[mx_];have etn:∀ k:Nat,tN (k:Int)=k:=fun _=>rfl;have hl2:=h.l2;have hl3:=h.l3;have go7:∀ (f i F:Nat),f=st.inos.length - i→i≤st.inos.length→f*(st.links.length+2)+1≤F→(∀ l∈st.links,st.inos.any (fun x=>decide (x.1=l.2.1))=true)→(∀ j (hj:j < st.inos.length),j < i→((eX_ st st.inos[j].1:Nat):Int)=st.inos[j].2.links)→
  av_.l7 F (some (sp,0)) ((i:Nat):Int) H Q:=by
  intro f;induction f with
  | zero=>
   intro i F hf hi hm ha hp;obtain⟨F,rfl⟩:∃ G,F=G+1:=⟨F - 1,by omega⟩;rw[av_.l7_eq];simp only[af_];rw[ad_ g3,ah_];refine aa_ (fun e=> ?_) (fun e=> ?_)
   ·have:i < n3:=by simpa using e
    omega
   ·have:dn_ st=true:=by
     unfold dn_;rw[kR,all_eq_true,all_eq_true];refine⟨ha,fun x hx=> ?_⟩;obtain⟨j,hj,rfl⟩:=kK hx;simpa using hp j hj (by omega)
    rw[this] at hQ; exact hQ
  | succ f ih=>
   intro i F hf hi hm ha hp;have hil:i < st.inos.length:=by omega
   rw[Nat.succ_mul] at hm;generalize hW:f*(st.links.length+2)=W at hm ih;obtain⟨F,rfl⟩:∃ G,F=G+1:=⟨F - 1,by omega⟩;rw[av_.l7_eq];simp only[af_];rw[ad_ g3,ah_];refine aa_ (fun e=> ?_) (fun e=>by simp at e; omega);obtain⟨l3,e3,q1,q2,q3⟩:=h.inoG i hil;have go11:∀ (g j F:Nat),g=st.links.length - j→j≤st.links.length→g+1+W+1≤F→
    av_.l11 F (some (sp,0)) ((i:Nat):Int) ((((st.links.take j).countP fun l=>decide (l.2.1=st.inos[i].1)):Nat):Int) ((j:Nat):Int) H Q:=by
    intro g;induction g with
    | zero=>
     intro j F hg hj hF;obtain⟨F,rfl⟩:∃ G,F=G+1:=⟨F - 1,by omega⟩;rw[av_.l11_eq];simp only[af_];rw[ad_ g2,ah_];refine aa_ (fun e=>by simp at e; omega) (fun e=> ?_);have hje:j=st.links.length:=by omega
     subst hje;rw[take_length];rw[ad_ g3,ah_];refine ab_ rfl (ab_ (by simp; omega) ?_);subst e3;simp only[af_,etn,kN,kQ];rw[ad_ q2,ai_];refine aa_ (fun e=> ?_) (fun e=> ?_)
     ·have:dn_ st=false:=by
       unfold dn_;rw[Bool.and_eq_false_iff];right;rw[all_eq_false];refine⟨_,kE hil,?_⟩;unfold eX_;simpa using e
      rw[this] at hQ; exact hQ
     ·rw[an_ (by omega)];refine ih (i+1) F (by omega) hil (by omega) ha fun j hj hji=> ?_;rcases Nat.lt_or_eq_of_le (Nat.le_of_lt_succ hji) with z | z
      ·exact hp j hj z
      ·subst z;unfold eX_;simpa using e
    | succ g ihF=>
     intro j F hg hj hF;have hjl:j < st.links.length:=by omega
     obtain⟨F,rfl⟩:∃ G,F=G+1:=⟨F - 1,by omega⟩;rw[av_.l11_eq];simp only[af_];rw[ad_ g2,ah_];refine aa_ (fun e=> ?_) (fun e=>by simp at e; omega);rw[ad_ g2,ah_];refine ab_ rfl (ab_ (by simp; omega) ?_);obtain⟨l2,rfl,_,_,p3,_,p5⟩:=h.linkG j hjl;simp only[af_,etn,kN,kQ];rw[ad_ p5,ai_];rw[ad_ g3,ah_];refine ab_ rfl (ab_ (by simp; omega) ?_);subst e3;simp only[af_,etn,kN,kQ];rw[ad_ q1,ai_];have w1:ac_ .i64 (((j:Nat):Int)+1)=((j+1:Nat):Int):=an_ (by omega);have hc:((st.links.take (j+1)).countP fun l=>decide (l.2.1=st.inos[i].1))=((st.links.take j).countP fun l=>decide (l.2.1=st.inos[i].1))+(if st.links[j].2.1=st.inos[i].1 then 1 else 0):=by
      rw[take_add_one,kG hjl,countP_append];by_cases z:st.links[j].2.1=st.inos[i].1<;>simp [z]
     have hle:((st.links.take j).countP fun l=>decide (l.2.1=st.inos[i].1))≤st.links.length:=Nat.le_trans countP_le_length (by rw[length_take]; omega);refine aa_ (fun e=> ?_) (fun e=> ?_)
     ·have e':st.links[j].2.1=st.inos[i].1:=by simpa using e
      rw[if_pos e'] at hc;have:=ihF (j+1) F (by omega) hjl (by omega);rw[hc] at this;rw[w1,show ac_ .i64 (((((st.links.take j).countP fun l=>decide (l.2.1=st.inos[i].1)):Nat):Int)+1)=((((st.links.take j).countP fun l=>decide (l.2.1=st.inos[i].1))+1:Nat):Int) from an_ (by omega)];exact this
     ·have e': ¬ st.links[j].2.1=st.inos[i].1:=by simpa using e
      rw[if_neg e',kQ] at hc;have:=ihF (j+1) F (by omega) hjl (by omega);rw[hc] at this;rw[w1];exact this
   exact go11 _ 0 F rfl (kP _) (by omega)
 have go2:∀ (f i F:Nat),f=st.links.length - i→i≤st.links.length→f+(st.inos.length*(st.links.length+2)+1)+1≤F→(∀ j (hj:j < st.links.length),j < i→st.inos.any (fun x=>decide (x.1=st.links[j].2.1))=true)→
  av_.l2 F (some (sp,0)) ((i:Nat):Int) H Q:=by
  intro f;induction f with
  | zero=>
   intro i F hf hi hF hp;obtain⟨F,rfl⟩:∃ G,F=G+1:=⟨F - 1,by omega⟩;rw[av_.l2_eq];simp only[af_];rw[ad_ g2,ah_];refine aa_ (fun e=>by simp at e; omega) (fun e=> ?_);refine go7 _ 0 F rfl (kP _) (by rw[Nat.sub_zero]; omega) (fun l hl=> ?_) (fun j hj h=>by omega);obtain⟨j,hj,rfl⟩:=kK hl;exact hp j hj (by omega)
  | succ f ih=>
   intro i F hf hi hF hp;have hil:i < st.links.length:=by omega
   obtain⟨F,rfl⟩:∃ G,F=G+1:=⟨F - 1,by omega⟩;rw[av_.l2_eq];simp only[af_];rw[ad_ g2,ah_];refine aa_ (fun e=> ?_) (fun e=>by simp at e; omega);rw[ad_ g2,ah_];refine ab_ rfl (ab_ (by simp; omega) ?_);obtain⟨l2,rfl,_,_,p3,_,p5⟩:=h.linkG i hil;simp only[af_,etn,kN,kQ];rw[ad_ p5,ai_];refine fo_ h hn.2 ?_;simp only[aN_,ai_];rw[uv_,any_map];refine aa_ (fun e=> ?_) (fun e=> ?_)
   ·have:dn_ st=false:=by
     unfold dn_;rw[Bool.and_eq_false_iff];left;rw[all_eq_false];refine⟨_,kE hil,?_⟩;have e':=dY_ e;intro z;have:(st.inos.any ((fun x=>decide (x=st.links[i].2.1)) ∘ fun x=>x.1))=true:=z;rw[this] at e'; cases e'
    rw[this] at hQ; exact hQ
   ·rw[an_ (by omega)];refine ih (i+1) F (by omega) hil (by omega) fun j hj hji=> ?_;rcases Nat.lt_or_eq_of_le (Nat.le_of_lt_succ hji) with z | z
    ·exact hp j hj z
    ·subst z; exact eE_ e
 exact go2 _ 0 _ rfl (kP _) (by omega) (fun j hj h=>by omega)
end
end Go.Am
section
namespace Go.Am
open List
theorem o3_:∀ (fs r:List FileR),ci_ (fs++r)=ci_ fs++ci_ r
 | [],_=>rfl
 | f::fs,r=>by rw[cons_append,ci_,ci_,o3_ fs r,append_assoc]
theorem Dw_ (h:Own H b 122 a (fs.length*3) (ci_ fs)):c1_ H a fs∧∀ l o,a=some (l,o)→b≤l:=by
 rcases h with⟨rfl,D,_⟩ | ⟨l,rfl,F,r,_⟩
 ·have:fs=[]:=length_eq_zero_iff.1 (by omega);exact⟨.inl ⟨rfl,this⟩,fun l o e=>by grind⟩
 ·exact⟨.inr ⟨l,rfl,r⟩,fun A o e=>by grind⟩
theorem ED_ [DecidableEq α] {ps:List (α × β)}:(ps.any fun x=>decide (x.1=k))=(look ps k).isSome:=by
 unfold look;grind
theorem sn_ {y:InoR} (h:look ps k=some y):∃ i,∃ hi:i < ps.length,t1_ (ps.map (·.1)) k=((i:Nat):Int)∧ps[i]=(k,y):=by
 unfold look at h;cases r:ps.find? fun p=>decide (p.1=k) with
 | none=>rw[r] at h; cases h
 | some p=>
  rw[r] at h;rw[find?_eq_some_iff_getElem] at r;have ⟨D,i,hi,e,F⟩:=r;refine⟨i,hi,uw_ (by grind) (by grind) (fun j G A=> ?_),by grind⟩;grind
section
variable {B H:Hp} {Q:Post} {sp n1 n2 n3:Nat} {a1 a2 a3:Pl} {st:StD}
set_option maxRecDepth 10000 in
theorem eB_ (h:cR_ B H sp a1 n1 a2 n2 a3 n3 st) (hn:st.snaps.length≤900∧st.links.length≤900∧st.inos.length≤900) (hk:∀ l∈st.links,(st.inos.any fun x=>decide (x.1=l.2.1))=true)
 (hQ:∀ H' a,H<+:H'→cH_ H' H.length a (aA_ st)→Q (.g (.sl a (aA_ st).length 5)) H'):as_ [.g (.ptr (some (sp,0)))] H Q:=by
 refine⟨st.snaps.length*(st.links.length+2)+1+1,?_⟩;rw[nh_];have etn:∀ k:Nat,tN (k:Int)=k:=fun _=>rfl;have hl1:=h.l1;have hl2:=h.l2;have hl3:=h.l3;have hlen:(aA_ st).length=st.snaps.length:=by unfold aA_; rw[length_map]
 have go3:∀ (f i F:Nat) (G:Hp) (a:Pl),f=st.snaps.length - i→i≤st.snaps.length→f*(st.links.length+2)+1≤F→H<+:G→cH_ G H.length a ((aA_ st).take i)→
  as_.l3 F (some (sp,0)) a i ((i:Nat):Int) G Q:=by
  intro f;induction f with
  | zero=>
   intro i F G a hf hi hF hG ha;obtain⟨F,rfl⟩:∃ G,F=G+1:=⟨F - 1,by omega⟩;obtain⟨g1,g2,g3⟩:=(h.mono hG).rd;rw[as_.l3_eq];simp only[af_];rw[ad_ g1,ah_];refine aa_ (fun e=>by simp at e; omega) (fun e=> ?_);have hie:i=(aA_ st).length:=by omega
   rw[hie,take_length] at ha;rw[hie];exact hQ G a hG ha
  | succ f ih=>
   intro i F G a hf hi hF hG ha;have hil:i < st.snaps.length:=by omega
   rw[Nat.succ_mul] at hF;generalize hW:f*(st.links.length+2)=W at hF ih;obtain⟨F,rfl⟩:∃ G,F=G+1:=⟨F - 1,by omega⟩;have hR:=h.mono hG;obtain⟨g1,g2,g3⟩:=hR.rd;rw[as_.l3_eq];simp only[af_];rw[ad_ g1,ah_];refine aa_ (fun e=> ?_) (fun e=>by simp at e; omega);rw[ad_ g1,ah_];refine ab_ rfl (ab_ (by simp; omega) ?_);obtain⟨l1,e1,r1,r2,r3,r4,r5⟩:=hR.snapG i hil;subst e1;simp only[af_,etn,kN,kQ];rw[ad_ r1,ax_,ad_ r2,ai_,ad_ r3,ai_,ad_ r4,ax_,ad_ r5,ax_];generalize hx:st.snaps[i]=x;have hGs0:=hG;generalize hGs:G=Gs at hGs0 ha;have go8:∀ (g j F:Nat) (G:Hp) (p:Pl) (fs:List FileR),g=st.links.length - j→j≤st.links.length→g+1+W+1≤F→Gs<+:G→Own G Gs.length 122 p (fs.length*3) (ci_ fs)→
    fs=((st.links.take j).filter fun l=>decide (l.1.1=x.2.id)).map (bq_ st)→
    as_.l8 F (some (sp,0)) a i ((i:Nat):Int) x.1 x.2.id x.2.kind x.2.parent x.2.label x.1 x.2.kind x.2.parent x.2.label p fs.length ((j:Nat):Int) G Q:=by
    intro g;induction g with
    | zero=>
     intro j F G p fs hg hj hF hG' ho hfs;have hG:=hGs0.trans hG';obtain⟨F,rfl⟩:∃ G,F=G+1:=⟨F - 1,by omega⟩;have hR:=h.mono hG;obtain⟨g1,g2,g3⟩:=hR.rd;rw[as_.l8_eq];simp only[af_];rw[ad_ g2,ah_];refine aa_ (fun e=>by simp at e; omega) (fun e=> ?_);have hje:j=st.links.length:=by omega
     rw[hje,take_length] at hfs;obtain⟨f1,f2⟩:=Dw_ ho;have hi':i < (aA_ st).length:=by omega
     have hinf:(aA_ st)[i]=⟨x.1,x.2.kind,x.2.parent,x.2.label,fs⟩:=by
      have:(aA_ st)[i]? =some ⟨x.1,x.2.kind,x.2.parent,x.2.label,fs⟩:=by
       unfold aA_;rw[getElem?_map,kG hil,hx,hfs]; rfl
      rw[kG hi'] at this;exact Option.some.inj this
     refine ab_ rfl ?_;have hti:((aA_ st).take i).length=i:=by rw[length_take]; omega
     have key:=s1_ (i:=⟨x.1,x.2.kind,x.2.parent,x.2.label,fs⟩) (K:=fun a' n' G'=>as_.l3 F (some (sp,0)) a' n' (ac_ .i64 (((i:Nat):Int)+1)) G' Q) (ha.pre hG') hG.length_le f1 (fun l o e=>⟨Nat.le_trans hGs0.length_le (f2 l o e),fun o' q=>by subst q; have:=ha.lt; have:=f2 l o e; omega⟩) (by omega) fun a' G' ha' hk' hl'=>by
      rw[kI,hti,length_singleton,an_ (by omega)];refine ih (i+1) F G' a' (by omega) hil (by omega) (pw_ (Nat.le_trans hG.length_le hl') fun l hl=>by rw[hk' l hl,br_ hG hl]) ?_;rw[take_add_one,kG hi',hinf]; exact ha'
     rw[hti] at key;exact key
    | succ g ihg=>
     intro j F G p fs hg hj hF hG' ho hfs;have hG:=hGs0.trans hG';have hjl:j < st.links.length:=by omega
     obtain⟨F,rfl⟩:∃ G,F=G+1:=⟨F - 1,by omega⟩;have hR:=h.mono hG;obtain⟨g1,g2,g3⟩:=hR.rd;rw[as_.l8_eq];simp only[af_];rw[ad_ g2,ah_];refine aa_ (fun e=> ?_) (fun e=>by simp at e; omega);rw[ad_ g2,ah_];refine ab_ rfl (ab_ (by simp; omega) ?_);obtain⟨l2,e2,q1,q2,q3,q4,_⟩:=hR.linkG j hjl;subst e2;simp only[af_,etn,kN,kQ];rw[ad_ q1,ai_,ad_ q2,ax_,ad_ q3,ai_,ad_ q4,ak_];refine fo_ hR (by omega) ?_;simp only[aN_,ai_];have hlk:=hk _ (kE hjl);rw[ED_] at hlk;obtain⟨y,hy⟩:=Option.isSome_iff_exists.1 hlk;obtain⟨m,hm,em,ey⟩:=sn_ hy;rw[em];have w1:ac_ .i64 (((j:Nat):Int)+1)=((j+1:Nat):Int):=an_ (by omega);rw[w1];have hfile:bq_ st st.links[j]=(st.links[j].1.2,y.content,st.links[j].2.2):=by unfold bq_; rw[hy]
     have htk:(st.links.take (j+1)).filter (fun l=>decide (l.1.1=x.2.id))=(st.links.take j).filter (fun l=>decide (l.1.1=x.2.id))++(if st.links[j].1.1=x.2.id then [st.links[j]] else []):=by
      rw[take_add_one,kG hjl,filter_append];congr 1;by_cases z:st.links[j].1.1=x.2.id<;>simp [z]
     refine aa_ (fun e=> ?_) (fun e=> ?_)
     ·have e':st.links[j].1.1=x.2.id:=by simpa using e
      rw[if_pos e'] at htk;refine aa_ (fun _=> ?_) (fun e=>by simp at e);rw[ad_ g3,ah_];refine ab_ rfl (ab_ (by simp; omega) ?_);obtain⟨l3,e3,_,_,z3⟩:=hR.inoG m hm;subst e3;simp only[af_,etn,kN,kQ];rw[ad_ z3,ax_,ey];dsimp only;refine ab_ rfl ?_;have hfl:fs.length≤900:=by
       rw[hfs,length_map];exact Nat.le_trans (length_filter_le _ _) (by rw[length_take]; omega)
      have hH0:H<+:G:=hG;refine kb_ (H0:=Gs) (by omega) hG' ho (m:=1) rfl (by unfold Lim; omega) fun p' G' o' ex fr=> ?_;have hcs:ci_ fs++[.str st.links[j].1.2,.str y.content,.bool st.links[j].2.2]=ci_ (fs++[bq_ st st.links[j]]):=by
       rw[o3_,hfile]; rfl
      rw[hcs] at o';have hfl':(fs++[bq_ st st.links[j]]).length=fs.length+1:=by simp
      rw[←hfl'] at o' ⊢;exact ihg (j+1) F G' p' _ (by omega) hjl (by omega) ex.pre o' (by rw[hfs,htk,kL]; rfl)
     ·have e': ¬ st.links[j].1.1=x.2.id:=by simpa using e
      rw[if_neg e',append_nil] at htk;exact ihg (j+1) F G p fs (by omega) hjl (by omega) hG' ho (by rw[htk]; exact hfs)
   subst hGs;exact go8 _ 0 F G none [] rfl (kP _) (by omega) (prefix_refl _) (.inl ⟨rfl,rfl,rfl⟩) rfl
 exact go3 _ 0 _ H none rfl (kP _) (by rw[Nat.sub_zero]; omega) (prefix_refl _) (.inl ⟨rfl,by simp⟩)
end
end Go.Am
end
namespace Go.Am
open List
theorem wn_:∀ (l:KV) (st:StD) (x:ByteArray × ByteArray),hN_ f st (l++[x])=match hN_ f st l with | some s=>f s x | none=>none
 | [],st,x=>by
  simp [hN_];grind
 | y::l,st,x=>by
  rw[cons_append];unfold hN_;cases f st y with
  | none=>rfl
  | some s=>exact wn_ l s x
theorem zI_ {ps:KV} (hi:i < ps.length):el_ (ps.take (i+1))=match el_ (ps.take i) with | some s=>iZ_ s ps[i] | none=>none:=by
 rw[take_add_one,kG hi];exact wn_ _ _ _
theorem rY_ (h:el_ (ps.take i)=none):el_ ps=none:=by
 rw[pN_] at h ⊢;grind
theorem xp_ {l:List Int}:l.Nodup↔∀ i (hi:i < l.length),t1_ l l[i]=i:=by
 constructor
 ·refine fun h i hi=>uw_ hi rfl fun j A r e=> ?_;have:=(getElem_inj h).1 e;omega
 ·unfold Nodup;rw[pairwise_iff_getElem];grind
section
variable {H:Hp} {Q:Post} {x:Pl} {n:Nat} {cs:List PC} {T:List Pg} {s:ByteArray}
theorem dR_ (hT:Tr H x n cs T)
 (h1:ofD T=none→∀ H' p,H<+:H'→Q (.tup [.s (.ptr p),.s (.bool false)]) H')
 (h2:∀ st,ofD T=some st→∀ B H' sp a1 n1 a2 n2 a3 n3,H<+:B→cR_ B H' sp a1 n1 a2 n2 a3 n3 st→Q (.tup [.s (.ptr (some (sp,0))),.s (.bool true)]) H'):
 bt_ [.agg [.sl x n 5]] H Q:=by
 refine⟨200,?_⟩;rw[AX_];refine pb_ hT fun a m H1 p1 o1 l1=> ?_;simp only[aI_,aB_,bB_,ah_,ai_,aT_,f0_,fb_];have etn:∀ k:Nat,tN (k:Int)=k:=fun _=>rfl;have hm60:=lg_ T;have hkv:=yW_ T;refine aa_ (fun e=> ?_) (fun e=> ?_)
 ·refine h1 ?_ _ _ (p1.trans (b7_ _ _));unfold ofD;cases hh:decide (0 < aK_ T) with
  | false=>rfl
  | true=>unfold jd_ at e; rw[hh] at e; cases e
 have hh:decide (0 < aK_ T)=true:=by
  cases hh:decide (0 < aK_ T) with
  | true=>rfl
  | false=>unfold jd_ at e; rw[hh] at e; cases e
 have hof:ofD T=cP_ (d3_ T):=by unfold ofD; rw[hh]
 have R0:cR_ H1 (H1++[.row true 55 [.sl none 0 5,.sl none 0 4,.sl none 0 3]]) H1.length none 0 none 0 none 0 st0:=
  ⟨⟨55,by rw[getElem?_concat_length]⟩,b7_ _ _,kO _,.inl ⟨rfl,rfl,rfl⟩,.inl ⟨rfl,rfl,rfl⟩,.inl ⟨rfl,rfl,rfl⟩,rfl,rfl,rfl,(fun l e=>by cases e),(fun l e=>by cases e),(fun l e=>by cases e),(by simp),(by simp),(by simp)⟩
 have go11:∀ (f i F:Nat) (G:Hp) (a1:Pl) (n1:Nat) (a2:Pl) (n2:Nat) (a3:Pl) (n3:Nat) (st:StD),f=st.snaps.length - i→i≤st.snaps.length→f+1≤F→el_ (d3_ T)=some st→cR_ H1 G H1.length a1 n1 a2 n2 a3 n3 st→(∀ j (hj:j < st.snaps.length),j < i→t1_ (st.snaps.map (·.2.id)) st.snaps[j].2.id=j)→
  bt_.l11 F H1.length 0 ((i:Nat):Int) H1.length 0 G Q:=by
  intro f;induction f with
  | zero=>
   intro i F G a1 n1 a2 n2 a3 n3 st hf hi hF hd hR hp;obtain⟨F,rfl⟩:∃ G,F=G+1:=⟨F - 1,by omega⟩;have hl1:=hR.l1;obtain⟨g1,g2,g3⟩:=hR.rd;obtain⟨d1,d2,d3⟩:=hP_ hd;have hasc:=hV_ (ln_ T) hd;rw[bt_.l11_eq,ad_ g1,ah_];refine aa_ (fun e=>by simp at e; omega) (fun e=> ?_);have hnd:(st.snaps.map fun x=>x.2.id).Nodup:=xp_.2 fun j hj=>by
    rw[length_map] at hj;rw[getElem_map];exact hp j hj (by omega)
   have hpre:=p1.trans hR.pre;refine qO_ hR ⟨by omega,by omega⟩ ?_;simp only[aN_,ak_];refine aa_ (fun e=> ?_) (fun e=> ?_)
   ·have hlk:∀ l∈st.links,(st.inos.any fun x=>decide (x.1=l.2.1))=true:=by
     unfold dn_ at e;rw[kR,all_eq_true] at e;exact e.1
    refine eB_ hR ⟨by omega,by omega,by omega⟩ hlk fun G1 ia pG1 hia=> ?_;simp only[aN_,ah_];have sz:=(h6_ hasc).sizes (of_ hd) (by omega);refine dU_ hia.rd (Ds_ hasc) (by omega) sz.2 ?_;simp only[aN_,ak_];have hsok:i8_ st=bA_ (aA_ st) (aA_ st).length 0:=by unfold i8_; rw[e,decide_eq_true hnd]; rfl
    cases hf:bA_ (aA_ st) (aA_ st).length 0 with
    | false=>
     refine h1 ?_ _ _ (hpre.trans pG1);rw[hof]; unfold cP_; rw[hd]; dsimp only; rw[hsok,hf]
    | true=>
     exact h2 st (by rw[hof]; unfold cP_; rw[hd]; dsimp only; rw[hsok,hf]) H1 G1 H1.length a1 n1 a2 n2 a3 n3 p1 (hR.mono pG1)
   ·refine h1 ?_ _ _ hpre;rw[hof]; unfold cP_; rw[hd]; dsimp only; rw[show i8_ st=false by unfold i8_; rw[e,Bool.false_and]]
  | succ f ih=>
   intro i F G a1 n1 a2 n2 a3 n3 st hf hi hF hd hR hp;have hil:i < st.snaps.length:=by omega
   obtain⟨F,rfl⟩:∃ G,F=G+1:=⟨F - 1,by omega⟩;have hl1:=hR.l1;obtain⟨g1,g2,g3⟩:=hR.rd;obtain⟨d1,d2,d3⟩:=hP_ hd;rw[bt_.l11_eq,ad_ g1,ah_];refine aa_ (fun e=> ?_) (fun e=>by simp at e; omega);rw[ad_ g1,ah_];refine ab_ rfl (ab_ (by simp; omega) ?_);obtain⟨l,rfl,r1,r2,_⟩:=hR.snapG i hil;simp only[af_,etn,kN,kQ];rw[ad_ r2,ai_];refine iQ_ hR (by omega) ?_;simp only[aN_,ai_];refine aa_ (fun e=> ?_) (fun e=> ?_)
   ·refine h1 ?_ _ _ (p1.trans hR.pre);rw[hof]; unfold cP_; rw[hd]; dsimp only;rw[show i8_ st=false by
     unfold i8_;rw[show decide (st.snaps.map fun x=>x.2.id).Nodup=false by
      rw[decide_eq_false_iff_not];intro q;have:=xp_.1 q i (by simpa using hil);rw[getElem_map] at this;rw[this] at e;simp at e]
     rw[Bool.false_and,Bool.and_false]]
   ·rw[an_ (by omega)];refine ih (i+1) F G _ n1 a2 n2 a3 n3 st (by omega) hil (by omega) hd hR fun j hj hji=> ?_;rcases Nat.lt_or_eq_of_le (Nat.le_of_lt_succ hji) with z | z
    ·exact hp j hj z
    ·subst z; simpa using e
 have go6:∀ (f i F:Nat) (G:Hp) (a1:Pl) (n1:Nat) (a2:Pl) (n2:Nat) (a3:Pl) (n3:Nat) (st:StD),f=m - i→i≤m→f+100≤F→el_ ((d3_ T).take i)=some st→cR_ H1 G H1.length a1 n1 a2 n2 a3 n3 st→
  bt_.l6 F a m H1.length 0 ((i:Nat):Int) H1.length 0 G Q:=by
  intro f;induction f with
  | zero=>
   intro i F G a1 n1 a2 n2 a3 n3 st hf hi hF hd hR;obtain⟨F,rfl⟩:∃ G,F=G+1:=⟨F - 1,by omega⟩;rw[bt_.l6_eq];refine aa_ (fun e=>by simp at e; omega) (fun e=> ?_);rw[take_of_length_le (by omega)] at hd;have:=hP_ hd;exact go11 _ 0 F G a1 n1 a2 n2 a3 n3 st rfl (kP _) (by omega) hd hR (fun j hj h=>by omega)
  | succ f ih=>
   intro i F G a1 n1 a2 n2 a3 n3 st hf hi hF hd hR;have him:i < m:=by omega
   obtain⟨F,rfl⟩:∃ G,F=G+1:=⟨F - 1,by omega⟩;rw[bt_.l6_eq];refine aa_ (fun e=> ?_) (fun e=>by simp at e; omega);obtain⟨l,o,rfl,q1,q2⟩:=Kv.get (H:=G) (Kv.mono hR.pre ⟨o1.cells,l1⟩) (i:=i) (by omega);refine ab_ rfl (ab_ (by simp; omega) ?_);simp only[af_,etn];rw[ad_ q1,ax_,ad_ q2,ax_];have hmem:=hkv _ (kE (show i < (d3_ T).length by omega));have d:=hP_ hd;have ht:((d3_ T).take i).length≤i:=by rw[length_take]; omega
   have hl1:=hR.l1;have hl2:=hR.l2;have hl3:=hR.l3;have hstep:=zI_ (ps:=d3_ T) (i:=i) (by omega);rw[hd] at hstep;dsimp only at hstep;refine tV_ (by omega) (by omega) hR ⟨by omega,by omega,by omega⟩ (fun hn a1 n1 a2 n2 a3 n3 st' G' hR'=> ?_) (fun st' hs a1 n1 a2 n2 a3 n3 G' hR'=> ?_)
   ·simp only[aN_,ak_];rw[show iZ_ st (d3_ T)[i]=none from hn] at hstep;refine aa_ (fun _=> ?_) (fun e=>by cases e);refine h1 ?_ _ _ (p1.trans hR'.pre);rw[hof]; unfold cP_; rw[rY_ hstep]
   ·simp only[aN_,ak_];rw[show iZ_ st (d3_ T)[i]=some st' from hs] at hstep;refine aa_ (fun e=>by cases e) (fun _=> ?_);rw[an_ (by omega)];exact ih (i+1) F G' a1 n1 a2 n2 a3 n3 st' (by omega) him (by omega) hstep hR'
 exact go6 _ 0 _ _ none 0 none 0 none 0 st0 rfl (kP _) (by omega) rfl R0
theorem nT_ (h:i8_ st=true):∀ l∈st.links,(st.inos.any fun x=>decide (x.1=l.2.1))=true:=by
 unfold i8_ dn_ at h;grind
theorem c9_ (J:Tr H x n cs T)
 (Y:ofD T=none→∀ H',H<+:H'→Q (.tup [.s (.sl none 0 5),.s (.int .i64 2000)]) H')
 (O:∀ st,ofD T=some st→∀ H' b a,H<+:H'→H.length≤b→cH_ H' b a (aA_ st)→Q (.tup [.s (.sl a (aA_ st).length 5),.s (.int .i64 0)]) H'):
 b8_ [.agg [.sl x n 5]] H Q:=by
 refine⟨1,?_⟩;rw[wa_];refine dR_ J (fun e H' p D=> ?_) (fun st e B H' U V Z a2 n2 a3 n3 F A=> ?_)
 ·simp_all
 ·have ⟨_,N,r⟩:=jW_ e;have d:=hP_ N;have I:=lg_ T;refine eB_ A ⟨by omega,by omega,by omega⟩ (nT_ r) fun G a W ha=> ?_;simp [aN_];have D:=F.trans A.pre;grind
end
end Go.Am
namespace Go.Am
open List
section
variable {H:Hp} {Q:Post} {x:Pl} {n:Nat} {cs:List PC} {T:List Pg} {s:ByteArray}
theorem oU_ (V:f2_ H a fs) (U:f2_ H b fs) (Z:fs.length≤100000) (O:Q (.g (.bool true)) H):bR_ [.g (.sl a fs.length 3),.g (.sl b fs.length 3)] H Q:=by
 refine⟨fs.length+2,?_⟩;rw[qI_];have A:∀ k:Nat,tN (k:Int)=k:=fun _=>rfl;refine aa_ (fun e=>by simp_all) (fun _=> ?_);have go:∀ (f k),f=fs.length - k→k≤fs.length→bR_.l4 (f+1) a fs.length b fs.length (k) H Q:=by
  intro f;induction f with
  | zero=>
   intro k Y J;rw[bR_.l4_eq];exact aa_ (fun e=>by simp at e; omega) (fun _=>O)
  | succ f ih=>
   intro k Y J;have r:k < fs.length:=by omega
   rw[bR_.l4_eq];refine aa_ (fun e=> ?_) (fun e=>by omega);obtain⟨l,o,rfl,N,W,I⟩:=V _ r;obtain⟨l',o',rfl,D,F,G⟩:=U _ r;refine ab_ rfl (ab_ (by simp_all) ?_);simp only[af_,A];rw[ad_ N,ax_,ad_ W,ax_,ad_ I,ak_];refine ab_ rfl (ab_ (by simp; omega) ?_);rw[ad_ D,ax_,ad_ F,ax_,ad_ G,ak_];refine aa_ (fun e=>by simp_all) (fun _=> ?_);rw[an_ (by omega)];grind
 grind
theorem gH_ (h1:dT_ H a is) (h2:dT_ H b is) (hn:is.length≤1000) (U:∀ i∈is,i.files.length≤100000) (hQ:Q (.g (.bool true)) H):bz_ [.g (.sl a is.length 5),.g (.sl b is.length 5)] H Q:=by
 refine⟨is.length+2,?_⟩;rw[qt_];have D:∀ k:Nat,tN (k:Int)=k:=fun _=>rfl;refine aa_ (fun e=>by simp_all) (fun _=> ?_);have go:∀ (f k),f=is.length - k→k≤is.length→bz_.l4 (f+1) a is.length b is.length (k) H Q:=by
  intro f;induction f with
  | zero=>
   intro k U Y;rw[bz_.l4_eq];exact aa_ (fun e=>by simp at e; omega) (fun _=>hQ)
  | succ f ih=>
   intro k V Y;have A:k < is.length:=by omega
   rw[bz_.l4_eq];refine aa_ (fun e=> ?_) (fun e=>by omega);obtain⟨l,o,p,rfl,Z,W,r3,r4,r5,r6⟩:=h1 _ A;obtain⟨l',o',p',rfl,I,J,G,O,F,N⟩:=h2 _ A;refine ab_ rfl (ab_ (by simp; omega) ?_);simp only[af_,D];rw[ad_ Z,ax_,ad_ W,ai_,ad_ r3,ax_,ad_ r4,ax_,ad_ r5,ah_];refine ab_ rfl (ab_ (by simp; omega) ?_);rw[ad_ I,ax_,ad_ J,ai_,ad_ G,ax_,ad_ O,ax_,ad_ F,ah_];refine⟨1,?_⟩;rw[r4_];refine aa_ (fun _=>aa_ (fun _=>aa_ (fun _=>aa_ (fun _=>oU_ r6 N (U _ (kE A)) ?_) (fun e=>by simp at e)) (fun e=>by simp at e)) (fun e=>by simp at e)) (fun e=>by simp at e);simp only[aN_,ak_];refine aa_ (fun e=>by cases e) (fun _=> ?_);rw[an_ (by omega)];grind
 grind
end
end Go.Am
namespace Go.Am
open List
theorem l4_ (r:0≤n) (A:n≤255):((bof n).toNat:Int)=n:=by
 have:=jN_ r A;rw[Bh_ r A] at this;grind
theorem HZ_ (a b:ByteArray):bs (a++b)=bs a++bs b:=by unfold bs; simp
theorem kZ_ (l:List UInt8):(mkS l).size=l.length:=by rfl
theorem HM_ (s:ByteArray) (j:Nat) (b:UInt8) (h:(bs s)[j]? =some b):byt s j=(b.toNat:Int):=by
 have r:j < s.size:=(kC.1 h).1;have:=rH_ s j r;grind
theorem ym_ (l:List UInt8) (n:ByteArray):sub (mkS l++n) l.length (mkS l++n).size=n:=by
 apply iM_;rw[ig_,HZ_,Fq_,List.drop_left' rfl]
theorem HW_ (s:ByteArray) (l h:Nat):bs (sub s l h)=((bs s).take h).drop l:=by
 unfold sub bs;simp [drop_take]
def pX_ (n:ByteArray):ByteArray:=mkS [115]++n
def lv_ (x:SnapR):ByteArray:=(mkS [bof x.id,bof x.kind,bof (sz x.parent)]++x.parent)++x.label
def mr_ (k:LKey):ByteArray:=mkS [102,bof k.1]++k.2
def t2_ (v:LVal):ByteArray:=mkS [bof v.1,match v.2 with | true=>1 | false=>0]
def qu_ (i:Int):ByteArray:=mkS [105,bof i]
def sa_ (x:InoR):ByteArray:=mkS [bof x.links]++x.content
theorem gY_ (h:bk_ n 4=true):ch_ (pX_ n)=some n:=by
 unfold ch_ pX_;have A:byt (mkS [115]++n) 0=115:=by rfl
 have D:=ym_ [115] n;have r:leI 1 (sz (mkS [115]++n))=true:=by simp; omega
 simp_all
theorem h7_ (I:1≤k.1) (r:k.1≤255) (h:bk_ k.2 3=true):bX_ (mr_ k)=some k:=by
 unfold bX_ mr_;have G:byt (mkS [102,bof k.1]++k.2) 0=102:=by rfl
 have F:byt (mkS [102,bof k.1]++k.2) 1=k.1:=l4_ (by omega) r;have A:=ym_ [102,bof k.1] k.2;have D:leI 2 (sz (mkS [102,bof k.1]++k.2))=true:=by simp; omega
 simp_all
theorem lt_ (A:1≤i) (r:i≤255):cQ_ (qu_ i)=some i:=by
 unfold cQ_ qu_;have D:byt (mkS [105,bof i]) 0=105:=by rfl
 have F:byt (mkS [105,bof i]) 1=i:=l4_ (by omega) r;simp_all
def uG_ (o:Bool):UInt8:=match o with | true=>1 | false=>0
theorem BU_ (G:0≤v.1) (r:v.1≤255):eS_ (t2_ v)=some v:=by
 have F:byt (t2_ v) 0=v.1:=l4_ G r;have D:byt (t2_ v) 1=((uG_ v.2).toNat):=HM_ _ 1 _ rfl;have A:eqI (sz (t2_ v)) 2=true:=rfl;unfold eS_;rw[F,D,A];have ⟨i,o⟩:=v;cases o<;>rfl
theorem B9_ (h:ec_ x=true):cx_ (sa_ x)=some x:=by
 have A:=h;unfold ec_ at A;have J:1≤x.links:=by simp_all
 have r:x.links≤255:=by simp_all
 have F:byt (sa_ x) 0=x.links:=l4_ (by omega) r;have D:sub (sa_ x) 1 (sa_ x).size=x.content:=ym_ [bof x.links] x.content;have G:to_ (sa_ x)=x:=by unfold to_; rw[F,D]
 have I:leI 1 (sz (sa_ x))=true:=by simp [sa_]; omega
 unfold cx_;grind
theorem nG_ (h:fk_ x=true):(1≤x.id∧x.id≤255)∧(0≤x.kind∧x.kind≤2)∧x.parent.size≤4∧x.label.size≤3:=by
 unfold fk_ at h;simp only[kR,Bool.or_eq_true] at h;have ⟨⟨A,F⟩,⟨D,r⟩,h5,h6⟩:=h;refine⟨⟨by simpa using A,by simp_all⟩,⟨by simpa using D,by simpa using r⟩,?_,by simp at h6; omega⟩;rcases h5 with q | q
 ·simp_all
 ·have:=do_ q; omega
theorem zA_ (h:fk_ x=true):bF_ (lv_ x)=some x:=by
 have ⟨⟨b1,D⟩,⟨Z,F⟩,b5,b6⟩:=nG_ h;have r:bs (lv_ x)=[bof x.id,bof x.kind,bof (sz x.parent)]++(bs x.parent++bs x.label):=by rfl
 have V:(lv_ x).size=3+(x.parent.size+x.label.size):=by unfold lv_; simp; omega
 have W:byt (lv_ x) 0=x.id:=l4_ (by omega) D;have I:byt (lv_ x) 1=x.kind:=l4_ (by omega) (by omega);have A:byt (lv_ x) 2=sz x.parent:=l4_ (by simp) (by simp; omega);have G:tN (3+byt (lv_ x) 2)=3+x.parent.size:=by rw[A]; show (3+(x.parent.size:Int)).toNat=_; omega
 have J:sub (lv_ x) 3 (3+x.parent.size)=x.parent:=by
  apply iM_;rw[HW_,r,drop_take];simp_all
 have N:sub (lv_ x) (3+x.parent.size) (lv_ x).size=x.label:=by
  apply iM_;rw[ig_,r,←append_assoc,List.drop_left'];simp; omega
 have Y:mW_ (lv_ x)=x:=by
  unfold mW_;simp_all
 unfold bF_;have U:leI 3 (sz (lv_ x))=true:=by simp; omega
 have O:leI (3+sz x.parent) (sz (lv_ x))=true:=by simp; omega
 grind
def iB_ (x:ByteArray × SnapR):ByteArray × ByteArray:=(pX_ x.1,lv_ x.2)
def kV_ (x:LKey × LVal):ByteArray × ByteArray:=(mr_ x.1,t2_ x.2)
def rC_ (x:Int × InoR):ByteArray × ByteArray:=(qu_ x.1,sa_ x.2)
def kK_ (st:StD):KV:=st.snaps.map iB_++(st.links.map kV_++st.inos.map rC_)
section
variable {H:Hp} {Q:Post}
theorem qc_ (h:bk_ n 4=true) (r:Q (.tup [.s (.str (pX_ n)),.s (.int .i64 0)]) H):e6_ [.g (.str n)] H Q:=by
 have A:=do_ h;refine⟨1,?_⟩;rw[sf_];refine cb_ (by omega) (aa_ (fun e=>by grind) (fun _=> ?_));exact⟨by simp; omega,r⟩
theorem p8_ (h:fk_ x=true) (A:∀ H',H<+:H'→Q (.tup [.s (.str (lv_ x)),.s (.int .i64 0)]) H'):e7_ [.agg [.int .i64 x.id,.int .i64 x.kind,.str x.parent,.str x.label]] H Q:=by
 have ⟨⟨I,r⟩,⟨G,D⟩,b5,b6⟩:=nG_ h;refine⟨1,?_⟩;rw[sq_];refine jT_ (by omega) (aa_ (fun e=>by grind) (fun _=> ?_));rw[jN_ (by omega) r,jN_ (by omega) (show x.kind≤255 by omega),jN_ (show 0≤sz x.parent by simp) (by simp; omega),dX_ (cs:=u8s [bof x.id,bof x.kind,bof (sz x.parent)]) (by simp [cells?,u8s]),hy_];refine⟨by simp; omega,?_⟩;refine⟨by simp; omega,?_⟩;exact A _ (b7_ _ _)
theorem qa_ (G:1≤k.1) (r:k.1≤255) (h:bk_ k.2 3=true) (A:∀ H',H<+:H'→Q (.tup [.s (.str (mr_ k)),.s (.int .i64 0)]) H'):fa_ [.g (.int .i64 k.1),.g (.str k.2)] H Q:=by
 have F:=do_ h;refine⟨1,?_⟩;rw[sj_];refine gD_ (aa_ (fun e=>by simp_all) (fun _=>fD_ (by omega) (aa_ (fun e=>by grind) (fun _=> ?_))));rw[jN_ (by omega) r,dX_ (cs:=u8s [102,bof k.1]) (by simp [cells?,u8s]),hy_];exact⟨by simp; omega,A _ (b7_ _ _)⟩
theorem oS_ (F:1≤i) (r:i≤255) (A:∀ H',H<+:H'→Q (.tup [.s (.str (qu_ i)),.s (.int .i64 0)]) H'):eJ_ [.g (.int .i64 i)] H Q:=by
 refine⟨1,?_⟩;rw[q2_];refine gD_ (aa_ (fun e=>by simp_all) (fun _=> ?_));rw[jN_ (by omega) r,dX_ (cs:=u8s [105,bof i]) (by simp [cells?,u8s]),hy_];exact A _ (b7_ _ _)
theorem ox_ (h:ec_ x=true) (D:∀ H',H<+:H'→Q (.tup [.s (.str (sa_ x)),.s (.int .i64 0)]) H'):eH_ [.agg [.int .i64 x.links,.str x.content]] H Q:=by
 have r:=h;unfold ec_ at r;simp only[kR] at r;have I:1≤x.links:=by simp_all
 have A:x.links≤255:=by simp_all
 have G:x.content.size≤6:=by have:=r.2; simp at this; omega
 refine⟨1,?_⟩;rw[rs_];refine iV_ (aa_ (fun e=>by grind) (fun _=> ?_));rw[jN_ (by omega) A,dX_ (cs:=u8s [bof x.links]) (by simp [cells?,u8s]),hy_];exact⟨by simp; omega,D _ (b7_ _ _)⟩
end
end Go.Am
section
set_option maxRecDepth 100000
namespace Go.Am
open List
def eI_ (ps es:KV):KV:=es.foldl (fun ps p=>gu_ ps p.1 p.2) ps
def cc_ (st:StD):KV:=eI_ [] (kK_ st)
structure TrK (H:Hp) (x:Pl) (n:Nat) (ps:KV):Prop where
 ex:∃ cs A,Tr H x n cs A∧0 < aK_ A∧d3_ A=ps
theorem TrK.mono {H H':Hp} (h:TrK H x n ps) (p:H<+:H'):TrK H' x n ps:=by
 have ⟨D,A,F,r⟩:=h.ex;exact⟨D,A,F.mono p,r⟩
theorem TrK.asc (h:TrK H x n ps):Asc ps:=by
 have ⟨D,A,_,_,r⟩:=h.ex;rw[←r]; exact ln_ A
theorem Ct_:d3_ newT=[]:=by decide+kernel
theorem GE_ (h:bk_ n 4=true):1≤(pX_ n).size∧(pX_ n).size≤6:=by
 have:=do_ h;unfold pX_; simp; omega
theorem C9_ (h:fk_ x=true):(lv_ x).size≤10:=by
 have ⟨_,_,A,r⟩:=nG_ h;unfold lv_; simp; omega
theorem Gs_ (h:bk_ k.2 3=true):1≤(mr_ k).size∧(mr_ k).size≤6:=by
 have:=do_ h;unfold mr_; simp; omega
theorem Cm_ (h:ec_ x=true):(sa_ x).size≤10:=by
 unfold ec_ at h;simp at h;have:=h.2;unfold sa_; simp; omega
section
variable {B H:Hp} {Q:Post} {sp n1 n2 n3:Nat} {a1 a2 a3:Pl} {st:StD}
theorem y4_ (h:TrK H x n ps) (hn:n≤48) (Z:ps.length < 60) (k1:1≤key.size) (k2:key.size≤6) (k3:v.size≤10)
 (V:∀ H' x',H<+:H'→TrK H' x' 48 (gu_ ps key v)→(gu_ ps key v).length≤ps.length+1→Q (.tup [.a [.sl x' 48 5],.s (.int .i64 0)]) H'):bn_ [.agg [.sl x n 5],.g (.str key),.g (.str v)] H Q:=by
 have r:=h.asc;have ⟨cs,A,J,I,N⟩:=h.ex;have W:d3_ A=cS_ A:=by unfold d3_; rw[decide_eq_true I]
 have U:t3_ A key v=0:=by
  unfold t3_ qC_;grind
 refine sg_ J (by omega) (fun H' e _=>absurd U e) (fun _ _ x' F O H' p D ok=> ?_);have ⟨G,Y⟩:=Dr_ ok I;rw[N] at G;refine V H' x' p ⟨F,O,D,ok.pos,G⟩ ?_;rw[Fa_ r];grind
theorem iH_ (h:cR_ B H sp a1 n1 a2 n2 a3 n3 st) (ok:y9_ st) (hm:st.snaps.length+st.links.length+st.inos.length≤60)
 (hQ:∀ H' x',H<+:H'→TrK H' x' 48 (cc_ st)→Q (.agg [.sl x' 48 5]) H'):aq_ [.g (.ptr (some (sp,0)))] H Q:=by
 refine⟨st.snaps.length+2*st.links.length+st.inos.length+10,?_⟩;rw[oI_];have etn:∀ k:Nat,tN (k:Int)=k:=fun _=>rfl;have hl1:=h.l1;have hl2:=h.l2;have hl3:=h.l3;refine ic_ fun H1 p1 o1=> ?_;simp only[dE_,aV_,ah_,bi_];have T0:TrK H1 (some (H.length,0)) 48 (eI_ [] []):=⟨r0_,newT,o1.tr,by rw[Hi_]; omega,Ct_⟩;have go18:∀ (f i F:Nat) (G:Hp) (x:Pl),f=st.inos.length - i→i≤st.inos.length→f+1≤F→H<+:G→TrK G x 48 (eI_ [] (st.snaps.map iB_++(st.links.map kV_++(st.inos.take i).map rC_)))→(eI_ [] (st.snaps.map iB_++(st.links.map kV_++(st.inos.take i).map rC_))).length≤st.snaps.length+st.links.length+i→
  aq_.l18 F (some (sp,0)) none 0 x 48 ((i:Nat):Int) G Q:=by
  intro f;induction f with
  | zero=>
   intro i F G x hf hi hF hG hT hL;obtain⟨F,rfl⟩:∃ G,F=G+1:=⟨F - 1,by omega⟩;obtain⟨g1,g2,g3⟩:=(h.mono hG).rd;rw[aq_.l18_eq];simp only[af_];rw[ad_ g3,ah_];refine aa_ (fun e=>by simp at e; omega) (fun _=> ?_);rw[take_of_length_le (by omega)] at hT;exact hQ G x hG hT
  | succ f ih=>
   intro i F G x hf hi hF hG hT hL;have hil:i < st.inos.length:=by omega
   obtain⟨F,rfl⟩:∃ G,F=G+1:=⟨F - 1,by omega⟩;have hR:=h.mono hG;obtain⟨g1,g2,g3⟩:=hR.rd;rw[aq_.l18_eq];simp only[af_];rw[ad_ g3,ah_];refine aa_ (fun e=> ?_) (fun e=>by simp at e; omega);rw[ad_ g3,ah_];refine ab_ rfl (ab_ (by simp; omega) ?_);obtain⟨l3,e3,r1,r2,r3⟩:=hR.inoG i hil;subst e3;simp only[af_,etn,kN,kQ];rw[ad_ r1,ai_];obtain⟨⟨c1,c2⟩,c3⟩:=ok.inos _ (kE hil);refine oS_ c1 c2 fun G1 pG1=> ?_;simp only[aI_,aB_,bB_,ax_,ai_,aT_];obtain⟨g1',g2',g3'⟩:=(hR.mono pG1).rd;rw[ad_ g3',ah_];refine ab_ rfl (ab_ (by simp; omega) ?_)
   try simp only[af_,etn,kN,kQ]
   rw[ad_ (d7_ pG1 r2),ai_,ad_ (d7_ pG1 r3),ax_];refine ox_ c3 fun G2 pG2=> ?_;simp only[aI_,aB_,bB_,ax_,ai_,aT_];refine y4_ (hT.mono (pG1.trans pG2)) (by omega) (by omega) (by unfold qu_; rw[kZ_]; simp) (by unfold qu_; rw[kZ_]; simp) (Cm_ c3) fun G3 x' pG3 hT' hl'=> ?_;simp only[aI_,aB_,dS_,aV_,ah_,bi_,bB_,ai_,aT_];rw[an_ (by omega)];have he:eI_ [] (st.snaps.map iB_++(st.links.map kV_++(st.inos.take (i+1)).map rC_))=gu_ (eI_ [] (st.snaps.map iB_++(st.links.map kV_++(st.inos.take i).map rC_))) (qu_ st.inos[i].1) (sa_ st.inos[i].2):=by
    rw[take_add_one,kG hil];unfold eI_;rw[Option.toList_some,kL,←append_assoc,←append_assoc,foldl_append];rw[append_assoc]; rfl
   refine ih (i+1) F G3 x' (by omega) hil (by omega) (hG.trans (pG1.trans (pG2.trans pG3))) (by rw[he]; exact hT') (by rw[he]; omega)
 have go9:∀ (f i F:Nat) (G:Hp) (x:Pl),f=st.links.length - i→i≤st.links.length→2*f+(st.inos.length+2)≤F→H<+:G→TrK G x 48 (eI_ [] (st.snaps.map iB_++(st.links.take i).map kV_))→(eI_ [] (st.snaps.map iB_++(st.links.take i).map kV_)).length≤st.snaps.length+i→
  aq_.l9 F (some (sp,0)) none 0 x 48 ((i:Nat):Int) G Q:=by
  intro f;induction f with
  | zero=>
   intro i F G x hf hi hF hG hT hL;obtain⟨F,rfl⟩:∃ G,F=G+1:=⟨F - 1,by omega⟩;obtain⟨g1,g2,g3⟩:=(h.mono hG).rd;rw[aq_.l9_eq];simp only[af_];rw[ad_ g2,ah_];refine aa_ (fun e=>by simp at e; omega) (fun _=> ?_);rw[take_of_length_le (by omega)] at hT hL;refine go18 _ 0 F G x rfl (kP _) (by omega) hG ?_ ?_
   ·simpa using hT
   ·have:eI_ [] (st.snaps.map iB_++(st.links.map kV_++(st.inos.take 0).map rC_))=eI_ [] (st.snaps.map iB_++st.links.map kV_):=by simp
    rw[this]; omega
  | succ f ih=>
   intro i F G x hf hi hF hG hT hL;have hil:i < st.links.length:=by omega
   obtain⟨F,rfl⟩:∃ G,F=G+1+1:=⟨F - 2,by omega⟩;have hR:=h.mono hG;obtain⟨g1,g2,g3⟩:=hR.rd;rw[aq_.l9_eq];simp only[af_];rw[ad_ g2,ah_];refine aa_ (fun e=> ?_) (fun e=>by simp at e; omega);rw[ad_ g2,ah_];refine ab_ rfl (ab_ (by simp; omega) ?_);obtain⟨l2,e2,r1,r2,r3,r4,_⟩:=hR.linkG i hil;subst e2;simp only[af_,etn,kN,kQ];rw[ad_ r1,ai_,ad_ r2,ax_,ad_ r3,ai_,ad_ r4,ak_];obtain⟨⟨c1,c2⟩,c3,c4,c5⟩:=ok.links _ (kE hil);refine qa_ c1 c2 c3 fun G1 pG1=> ?_;simp only[aI_,aB_,bB_,ax_,ai_,aT_];have he:eI_ [] (st.snaps.map iB_++(st.links.take (i+1)).map kV_)=gu_ (eI_ [] (st.snaps.map iB_++(st.links.take i).map kV_)) (mr_ st.links[i].1) (t2_ st.links[i].2):=by
    rw[take_add_one,kG hil];unfold eI_;rw[Option.toList_some,kL,←append_assoc,foldl_append];rfl
   have tail:∀ (own:Int),own=((uG_ st.links[i].2.2).toNat:Int)→aq_.l16 (F+1) (some (sp,0)) none 0 x 48 ((i:Nat):Int) st.links[i].1.1 st.links[i].1.2 st.links[i].2.1 st.links[i].2.2 (mr_ st.links[i].1) own G1 Q:=by
    intro own ho;rw[aq_.l16_eq];simp only[f0_,fb_];rw[jN_ c4 c5,ho];rw[dX_ (cs:=u8s [bof st.links[i].2.1,uG_ st.links[i].2.2]) (by simp [cells?,u8s]),hy_];have pG2:G1<+:G1++[Obj.row true 5 [.int .u8 ((bof st.links[i].2.1).toNat:Int),.int .u8 ((uG_ st.links[i].2.2).toNat:Int)]]:=b7_ _ _;have hkb:=Gs_ c3;refine y4_ (key:=mr_ st.links[i].1) (v:=t2_ st.links[i].2) (hT.mono (pG1.trans pG2)) (by omega) (by omega) hkb.1 hkb.2 (by unfold t2_; rw[kZ_]; simp) fun G3 x' pG3 hT' hl'=> ?_;simp only[aI_,aB_,dS_,aV_,ah_,bi_,bB_,ai_,aT_];rw[an_ (by omega)];exact ih (i+1) F G3 x' (by omega) hil (by omega) (hG.trans (pG1.trans (pG2.trans pG3))) (by rw[he]; exact hT') (by rw[he]; omega)
   refine aa_ (fun e=>tail 1 (by rw[e]; rfl)) (fun e=>tail 0 (by rw[e]; rfl))
 have go3:∀ (f i F:Nat) (G:Hp) (x:Pl),f=st.snaps.length - i→i≤st.snaps.length→f+(2*st.links.length+(st.inos.length+2))+1≤F→H<+:G→TrK G x 48 (eI_ [] ((st.snaps.take i).map iB_))→(eI_ [] ((st.snaps.take i).map iB_)).length≤i→
  aq_.l3 F (some (sp,0)) none 0 x 48 ((i:Nat):Int) G Q:=by
  intro f;induction f with
  | zero=>
   intro i F G x hf hi hF hG hT hL;obtain⟨F,rfl⟩:∃ G,F=G+1:=⟨F - 1,by omega⟩;obtain⟨g1,g2,g3⟩:=(h.mono hG).rd;rw[aq_.l3_eq];simp only[af_];rw[ad_ g1,ah_];refine aa_ (fun e=>by simp at e; omega) (fun _=> ?_);rw[take_of_length_le (by omega)] at hT hL;refine go9 _ 0 F G x rfl (kP _) (by omega) hG ?_ ?_
   ·simpa using hT
   ·have:eI_ [] (st.snaps.map iB_++(st.links.take 0).map kV_)=eI_ [] (st.snaps.map iB_):=by simp
    rw[this]; omega
  | succ f ih=>
   intro i F G x hf hi hF hG hT hL;have hil:i < st.snaps.length:=by omega
   obtain⟨F,rfl⟩:∃ G,F=G+1:=⟨F - 1,by omega⟩;have hR:=h.mono hG;obtain⟨g1,g2,g3⟩:=hR.rd;rw[aq_.l3_eq];simp only[af_];rw[ad_ g1,ah_];refine aa_ (fun e=> ?_) (fun e=>by simp at e; omega);rw[ad_ g1,ah_];refine ab_ rfl (ab_ (by simp; omega) ?_);obtain⟨l1,e1,r1,r2,r3,r4,r5⟩:=hR.snapG i hil;subst e1;simp only[af_,etn,kN,kQ];rw[ad_ r1,ax_];obtain⟨c1,c2⟩:=ok.snaps _ (kE hil);refine qc_ c1 ?_;simp only[aI_,aB_,bB_,ax_,ai_,aT_];rw[ad_ g1,ah_];refine ab_ rfl (ab_ (by simp; omega) ?_)
   try simp only[af_,etn,kN,kQ]
   rw[ad_ r2,ai_,ad_ r3,ai_,ad_ r4,ax_,ad_ r5,ax_];refine p8_ c2 fun G2 pG2=> ?_;simp only[aI_,aB_,bB_,ax_,ai_,aT_];have hkb:=GE_ c1;refine y4_ (hT.mono pG2) (by omega) (by omega) hkb.1 hkb.2 (C9_ c2) fun G3 x' pG3 hT' hl'=> ?_;simp only[aI_,aB_,dS_,aV_,ah_,bi_,bB_,ai_,aT_];rw[an_ (by omega)];have he:eI_ [] ((st.snaps.take (i+1)).map iB_)=gu_ (eI_ [] ((st.snaps.take i).map iB_)) (pX_ st.snaps[i].1) (lv_ st.snaps[i].2):=by
    rw[take_add_one,kG hil];unfold eI_;rw[Option.toList_some,kL,foldl_append];rfl
   refine ih (i+1) F G3 x' (by omega) hil (by omega) (hG.trans (pG2.trans pG3)) (by rw[he]; exact hT') (by rw[he]; omega)
 exact go3 _ 0 _ H1 _ rfl (kP _) (by omega) p1 T0 (kO _)
end
end Go.Am
end
section
set_option maxRecDepth 100000
namespace Go.Am
open List
def ks_ (used:Int→Bool):Nat→Int→Int
 | 0,_=>0
 | f+1,k=>match used k with | true=>ks_ used f (k+1) | false=>k
def nC_ (st:StD) (id:Int):Bool:=(st.snaps.any fun x=>decide (x.2.id=id))||st.links.any fun l=>decide (l.1.1=id)
def dx_ (st:StD):Int:=ks_ (nC_ st) 255 1
def eP_ (st:StD):Int:=ks_ (fun k=>st.inos.any fun x=>decide (x.1=k)) 255 1
def lH_ (st:StD) (id:Int) (path:ByteArray):Int:=match st.links.findIdx? (fun l=>decide (l.1.1=id)&&decide (l.1.2=path)) with | some i=>(i:Int) | none=> -1
def hx_ (st:StD):Int:=match st.links.findIdx? (fun l=> !(st.snaps.any fun x=>decide (x.2.id=l.1.1))) with | some i=>(i:Int) | none=> -1
theorem EP_ {α:Type} {p:α→Bool} {l:List α} (hi:i < l.length) (h:p l[i]=true) (r:∀ j (A:j < l.length),j < i→p l[j]=false):l.findIdx? p=some i:=by
 rw[findIdx?_eq_some_iff_getElem];grind
theorem zv_ {α:Type} {p:α→Bool} {l:List α} (h:∀ j (A:j < l.length),p l[j]=false):l.findIdx? p=none:=by
 rw[findIdx?_eq_none_iff];intro x r;obtain⟨j,A,rfl⟩:=kK r;grind
section
variable {B H:Hp} {Q:Post} {sp n1 n2 n3:Nat} {a1 a2 a3:Pl} {st:StD}
theorem fx_ (h:cR_ B H sp a1 n1 a2 n2 a3 n3 st) (hn:st.snaps.length≤1000) (W:∀ k (Z:k < st.snaps.length),st.snaps[k].1=s→(∀ j (A:j < st.snaps.length),j < k→st.snaps[j].1≠s)→Q (.g (.int .i64 ((k:Nat):Int))) H)
 (Y:(∀ j (A:j < st.snaps.length),st.snaps[j].1≠s)→Q (.g (.int .i64 (-1))) H):aR_ [.g (.ptr (some (sp,0))),.g (.str s)] H Q:=by
 have ⟨I,g2,g3⟩:=h.rd;refine⟨st.snaps.length+2,?_⟩;rw[m8_];have N:∀ k:Nat,tN (k:Int)=k:=fun _=>rfl;have hl:=h.l1;have go:∀ (f i),f=st.snaps.length - i→i≤st.snaps.length→(∀ j A,j < i→st.snaps[j].1≠s)→aR_.l2 (f+1) (some (sp,0)) s (i) H Q:=by
  intro f;induction f with
  | zero=>
   intro i V J F;rw[aR_.l2_eq];simp;rw[ad_ I,ah_];refine aa_ (fun e=>by simp at e; omega) (fun e=> ?_);exact Y fun j A=>F j A (by omega)
  | succ f O=>
   intro i V J F;have D:i < st.snaps.length:=by omega
   rw[aR_.l2_eq];simp only[af_];rw[ad_ I,ah_];refine aa_ (fun e=> ?_) (fun e=>by simp at e; omega);rw[ad_ I,ah_];refine ab_ rfl (ab_ (by simp; omega) ?_);obtain⟨l,rfl,U,r2,_⟩:=h.snapG i D;simp [af_];rw[ad_ U,ax_];refine aa_ (fun e=> ?_) (fun e=> ?_)
   ·exact W i D (by simpa using e) F
   ·rw[an_ (by omega)];refine O (i+1) (by omega) D fun j A G=> ?_;rcases Nat.lt_or_eq_of_le (Nat.le_of_lt_succ G) with q | q
    ·exact F j A q
    ·subst q; simpa using e
 exact go _ 0 rfl (kP _) (fun j A h=>by omega)
theorem tW_ (h:cR_ B H sp a1 n1 a2 n2 a3 n3 st) (F:st.snaps.length≤1000∧st.links.length≤1000∧st.inos.length≤1000) (G:Q (.g (.int .i64 ((st.snaps.length+st.links.length+st.inos.length:Nat):Int))) H):dF_ [.g (.ptr (some (sp,0)))] H Q:=by
 have ⟨D,A,r⟩:=h.rd;refine⟨1,?_⟩;rw[oC_];simp only[af_];rw[ad_ D,ah_,ad_ A,ah_,ad_ r,ah_,h.l1,h.l2,h.l3];simp;rw[cy_ (n:=((st.snaps.length:Nat):Int)+((st.links.length:Nat):Int)) (by omega) (by omega),cy_ (by omega) (by omega)];grind
theorem Gf_:leI 0 (t1_ l k)=l.any fun x=>decide (x=k):=by
 have:= @uv_ l k;cases h:(l.any fun x=>decide (x=k)) with
 | true=>rw[h] at this; simp at this ⊢; omega
 | false=>rw[h] at this; simp at this ⊢; omega
theorem qp_ (h:cR_ B H sp a1 n1 a2 n2 a3 n3 st) (hn:st.snaps.length≤1000∧st.links.length≤1000) (hQ:Q (.g (.int .i64 (dx_ st))) H):aH_ [.g (.ptr (some (sp,0)))] H Q:=by
 obtain⟨g1,g2,g3⟩:=h.rd;have etn:∀ k:Nat,tN (k:Int)=k:=fun _=>rfl;have hl2:=h.l2;have go2:∀ (f k F:Nat),f+k=256→1≤k→f*(st.links.length+2)+1≤F→Q (.g (.int .i64 (ks_ (nC_ st) f ((k:Nat):Int)))) H→aH_.l2 F (some (sp,0)) ((k:Nat):Int) H Q:=by
  intro f;induction f with
  | zero=>
   intro k F hk hk1 hF hQ;obtain⟨F,rfl⟩:∃ G,F=G+1:=⟨F - 1,by omega⟩;rw[aH_.l2_eq];exact aa_ (fun e=>by simp at e; omega) (fun _=>hQ)
  | succ f ih=>
   intro k F hk hk1 hF hQ;rw[Nat.succ_mul] at hF;generalize hW:f*(st.links.length+2)=W at hF ih;obtain⟨F,rfl⟩:∃ G,F=G+1:=⟨F - 1,by omega⟩;rw[aH_.l2_eq];refine aa_ (fun _=> ?_) (fun e=>by simp at e; omega);refine iQ_ h hn.1 ?_;simp only[aN_,ai_];rw[Gf_,any_map];have go6:∀ (g i F:Nat),g=st.links.length - i→i≤st.links.length→g+1+W+1≤F→
    aH_.l6 F (some (sp,0)) ((k:Nat):Int) ((st.snaps.any fun x=>decide (x.2.id=((k:Nat):Int)))||(st.links.take i).any fun l=>decide (l.1.1=((k:Nat):Int))) ((i:Nat):Int) H Q:=by
    intro g;induction g with
    | zero=>
     intro i F hg hi hF;obtain⟨F,rfl⟩:∃ G,F=G+1:=⟨F - 1,by omega⟩;rw[aH_.l6_eq];simp only[af_];rw[ad_ g2,ah_];refine aa_ (fun e=>by simp at e; omega) (fun _=> ?_);rw[take_of_length_le (by omega)];rw[ks_] at hQ;refine aa_ (fun e=> ?_) (fun e=> ?_)
     ·rw[show nC_ st ((k:Nat):Int)=false from dY_ e] at hQ;exact hQ
     ·rw[show nC_ st ((k:Nat):Int)=true from eE_ e] at hQ;rw[an_ (by omega)];refine ih (k+1) F (by omega) (by omega) (by omega) ?_;rw[show (((k+1:Nat)):Int)=((k:Nat):Int)+1 by omega];exact hQ
    | succ g ihg=>
     intro i F hg hi hF;have hil:i < st.links.length:=by omega
     obtain⟨F,rfl⟩:∃ G,F=G+1:=⟨F - 1,by omega⟩;rw[aH_.l6_eq];simp only[af_];rw[ad_ g2,ah_];refine aa_ (fun _=> ?_) (fun e=>by simp at e; omega);have w1:ac_ .i64 (((i:Nat):Int)+1)=((i+1:Nat):Int):=an_ (by omega);have key:=ihg (i+1) F (by omega) hil (by omega);have ht:(st.links.take (i+1)).any (fun l=>decide (l.1.1=((k:Nat):Int)))=((st.links.take i).any (fun l=>decide (l.1.1=((k:Nat):Int)))||eqI st.links[i].1.1 ((k:Nat):Int)):=by
      rw[take_add_one,kG hil,any_append];simp
     rw[ht,←Bool.or_assoc] at key;refine aa_ (fun e=> ?_) (fun e=> ?_)
     ·rw[e,Bool.true_or] at key;rw[w1]; exact key
     ·rw[e,Bool.false_or] at key;rw[ad_ g2,ah_];refine ab_ rfl (ab_ (by simp; omega) ?_);obtain⟨l2,rfl,r1,_⟩:=h.linkG i hil;simp only[af_,etn,kN,kQ];rw[ad_ r1,ai_,w1];exact key
   have:=go6 _ 0 F rfl (kP _) (by omega);rw[take_zero,any_nil,Bool.or_false] at this;exact this
 refine⟨255*(st.links.length+2)+2,?_⟩;rw[mu_];exact go2 255 1 _ rfl (by omega) (by omega) hQ
theorem nM_ (h:cR_ B H sp a1 n1 a2 n2 a3 n3 st) (N:st.inos.length≤1000) (r:Q (.g (.int .i64 (eP_ st))) H):a1_ [.g (.ptr (some (sp,0)))] H Q:=by
 have A:∀ (f k F),f+k=256→1≤k→f+1≤F→Q (.g (.int .i64 (ks_ (fun k=>st.inos.any fun x=>decide (x.1=k)) f ((k:Nat))))) H→a1_.l2 F (some (sp,0)) (k) H Q:=by
  intro f;induction f with
  | zero=>
   intro k F O D I r;obtain⟨F,rfl⟩:∃ G,F=G+1:=⟨F - 1,by omega⟩;rw[a1_.l2_eq];exact aa_ (fun e=>by simp_all) (fun _=>r)
  | succ f J=>
   intro k F O D I r;obtain⟨F,rfl⟩:∃ G,F=G+1:=⟨F - 1,by omega⟩;rw[a1_.l2_eq];refine aa_ (fun _=> ?_) (fun e=>by simp at e; omega);refine fo_ h N ?_;simp only[aN_,ai_];rw[uv_,any_map];rw[ks_] at r;refine aa_ (fun e=> ?_) (fun e=> ?_)
   ·grind
   ·rw[an_ (by omega)];refine J (k+1) F (by omega) (by omega) (by omega) ?_;grind
 refine⟨258,?_⟩;rw[kI_];exact A 255 1 _ rfl (by omega) (by omega) r
theorem f5_ (h:cR_ B H sp a1 n1 a2 n2 a3 n3 st) (Y:st.snaps.length≤1000∧st.links.length≤1000) (D:Q (.g (.int .i64 (hx_ st))) H):a3_ [.g (.ptr (some (sp,0)))] H Q:=by
 have ⟨g1,N,g3⟩:=h.rd;refine⟨st.links.length+2,?_⟩;rw[mI_];have I:∀ k:Nat,tN (k:Int)=k:=fun _=>rfl;have Z:=h.l2;have go:∀ (f i),f=st.links.length - i→i≤st.links.length→(∀ j F,j < i→(!(st.snaps.any fun x=>decide (x.2.id=st.links[j].1.1)))=false)→a3_.l2 (f+1) (some (sp,0)) (i) H Q:=by
  intro f;induction f with
  | zero=>
   intro i W O G;rw[a3_.l2_eq];simp;rw[ad_ N,ah_];refine aa_ (fun e=>by simp at e; omega) (fun e=> ?_);unfold hx_ at D;rw[zv_ (fun j F=>G j F (by omega))] at D;exact D
  | succ f U=>
   intro i W O G;have A:i < st.links.length:=by omega
   rw[a3_.l2_eq];simp only[af_];rw[ad_ N,ah_];refine aa_ (fun e=> ?_) (fun e=>by simp at e; omega);rw[ad_ N,ah_];refine ab_ rfl (ab_ (by simp; omega) ?_);obtain⟨l,rfl,V,r2,_⟩:=h.linkG i A;simp only[af_,I,kN,kQ];rw[ad_ V,ai_];refine iQ_ h Y.1 ?_;simp only[aN_,ai_];rw[uv_,any_map];refine aa_ (fun e=> ?_) (fun e=> ?_)
   ·unfold hx_ at D;rw[EP_ A e G] at D;exact D
   ·rw[an_ (by omega)];refine U (i+1) (by omega) A fun j F J=> ?_;rcases Nat.lt_or_eq_of_le (Nat.le_of_lt_succ J) with q | q
    ·exact G j F q
    ·subst q; exact e
 exact go _ 0 rfl (kP _) (fun j F h=>by omega)
theorem qX_ (h:cR_ B H sp a1 n1 a2 n2 a3 n3 st) (hn:st.snaps.length≤1000∧st.links.length≤1000) {s path:ByteArray} {x:SnapR} (hx:look st.snaps s=some x) (hQ:Q (.g (.int .i64 (lH_ st x.id path))) H):a8_ [.g (.ptr (some (sp,0))),.g (.str s),.g (.str path)] H Q:=by
 obtain⟨g1,g2,g3⟩:=h.rd;refine⟨st.links.length+2,?_⟩;rw[mB_];have etn:∀ k:Nat,tN (k:Int)=k:=fun _=>rfl;have hl:=h.l2;have hl1:=h.l1;simp only[af_];rw[ad_ g1,ah_];refine fx_ h hn.1 (fun k hk e hmin=> ?_) (fun q=> ?_)
 ·simp only[aN_,ai_];rw[ad_ g1,ah_];refine⟨rfl,ab_ rfl (ab_ (by simp; omega) ?_)⟩;have hxk:st.snaps[k].2=x:=by
   unfold look at hx;have hf:st.snaps.find? (fun p=>decide (p.1=s))=some st.snaps[k]:=by
    rw[find?_eq_some_iff_getElem];exact⟨by simpa using e,k,hk,rfl,fun j hj=>by simpa using hmin j (by omega) hj⟩
   rw[hf] at hx;exact Option.some.inj hx
  obtain⟨l1,rfl,r1,r2,_⟩:=h.snapG k hk;simp only[af_,etn,kN,kQ];rw[ad_ r2,ai_,hxk];have go:∀ (f i:Nat),f=st.links.length - i→i≤st.links.length→(∀ j (hj:j < st.links.length),j < i→(decide (st.links[j].1.1=x.id)&&decide (st.links[j].1.2=path))=false)→a8_.l3 (f+1) (some (sp,0)) path x.id ((i:Nat):Int) H Q:=by
   intro f;induction f with
   | zero=>
    intro i hf hi hp;rw[a8_.l3_eq];simp only[af_];rw[ad_ g2,ah_];refine aa_ (fun e=>by simp at e; omega) (fun e=> ?_);unfold lH_ at hQ;rw[zv_ (fun j hj=>hp j hj (by omega))] at hQ;exact hQ
   | succ f ih=>
    intro i hf hi hp;have hil:i < st.links.length:=by omega
    rw[a8_.l3_eq];simp only[af_];rw[ad_ g2,ah_];refine aa_ (fun e=> ?_) (fun e=>by simp at e; omega);rw[ad_ g2,ah_];refine ab_ rfl (ab_ (by simp; omega) ?_);obtain⟨l,rfl,r1,r2,_⟩:=h.linkG i hil;simp only[af_,etn,kN,kQ];rw[ad_ r1,ai_];have next:(decide (st.links[i].1.1=x.id)&&decide (st.links[i].1.2=path))=false→a8_.l3 (f+1) (some (sp,0)) path x.id (ac_ .i64 (((i:Nat):Int)+1)) H Q:=fun e=>by
     rw[an_ (by omega)];refine ih (i+1) (by omega) hil fun j hj hji=> ?_;rcases Nat.lt_or_eq_of_le (Nat.le_of_lt_succ hji) with q | q
     ·exact hp j hj q
     ·subst q; exact e
    refine aa_ (fun e=> ?_) (fun e=> ?_)
    ·have e':st.links[i].1.1=x.id:=by simpa using e
     rw[ad_ g2,ah_];refine ab_ rfl (ab_ (by simp; omega) ?_);simp only[af_,etn,kN,kQ];rw[ad_ r2,ax_];refine aa_ (fun e2=> ?_) (fun e2=> ?_)
     ·have e2':st.links[i].1.2=path:=by simpa using e2
      unfold lH_ at hQ;rw[EP_ hil (by rw[decide_eq_true e',decide_eq_true e2']; rfl) hp] at hQ;exact hQ
     ·have e2': ¬ st.links[i].1.2=path:=by simpa using e2
      exact next (by rw[decide_eq_false e2',Bool.and_false])
    ·have e': ¬ st.links[i].1.1=x.id:=by simpa using e
     exact next (by rw[decide_eq_false e',Bool.false_and])
  exact go _ 0 rfl (kP _) (fun j hj h=>by omega)
 ·have hm:=dr_ hx;obtain⟨j,hj,e⟩:=kK hm;exact absurd (by rw[e]) (q j hj)
end
end Go.Am
end
namespace Go.Am
structure wM_ (st:StD):Prop where
 snaps:(st.snaps.map (·.1)).Nodup
 links:(st.links.map (·.1)).Nodup
 inos:(st.inos.map (·.1)).Nodup
theorem dp_ [DecidableEq α] (r:(ps.map (·.1)).Nodup) {k:α} {v:β}:look ps k=some v↔(k,v)∈ps:=⟨dr_,fun h=>fP_ r h⟩
theorem cJ_:dn_ st=true↔(∀ l∈st.links,∃ y,(l.2.1,y)∈st.inos)∧∀ x∈st.inos,(eX_ st x.1:Int)=x.2.links:=by
 unfold dn_;grind
structure Sto (st:StD):Prop where
 ok:y9_ st
 nd:wM_ st
 lk:dn_ st=true
theorem qZ_ [DecidableEq α] (r:(ps.map (·.1)).Nodup) {v v0:β} (h:look ps k=some v0) (x:α × β):x∈gi_ ps k v↔x=(k,v)∨(x∈ps∧x.1≠k):=by
 unfold gi_;rw[h,List.mem_map];constructor
 ·grind
 ·rintro (e | ⟨D,A⟩)
  ·exact⟨(k,v0),dr_ h,by grind⟩
  ·grind
theorem vF_ [DecidableEq α] (r:(ps.map (·.1)).Nodup) {k:α} {v v0:β} (h:look ps k=some v0):((gi_ ps k v).map (·.1)).Nodup:=by
 rw[n4_,h]; exact r
theorem kf_ {α β:Type} {ps:List (α × β)} (r:(ps.map (·.1)).Nodup) (p:α × β→Bool):((ps.filter p).map (·.1)).Nodup:=
 List.Nodup.sublist (List.Sublist.map _ List.filter_sublist) r
def mg_ (inos:List (Int × InoR)) (k:Int) (y:InoR):List (Int × InoR):=(gi_ inos k ⟨y.links - 1,y.content⟩).filter fun x=>decide (0 < x.2.links)
def kn_ (st:StD) (i:Nat):StD:=match st.links[i]? with
 | none=>st
 | some l=>match look st.inos l.2.1 with
  | none=>st
  | some y=>⟨st.snaps,st.links.eraseIdx i,mg_ st.inos l.2.1 y⟩
theorem jS_ {α:Type}:∀ {l:List α} {i:Nat} (hi:i < l.length),(l[i]::l.eraseIdx i).Perm l
 | [],i,hi=>by grind
 | x::l,0,_=>List.Perm.refl _
 | x::l,i+1,hi=>by
  have r:i < l.length:=by grind
  have:=jS_ r;exact (List.Perm.swap x l[i] (l.eraseIdx i)).trans (this.cons x)
theorem so_ (hi:i < st.links.length) (ino:List (Int × InoR)) (n:Int):eX_ st n=eX_ ⟨st.snaps,st.links.eraseIdx i,ino⟩ n+(if st.links[i].2.1=n then 1 else 0):=by
 unfold eX_;rw[←(jS_ hi).countP_eq,List.countP_cons];grind
theorem Sto.ino (h:Sto st) (D:l∈st.links):∃ y,look st.inos l.2.1=some y∧(l.2.1,y)∈st.inos∧1≤y.links∧y.links≤255∧(eX_ st l.2.1:Int)=y.links:=by
 have ⟨y,r⟩:=(cJ_.1 h.lk).1 l D;have A:=(h.ok.inos _ r).2;unfold ec_ at A;simp at A;exact⟨y,(dp_ h.nd.inos).2 r,r,by simp_all,A.1.2,(cJ_.1 h.lk).2 _ r⟩
theorem gQ_ (h:Sto st) (hi:i < st.links.length):∃ y,look st.inos st.links[i].2.1=some y∧kn_ st i=⟨st.snaps,st.links.eraseIdx i,mg_ st.inos st.links[i].2.1 y⟩:=by
 have ⟨y,r,_⟩:=h.ino (kE hi);unfold kn_;grind
theorem xX_ (r:(inos.map (·.1)).Nodup) (h:look inos k=some y) (x:Int × InoR):x∈mg_ inos k y↔(x=(k,⟨y.links - 1,y.content⟩)∧1 < y.links)∨(x∈inos∧x.1≠k∧0 < x.2.links):=by
 unfold mg_;rw[List.mem_filter,qZ_ r h];grind
theorem n9_ (h:Sto st) (hi:i < st.links.length):Sto (kn_ st i):=by
 have ⟨y,J,e⟩:=gQ_ h hi;have ⟨Z,D,O,b1,b2,hc⟩:=h.ino (kE hi);rw[J] at D;cases D;have r:=xX_ h.nd.inos J;have ⟨V,k2⟩:=cJ_.1 h.lk;rw[e];refine⟨⟨h.ok.snaps,fun l F=>h.ok.links l (List.mem_of_mem_eraseIdx F),fun x I=> ?_⟩,⟨h.nd.snaps,?_,?_⟩,?_⟩
 ·rcases (r x).1 I with⟨e,G⟩ | ⟨G,_⟩
  ·subst e;have ⟨W,N⟩:=h.ok.inos _ O;refine⟨W,?_⟩;unfold ec_ at N ⊢;simp only[kR] at N ⊢;refine⟨⟨?_,?_⟩,N.2⟩<;>simp<;>omega
  ·exact h.ok.inos x G
 ·exact List.Nodup.sublist (List.Sublist.map _ (List.eraseIdx_sublist _ _)) h.nd.links
 ·exact kf_ (vF_ h.nd.inos J) _
 ·rw[cJ_];refine⟨fun l F=> ?_,fun x I=> ?_⟩
  ·by_cases U:l.2.1=st.links[i].2.1
   ·refine⟨⟨y.links - 1,y.content⟩,(r _).2 (.inl ⟨by rw[U],?_⟩)⟩;have A:=so_ hi (mg_ st.inos st.links[i].2.1 y) st.links[i].2.1;rw[if_pos rfl] at A;have:0 < eX_ ⟨st.snaps,st.links.eraseIdx i,mg_ st.inos st.links[i].2.1 y⟩ st.links[i].2.1:=List.countP_pos_iff.2 ⟨l,F,by simpa using U⟩;omega
   ·have ⟨z,Y⟩:=V l (List.mem_of_mem_eraseIdx F);have:=(h.ok.inos _ Y).2;unfold ec_ at this;simp at this;grind
  ·rcases (r x).1 I with⟨e,G⟩ | ⟨G,h2,_⟩
   ·have A:=so_ hi (mg_ st.inos st.links[i].2.1 y) st.links[i].2.1;grind
   ·have A:=so_ hi (mg_ st.inos st.links[i].2.1 y) x.1;grind
theorem wp_ (h:Sto st) (hi:i < st.links.length) (D:l∈(kn_ st i).links):bq_ (kn_ st i) l=bq_ st l:=by
 have F:=n9_ h hi;have ⟨z,G,r,_⟩:=F.ino D;have ⟨y,A,e⟩:=gQ_ h hi;unfold bq_;rw[e] at r;rcases (xX_ h.nd.inos A _).1 r with⟨q,_⟩ | ⟨q,_⟩
 ·grind
 ·have:=(dp_ h.nd.inos).2 q;grind
def bu_ (st:StD):Option Nat:=st.links.findIdx? fun l=> !(st.snaps.any fun x=>decide (x.2.id=l.1.1))
def kQ_:Nat→StD→StD
 | 0,st=>st
 | f+1,st=>match bu_ st with | some i=>kQ_ f (kn_ st i) | none=>st
def d0_ (st:StD):StD:=kQ_ st.links.length st
def dM_ (st:StD):Nat:=st.snaps.length+st.links.length+st.inos.length
def e0_ (st:StD):StD:=match decide (60 < dM_ st) with | true=>d0_ st | false=>st
theorem qR_ (h:bu_ st=some i):∃ hi:i < st.links.length,∀ x∈st.snaps,x.2.id≠st.links[i].1.1:=by
 unfold bu_ at h;rw[List.findIdx?_eq_some_iff_getElem] at h;grind
theorem e2_ (h:bu_ st=none):∀ l∈st.links,∃ x∈st.snaps,x.2.id=l.1.1:=by
 unfold bu_ at h;grind
structure hI_ (st st':StD):Prop where
 sto:Sto st'
 snaps:st'.snaps=st.snaps
 sub:∀ l∈st'.links,l∈st.links
 all:∀ l∈st.links,(∃ x∈st.snaps,x.2.id=l.1.1)→l∈st'.links
 file:∀ l∈st'.links,bq_ st' l=bq_ st l
theorem hI_.refl (h:Sto st):hI_ st st:=⟨h,rfl,fun _ h=>h,fun _ h _=>h,fun _ _=>rfl⟩
theorem xC_ (g:hI_ st st') (hi:i < st'.links.length) (G:∀ x∈st'.snaps,x.2.id≠st'.links[i].1.1):hI_ st (kn_ st' i):=by
 have ⟨y,J,I⟩:=gQ_ g.sto hi;have F:(kn_ st' i).snaps=st'.snaps:=by grind
 have A:(kn_ st' i).links=st'.links.eraseIdx i:=by grind
 refine⟨n9_ g.sto hi,by rw[F,g.snaps],fun l h=> ?_,fun l h r=> ?_,fun l h=> ?_⟩
 ·rw[A] at h; exact g.sub l (List.mem_of_mem_eraseIdx h)
 ·have D:=g.all l h r;rw[A];have:=(jS_ hi).mem_iff (a:=l);rcases List.mem_cons.1 (this.2 D) with q | q
  ·have ⟨x,r,e⟩:=r;exact absurd (by grind) (G x (by rw[g.snaps]; exact r))
  ·exact q
 ·rw[wp_ g.sto hi h];rw[A] at h;exact g.file l (List.mem_of_mem_eraseIdx h)
theorem kg_:∀ (f:Nat) {st r:StD},hI_ st r→hI_ st (kQ_ f r)∧(r.links.length≤f→bu_ (kQ_ f r)=none)
 | 0,st,r,g=>⟨g,fun h=>by
  unfold kQ_ bu_;have:r.links=[]:=List.length_eq_zero_iff.1 (by omega);rw[this]; rfl⟩
 | f+1,st,r,g=>by
  unfold kQ_;cases e:bu_ r with
  | none=>exact⟨g,fun _=>e⟩
  | some i=>
   have ⟨A,D⟩:=qR_ e;have ⟨I,J⟩:=kg_ f (xC_ g A D);have ⟨y,G,F⟩:=gQ_ g.sto A;grind
theorem BR_ (h:Sto st):hI_ st (e0_ st)∧(60 < dM_ st→bu_ (e0_ st)=none):=by
 unfold e0_;cases D:decide (60 < dM_ st) with
 | false=>exact⟨hI_.refl h,fun q=>by grind⟩
 | true=>
  have ⟨r,A⟩:=kg_ st.links.length (hI_.refl h);exact⟨r,fun _=>A (kO _)⟩
end Go.Am
section
set_option maxRecDepth 100000
namespace Go.Am
open List
theorem u6_ {α:Type} {f:α→List GV} (r:∀ x,(f x).length=m) (A:j < m) {x':α}:∀ (l:List α) (i:Nat) (hi:i < l.length),(f l[i]).set j v=f x'→(l.flatMap f).set (i*m+j) v=(l.set i x').flatMap f
 | [],i,hi,_=>by simp
 | x::l,0,hi,h=>by
  grind
 | x::l,i+1,hi,h=>by
  rw[flatMap_cons,set_append_right _ _ (by grind),set_cons_succ,flatMap_cons,show (i+1)*m+j - (f x).length=i*m+j by rw[r,Nat.succ_mul]; omega,u6_ r A l i (by grind) h]
theorem v6_ [DecidableEq α] (r:(ps.map (·.1)).Nodup) {k:α} {v v0:β} (G:m < ps.length) (h:ps[m]=(k,v0)):gi_ ps k v=ps.set m (k,v):=by
 unfold gi_;have A:=fP_ r (x:=(k,v0)) (by grind);rw[A];dsimp;apply ext_getElem (by simp);intro j D I;rw[getElem_map,getElem_set];have F:j < ps.length:=by grind
 by_cases e:m=j
 ·grind
 ·rw[if_neg e,if_neg];intro q;apply e;exact (getElem_inj (h₀:=by grind) (h₁:=by simpa) r).1 (by grind)
section
variable {B H:Hp} {Q:Post} {sp n1 n2 n3:Nat} {a1 a2 a3:Pl} {st:StD}
theorem cR_.setL (h:cR_ B H sp a1 n1 a2 n2 a3 n3 st) {G:Hp} (p:H<+:G) (o:Own G H.length zm_ a' (n'*4) (ls.flatMap A4_)) (V:n'=ls.length)
 (N:∀ D,D.length=G.length→B<+:D→cR_ B D sp a1 n1 a' n' a3 n3 { st with links:=ls }→K D):wr G sp (0+1) (.sl a' n' 4) K:=by
 have r:=h.mono p;obtain⟨t,O⟩:=r.row;have U:=h.spl;refine cr_ O (by simp) ?_;have low:∀ l o,a'=some (l,o)→H.length≤l:=fun l W e=>by
  rcases o with⟨q,_⟩ | ⟨Y,e',Z,_⟩
  ·grind
  ·grind
 have A:a'≠some (sp,0):=fun e=>by grind
 have F:=ej_ r.pre r.base (.row true t ([.sl a1 n1 5,.sl a2 n2 4,.sl a3 n3 3].set (0+1) (.sl a' n' 4)));refine N _ (by simp) F ⟨⟨t,by grind⟩,F,r.base,r.snaps.set h.s1 _,?_,r.inos.set h.s3 _,h.l1,V,h.l3,?_,h.d13,?_,h.s1,A,h.s3⟩
 ·exact Own.set (o.base h.pre.length_le) A _
 ·intro l I J;have:=h.snaps.lt' I;grind
 ·intro l I J;have:=h.inos.lt' J;grind
theorem cR_.setI (h:cR_ B H sp a1 n1 a2 n2 a3 n3 st) {G:Hp} (p:H<+:G) {A:Pl} {F:Nat} {ls:List (Int × InoR)} (o:Own G H.length F0_ A (F*3) (ls.flatMap inoC)) (Z:F=ls.length)
 (V:∀ I,I.length=G.length→B<+:I→cR_ B I sp a1 n1 a2 n2 A F { st with inos:=ls }→K I):wr G sp (0+2) (.sl A F 3) K:=by
 have r:=h.mono p;have ⟨t,O⟩:=r.row;have Y:=h.spl;refine cr_ O (by simp) ?_;have U:=(kC.1 O).1;have low:∀ l o,A=some (l,o)→H.length≤l:=fun l o' e=>by
  rcases o with⟨q,_⟩ | ⟨l',e',hb,_⟩
  ·grind
  ·grind
 have D:A≠some (sp,0):=fun e=>by grind
 have N:=ej_ r.pre r.base (.row true t ([.sl a1 n1 5,.sl a2 n2 4,.sl a3 n3 3].set (0+2) (.sl A F 3)));refine V _ (by simp) N ⟨⟨t,by grind⟩,N,r.base,r.snaps.set h.s1 _,r.links.set h.s2 _,?_,h.l1,h.l2,Z,h.d12,?_,?_,h.s1,h.s2,D⟩
 ·exact Own.set (o.base h.pre.length_le) D _
 ·intro l J W;have:=h.snaps.lt' J;grind
 ·intro l J W;have:=h.links.lt' J;grind
theorem cR_.updI (h:cR_ B H sp a1 n1 a2 n2 (some (r,0)) n3 st) (O:m < st.inos.length) (v:Int)
 (V:∀ F,F.length=H.length→cR_ B F sp a1 n1 a2 n2 (some (r,0)) n3 { st with inos:=st.inos.set m (st.inos[m].1,⟨v,st.inos[m].2.content⟩) }→K F):wr H r (m*3+1) (.int .i64 v) K:=by
 have ⟨t,Y⟩:=h.row;have N:=h.l3;rcases h.inos with⟨q,_⟩ | ⟨l,e,I,A,W⟩
 ·cases q
 ·cases e;refine cr_ A (by omega) ?_;have U:r≠sp:=fun e=>by have:=h.s3; exact this (by rw[e])
  have J:(st.inos.flatMap inoC).set (m*3+1) (.int .i64 v)=(st.inos.set m (st.inos[m].1,⟨v,st.inos[m].2.content⟩)).flatMap inoC:=u6_ (m:=3) (fun _=>rfl) (by omega) st.inos m O rfl;have D:=(kC.1 A).1;rw[J];refine V _ (by simp) ⟨⟨t,by grind⟩,ej_ h.pre I _,h.base,h.snaps.set (fun e=>h.d13 r e rfl) _,h.links.set (fun e=>h.d23 r e rfl) _,.inr ⟨r,rfl,I,by rw[kH D],by rw[←J]; simp [W]⟩,h.l1,h.l2,by simpa using h.l3,h.d12,h.d13,h.d23,h.s1,h.s2,h.s3⟩
theorem pY_ {α:Type} {l:List α} (r:j < l.length):(l.take (j+1)).eraseIdx i=if j=i then (l.take j).eraseIdx i else (l.take j).eraseIdx i++[l[j]]:=by
 rw[take_add_one,kG r,Option.toList_some,eraseIdx_append];have D:(l.take j).length=j:=by grind
 rw[D];by_cases h:j=i
 ·subst h;grind
 ·rw[if_neg h];by_cases A:i < j
  ·grind
  ·rw[if_neg A,eraseIdx_of_length_le (k:=i) (by omega),show ([l[j]]:List α).eraseIdx (i - j)=[l[j]] from by rw[show i - j=(i - j - 1)+1 by omega]; rfl]
theorem mo_ (h:cR_ B H sp a1 n1 a2 n2 a3 n3 st) (hS:Sto st) (hn:st.links.length≤1000∧st.inos.length≤1000) {i:Nat} (hi:i < st.links.length)
 (hQ:∀ H' a2' n2' a3' n3',cR_ B H' sp a1 n1 a2' n2' a3' n3' (kn_ st i)→Q (.tup []) H'):aG_ [.g (.ptr (some (sp,0))),.g (.int .i64 ((i:Nat):Int))] H Q:=by
 obtain⟨g1,g2,g3⟩:=h.rd;refine⟨st.links.length+st.inos.length+10,?_⟩;rw[oF_];have etn:∀ k:Nat,tN (k:Int)=k:=fun _=>rfl;have hl2:=h.l2;simp only[af_];rw[ad_ g2,ah_];refine ab_ rfl (ab_ (by simp; omega) ?_);obtain⟨y,hy,eq⟩:=gQ_ hS hi;obtain⟨y',hy',hm',b1,b2,hc⟩:=hS.ino (kE hi);rw[hy] at hy';cases hy';obtain⟨m,hm,em,ey⟩:=sn_ hy;obtain⟨l2,e2,_,_,_,_,r5⟩:=h.linkG i hi;subst e2;simp only[af_,etn,kN,kQ];rw[ad_ r5,ai_];refine fo_ h hn.2 ?_;simp only[aN_,ai_];rw[em];have hls:∀ (ls:List (LKey × LVal)),ls.length≤st.links.length→ls.length*4≤4000:=fun ls h=>by omega
 have back:∀ (F:Nat) (G:Hp) (a2':Pl) (n2':Nat),st.inos.length+2≤F→cR_ B G sp a1 n1 a2' n2' a3 n3 ⟨st.snaps,st.links.eraseIdx i,gi_ st.inos st.links[i].2.1 ⟨y.links - 1,y.content⟩⟩→aG_.l11 F (some (sp,0)) none 0 0 G Q:=by
  intro F G a2' n2' hF hR;generalize hp:gi_ st.inos st.links[i].2.1 ⟨y.links - 1,y.content⟩=P at hR;have hPl:P.length=st.inos.length:=by rw[←hp,v6_ hS.nd.inos hm ey]; simp
  have hl3:n3=P.length:=hR.l3;have go:∀ (f j F:Nat) (G':Hp) (a':Pl) (n':Nat),f=P.length - j→j≤P.length→f+1≤F→G<+:G'→Own G' G.length F0_ a' (n'*3) (((P.take j).filter fun x=>decide (0 < x.2.links)).flatMap inoC)→n'=((P.take j).filter fun x=>decide (0 < x.2.links)).length→
   aG_.l11 F (some (sp,0)) a' n' ((j:Nat):Int) G' Q:=by
   intro f;induction f with
   | zero=>
    intro j F G' a' n' hf hj hF hG' ho hn';obtain⟨F,rfl⟩:∃ G,F=G+1:=⟨F - 1,by omega⟩;obtain⟨g1,g2,g3⟩:=(hR.mono hG').rd;rw[aG_.l11_eq];simp only[af_];rw[ad_ g3,ah_];refine aa_ (fun e=>by simp at e; omega) (fun e=> ?_);rw[take_of_length_le (by omega)] at ho hn';refine hR.setI hG' ho hn' fun G'' _ _ hR'=>hQ G'' a2' n2' a' n' ?_;rw[eq];unfold mg_;rw[hp]; exact hR'
   | succ f ih=>
    intro j F G' a' n' hf hj hF hG' ho hn';have hjl:j < P.length:=by omega
    obtain⟨F,rfl⟩:∃ G,F=G+1:=⟨F - 1,by omega⟩;have hR':=hR.mono hG';obtain⟨g1,g2,g3⟩:=hR'.rd;rw[aG_.l11_eq];simp only[af_];rw[ad_ g3,ah_];refine aa_ (fun e=> ?_) (fun e=>by simp at e; omega);rw[ad_ g3,ah_];refine ab_ rfl (ab_ (by simp; omega) ?_);obtain⟨l3,e3,q1,q2,q3⟩:=hR'.inoG j hjl;subst e3;simp only[af_,etn,kN,kQ];rw[ad_ q2,ai_];have w1:ac_ .i64 (((j:Nat):Int)+1)=((j+1:Nat):Int):=an_ (by omega);have ht:(P.take (j+1)).filter (fun x=>decide (0 < x.2.links))=(P.take j).filter (fun x=>decide (0 < x.2.links))++(if 0 < P[j].2.links then [P[j]] else []):=by
     rw[take_add_one,kG hjl,filter_append];congr 1;by_cases z:0 < P[j].2.links<;>simp [z]
    have hnl:((P.take j).filter fun x=>decide (0 < x.2.links)).length≤1000:=Nat.le_trans (length_filter_le _ _) (by rw[length_take]; omega);refine aa_ (fun e=> ?_) (fun e=> ?_)
    ·have e':0 < P[j].2.links:=by simpa using e
     rw[if_pos e'] at ht;rw[ad_ g3,ah_];refine ab_ rfl (ab_ (by simp; omega) ?_);simp only[af_,etn,kN,kQ];rw[ad_ q1,ai_,ad_ q2,ai_,ad_ q3,ax_];refine ab_ rfl ?_;refine kb_ (H0:=G) (by omega) hG' ho (m:=1) rfl (by unfold Lim; omega) fun x' G'' o' ex fr=> ?_;rw[w1];refine ih (j+1) F G'' x' _ (by omega) hjl (by omega) ex.pre ?_ ?_
     ·rw[ht,flatMap_append,flatMap_singleton];exact o'
     ·rw[ht,kI]; simp; omega
    ·have e': ¬ 0 < P[j].2.links:=by simpa using e
     rw[if_neg e',append_nil] at ht;rw[w1];exact ih (j+1) F G' a' n' (by omega) hjl (by omega) hG' (by rw[ht]; exact ho) (by rw[ht]; exact hn')
  exact go _ 0 F G none 0 rfl (kP _) (by omega) (prefix_refl _) (.inl ⟨rfl,rfl,rfl⟩) rfl
 have go:∀ (f j F:Nat) (G:Hp) (a':Pl) (n':Nat),f=st.links.length - j→j≤st.links.length→f+(st.inos.length+2)+1≤F→H<+:G→Own G H.length zm_ a' (n'*4) (((st.links.take j).eraseIdx i).flatMap A4_)→n'=((st.links.take j).eraseIdx i).length→
  aG_.l3 F (some (sp,0)) ((i:Nat):Int) ((m:Nat):Int) a' n' ((j:Nat):Int) G Q:=by
  intro f;induction f with
  | zero=>
   intro j F G a' n' hf hj hF hG ho hn';obtain⟨F,rfl⟩:∃ G,F=G+1:=⟨F - 1,by omega⟩;obtain⟨g1,g2,g3⟩:=(h.mono hG).rd;rw[aG_.l3_eq];simp only[af_];rw[ad_ g2,ah_];refine aa_ (fun e=>by simp at e; omega) (fun e=> ?_);rw[take_of_length_le (by omega)] at ho hn';refine h.setL hG ho hn' fun G1 _ _ hR=> ?_;obtain⟨g1',g2',g3'⟩:=hR.rd;rw[ad_ g3',ah_];have hl3:=h.l3;refine ab_ rfl (ab_ (by simp; omega) ?_);obtain⟨l3,e3,q1,q2,q3⟩:=hR.inoG m hm;subst e3;simp only[af_,etn,kN,kQ];rw[ad_ q2,ai_];refine ab_ rfl (ab_ (by simp; omega) ?_);have hv:ac_ .i64 (st.inos[m].2.links - 1)=y.links - 1:=by rw[ey]; exact cy_ (by dsimp only; omega) (by dsimp only; omega)
   rw[hv];refine hR.updI hm _ fun G2 hG2 hR2=> ?_;refine back F G2 a' n' (by omega) ?_;rw[v6_ hS.nd.inos hm ey];have:(st.inos[m].1,(⟨y.links - 1,st.inos[m].2.content⟩:InoR))=(st.links[i].2.1,⟨y.links - 1,y.content⟩):=by rw[ey]
   rw[this] at hR2;exact hR2
  | succ f ih=>
   intro j F G a' n' hf hj hF hG ho hn';have hjl:j < st.links.length:=by omega
   obtain⟨F,rfl⟩:∃ G,F=G+1:=⟨F - 1,by omega⟩;have hR:=h.mono hG;obtain⟨g1,g2,g3⟩:=hR.rd;rw[aG_.l3_eq];simp only[af_];rw[ad_ g2,ah_];refine aa_ (fun e=> ?_) (fun e=>by simp at e; omega);have w1:ac_ .i64 (((j:Nat):Int)+1)=((j+1:Nat):Int):=an_ (by omega);have ht:=pY_ (i:=i) hjl;have hnl:((st.links.take j).eraseIdx i).length≤1000:=Nat.le_trans (length_eraseIdx_le _ _) (by rw[length_take]; omega);refine aa_ (fun e=> ?_) (fun e=> ?_)
   ·have e': ¬ j=i:=by simp at e; omega
    rw[if_neg e'] at ht;rw[ad_ g2,ah_];refine ab_ rfl (ab_ (by simp; omega) ?_);obtain⟨l2',e2',q1,q2,q3,q4,_⟩:=hR.linkG j hjl;cases e2';simp only[af_,etn,kN,kQ];rw[ad_ q1,ai_,ad_ q2,ax_,ad_ q3,ai_,ad_ q4,ak_];refine ab_ rfl ?_;refine kb_ (H0:=H) (by omega) hG ho (m:=1) rfl (by unfold Lim; omega) fun x' G'' o' ex fr=> ?_;rw[w1];refine ih (j+1) F G'' x' _ (by omega) hjl (by omega) ex.pre ?_ ?_
    ·rw[ht,flatMap_append,flatMap_singleton];exact o'
    ·rw[ht,kI]; simp; omega
   ·have e':j=i:=by simp at e; omega
    rw[if_pos e'] at ht;rw[w1];exact ih (j+1) F G a' n' (by omega) hjl (by omega) hG (by rw[ht]; exact ho) (by rw[ht]; exact hn')
 exact go _ 0 _ H none 0 rfl (kP _) (by omega) (prefix_refl _) (.inl ⟨rfl,rfl,rfl⟩) rfl
theorem lf_:∀ (f:Nat) {H:Hp} {J:Pl} {n2:Nat} {I:Pl} {F:Nat} {st:StD},cR_ B H sp a1 n1 J n2 I F st→Sto st→st.snaps.length≤1000→st.links.length≤1000→st.inos.length≤1000→st.links.length≤f→
 (∀ H' N A O D,cR_ B H' sp a1 n1 N A O D (kQ_ f st)→Q (.tup []) H')→bv_.l0 (f+1) (some (sp,0)) H Q:=by
 intro f;induction f with
 | zero=>
  intro H J n2 I F st h V U G Y hf r;rw[bv_.l0_eq];refine f5_ h ⟨U,G⟩ ?_;simp [aN_];have:hx_ st= -1:=by
   unfold hx_;grind
  rw[this];exact r H J n2 I F h
 | succ f Z=>
  intro H J n2 I F st h V U G Y hf r;rw[bv_.l0_eq];refine f5_ h ⟨U,G⟩ ?_;simp [aN_];unfold kQ_ at r;cases e:bu_ st with
  | none=>
   rw[e] at r;have:hx_ st= -1:=by unfold hx_; unfold bu_ at e; rw[e]
   rw[this];exact r H J n2 I F h
  | some i=>
   rw[e] at r;have ⟨W,_⟩:=qR_ e;have:hx_ st=(i):=by unfold hx_; unfold bu_ at e; rw[e]
   rw[this];refine f5_ h ⟨U,G⟩ ?_;simp [aN_];rw[this];refine mo_ h V ⟨G,Y⟩ W fun H' N A O D h'=> ?_;have ⟨y,hy,eq⟩:=gQ_ V W;refine Z h' (n9_ V W) (by grind) ?_ ?_ ?_ r
   ·grind
   ·rw[eq];refine Nat.le_trans (length_filter_le _ _) ?_;have:(gi_ st.inos st.links[i].2.1 ⟨y.links - 1,y.content⟩).length=st.inos.length:=by unfold gi_; rw[hy]; simp
    omega
   ·grind
theorem gT_ (h:cR_ B H sp a1 n1 a2 n2 a3 n3 st) (J:Sto st) (k:st.snaps.length≤1000∧st.links.length≤1000∧st.inos.length≤1000) (r:dM_ (e0_ st)≤60)
 (A:∀ H' x',B<+:H'→TrK H' x' 48 (cc_ (e0_ st))→Q (.agg [.sl x' 48 5]) H'):bU_ [.g (.ptr (some (sp,0)))] H Q:=by
 refine⟨1,?_⟩;rw[oy_];refine tW_ h k ?_;simp [aN_];unfold e0_ at r A;refine aa_ (fun e=> ?_) (fun e=> ?_)
 ·have I:60 < dM_ st:=by unfold dM_; simp at e; omega
  rw[decide_eq_true I] at r A;refine⟨st.links.length+2,lf_ st.links.length h J k.1 k.2.1 k.2.2 (kO _) fun H' V O Y U N=> ?_⟩;have W:=(kg_ st.links.length (hI_.refl J)).1;refine iH_ N W.sto.ok r fun G x' D F=> ?_;simp [dE_];exact A G x' (N.pre.trans D) F
 ·have I: ¬ 60 < dM_ st:=by unfold dM_; simp at e; omega
  rw[decide_eq_false I] at r A;refine iH_ h J.ok r fun G x' D F=> ?_;simp [dE_];exact A G x' (h.pre.trans D) F
end
end Go.Am
end
namespace Go.Am
open List
structure RgZ {α β:Type} (ek:α→RV) (ev:β→RV) (H:Hp) (it l:Nat) (ps zs:List (α × β)):Prop where
 ex:∃ js,e3_ ek ev H it l ps js∧zs=js.filterMap fun j=>ps[j]?
section
variable {α β:Type} {ek:α→RV} {ev:β→RV} {H H':Hp} {it l:Nat} {ps zs:List (α × β)}
theorem RgZ.keep (h:RgZ ek ev H it l ps zs) (F:H'[l]? =H[l]?) (D:H'[it]? =H[it]?):RgZ ek ev H' it l ps zs:=by
 have ⟨A,r,e⟩:=h.ex;exact⟨A,r.keep F D,e⟩
theorem Dv_:∀ n,n≤ps.length→(List.range n).filterMap (fun j=>ps[j]?)=ps.take n:=by
 intro n;induction n with
 | zero=>simp
 | succ n r=>
  intro h;rw[range_succ,filterMap_append,r (by omega),take_add_one];grind
theorem En_ (h:dO_ ek ev H l ps) (A:∀ o,RgZ ek ev (H++[o]) H.length l ps []→K (H++[o])):rng H (some l) K:=
 vM_ h fun o r=>A o ⟨[],r,rfl⟩
theorem Fb_ (h:RgZ ek ev H it l ps zs) (A:it≠l) (V:(ps.map (·.1)).Nodup)
 (W:∀ p∈ps,p.1∉zs.map (·.1)→(∀ z∈zs,z∈ps)→zs.length < ps.length→∀ H',H'.length=H.length→(∀ G,G≠it→H'[G]? =H[G]?)→RgZ ek ev H' it l ps (zs++[p])→(∀ K:RV→RV→Prop,K (ek p.1) (ev p.2)→BN_ H' it 0 K)→K1 (ek p.1) (ev p.2) H')
 (U:zs.Perm ps→K2 H):nxt H it 0 K1 K2:=by
 have ⟨js,r,e⟩:=h.ex;refine u2_ r A (fun j J hjs Z e1 e2 I=> ?_) fun F=>U ?_
 ·refine W ps[j] (kE J) (fun q=> ?_) (fun z D=> ?_) ?_ Z e1 e2 ⟨_,I,by rw[filterMap_append,e]; simp [kG J]⟩ fun K Y=>qw_ I J Y
  ·have ⟨z,D,q⟩:=mem_map.1 q;rw[e] at D;have ⟨i,hi,N⟩:=mem_filterMap.1 D;obtain⟨O,rfl⟩:=kC.1 N;have:i=j:=by
    have:=nodup_iff_pairwise_ne.1 V;refine Classical.byContradiction fun A=> ?_;have F:=pairwise_iff_getElem.1 this;rcases Nat.lt_or_gt_of_ne A with g | g
    ·exact F i j (by simpa) (by simpa) g (by simpa)
    ·exact F j i (by simpa) (by simpa) g (by simpa using q.symm)
   grind
  ·rw[e] at D;have ⟨i,hi,N⟩:=mem_filterMap.1 D;exact mem_of_getElem? N
  ·have:=oe_ I;grind
 ·rw[e];have:=F.filterMap fun j=>ps[j]?;rwa [Dv_ _ (kO _),take_length] at this
end
def ps_ {α β:Type} [DecidableEq α] (ps:List (α × β)) (k:α):List (α × β):=ps.filter fun p=> !decide (p.1=k)
section
variable {α β:Type} [DecidableEq α] {ek:α→RV} {ev:β→RV} {ag:Bool} {lv:List LK} {H:Hp} {l:Nat} {ps:List (α × β)}
theorem Cs_ {γ δ:Type} (f:γ→δ) (l:List γ) (i:Nat):(l.eraseIdx i).map f=(l.map f).eraseIdx i:=by
 rw[eraseIdx_eq_take_drop_succ,eraseIdx_eq_take_drop_succ,kL,map_take,map_drop]
theorem qA_ (D:(ps.map (·.1)).Nodup) (h:ps[j]? =some (k,v)):ps_ ps k=ps.eraseIdx j:=by
 have ⟨r,e⟩:=kC.1 h;unfold ps_;induction ps generalizing j with
 | nil=>cases r
 | cons p ps A=>
  cases j with
  | zero=>
   subst e;rw[filter_cons];simp only[decide_true,Bool.not_true,Bool.false_eq_true,if_false,eraseIdx_cons_zero];rw[filter_eq_self];grind
  | succ j=>
   grind
theorem CR_ (ok:vP_ ag lv ek) (h:dO_ ek ev H l ps) (k:α) (hK:∀ H',H'.length=H.length→(∀ l',l'≠l→H'[l']? =H[l']?)→dO_ ek ev H' l (ps_ ps k)→K H'):BL_ H (some l) ag lv (ek k) K:=by
 have ⟨U,c,I,A,V,Y⟩:=h.ex;have hlt:=(kC.1 I).1;unfold BL_;simp [I];have J:((ps_ ps k).map (·.1)).Nodup:=kf_ h.nodup _;rcases yc_ ok k 0 A with⟨O,D,G⟩ | ⟨j,W,O,D,G⟩
 ·rw[D];have:ps_ ps k=ps:=filter_eq_self.2 fun p Z=>by grind
  grind
 ·rw[D];simp;refine hK _ (by simp) (fun l' hl=>by grind) ⟨⟨U.eraseIdx j,c,by rw[kH hlt],?_,?_,?_⟩,J⟩
  ·rw[qA_ h.nodup G,Cs_,Cs_,A]
  ·exact fun e A=>V e (mem_of_mem_eraseIdx A)
  ·grind
end
end Go.Am
namespace Go.Am
open List
theorem IS_ {b t z r:Nat} (J:1≤z) (O:b≤H.length) (h:Own H b t a (n*z) cs) (G:ds.length=m*z) (I:(n+m)*r≤Lim)
 (F:∀ A H',Own H' b t A ((n+m)*z) (cs++ds)→H.length≤H'.length→(∀ l,l < b→H'[l]? =H[l]?)→K A (n+m) H'):ap H t z r a n ds m K:=by
 have D:(H.take b).length=b:=by grind
 refine kb_ J (take_prefix b H) (by rw[D]; exact h) G I fun A H' o x _=>F A H' (by grind) x.len fun l N=>x.row l (by omega) fun q=> ?_;have:=h.above q;omega
def zJ_:Nat:=104
def nmC (k:LKey):List GV:=[.int .i64 k.1,.str k.2]
def jY_ (st:StD) (i:Int):Bool:=st.snaps.any fun x=>decide (x.2.id=i)
def El_ (st:StD):List (LKey × LVal):=st.links.filter fun l=> !jY_ st l.1.1
section
variable {H:Hp} {Q:Post} {sp ms ml mi:Nat} {c0 c4:GV} {st:StD}
theorem jt_ (h:gL_ H sp c0 ms ml mi c4 st) (hn:st.snaps.length≤1000∧st.links.length≤1000)
 (hQ:∀ H' a (ls:List (LKey × LVal)),H<+:H'→ls.Perm (El_ st)→Own H' H.length zJ_ a (ls.length*2) (ls.flatMap fun l=>nmC l.1)→Q (.g (.sl a ls.length 2)) H'):
 aC_ [.g (.ptr (some (sp,0)))] H Q:=by
 refine⟨st.snaps.length+st.links.length+3,?_⟩;rw[lT_];simp only[af_,kN,f0_,fb_];have h0:=h.keep (H':=H++[.map [] 0]) fun l hl=>by rw[kM hl]
 have hms:=h.snaps.lt;have hml:=h.links.lt;obtain⟨_,g1,_⟩:=h0.rd;rw[ad_ g1,dW_];have ids_ok:∀ {ids:List (Int × Bool)} {zs:List (ByteArray × SnapR)},(∀ n,n∈ids.map (·.1)↔∃ x∈zs,x.2.id=n)→zs.Perm st.snaps→∀ n,n∈ids.map (·.1)↔jY_ st n=true:=by
  intro ids zs hm hp n;rw[hm n]; unfold jY_;simp only[any_eq_true,decide_eq_true_eq];exact⟨fun⟨x,hx,e⟩=>⟨x,hp.mem_iff.1 hx,e⟩,fun⟨x,hx,e⟩=>⟨x,hp.mem_iff.2 hx,e⟩⟩
 have loop8:∀ (f:Nat) (zs:List (LKey × LVal)) (G:Hp) (a:Pl) (ls:List (LKey × LVal)) (ids:List (Int × Bool)),st.links.length - zs.length < f→H.length+3≤G.length→(∀ l,l < H.length→G[l]? =H[l]?)→RgZ ekL evL G (H.length+2) ml st.links zs→dO_ ekI evB G H.length ids→
  (∀ n,n∈ids.map (·.1)↔jY_ st n=true)→(∀ p∈ids,p.2=true)→Own G (H.length+3) zJ_ a (ls.length*2) (ls.flatMap fun l=>nmC l.1)→ls=zs.filter (fun l=> !jY_ st l.1.1)→zs.length≤1000→
  aC_.l8 f (some H.length) a ls.length (H.length+2) 0 G Q:=by
  intro f;induction f with
  | zero=>intro zs G a ls ids h; omega
  | succ f ih=>
   intro zs G a ls ids hf hl hk R M hm hv o e hz;rw[aC_.l8_eq];refine Fb_ R (by omega) h.links.nodup (fun p hp hpz hzs hlt G1 l1 k1 R1 ent=> ?_) fun hperm=> ?_
   ·refine ent _ ?_;simp only[ekL,evL,bB_,ax_,ak_,dS_,aV_,ai_,bi_];have M1:=M.keep (k1 _ (by omega));have hll:(zs++[p]).length=zs.length+1:=by simp
    have next:∀ (a':Pl) (ls':List (LKey × LVal)) (G2:Hp),G1.length≤G2.length→(∀ l,l < H.length+3→G2[l]? =G1[l]?)→Own G2 (H.length+3) zJ_ a' (ls'.length*2) (ls'.flatMap fun l=>nmC l.1)→ls'=(zs++[p]).filter (fun l=> !jY_ st l.1.1)→
     aC_.l8 f (some H.length) a' ls'.length (H.length+2) 0 G2 Q:=fun a' ls' G2 l2 k2 o2 e2=>
     ih (zs++[p]) G2 a' ls' ids (by omega) (by omega) (fun l hl=>by rw[k2 l (by omega),k1 l (by omega),hk l hl]) (R1.keep (k2 _ (by omega)) (k2 _ (by omega))) (M1.keep (k2 _ (by omega))) hm hv o2 e2 (by omega)
    have o1:Own G1 (H.length+3) zJ_ a (ls.length*2) (ls.flatMap fun l=>nmC l.1):=o.keep fun l q=>k1 l (by have:=o.above q; omega);have hlen:ls.length≤zs.length:=by rw[e]; exact length_filter_le _ _
    refine hl_ (ev:=evB) okI M1 p.1.1 (fun v hlk=> ?_) fun hlk=> ?_
    ·have hv':v=true:=hv _ (dr_ hlk);have hid:jY_ st p.1.1=true:=(hm _).1 ((ni_ _).2 ⟨v,hlk⟩);subst hv';simp only[evB,bB_,ak_];rw[aD_ (show (!true)=false from rfl)];refine next a ls G1 (kO _) (fun _ _=>rfl) o1 ?_;rw[filter_append,←e]; simp [hid]
    ·have hid:jY_ st p.1.1=false:=by
      cases q:jY_ st p.1.1 with
      | false=>rfl
      | true=>
       obtain⟨v,e⟩:=(ni_ _).1 ((hm _).2 q);rw[hlk] at e; cases e
     simp only[bB_,ak_];rw[az_ (show (!false)=true from rfl)];refine IS_ (m:=1) (by omega) (by omega) o1 (by simp) (by unfold Lim; omega) fun a' G2 o2 l2 k2=> ?_;have e1:ls.length+1=(ls++[p]).length:=by simp
     rw[e1] at o2 ⊢;refine next a' (ls++[p]) G2 l2 (fun l hl=>k2 l hl) (by rw[flatMap_append]; simpa [nmC,zJ_] using o2) ?_;rw[filter_append,←e]; simp [hid]
   ·refine hQ G a ls ?_ ?_ (o.base (by omega))
    ·exact pw_ (by omega) hk
    ·rw[e]; exact hperm.filter _
 refine En_ h0.snaps fun o R0=> ?_;have e0:(H++[Obj.map [] 0]).length=H.length+1:=by simp
 rw[e0] at R0 ⊢;have loop:∀ (f:Nat) (zs:List (ByteArray × SnapR)) (G:Hp) (ids:List (Int × Bool)),(st.snaps.length - zs.length)+st.links.length+2≤f→(∀ l,l < H.length→G[l]? =H[l]?)→G.length=H.length+2→RgZ ekS evS G (H.length+1) ms st.snaps zs→dO_ ekI evB G H.length ids→
  (∀ n,n∈ids.map (·.1)↔∃ x∈zs,x.2.id=n)→(∀ p∈ids,p.2=true)→
  aC_.l3 f (some (sp,0)) (some H.length) (H.length+1) 0 G Q:=by
  intro f;induction f with
  | zero=>intro zs G ids h; omega
  | succ f ih=>
   intro zs G ids hf hk hl R M hm hv;rw[aC_.l3_eq];refine Fb_ R (by omega) h.snaps.nodup (fun p hp hpz hzs hlt G1 l1 k1 R1 ent=> ?_) fun hperm=> ?_
   ·refine ent _ ?_;have hc:evS p.2= .a [.int .i64 p.2.id,.int .i64 p.2.kind,.str p.2.parent,.str p.2.label]:=rfl;rw[hc];simp only[ekS,bB_,ax_,dS_,aV_,ai_,bi_];refine kk_ (ev:=evB) okI (M.keep (k1 _ (by omega))) p.2.id true fun G2 l2 k2 M2=> ?_;refine ih (zs++[p]) G2 _ (by rw[kI,length_singleton]; omega) (fun l hl=>by rw[k2 l (by omega),k1 l (by omega),hk l hl]) (by omega) (R1.keep (k2 _ (by omega)) (k2 _ (by omega))) M2 (fun n=> ?_) fun q hq=> ?_
    ·rw[AJ_,hm n];constructor
     ·rintro (⟨x,hx,e⟩ | e)
      ·exact⟨x,by simp [hx],e⟩
      ·exact⟨p,by simp,e.symm⟩
     ·rintro⟨x,hx,e⟩;rcases kD.1 hx with z | z
      ·exact .inl ⟨x,z,e⟩
      ·have:x=p:=by simpa using z
       subst this; exact .inr e.symm
    ·unfold gi_ at hq;split at hq
     ·obtain⟨y,hy,e⟩:=mem_map.1 hq;split at e
      ·rw[←e]
      ·rw[←e]; exact hv y hy
     ·rcases kD.1 hq with z | z
      ·exact hv q z
      ·have:q=(p.2.id,true):=by simpa using z
       rw[this]
   ·have hG':=h.keep hk;obtain⟨_,_,g2,_⟩:=hG'.rd;simp only[af_,kN,fb_];rw[ad_ g2,dW_];refine En_ hG'.links fun o R8=> ?_;rw[hl] at R8 ⊢;exact loop8 f [] _ none [] ids (by simp; omega) (by simp; omega) (fun l hl'=>by rw[kM (by omega)]; exact hk l hl') R8 (M.keep (by rw[kM (by omega)])) (ids_ok hm hperm) hv (.inl ⟨rfl,rfl,rfl⟩) rfl (by simp)
 exact loop _ [] _ [] (by simp) (fun l hl=>by rw[kM (by simp; omega),kM hl]) (by simp) R0 ((lj_ H).keep (by rw[kM (by simp)])) (fun n=>by simp) (fun p hp=>by cases hp)
end
end Go.Am
namespace Go.Am
open List
theorem dk_ {α β:Type} {ps:List (α × β)} (h:(ps.map (·.1)).Nodup):ps.Nodup:=Pairwise.of_map (·.1) (fun _ _ h q=>h (by rw[q])) h
section
variable {H:Hp} {Q:Post} {sp ms ml mi:Nat} {c0 c4:GV} {st:StD}
theorem gL_.updL (h:gL_ H sp c0 ms ml mi c4 st) (k:∀ l,l≠ml→H'[l]? =H[l]?) (m:dO_ ekL evL H' ml ls):gL_ H' sp c0 ms ml mi c4 ⟨st.snaps,ls,st.inos⟩:=by
 have ⟨t,r⟩:=h.row;have ⟨_,A,_⟩:=h.spn;exact⟨⟨t,by grind⟩,h.snaps.keep (k _ h.d1),m,h.inos.keep (k _ h.d3.symm),h.d1,h.d2,h.d3⟩
theorem gL_.updI (h:gL_ H sp c0 ms ml mi c4 st) (k:∀ l,l≠mi→H'[l]? =H[l]?) (m:dO_ ekI evI H' mi ls):gL_ H' sp c0 ms ml mi c4 ⟨st.snaps,st.links,ls⟩:=by
 have ⟨t,r⟩:=h.row;have ⟨_,_,A⟩:=h.spn;exact⟨⟨t,by grind⟩,h.snaps.keep (k _ h.d2),h.links.keep (k _ h.d3),m,h.d1,h.d2,h.d3⟩
theorem E5_ (A:∀ x∈inos,1≤x.2.links) (h:look inos k=some y) (D:1≤y.links):
 mg_ inos k y=if y.links=1 then ps_ inos k else gi_ inos k ⟨y.links - 1,y.content⟩:=by
 have e:gi_ inos k ⟨y.links - 1,y.content⟩=inos.map fun p=>if p.1=k then (k,⟨y.links - 1,y.content⟩) else p:=by unfold gi_; rw[h]
 unfold mg_;split
 ·rw[e,filter_map];have:inos.filter ((fun x:Int × InoR=>decide (0 < x.2.links)) ∘ fun p=>if p.1=k then (k,⟨y.links - 1,y.content⟩) else p)=inos.filter fun p=> !decide (p.1=k):=filter_congr fun x r=>by
   grind
  rw[this];refine (map_congr_left fun x r=> ?_).trans (map_id _);grind
 ·refine filter_eq_self.2 fun x r=> ?_;grind
theorem q0_ (h:gL_ H sp c0 ms ml mi c4 st) (hS:Sto st) {i:Nat} (hi:i < st.links.length)
 (hQ:∀ H',Upd H H' (fun l=>l=ml∨l=mi)→gL_ H' sp c0 ms ml mi c4 (kn_ st i)→Q (.tup []) H'):
 c6_ [.g (.ptr (some (sp,0))),.agg [.int .i64 st.links[i].1.1,.str st.links[i].1.2]] H Q:=by
 refine⟨1,?_⟩;rw[mz_];have ⟨_,_,g2,_⟩:=h.rd;obtain⟨y,hy,hm,y1,y2,_⟩:=hS.ino (kE hi);have ⟨y',hy',ed⟩:=gQ_ hS hi;rw[hy] at hy'; cases hy';have hlk:=fP_ h.links.nodup (kE hi);have hdel:ps_ st.links st.links[i].1=st.links.eraseIdx i:=qA_ h.links.nodup (kG hi);simp;rw[ad_ g2,dW_];refine hl_ okL h.links st.links[i].1 (fun v hv=> ?_) fun hv=>by grind
 rw[hlk] at hv; cases hv;simp [evL,dS_,aV_,ai_,ak_,bi_];rw[ad_ g2,dW_];refine CR_ okL h.links st.links[i].1 fun H1 l1 k1 M1=> ?_;have h1:=h.updL k1 M1;obtain⟨_,_,_,g3,_⟩:=h1.rd;rw[ad_ g3,dW_];refine hl_ okI h1.inos st.links[i].2.1 (fun v hv=> ?_) fun hv=>by
  simp_all
 rw[hy] at hv; cases hv;have hc:evI y= .a [.int .i64 y.links,.str y.content]:=rfl;rw[hc];simp [dS_];have hwr:ac_ .i64 (y.links - 1)=y.links - 1:=cy_ (by omega) (by omega);rw[hwr];have hle:=E5_ (fun x hx=>by have:=(hS.ok.inos x hx).2; unfold ec_ at this; simp at this; omega) hy y1;rw[hdel] at h1;refine aa_ (fun e=> ?_) fun e=> ?_
 ·have e:y.links=1:=by simp at e; omega
  rw[if_pos e] at hle;rw[ad_ g3,dW_];refine CR_ okI h1.inos st.links[i].2.1 fun H2 l2 k2 M2=>hQ H2 ⟨by omega,fun l hl=> ?_⟩ ?_
  ·grind
  ·rw[ed,hle]; exact h1.updI k2 M2
 ·have e: ¬ y.links=1:=by simp at e; omega
  rw[if_neg e] at hle;rw[ad_ g3,dW_];refine kk_ okI h1.inos st.links[i].2.1 ⟨y.links - 1,y.content⟩ fun H2 l2 k2 M2=> ?_;refine hQ H2 ⟨by omega,fun l hl=> ?_⟩ ?_
  ·rw[k2 l (fun q=>hl (.inr q)),k1 l (fun q=>hl (.inl q))]
  ·rw[ed,hle]; exact h1.updI k2 M2
theorem BT_ (h:Sto st) (hi:i < st.links.length) (l:LKey × LVal):l∈(kn_ st i).links↔l∈st.links∧l≠st.links[i]:=by
 have ⟨y,_,e⟩:=gQ_ h hi;have p:=jS_ hi;have nd:=p.nodup_iff.2 (dk_ h.nd.links);grind
theorem sH_ (h:gL_ H sp c0 ms ml mi c4 st) (hS:Sto st) (hn:st.snaps.length≤1000∧st.links.length≤1000)
 (hQ:∀ H' st',(∀ l,l < H.length→l≠ml→l≠mi→H'[l]? =H[l]?)→H.length≤H'.length→gL_ H' sp c0 ms ml mi c4 st'→hI_ st st'→bu_ st'=none→Q (.tup []) H'):
 ba_ [.g (.ptr (some (sp,0)))] H Q:=by
 refine⟨st.links.length+2,?_⟩;rw[nA_];refine jt_ h hn fun H1 a ls p1 hp o=> ?_;simp only[aN_,ah_];have h1:=h.keep (H':=H1) fun l hl=>br_ p1 hl;have hml:=h.links.lt;have hmi:=h.inos.lt;have hll:ls.length≤st.links.length:=by rw[hp.length_eq]; exact length_filter_le _ _
 have hnd:ls.Nodup:=hp.nodup_iff.2 ((dk_ h.links.nodup).filter _);have hlen:H.length≤H1.length:=p1.length_le;have loop:∀ (f i:Nat) (G:Hp) (st':StD),ls.length - i < f→i≤ls.length→H1.length≤G.length→(∀ l,l < H1.length→l≠ml→l≠mi→G[l]? =H1[l]?)→gL_ G sp c0 ms ml mi c4 st'→hI_ st st'→(∀ l,l∈st'.links↔l∈st.links∧l∉ls.take i)→
  ba_.l1 f (some (sp,0)) a ls.length (nI ls.length) (i:Int) G Q:=by
  intro f;induction f with
  | zero=>intro i G st' h; omega
  | succ f ih=>
   intro i G st' hf hi hl hk hS' g hm;rw[ba_.l1_eq];refine aa_ (fun e=> ?_) fun e=> ?_
   ·have hi':i < ls.length:=by simpa using e
    obtain⟨lr,rfl,hr⟩:=wt_ o (by omega);have hlr:=o.above rfl;have hlr2:=o.ltAny rfl;have cg:∀ j,gt G lr j=gt H1 lr j:=fun j=>by unfold gt; rw[hk lr hlr2 (by omega) (by omega)]
    have c1:gt G lr (i*2)=some (.int .i64 ls[i].1.1):=by rw[cg,hr]; exact cZ_ (f:=fun l:LKey × LVal=>nmC l.1) (m:=2) (fun _=>rfl) ls i hi' 0 (by omega)
    have c2:gt G lr (i*2+1)=some (.str ls[i].1.2):=by rw[cg,hr]; exact cZ_ (f:=fun l:LKey × LVal=>nmC l.1) (m:=2) (fun _=>rfl) ls i hi' 1 (by omega)
    have etn:∀ k:Nat,tN (k:Int)=k:=fun _=>rfl;refine ab_ rfl (ab_ (by simp; omega) ?_);simp only[af_,kN,etn];rw[ad_ c1,ai_,ad_ c2,ax_];have hin:ls[i]∈st'.links:=(hm _).2 ⟨(mem_filter.1 (hp.mem_iff.1 (kE hi'))).1,fun q=>by
     obtain⟨j,hj,e⟩:=kK q;rw[length_take] at hj;rw[getElem_take] at e;exact pairwise_iff_getElem.1 hnd j i (by omega) hi' (by omega) e⟩
    obtain⟨m,hm',em⟩:=kK hin;have horph:∀ x∈st'.snaps,x.2.id≠st'.links[m].1.1:=fun x hx q=>by
     have:=(mem_filter.1 (hp.mem_iff.1 (kE hi'))).2;rw[em] at q;rw[g.snaps] at hx;have hh:jY_ st ls[i].1.1=true:=any_eq_true.2 ⟨x,hx,by simpa using q⟩;rw[hh] at this; cases this
    rw[←em];refine q0_ hS' g.sto hm' fun G2 u2 h2=> ?_;have e2:ac_ .i64 ((i:Int)+1)=((i+1:Nat):Int):=an_ (by omega);rw[e2];refine ih (i+1) G2 _ (by omega) (by omega) (by rw[u2.len]; exact hl) (fun l hl' n1 n2=>by rw[u2.row l (fun q=>by rcases q with q | q; exact n1 q; exact n2 q)]; exact hk l hl' n1 n2) h2 (xC_ g hm' horph) fun l=> ?_;rw[BT_ g.sto hm',hm l,em,take_add_one,kG hi'];simp only[Option.toList_some,kD,mem_singleton,not_or];exact⟨fun⟨⟨a,b⟩,c⟩=>⟨a,b,c⟩,fun⟨a,b,c⟩=>⟨⟨a,b⟩,c⟩⟩
   ·have hi':i=ls.length:=by simp at e; omega
    refine hQ G st' (fun l hl' n1 n2=>by rw[hk l (by omega) n1 n2]; exact br_ p1 hl') (by omega) hS' g ?_;unfold bu_;refine findIdx?_eq_none_iff.2 fun l hl'=> ?_;obtain⟨q1,q2⟩:=(hm l).1 hl';rw[hi',take_length] at q2;cases z:jY_ st l.1.1 with
    | true=>rw[g.snaps]; unfold jY_ at z; rw[z]; rfl
    | false=>exact absurd (hp.mem_iff.2 (mem_filter.2 ⟨q1,by rw[z]; rfl⟩)) q2
 exact loop _ 0 H1 st (by omega) (by omega) (kO _) (fun _ _ _ _=>rfl) h1 (hI_.refl hS) fun l=>by simp
end
end Go.Am
