import Derived.Test.YtdfongaafdnljaaGreatM1
import Derived.Test.YtdfongaafdnljaaGreatProg
import Derived.KernelRfl
import Derived.RangeFuncBox
import Derived.RangeFuncLeaves
import Derived.Shelf.Abstract
import Derived.WalkKit
import Derived.OwnWalkIn
import Derived.TacticsInMore
import Derived.LoopNIn
import Derived.LoopIn
import Derived.Maps.AppendAt
import Derived.Shelf.SortM.Plain
import Derived.Shelf.SortM.SortNone
import Derived.Lib.SlKeysI
import Derived.Shelf.SlIter.Nil
import Derived.Sort.Walk0
import Derived.Lib.Bytealg
import Derived.Shelf.Spec.SlicesInsertGrow
set_option linter.all false
set_option autoImplicit true
set_option relaxedAutoImplicit true
section
namespace Go.Am
open List
def fd:TI:=⟨false,[.fn],0,[],8,0,[],0⟩
def fe:TI:=⟨false,[.int .i64],0,[],8,0,[],0⟩
def ff:TI:=⟨false,[.int .u8],0,[],1,0,[],0⟩
def fg:TI:=⟨false,[.int .u64],0,[],8,0,[],0⟩
def fh:TI:=⟨true,[(.sl 5)],0,[(0,22)],24,0,[],0⟩
def fi:TI:=⟨true,[.int .i64,.str],1,[(0,3),(1,9)],24,0,[],0⟩
def fj:TI:=⟨true,[.str,.str,.bool],1,[(0,9),(1,9),(2,4)],40,0,[],0⟩
def fk:TI:=⟨false,[.str],0,[],16,3,[],0⟩
def fl:TI:=⟨false,[.iface],0,[],16,0,[],0⟩
def fm:TI:=⟨false,[.int .i32],0,[],4,0,[],0⟩
def fo:TI:=⟨true,[.int .i64,.int .i64,.bool,.int .u8],1,[(0,2),(1,3),(2,4),(3,6)],24,0,[],0⟩
def fp:TI:=⟨true,[.str,.int .u64],0,[(0,9),(1,12)],24,0,[],0⟩
def fq:TI:=⟨true,[.ptr],0,[(0,17)],8,0,[],0⟩
def ft:TI:=⟨true,[.str,.int .i64,.str,.str,(.sl 3)],0,[(0,9),(1,3),(2,9),(3,9),(4,43)],80,0,[],0⟩
def fu:TI:=⟨true,[(.sl 5),(.sl 4),(.sl 3)],0,[(0,51),(1,52),(2,53)],72,0,[],0⟩
def fv:TI:=⟨false,[(.sl 1)],3,[],24,1,[],0⟩
def fw:TI:=⟨true,[.bool,.bool,(.sl 1),(.sl 1),(.sl 1)],0,[(0,4),(1,4),(2,59),(3,59),(4,60)],80,0,[],0⟩
def fx:TI:=⟨true,[.str,.str],1,[(0,9),(1,9)],32,0,[],0⟩
def fy:TI:=⟨true,[.int .i64,.int .i64,.str,.str],1,[(0,3),(1,3),(2,9),(3,9)],48,0,[],0⟩
def fA:TI:=⟨true,[.str,.int .i64,.int .i64,.str,.str],0,[(0,9),(1,79)],64,0,[],0⟩
def fB:TI:=⟨true,[.int .i64,.str,.int .i64,.bool],1,[(0,3),(1,9),(2,3),(3,4)],40,0,[],0⟩
def fC:TI:=⟨true,[.int .i64,.int .i64,.str],0,[(0,3),(1,90)],32,0,[],0⟩
def fD:TI:=⟨true,[(.sl 5),.map,.map,.map,(.sl 5)],0,[(0,24),(1,96),(2,97),(3,98),(4,39)],72,0,[],0⟩
def fE:TI:=⟨true,[.int .i64,.bool],1,[(0,3),(1,4)],16,0,[],0⟩
def fG:TI:=⟨true,[(.sl 1),.int .i64,.int .i64,.bool],0,[(0,171),(1,3),(2,3),(3,4)],48,0,[],0⟩
def fH:TI:=⟨true,[(.sl 5),(.sl 1)],0,[(0,22),(1,193)],48,0,[],0⟩
def fI:TI:=⟨true,[.str,.int .i64],1,[(0,9),(1,3)],24,0,[],0⟩
def fJ:TI:=⟨true,[(.sl 5),(.sl 1)],0,[(0,22),(1,59)],48,0,[],0⟩
def fK:TI:=⟨true,[(.sl 5),(.sl 1),.int .i64,.int .i64],0,[(0,22),(1,171),(2,3),(3,3)],64,0,[],0⟩
def fM:TI:=⟨true,[.ptr,.ptr,.ptr,.str],0,[(0,17),(1,17),(2,17),(3,9)],40,0,[],0⟩
def fN:TI:=⟨true,[],0,[(0,304)],0,0,[],0⟩
def fO:TI:=⟨true,[.int .u64,.int .u64,.int .u32,.int .u8,.int .u8,.int .u8,.int .u8,.fn,.ptr,.int .i32,.int .i32],0,[(0,12),(1,12),(2,252),(3,307),(4,5),(5,5),(6,308),(7,309),(8,310),(9,311),(10,312)],48,0,[],0⟩
def tys:List TI:=[⟨false,[],0,[],0,4,[],0⟩,fd,fe,fe,⟨false,[.bool],0,[],1,0,[],0⟩,ff,ff,fo,fo,fk,fk,fk,fg,fp,fp,⟨false,[.ptr],303,[],8,2,[],0⟩,⟨false,[.ptr],306,[],8,2,[],0⟩,⟨false,[.ptr],314,[],8,2,[],0⟩,fq,fq,fl,fm,⟨false,[(.sl 5)],62,[],24,1,[],0⟩,fh,fh,fd,fe,⟨false,[],0,[(0,24),(0,26)],0,4,[],0⟩,fd,⟨false,[],0,[(0,24),(0,3)],0,4,[],0⟩,fd,fd,fd,fd,fd,⟨false,[(.sl 2)],74,[],24,1,[],0⟩,⟨false,[],0,[(0,35),(0,3)],0,4,[],0⟩,fd,fd,⟨false,[(.sl 5)],45,[],24,1,[],0⟩,⟨false,[],0,[(0,39),(0,3)],0,4,[],0⟩,fd,fd,⟨false,[(.sl 3)],122,[],24,1,[],0⟩,ft,ft,fd,fd,⟨false,[.ptr],55,[],8,2,[],0⟩,⟨false,[],0,[(0,48),(0,4)],0,4,[],0⟩,fd,⟨false,[(.sl 5)],81,[],24,1,[],0⟩,⟨false,[(.sl 4)],88,[],24,1,[],0⟩,⟨false,[(.sl 3)],92,[],24,1,[],0⟩,fu,fu,fd,fd,fd,⟨false,[(.sl 1)],9,[],24,1,[],0⟩,fv,fw,fw,fd,fd,fd,fd,⟨false,[.ptr],100,[],8,2,[],0⟩,⟨false,[],0,[(0,67),(0,4)],0,4,[],0⟩,fd,fd,fd,fd,fx,fx,fd,fd,fd,fy,fy,fA,fA,fd,fd,fd,fd,fd,fB,fB,fi,fi,fC,fC,fd,fd,fd,⟨false,[.map],79,[],8,5,[],9⟩,⟨false,[.map],154,[],8,5,[],104⟩,⟨false,[.map],90,[],8,5,[],3⟩,fD,fD,⟨false,[(.sl 2)],104,[],24,1,[],0⟩,fd,fi,fi,fd,⟨false,[],0,[(0,9),(0,3)],0,4,[],0⟩,fd,fd,fd,fd,⟨false,[(.sl 1)],5,[],24,1,[],0⟩,fd,fd,⟨false,[],0,[(0,35),(0,26)],0,4,[],0⟩,fd,fd,fd,⟨false,[.ptr],173,[],8,2,[],0⟩,⟨false,[],0,[(0,118),(0,4)],0,4,[],0⟩,fd,fj,fj,fd,fd,fd,fd,fd,⟨false,[],0,[(0,9),(0,4)],0,4,[],0⟩,fd,⟨false,[],0,[(0,79),(0,3)],0,4,[],0⟩,fd,⟨false,[],0,[(0,3),(0,9),(0,4)],0,4,[],0⟩,fd,⟨false,[],0,[(0,3),(0,4)],0,4,[],0⟩,fd,⟨false,[],0,[(0,90),(0,3)],0,4,[],0⟩,fd,fd,fd,⟨false,[],0,[(0,3),(0,3)],0,4,[],0⟩,fd,fd,⟨false,[.map],9,[],8,5,[],9⟩,fd,⟨false,[],0,[(0,24),(0,4),(0,26)],0,4,[],0⟩,fd,fd,fd,fd,fd,fd,⟨false,[.map],4,[],8,5,[],3⟩,fE,fE,fd,fd,fd,fd,fd,fd,⟨false,[],0,[(0,79),(0,26)],0,4,[],0⟩,fd,⟨false,[],0,[(0,90),(0,26)],0,4,[],0⟩,fd,⟨false,[.map],3,[],8,5,[],3⟩,fd,fd,fd,fd,fd,⟨false,[(.sl 1)],4,[],24,1,[],0⟩,fG,fG,fd,fd,fd,⟨false,[],0,[(0,9),(0,26)],0,4,[],0⟩,fd,fd,fd,fd,fd,⟨false,[],0,[(0,9),(0,4),(0,26)],0,4,[],0⟩,fd,⟨false,[.ptr],187,[],8,2,[],0⟩,fh,fh,fd,fd,fd,⟨false,[.ptr],24,[],8,2,[],0⟩,⟨false,[.ptr],195,[],8,2,[],0⟩,fv,fH,fH,fd,⟨false,[.ptr],193,[],8,2,[("Len",277,false),("Less",278,false),("Pop",280,true),("Push",281,true),("Swap",279,false)],0⟩,⟨false,[.ptr],202,[],8,2,[],0⟩,fd,fd,fI,fI,fd,fd,fJ,fJ,fd,fd,fd,fd,fd,fd,fd,fd,⟨false,[.ptr],62,[],8,2,[],0⟩,fd,fd,fd,fd,fd,fd,fg,fl,fl,fd,fd,fd,fd,fd,fd,fd,fd,fd,fd,fd,fd,⟨false,[],0,[(0,62),(0,26)],0,4,[],0⟩,fd,fd,fd,⟨false,[],0,[(0,62),(0,9),(0,62)],0,4,[],0⟩,fd,fd,fe,⟨false,[],0,[(0,3),(0,244)],0,4,[],0⟩,fd,fd,fd,fd,fd,fd,⟨false,[.int .u32],0,[],4,0,[],0⟩,fd,fg,⟨false,[.ptr],257,[],8,2,[],0⟩,fK,fK,fd,fj,fj,fd,fd,fd,fd,⟨false,[],0,[(0,62),(0,9),(0,62),(0,26)],0,4,[],0⟩,fd,fd,fd,fd,fg,fd,fd,fd,⟨false,[.ptr],3,[],8,2,[],0⟩,fd,fd,fd,fd,⟨false,[.ptr],270,[],8,2,[],0⟩,fd,fd,fd,fd,fd,fd,fd,fd,fd,fd,fd,fd,fd,fd,fd,fd,fd,fd,fd,fd,fd,fd,fM,fM,⟨true,[],16,[],0,6,[],0⟩,fN,fN,ff,ff,fd,⟨false,[.ptr],5,[],8,2,[],0⟩,fm,fm,fO,fO,⟨false,[],0,[],8,0,[],0⟩]
set_option maxRecDepth 100000 in
theorem lX_:B3_ Go.Proofs.Tryz.prog tys:=⟨Iz_ (by kernel_rfl),by kernel_rfl⟩
end Go.Am
end
section
namespace Go.Proofs
open List
open Go.RowKit Go.Shelf
attribute [local go_sem] Oper.semAt_some
def Uq.upto (zs:List Int) (k:Nat):List Int:=(List.range k).map fun j=>zs[j]?.getD 0
theorem Uq.upto_succ (zs:List Int) (k:Nat):Uq.upto zs (k+1)=Uq.upto zs k++[zs[k]?.getD 0]:=by simp [Uq.upto,range_succ]
theorem Uq.upto_length (zs:List Int) (k:Nat):(Uq.upto zs k).length=k:=by simp [Uq.upto]
theorem Uq.upto_all (zs:List Int):Uq.upto zs zs.length=zs:=by
 apply ext_getElem
 ·simp [Uq.upto]
 ·intro i h1 h2;simp [Uq.upto,h2]
set_option maxRecDepth 100000 in
set_option maxHeartbeats 2000000 in
theorem Uq.values1_in (F:Fence) (n:Nat) (h7:F.fn 243) (hro:F.round=none) (hn:1≤n) (l Bs n₀ b off len cap:Nat) (zs:List Int) (hreach:len*8≤140737488355328) (hb:b < n₀) (J Jx:List Int→World→Prop)
 (hY:∀ pre x W,J pre W→pre.length < len→YieldAt F (n - 1) Tryz.prog l #[.int .i64 x] W fun e W'=>
  (e= .returned (.bool true)∧J (pre++[x]) W'∧Below n₀ W W')∨(e= .returned (.bool false)∧Jx (pre++[x]) W'))
 (W:World) (hBs:W.cell? ⟨Bs,0,none⟩=some (.slice (some ⟨b,off,none⟩) len cap)) (hc:∀ j,j < len→W.cell? ⟨b,off+j,none⟩=some (.int .i64 (zs[j]?.getD 0))) (h0:J [] W):
 CallsIn F n Tryz.prog 243 #[.func (.yield l) #[] #[],.pointer (some ⟨Bs,0,none⟩)] W fun e W'=>(∃ v,e= .returned v)∧
  ((∃ ys,ys=Uq.upto zs len∧J ys W')∨(∃ pre,(∃ k,k≤len∧pre=Uq.upto zs k)∧Jx pre W')):=by
 refine callsIn_of_wp Tryz.func243 rfl h7 ?_ hro;simp only[Tryz.ntmps243,size_toArray,length_cons,length_nil,Nat.reduceAdd,Nat.reduceSub,Array.replicate_succ,Array.replicate_zero,push_toArray,append_toArray,nil_append,cons_append];gi_wp2;gi_loopw [7] (fun i wr=>∃ k:Nat,k≤len∧i= .int .i64 k∧J (Uq.upto zs k) wr∧Below n₀ W wr)
  (fun i _=>len - (intOf i).toNat)
 case atStart=>exact⟨0,Nat.zero_le _,rfl,h0,Below.refl _ _⟩
 case round=>
  obtain⟨k,hk,rfl,hJs,hnx⟩:=hrel;have hcx:k < len→wr.cell? ⟨b,off+k,none⟩=some (.int .i64 (zs[k]?.getD 0)):=fun h=>(hnx.cell (p:=⟨b,off+k,none⟩) hb).trans (hc k h);by_cases hlt:k < len
  ·obtain⟨fn,tmps,assign,body,hy,hR⟩:=hY _ (zs[k]?.getD 0) wr hJs (by rw[Uq.upto_length]; exact hlt);have hcx':=hcx hlt;gi_wp2;refine hR.mono ?_;rintro e W3 (⟨rfl,hJ3,hk3⟩ | ⟨rfl,hJx3⟩)
   ·gi_wp2;go_roundw
    case rel=>exact⟨k+1,by omega,by simp,by rw[Uq.upto_succ]; exact hJ3,hnx.trans hk3⟩
    case measure=>simp [intOf]; omega
   ·gi_wp2;refine bodyPost_ret (results_none rfl _ _ _) rfl ?_;exact⟨⟨_,rfl⟩,.inr ⟨_,⟨k+1,by omega,(Uq.upto_succ _ _).symm⟩,hJx3⟩⟩
  ·obtain rfl:k=len:=by omega
   gi_wp2;go_end0;exact⟨⟨_,rfl⟩,.inl ⟨_,rfl,hJs⟩⟩
set_option maxRecDepth 100000 in
set_option maxHeartbeats 1000000 in
theorem Uq.values1_nil_in (F:Fence) (n:Nat) (h7:F.fn 243) (hro:F.round=none) (l Bs:Nat) (J:List Int→World→Prop) (W:World) (p:Option Addr) (cap:Nat) (hBs:W.cell? ⟨Bs,0,none⟩=some (.slice p 0 cap)) (h0:J [] W):
 CallsIn F n Tryz.prog 243 #[.func (.yield l) #[] #[],.pointer (some ⟨Bs,0,none⟩)] W fun e W'=>(∃ v,e= .returned v)∧J [] W':=by
 refine callsIn_of_wp Tryz.func243 rfl h7 ?_ hro;simp only[Tryz.ntmps243,size_toArray,length_cons,length_nil,Nat.reduceAdd,Nat.reduceSub,Array.replicate_succ,Array.replicate_zero,push_toArray,append_toArray,nil_append,cons_append];gi_wp2;gi_loopw [7] (fun i wr=>i= .int .i64 0∧J [] wr) (fun _ _=>0)
 case atStart=>exact⟨rfl,h0⟩
 case round=>
  obtain⟨rfl,hJs⟩:=hrel;gi_wp2;go_end0;exact⟨⟨_,rfl⟩,hJs⟩
def Uq.Ints (n₀:Nat) (W:World) (sv:Value) (zs:List Int):Prop:=
 (∃ p cap,sv= .slice p 0 cap∧zs=[])∨∃ b off cap,sv= .slice (some ⟨b,off,none⟩) zs.length cap∧b < n₀∧∀ j,j < zs.length→W.cell? ⟨b,off+j,none⟩=some (.int .i64 (zs[j]?.getD 0))
theorem Uq.Ints.below {n₀:Nat} {A B:World} (h:Below n₀ A B) {sv:Value} {zs:List Int}:Uq.Ints n₀ A sv zs→Uq.Ints n₀ B sv zs
 | .inl e=> .inl e
 | .inr ⟨b,off,cap,e,hb,hc⟩=> .inr ⟨b,off,cap,e,hb,fun j hj=>(h.cell (p:=⟨b,off+j,none⟩) hb).trans (hc j hj)⟩
theorem Uq.values_stops (F:Fence) (n:Nat) (h7:F.fn 243) (hro:F.round=none) (hn:1≤n) (Bs n₀:Nat) (sv:Value) (zs:List Int) (hreach:zs.length*8≤140737488355328) (w:World) (hBs:Bs < w.heap.size) (hn₀:n₀≤w.heap.size)
 (hc:w.cell? ⟨Bs,0,none⟩=some sv) (hI:Uq.Ints n₀ w sv zs):
 SeqStopsK F n Tryz.prog 243 #[.pointer (some ⟨Bs,0,none⟩)] (fun x:Int=> #[Value.int .i64 x]) (Below n₀) (fun ys=>ys=zs) (fun _=>True) zs.length w:=fun l J Jx W hW _ _ hY h0=>by
 have hc':=(hW.cell (p:=⟨Bs,0,none⟩) hBs).trans hc;rcases hI.below (hW.mono hn₀) with⟨p,cap,rfl,rfl⟩ | ⟨b,off,cap,rfl,hb,hcs⟩
 ·exact (Uq.values1_nil_in F n h7 hro l Bs J W p cap hc' h0).mono fun e W' ⟨he,hj⟩=>⟨he,.inl ⟨_,rfl,hj⟩⟩
 ·refine (Uq.values1_in F n h7 hro hn l Bs n₀ b off zs.length cap zs hreach hb J Jx hY W hc' hcs h0).mono ?_;rintro e W' ⟨he,⟨ys,rfl,hj⟩ | ⟨pre,⟨k,hk,rfl⟩,hj⟩⟩
  ·exact⟨he,.inl ⟨_,Uq.upto_all zs,hj⟩⟩
  ·exact⟨he,.inr ⟨_,trivial,hj⟩⟩
theorem Uq.info3:(Tryz.prog.info? 3).map (fun i=>(i.zero,i.size,i.bytes))=some (some (.int .i64 0),1,8):=by kernel_rfl
set_option maxRecDepth 100000 in
set_option maxHeartbeats 2000000 in
theorem Uq.appendSeq_in (F:Fence) (n:Nat) (h3:F.fn 244) (h7:F.fn 243) (hro:F.round=none) (hn:3≤n) (Bs:Nat) (sv:Value) (zs:List Int) (hreach:zs.length*8≤140737488355328) (w:World) (hBs:Bs < w.heap.size)
 (hc:w.cell? ⟨Bs,0,none⟩=some sv) (hI:Uq.Ints w.heap.size w sv zs):
 CallsIn F n Tryz.prog 244 #[.slice none 0 0,.func (.func 243) #[] #[.pointer (some ⟨Bs,0,none⟩)]] w fun e W'=>∃ v,e= .returned v∧
  W'.ownsRow w.heap.size 3 1 v zs.length (zs.map (Value.int .i64))∧(v= .slice none 0 0↔zs=[])∧Below w.heap.size w W':=by
 have h1:1≤n:=by omega
 obtain⟨i0,hi,hz0,hz1,hz2⟩:=info_parts Uq.info3;refine callsIn_of_wp_marks Tryz.func244 rfl h3 ?_ hro;simp only[Tryz.ntmps244,size_toArray,length_cons,length_nil,Nat.reduceAdd,Nat.reduceSub,Array.replicate_succ,Array.replicate_zero,push_toArray,append_toArray,nil_append,cons_append];gi_wp2;have bS:=Boxed.new w 60 (.slice none 0 0);have hB0:Below w.heap.size w (w.alloc (.cells #[.slice none 0 0] 60)):=(Below.refl _ w).alloc (Nat.le_refl _) _;refine wpIn_rangeFunc_ownG hro h1 (gf:=243) (lb:= #[.pointer (some ⟨Bs,0,none⟩)]) rfl h7 (enters_of Tryz.func243 (by kernel_rfl) rfl)
  (Uq.values_stops F (n - 1) h7 hro (by omega) Bs w.heap.size _ zs hreach _ (by simp; omega) (by simp) ((hB0.cell (p:=⟨Bs,0,none⟩) hBs).trans hc) (hI.below hB0)) belowK_t (belowK_b (by simp)) (Below.refl _ _) (fun _=>rfl)
  (fun pre W=>(∃ v,Boxed W w.heap.size 60 v∧W.ownsRow w.heap.size 3 1 v pre.length (pre.map (Value.int .i64))∧(v= .slice none 0 0↔pre=[]))∧Below w.heap.size w W)
  (fun _ _ _=>False)
  (OwnFrom.and (Own.from (holdsRow_own w.heap.size w.heap.size 60 3 1 (fun pre:List Int=>pre.length) (fun pre=>pre.map (Value.int .i64)) (fun pre v=>(v= .slice none 0 0↔pre=[]))) _) (ownFrom_below (Nat.le_refl _) (by simp)))
  (fun _ _ _ _ _ hs _ _=>hs)
  ⟨⟨_,bS,World.ownsRow_nil _ _ _ _,by simp⟩,hB0⟩
  (fun x=>{ tmps:= #[.slice none 0 0,.func (.func 243) #[] #[.pointer (some ⟨Bs,0,none⟩)],.pointer (some ⟨w.heap.size,0,none⟩),undef,.slice none 0 0,.int .i64 x,.func (.func 243) #[] #[.pointer (some ⟨Bs,0,none⟩)],.int .i64 x,undef,undef,undef,undef,undef],defers:=[] }) ?assign ?body ?done ?stop
 case assign=>
  intro l x W K hK;gi_wp2;exact hK
 case body=>
  rintro l pre x W ⟨⟨v,hv,hrow,hnil⟩,hB⟩ hlt;have hvc:=hv.cell;have hle:w.heap.size≤w.heap.size:=Nat.le_refl _;have hm:(pre.length+1)*8≤140737488355328:=by omega
  have hm':pre.length+1≤maxLen:=by unfold maxLen; omega
  gi_wp2_with (gi_at_builtin; refine wpListIn_append_own _ rfl _ _ 60 rfl w.heap.size 3 i0 (.int .i64 0) 1 8 Tryz.underlying60 hi hz0 hz1 hz2 rfl (by decide) _ _ _ rfl (hrow.alloc _) ⟨W.heap.size,0,none⟩ 1 1 [.int .i64 x] rfl rfl (cell_one_new _ _ _) (by simp [Value.oneCell']) (by omega) (by omega) (by have:=hB.size; simp; omega) ?_; intro v' w1 hown' hgrow _; obtain⟨g',cap',rfl⟩:=ownsRow_succ hown'; obtain⟨hv1,hv2,hr2,hk2,hb2⟩:=hv.appended (by decide) hrow hB.size hle hown' hgrow; have hc1:=hv1.cell; have hf1:=hv1.frozen);exact⟨hk2.from _,hb2,⟨_,hv2,by simpa using hr2,by simp⟩,hB.trans hb2⟩
 case done=>
  rintro D ys W hD rfl ⟨⟨v,hv,hrow,hnil⟩,hB⟩ hK;have hvc:=hv.cell;gi_wp2;refine⟨by simp,.inl ⟨_,_,rfl,run_takeDeferred hK,?_⟩⟩;exact⟨_,results_tmp rfl _ _ _,v,rfl,ownsRow_putObj hrow _ hK rfl,hnil,hB.trans (belowK_b (w:=w) (Nat.le_refl _) W D _ _ (by simp at hD; omega) hK rfl rfl)⟩
 case stop=>
  rintro D c pre W _ _ h _;exact h.elim
end Go.Proofs
end
section
namespace Go.Proofs
open List
open Go.Shelf
def Uq.sortA_ren:Go.Shelf.Ren:=⟨fun | 5=>242 | 8=>162 | 7=>245 | 19=>193 | 20=>194 | 10=>246 | 11=>247 | 12=>248 | 13=>249 | 14=>250 | 15=>251 | 16=>252 | 17=>253 | 18=>254 | 30=>255 | 31=>210 | 32=>211 | 33=>256 | 34=>257 | 35=>258 | 40=>259 | n=>n,fun | 23=>60 | 25=>3 | 3=>3 | 32=>222 | 22=>60 | 0=>0 | 44=>252 | 46=>254 | 4=>4 | 36=>245 | 35=>244 | 41=>134 | 5=>5 | 9=>9 | 53=>270 | 57=>274 | 63=>279 | 64=>140 | n=>n,fun | n=>n⟩
theorem Uq.sortA:Go.Proofs.SlLaysM.n5 Tryz.prog Uq.sortA_ren:={
 mixed:=by kernel_rfl
 f5:=⟨Tryz.f242.name,by decide,Tryz.func242.trans (congrArg some (by kernel_rfl))⟩
 f7:=⟨Tryz.f245.name,by decide,Tryz.func245.trans (congrArg some (by kernel_rfl))⟩
 f8:=Tryz.func162.trans (congrArg some (by kernel_rfl))
 f10:=⟨Tryz.f246.name,by decide,Tryz.func246.trans (congrArg some (by kernel_rfl))⟩
 f11:=⟨Tryz.f247.name,by decide,Tryz.func247.trans (congrArg some (by kernel_rfl))⟩
 f12:=⟨Tryz.f248.name,by decide,Tryz.func248.trans (congrArg some (by kernel_rfl))⟩
 f13:=⟨Tryz.f249.name,by decide,Tryz.func249.trans (congrArg some (by kernel_rfl))⟩
 f14:=⟨Tryz.f250.name,by decide,Tryz.func250.trans (congrArg some (by kernel_rfl))⟩
 f15:=⟨Tryz.f251.name,by decide,Tryz.func251.trans (congrArg some (by kernel_rfl))⟩
 f16:=⟨Tryz.f252.name,by decide,Tryz.func252.trans (congrArg some (by kernel_rfl))⟩
 f17:=⟨Tryz.f253.name,by decide,Tryz.func253.trans (congrArg some (by kernel_rfl))⟩
 f18:=⟨Tryz.f254.name,by decide,Tryz.func254.trans (congrArg some (by kernel_rfl))⟩
 f19:=Tryz.func193.trans (congrArg some (by kernel_rfl))
 f20:=Tryz.func194.trans (congrArg some (by kernel_rfl))
 f30:=⟨Tryz.f255.name,by decide,Tryz.func255.trans (congrArg some (by kernel_rfl))⟩
 f31:=Tryz.func210.trans (congrArg some (by kernel_rfl))
 f32:=Tryz.func211.trans (congrArg some (by kernel_rfl))
 f33:=⟨Tryz.f256.name,by decide,Tryz.func256.trans (congrArg some (by kernel_rfl))⟩
 f34:=⟨Tryz.f257.name,by decide,Tryz.func257.trans (congrArg some (by kernel_rfl))⟩
 f35:=⟨Tryz.f258.name,by decide,Tryz.func258.trans (congrArg some (by kernel_rfl))⟩
 f40:=⟨Tryz.f259.name,by decide,Tryz.func259.trans (congrArg some (by kernel_rfl))⟩
 t0:=Tryz.underlying0
 a0:=Tryz.isAgg0
 z0:=Tryz.sizeOf0
 v0:=Tryz.zeroValue0
 t3:=Tryz.underlying3
 a3:=Tryz.isAgg3
 z3:=Tryz.sizeOf3
 v3:=Tryz.zeroValue3
 t4:=Tryz.underlying4
 a4:=Tryz.isAgg4
 z4:=Tryz.sizeOf4
 v4:=Tryz.zeroValue4
 t5:=Tryz.underlying5
 a5:=Tryz.isAgg5
 z5:=Tryz.sizeOf5
 v5:=Tryz.zeroValue5
 t9:=Tryz.underlying9
 a9:=Tryz.isAgg9
 z9:=Tryz.sizeOf9
 v9:=Tryz.zeroValue9
 t22:=Tryz.underlying60
 a22:=Tryz.isAgg60
 z22:=Tryz.sizeOf60
 v22:=Tryz.zeroValue60
 t23:=Tryz.underlying60
 a23:=Tryz.isAgg60
 z23:=Tryz.sizeOf60
 v23:=Tryz.zeroValue60
 t25:=Tryz.underlying3
 a25:=Tryz.isAgg3
 z25:=Tryz.sizeOf3
 v25:=Tryz.zeroValue3
 t32:=Tryz.underlying222
 a32:=Tryz.isAgg222
 z32:=Tryz.sizeOf222
 v32:=Tryz.zeroValue222
 t35:=Tryz.underlying244
 a35:=Tryz.isAgg244
 z35:=Tryz.sizeOf244
 v35:=Tryz.zeroValue244
 t36:=Tryz.underlying245
 a36:=Tryz.isAgg245
 z36:=Tryz.sizeOf245
 v36:=Tryz.zeroValue245
 t41:=Tryz.underlying134
 a41:=Tryz.isAgg134
 z41:=Tryz.sizeOf134
 v41:=Tryz.zeroValue134
 t44:=Tryz.underlying252
 a44:=Tryz.isAgg252
 z44:=Tryz.sizeOf252
 v44:=Tryz.zeroValue252
 t46:=Tryz.underlying254
 a46:=Tryz.isAgg254
 z46:=Tryz.sizeOf254
 v46:=Tryz.zeroValue254
 t53:=Tryz.underlying270
 a53:=Tryz.isAgg270
 z53:=Tryz.sizeOf270
 v53:=Tryz.zeroValue270
 t57:=Tryz.underlying274
 a57:=Tryz.isAgg274
 z57:=Tryz.sizeOf274
 v57:=Tryz.zeroValue274
 t63:=Tryz.underlying279
 a63:=Tryz.isAgg279
 z63:=Tryz.sizeOf279
 v63:=Tryz.zeroValue279
 t64:=Tryz.underlying140
 a64:=Tryz.isAgg140
 z64:=Tryz.sizeOf140
 v64:=Tryz.zeroValue140 }
end Go.Proofs
namespace Go.Am
open List
open Go.Proofs Go.RowKit Go.Sort
theorem bS_.stay (h:cE_ φ H w) (r:Below w.heap.size w w'):bS_ φ H w φ H w':=
 ⟨prefix_refl _,⟨h.len,fun l o D A=>by have ⟨i,F,I⟩:=h.obj l o D A; exact⟨i,F,I.keep (r.block _ (h.blockLt ⟨l,o,i,D,A,F,rfl⟩)) r.size⟩,h.apart⟩,
  ⟨r.os,r.tape,r.output,r.size,fun b G _=>r.block b G⟩,fun _ h=> .inl h,fun _ h=> .inl h⟩
theorem bS_.made (h:cE_ φ H w) (A:Below w.heap.size w w') (N:w.heap.size≤g)
 (G:w'.heap[g]? =some (.cells r t (0,0))) (J:r.size=cap) (I:cs.length≤cap) (D:Is2 φ cs (r.toList.take cs.length)):
 bS_ φ H w (φ++[⟨g,0,true,cs.length,cap⟩]) (H++[.row true t cs]) w':=
 bS_.snoc h ⟨A.os,A.tape,A.output,A.size,fun b O _=>A.block b O⟩ (fun b q=>A.block b (h.blockLt q))
  ⟨rfl,rfl,(Array.getElem?_eq_some_iff.1 G).1,rfl,r,t,(0,0),G,fun _=>rfl,J,(fun j _ U=>by omega),by omega,Is2.mono (prefix_append _ _) D⟩ N
theorem y5_ (φ:List LI):∀ zs:List Int,Is2 φ (zs.map (GV.int .i64)) (zs.map (Value.int .i64))
 | []=> .nil
 | _::zs=> .cons rfl (y5_ φ zs)
theorem yf_:∀ {zs:List Int} {xs:List Value},Is2 φ (zs.map (GV.int .i64)) xs→xs=zs.map (Value.int .i64)
 | [],_,h=>by rw[cm_.nil_inv h]; rfl
 | z::zs,_,h=>by
  obtain⟨b,bs,rfl,r,A⟩:=cm_.cons_inv h;rw[yf_ A,r]; rfl
theorem cm_.two {a b:α} {vs:List β} (h:cm_ R [a,b] vs):∃ x y,vs=[x,y]∧R a x∧R b y:=by
 obtain⟨x,vs,rfl,r,h⟩:=h.cons_inv;obtain⟨y,vs,rfl,A,h⟩:=h.cons_inv;rw[h.nil_inv];grind
theorem cm_.one {a:α} {vs:List β} (h:cm_ R [a] vs):∃ x,vs=[x]∧R a x:=by
 obtain⟨x,vs,rfl,r,h⟩:=h.cons_inv;rw[h.nil_inv];grind
def slices_AppendSeq__int_int:Sm:=fun xs H Q=>∃ l t cs a n zs,xs=[.g (.sl none 0 1),.g (.fn 243 [(l,0)])]∧H[l]? =some (.row true t cs)∧cs[0]? =some (.sl a n 1)∧cells? H a n=some (zs.map (GV.int .i64))∧zs.length*8≤Lim∧
 (zs=[]→Q (.g (.sl none 0 1)) H)∧(zs≠[]→Q (.g (.sl (some (ln H,0)) zs.length 1)) (pu H (.row true 3 (zs.map (GV.int .i64)))))
theorem GT_ (h:cE_ φ H w) (G:cells? H a n=some (zs.map (GV.int .i64))) (N:GV.is φ (.sl a n 1) x):Uq.Ints w.heap.size w x zs:=by
 cases a with
 | none=>
  obtain⟨rfl,rfl⟩:=N;simp [cells?] at G;exact .inl ⟨none,0,rfl,G⟩
 | some p=>
  have ⟨l,o⟩:=p;obtain⟨i,ad,c,O,rfl,I,U,Z,_⟩:=N;have ⟨W,D,r,V,F,A⟩:=h.cells G;rw[O] at D; cases D;simp at r;subst r;have J:=yf_ F;subst J;cases zs with
  | nil=>exact .inl ⟨_,c,rfl,rfl⟩
  | cons z zs=>
   have I:=I.resolve_right (by grind);subst I;refine .inr ⟨i.b,i.p+o,c,rfl,?_,fun j Y=> ?_⟩
   ·have:=A 0 (.int .i64 z) (by simp);rcases Nat.lt_or_ge i.b w.heap.size with h1 | h1
    ·exact h1
    ·simp [World.cell?,Array.getElem?_eq_none h1] at this
   ·grind
set_option maxRecDepth 100000 in
theorem fV_:cN_ Tryz.prog 244 slices_AppendSeq__int_int:=by
 intro as0 H Q ⟨l,t,cs,a,n,zs,e,hl,h0,hz,hlim,hQ1,hQ2⟩ φ w vs hr ha;subst e;obtain⟨x,y,rfl,hx,hy⟩:=ha.two;obtain⟨_,rfl⟩:=hx;obtain⟨xs,rfl,hc⟩:=hy;obtain⟨p,rfl,i,hi,rfl⟩:=hc.one;obtain⟨i',hi',hrow⟩:=hr.row l true t cs hl;rw[hi] at hi'; cases hi';obtain⟨_,hu,hlt,hp,c,t',fz,hb,_,hs,_,hle,his⟩:=hrow;obtain⟨sv,hsv,hvx⟩:=his.get h0;have hcell:w.cell? ⟨i.b,0,none⟩=some sv:=by
  rw[f3_ hb];rw[getElem?_take] at hsv;split at hsv
  ·simpa using hsv
  ·simp at hsv
 have e0:i.p+0=0:=by omega
 show Bq_ Tryz.prog 244 #[.slice none 0 0,.func (.func 243) #[] #[.pointer (some ⟨i.b,i.p+0,none⟩)]] w _;rw[e0];refine .inl ⟨enters_of Tryz.func244 (by kernel_rfl) rfl _ _,?_⟩;refine ((callsIn_wide (n:=3)).1 (Uq.appendSeq_in Fence.wide 3 trivial trivial rfl (by omega) i.b sv zs hlim w hlt hcell (GT_ hr hz hvx))).mono ?_;rintro e w' ⟨v,rfl,⟨_,hown⟩,hnil,hbel⟩;by_cases hze:zs=[]
 ·exact⟨_,H,φ,v,hQ1 hze,rfl,⟨rfl,hnil.2 hze⟩,bS_.stay hr hbel⟩
 ·rcases hown with⟨rfl,h1⟩ | ⟨g,cap,cur,rfl,hg,hgb,h1,h2,h3,h4⟩
  ·exact (hze (hnil.1 rfl)).elim
  ·have B:=bS_.made (cs:=zs.map (GV.int .i64)) hr hbel hg hgb (by simpa using h3) (by simpa using h1) (by rw[length_map,←Nat.mul_one zs.length,h4]; exact y5_ φ zs);refine⟨_,_,_,_,hQ2 hze,rfl,?_,B⟩;refine⟨⟨g,0,true,(zs.map (GV.int .i64)).length,cap⟩,_,cap,?_,rfl,.inl rfl,h1,by simp; omega,fun _=>⟨rfl,by simp,by unfold maxLen at h2; exact h2⟩⟩;show (φ++[_])[ln H]? =_;rw[show ln H=φ.length from hr.len.symm];simp
def slices_Sort__int_int:Sm:=fun xs H Q=>(xs=[.g (.sl none 0 1)]∧Q (.tup []) H)∨
 ∃ l zs,xs=[.g (.sl (some (l,0)) zs.length 1)]∧zs≠[]∧zs.length*8≤Lim∧H[l]? =some (.row true 3 (zs.map (GV.int .i64)))∧Q (.tup []) (H.set l (.row true 3 ((zs.mergeSort fun x y=>decide (x≤y)).map (GV.int .i64))))
theorem ha_:cN_ Tryz.prog 242 slices_Sort__int_int:=by
 intro as0 H Q hS φ w vs hr ha;rcases hS with⟨rfl,hQ⟩ | ⟨l,zs,rfl,hne,hlim,hl,hQ⟩
 ·obtain⟨x,rfl,hx⟩:=ha.one;obtain⟨_,rfl⟩:=hx;refine .inl ⟨enters_of Tryz.func242 (by kernel_rfl) rfl _ _,?_⟩;refine (AnyM.slices_Sort_int_none Uq.sortA none 0 w).mono ?_;rintro e w' ⟨rfl,rfl⟩;exact⟨_,H,φ,_,hQ,rfl,⟨#[],rfl,.nil⟩,bS_.refl hr⟩
 ·obtain⟨x,rfl,hx⟩:=ha.one;obtain⟨i,ad,c,hi,rfl,hq,hnc,hu,ho⟩:=hx;obtain⟨i',hi',hrow⟩:=hr.row l true 3 _ hl;rw[hi] at hi'; cases hi';obtain⟨ho',hu',hlt,hp,cur,t',fz,hb,ht',hs,hfz,hle,his⟩:=hrow;have hzl:0 < zs.length:=length_pos_iff.2 hne;have hq':ad=⟨i.b,0,none⟩:=by
   rcases hq with h | h
   ·rw[h,hp]
   ·omega
  subst hq';have hcur:cur.toList.take zs.length=zs.map (Value.int .i64):=by
   have:=yf_ his;rwa [length_map] at this
  have hH:Holds (Value.int .i64) w i.b 0 zs.toArray:=by
   intro j hj;have hj':j < zs.length:=by simpa using hj
   rw[Nat.zero_add];constructor
   ·rw[f3_ hb];have h1:(cur.toList.take zs.length)[j]? =(zs.map (Value.int .i64))[j]? :=by rw[hcur]
    rw[getElem?_take_of_lt hj',getElem?_map,getElem?_eq_getElem hj'] at h1;simp at h1;rw[h1];simp [hj']
   ·simp only[World.frozen?,hb];simp only[length_map] at hle;by_cases h1:fz.1≤j
    ·by_cases h2:j < fz.2
     ·have:=hfz j h1 h2; omega
     ·simp; omega
    ·simp; omega
  refine .inl ⟨enters_of Tryz.func242 (by kernel_rfl) rfl _ _,?_⟩;refine (AnyM.slices_Sort_int Uq.sortA i.b 0 c zs w hH hlt (by unfold Lim at hlim; omega)).mono ?_;rintro e w' ⟨rfl,k,os,rfl⟩;have hlen:(zs.mergeSort fun x y=>decide (x≤y)).length=zs.length:=by simp
  refine⟨_,_,φ,_,hQ,rfl,⟨#[],rfl,.nil⟩,?_⟩;have hg:=grownBy_sorted_i (w:=w) (g:=i.b) (n:=k) (os:=os) (zs.mergeSort fun x y=>decide (x≤y)).toArray;refine bS_.turn hr hl hi (by simp at hle; omega) ⟨hg.os,hg.tape,hg.output,hg.size,fun b h1 h2=>hg.block b h1 (fun e=>h2 (by cases e; rfl))⟩ ?_;have hb':=heap_sorted_i (n:=k) (os:=os) (zs.mergeSort fun x y=>decide (x≤y)).toArray hb;refine⟨ho',by simp [hu'],(Array.getElem?_eq_some_iff.1 hb').1,hp,_,t',fz,hb',ht',by simp [putCells,hs],hfz,by simp [putCells]; simpa using hle,?_⟩;have htk:=take_putCells_i cur (zs.mergeSort fun x y=>decide (x≤y)) (by simpa using hle);rw[length_map,htk];exact y5_ φ _
end Go.Am
end
namespace Go.Am
open List
abbrev tS:Nat:=9
abbrev tI:Nat:=3
abbrev tB:Nat:=4
abbrev tU8:Nat:=5
abbrev tPg:Nat:=62
abbrev I0_:Nat:=22
abbrev tTr:Nat:=24
abbrev tSs:Nat:=59
abbrev tIs:Nat:=60
abbrev I1_:Nat:=111
abbrev tKV:Nat:=74
abbrev IF_:Nat:=35
abbrev Es_:Nat:=257
abbrev Br_:Nat:=173
abbrev IV_:Nat:=206
abbrev i4_:Nat:=195
abbrev IY_:Nat:=193
abbrev IZ_:Nat:=202
abbrev Bl_:Nat:=197
abbrev yw_:Nat:=187
abbrev I2_:Nat:=26
abbrev IJ_:Nat:=124
abbrev IL_:Nat:=158
abbrev Gk_:Nat:=131
abbrev Gw_:Nat:=132
abbrev F9_:Nat:=230
abbrev Hc_:Nat:=233
abbrev G7_:Nat:=235
end Go.Am
namespace Go.Proofs
open List
open Go.RowKit Go.Maps Go.Sort Go.Shelf
def Uq.keysN_ren:Go.Shelf.Ren:=⟨fun | 7=>107 | 10=>148 | n=>n,fun | 23=>96 | 26=>9 | 3=>79 | 28=>149 | 0=>0 | 27=>148 | 33=>124 | 4=>4 | n=>n,fun | n=>n⟩
theorem Uq.keysN:Go.Proofs.SlLaysZ.n7 Tryz.prog Uq.keysN_ren:={
 mixed:=by kernel_rfl
 f7:=⟨Tryz.f107.name,by decide,Tryz.func107.trans (congrArg some (by kernel_rfl))⟩
 f10:=⟨Tryz.f148.name,by decide,Tryz.func148.trans (congrArg some (by kernel_rfl))⟩
 t0:=Tryz.underlying0
 a0:=Tryz.isAgg0
 z0:=Tryz.sizeOf0
 v0:=Tryz.zeroValue0
 t4:=Tryz.underlying4
 a4:=Tryz.isAgg4
 z4:=Tryz.sizeOf4
 v4:=Tryz.zeroValue4
 t23:=Tryz.underlying96
 a23:=Tryz.isAgg96
 z23:=Tryz.sizeOf96
 v23:=Tryz.zeroValue96
 t26:=Tryz.underlying9
 a26:=Tryz.isAgg9
 z26:=Tryz.sizeOf9
 v26:=Tryz.zeroValue9
 t27:=Tryz.underlying148
 a27:=Tryz.isAgg148
 z27:=Tryz.sizeOf148
 v27:=Tryz.zeroValue148
 t28:=Tryz.underlying149
 a28:=Tryz.isAgg149
 z28:=Tryz.sizeOf149
 v28:=Tryz.zeroValue149
 t33:=Tryz.underlying124
 a33:=Tryz.isAgg124
 z33:=Tryz.sizeOf124
 v33:=Tryz.zeroValue124 }
def Uq.keysS_ren:Go.Shelf.Ren:=⟨fun | 7=>93 | 10=>129 | n=>n,fun | 23=>143 | 26=>9 | 3=>9 | 28=>149 | 0=>0 | 27=>148 | 33=>124 | 4=>4 | n=>n,fun | n=>n⟩
theorem Uq.keysS:Go.Proofs.SlLaysZ.n7 Tryz.prog Uq.keysS_ren:={
 mixed:=by kernel_rfl
 f7:=⟨Tryz.f93.name,by decide,Tryz.func93.trans (congrArg some (by kernel_rfl))⟩
 f10:=⟨Tryz.f129.name,by decide,Tryz.func129.trans (congrArg some (by kernel_rfl))⟩
 t0:=Tryz.underlying0
 a0:=Tryz.isAgg0
 z0:=Tryz.sizeOf0
 v0:=Tryz.zeroValue0
 t4:=Tryz.underlying4
 a4:=Tryz.isAgg4
 z4:=Tryz.sizeOf4
 v4:=Tryz.zeroValue4
 t23:=Tryz.underlying143
 a23:=Tryz.isAgg143
 z23:=Tryz.sizeOf143
 v23:=Tryz.zeroValue143
 t26:=Tryz.underlying9
 a26:=Tryz.isAgg9
 z26:=Tryz.sizeOf9
 v26:=Tryz.zeroValue9
 t27:=Tryz.underlying148
 a27:=Tryz.isAgg148
 z27:=Tryz.sizeOf148
 v27:=Tryz.zeroValue148
 t28:=Tryz.underlying149
 a28:=Tryz.isAgg149
 z28:=Tryz.sizeOf149
 v28:=Tryz.zeroValue149
 t33:=Tryz.underlying124
 a33:=Tryz.isAgg124
 z33:=Tryz.sizeOf124
 v33:=Tryz.zeroValue124 }
def Uq.sortedS_ren:Go.Shelf.Ren:=⟨fun | 6=>92 | 8=>127 | 9=>128 | 11=>160 | 13=>162 | 12=>161 | 23=>193 | 24=>194 | 14=>184 | 15=>185 | 16=>186 | 17=>187 | 18=>188 | 19=>189 | 20=>190 | 21=>191 | 22=>192 | 25=>209 | 26=>210 | 27=>211 | 28=>212 | 29=>213 | 30=>214 | 31=>224 | n=>n,fun | 26=>9 | 28=>149 | 24=>59 | 0=>0 | 3=>3 | 37=>222 | 48=>252 | 50=>254 | 4=>4 | 40=>245 | 39=>244 | 45=>134 | 5=>5 | 9=>9 | 51=>270 | 55=>274 | 57=>279 | 58=>140 | 33=>124 | n=>n,fun | n=>n⟩
theorem Uq.sortedS:Go.Proofs.SlLaysZ.n6 Tryz.prog Uq.sortedS_ren:={
 mixed:=by kernel_rfl
 f6:=⟨Tryz.f92.name,by decide,Tryz.func92.trans (congrArg some (by kernel_rfl))⟩
 f8:=⟨Tryz.f127.name,by decide,Tryz.func127.trans (congrArg some (by kernel_rfl))⟩
 f11:=⟨Tryz.f160.name,by decide,Tryz.func160.trans (congrArg some (by kernel_rfl))⟩
 t0:=Tryz.underlying0
 a0:=Tryz.isAgg0
 z0:=Tryz.sizeOf0
 v0:=Tryz.zeroValue0
 t24:=Tryz.underlying59
 a24:=Tryz.isAgg59
 z24:=Tryz.sizeOf59
 v24:=Tryz.zeroValue59
 t26:=Tryz.underlying9
 a26:=Tryz.isAgg9
 z26:=Tryz.sizeOf9
 v26:=Tryz.zeroValue9
 t28:=Tryz.underlying149
 a28:=Tryz.isAgg149
 z28:=Tryz.sizeOf149
 v28:=Tryz.zeroValue149
 i26:=by kernel_rfl }
def Uq.sortS_ren:Go.Shelf.Ren:=⟨fun | 6=>128 | 8=>162 | 9=>161 | 19=>193 | 20=>194 | 21=>184 | 22=>185 | 23=>186 | 24=>187 | 25=>188 | 26=>189 | 27=>190 | 28=>191 | 29=>192 | 36=>209 | 31=>210 | 32=>211 | 37=>212 | 38=>213 | 39=>214 | 41=>224 | n=>n,fun | 27=>59 | 29=>9 | 3=>3 | 32=>222 | 26=>59 | 0=>0 | 44=>252 | 46=>254 | 4=>4 | 36=>245 | 35=>244 | 41=>134 | 5=>5 | 9=>9 | 53=>270 | 57=>274 | 63=>279 | 64=>140 | n=>n,fun | n=>n⟩
theorem Uq.sortS:Go.Proofs.SlLaysM.n6 Tryz.prog Uq.sortS_ren:={
 mixed:=by kernel_rfl
 f6:=⟨Tryz.f128.name,by decide,Tryz.func128.trans (congrArg some (by kernel_rfl))⟩
 f8:=Tryz.func162.trans (congrArg some (by kernel_rfl))
 f9:=⟨Tryz.f161.name,by decide,Tryz.func161.trans (congrArg some (by kernel_rfl))⟩
 f19:=Tryz.func193.trans (congrArg some (by kernel_rfl))
 f20:=Tryz.func194.trans (congrArg some (by kernel_rfl))
 f21:=⟨Tryz.f184.name,by decide,Tryz.func184.trans (congrArg some (by kernel_rfl))⟩
 f22:=⟨Tryz.f185.name,by decide,Tryz.func185.trans (congrArg some (by kernel_rfl))⟩
 f23:=⟨Tryz.f186.name,by decide,Tryz.func186.trans (congrArg some (by kernel_rfl))⟩
 f24:=⟨Tryz.f187.name,by decide,Tryz.func187.trans (congrArg some (by kernel_rfl))⟩
 f25:=⟨Tryz.f188.name,by decide,Tryz.func188.trans (congrArg some (by kernel_rfl))⟩
 f26:=⟨Tryz.f189.name,by decide,Tryz.func189.trans (congrArg some (by kernel_rfl))⟩
 f27:=⟨Tryz.f190.name,by decide,Tryz.func190.trans (congrArg some (by kernel_rfl))⟩
 f28:=⟨Tryz.f191.name,by decide,Tryz.func191.trans (congrArg some (by kernel_rfl))⟩
 f29:=⟨Tryz.f192.name,by decide,Tryz.func192.trans (congrArg some (by kernel_rfl))⟩
 f31:=Tryz.func210.trans (congrArg some (by kernel_rfl))
 f32:=Tryz.func211.trans (congrArg some (by kernel_rfl))
 f36:=⟨Tryz.f209.name,by decide,Tryz.func209.trans (congrArg some (by kernel_rfl))⟩
 f37:=⟨Tryz.f212.name,by decide,Tryz.func212.trans (congrArg some (by kernel_rfl))⟩
 f38:=⟨Tryz.f213.name,by decide,Tryz.func213.trans (congrArg some (by kernel_rfl))⟩
 f39:=⟨Tryz.f214.name,by decide,Tryz.func214.trans (congrArg some (by kernel_rfl))⟩
 f41:=⟨Tryz.f224.name,by decide,Tryz.func224.trans (congrArg some (by kernel_rfl))⟩
 t0:=Tryz.underlying0
 a0:=Tryz.isAgg0
 z0:=Tryz.sizeOf0
 v0:=Tryz.zeroValue0
 t3:=Tryz.underlying3
 a3:=Tryz.isAgg3
 z3:=Tryz.sizeOf3
 v3:=Tryz.zeroValue3
 t4:=Tryz.underlying4
 a4:=Tryz.isAgg4
 z4:=Tryz.sizeOf4
 v4:=Tryz.zeroValue4
 t5:=Tryz.underlying5
 a5:=Tryz.isAgg5
 z5:=Tryz.sizeOf5
 v5:=Tryz.zeroValue5
 t9:=Tryz.underlying9
 a9:=Tryz.isAgg9
 z9:=Tryz.sizeOf9
 v9:=Tryz.zeroValue9
 t26:=Tryz.underlying59
 a26:=Tryz.isAgg59
 z26:=Tryz.sizeOf59
 v26:=Tryz.zeroValue59
 t27:=Tryz.underlying59
 a27:=Tryz.isAgg59
 z27:=Tryz.sizeOf59
 v27:=Tryz.zeroValue59
 t29:=Tryz.underlying9
 a29:=Tryz.isAgg9
 z29:=Tryz.sizeOf9
 v29:=Tryz.zeroValue9
 t32:=Tryz.underlying222
 a32:=Tryz.isAgg222
 z32:=Tryz.sizeOf222
 v32:=Tryz.zeroValue222
 t35:=Tryz.underlying244
 a35:=Tryz.isAgg244
 z35:=Tryz.sizeOf244
 v35:=Tryz.zeroValue244
 t36:=Tryz.underlying245
 a36:=Tryz.isAgg245
 z36:=Tryz.sizeOf245
 v36:=Tryz.zeroValue245
 t41:=Tryz.underlying134
 a41:=Tryz.isAgg134
 z41:=Tryz.sizeOf134
 v41:=Tryz.zeroValue134
 t44:=Tryz.underlying252
 a44:=Tryz.isAgg252
 z44:=Tryz.sizeOf252
 v44:=Tryz.zeroValue252
 t46:=Tryz.underlying254
 a46:=Tryz.isAgg254
 z46:=Tryz.sizeOf254
 v46:=Tryz.zeroValue254
 t53:=Tryz.underlying270
 a53:=Tryz.isAgg270
 z53:=Tryz.sizeOf270
 v53:=Tryz.zeroValue270
 t57:=Tryz.underlying274
 a57:=Tryz.isAgg274
 z57:=Tryz.sizeOf274
 v57:=Tryz.zeroValue274
 t63:=Tryz.underlying279
 a63:=Tryz.isAgg279
 z63:=Tryz.sizeOf279
 v63:=Tryz.zeroValue279
 t64:=Tryz.underlying140
 a64:=Tryz.isAgg140
 z64:=Tryz.sizeOf140
 v64:=Tryz.zeroValue140 }
theorem Uq.sortsS (m:Nat):AnyZ.SortsIn Tryz.prog Uq.sortedS_ren Fence.wide m:=
 ⟨fun G D r J W I A F=>callsIn_wide.2 (AnyM.slices_Sort_string Uq.sortS G D r J W I A F),
  fun p r W=>callsIn_wide.2 (AnyM.slices_Sort_string_none Uq.sortS p r W)⟩
def Uq.anyR:Value→Option (DataW Unit × List MemPlace):=fun _=>some (.nil,[])
def keysFn (f:Nat):Prop:=f=129∨f=148
set_option maxHeartbeats 1000000 in
theorem Uq.sortedKeys {f:Nat} (hf:keysFn f) (r b nn:Nat) (D0:DataW Unit) (w:World) (hr:r < w.heap.size) (hm:w.cell? ⟨r,0,none⟩=some (.map (some b))) (hown:w.ownsMap Tryz.prog 9 Uq.anyR b nn D0) (hmax:Maps.size D0≤maxLen) (hbytes:Maps.size D0*16≤140737488355328):
 CallsIn Fence.wide 5 Tryz.prog 92 #[.func (.func f) #[] #[.pointer (some ⟨r,0,none⟩)]] w fun e w'=>∃ (v:Value) (ss:List (List UInt8)),e= .returned v∧ss.Perm (strKeys D0)∧
  w'.ownsRow w.heap.size 9 1 v ss.length ((ss.mergeSort (fun x y=>decide (x≤y))).map encStr)∧(v= .slice none 0 0↔ss=[])∧Below w.heap.size w w':=by
 have hseq:SeqGives Fence.wide 2 Tryz.prog f #[.pointer (some ⟨r,0,none⟩)] encStr (fun ss=>ss.Perm (strKeys D0)) (Maps.size D0) w:=by
  rcases hf with rfl | rfl
  ·exact AnyZ.keys_gives (ρ:=Uq.keysS_ren) { Uq.keysS with } Fence.wide _ trivial rfl (by omega) r b nn D0 _ hr hm hown
  ·exact AnyZ.keys_gives (ρ:=Uq.keysN_ren) { Uq.keysN with } Fence.wide _ trivial rfl (by omega) r b nn D0 _ hr hm hown
 rcases hf with rfl | rfl
 ·exact AnyZ.sorted_in Uq.sortedS Fence.wide 5 trivial trivial trivial trivial rfl (by omega) (Uq.sortsS _) (enters_of Tryz.func128 (by kernel_rfl) rfl) 129 #[.pointer (some ⟨r,0,none⟩)] trivial (enters_of Tryz.func129 (by kernel_rfl) rfl) _ _ hmax hbytes w hseq
 ·exact AnyZ.sorted_in Uq.sortedS Fence.wide 5 trivial trivial trivial trivial rfl (by omega) (Uq.sortsS _) (enters_of Tryz.func128 (by kernel_rfl) rfl) 148 #[.pointer (some ⟨r,0,none⟩)] trivial (enters_of Tryz.func148 (by kernel_rfl) rfl) _ _ hmax hbytes w hseq
set_option maxHeartbeats 1000000 in
theorem Uq.sortedKeysNil {f:Nat} (hf:keysFn f) (r:Nat) (w:World) (hr:r < w.heap.size) (hm:w.cell? ⟨r,0,none⟩=some (.map none)):
 CallsIn Fence.wide 5 Tryz.prog 92 #[.func (.func f) #[] #[.pointer (some ⟨r,0,none⟩)]] w fun e w'=>∃ (v:Value) (ss:List (List UInt8)),e= .returned v∧ss=[]∧
  w'.ownsRow w.heap.size 9 1 v ss.length ((ss.mergeSort (fun x y=>decide (x≤y))).map encStr)∧(v= .slice none 0 0↔ss=[])∧Below w.heap.size w w':=by
 have hseq:SeqGives Fence.wide 2 Tryz.prog f #[.pointer (some ⟨r,0,none⟩)] encStr (fun ss:List (List UInt8)=>ss=[]) 0 w:=by
  rcases hf with rfl | rfl
  ·exact AnyZ.keys_gives_nil (ρ:=Uq.keysS_ren) { Uq.keysS with } Fence.wide _ trivial rfl r _ hr hm
  ·exact AnyZ.keys_gives_nil (ρ:=Uq.keysN_ren) { Uq.keysN with } Fence.wide _ trivial rfl r _ hr hm
 rcases hf with rfl | rfl
 ·exact AnyZ.sorted_in Uq.sortedS Fence.wide 5 trivial trivial trivial trivial rfl (by omega) (Uq.sortsS _) (enters_of Tryz.func128 (by kernel_rfl) rfl) 129 #[.pointer (some ⟨r,0,none⟩)] trivial (enters_of Tryz.func129 (by kernel_rfl) rfl) _ 0 (by decide) (by decide) w hseq
 ·exact AnyZ.sorted_in Uq.sortedS Fence.wide 5 trivial trivial trivial trivial rfl (by omega) (Uq.sortsS _) (enters_of Tryz.func128 (by kernel_rfl) rfl) 148 #[.pointer (some ⟨r,0,none⟩)] trivial (enters_of Tryz.func148 (by kernel_rfl) rfl) _ 0 (by decide) (by decide) w hseq
end Go.Proofs
section
namespace Go.Am
open List
open Go.Proofs Go.RowKit Go.Sort Go.Maps
def kL_:RV→ByteArray | .s (.str s)=>s | _=>⟨#[]⟩
structure HC_ (es:List Ent) (c:Nat):Prop where
 keys:∀ e∈es,∃ s:ByteArray,e.2.1= .s (.str s)∧s.size≤140737488351232
 born:∀ e∈es,e.1 < c
 nodB:(es.map (·.1)).Nodup
 nodK:(es.map fun e=>kL_ e.2.1).Nodup
 few:es.length≤100000
def slices_Sorted_string:Sm:=fun xs H Q=>∃ f l t cs m,keysFn f∧xs=[.g (.fn f [(l,0)])]∧H[l]? =some (.row true t cs)∧cs[0]? =some (.map m)∧
 match m with
 | none=>Q (.g (.sl none 0 1)) H
 | some k=>∃ es c,H[k]? =some (.map es c)∧HC_ es c∧∀ zs:List ByteArray,zs.Perm (es.map fun e=>kL_ e.2.1)→zs.Pairwise (fun a b=>Op.bytesLess b.data.toList a.data.toList=false)→
  (zs=[]→Q (.g (.sl none 0 1)) H)∧(zs≠[]→Q (.g (.sl (some (ln H,0)) zs.length 1)) (pu H (.row true 9 (zs.map GV.str))))
theorem CX_ (φ:List LI):∀ zs:List ByteArray,Is2 φ (zs.map GV.str) (zs.map Value.string)
 | []=> .nil
 | _::zs=> .cons rfl (CX_ φ zs)
theorem xB_ (N:cE_ φ H w) (r:w'.ownsRow w.heap.size 9 1 v zs.length (zs.map Value.string)) (G:v= .slice none 0 0↔zs=[]) (A:Below w.heap.size w w')
 (O:zs=[]→Q (.g (.sl none 0 1)) H) (I:zs≠[]→Q (.g (.sl (some (ln H,0)) zs.length 1)) (pu H (.row true 9 (zs.map GV.str)))):
 vd_ φ H w Q (.returned v) w':=by
 have ⟨_,r⟩:=r;by_cases D:zs=[]
 ·exact⟨_,H,φ,v,O D,rfl,⟨rfl,G.2 D⟩,bS_.stay N A⟩
 ·rcases r with⟨rfl,U⟩ | ⟨g,F,W,rfl,Z,J,U,Y,h3,V⟩
  ·grind
  ·have B:=bS_.made (cs:=zs.map GV.str) N A Z J (by omega) (by grind) (by rw[length_map,←Nat.mul_one zs.length,V]; exact CX_ φ zs);refine⟨_,_,_,_,I D,rfl,⟨⟨g,0,true,(zs.map GV.str).length,F⟩,_,F,?_,rfl,.inl rfl,U,by grind,fun _=>⟨rfl,by simp,Y⟩⟩,B⟩;rw[show ln H=φ.length from N.len.symm];simp
theorem Ge_ (ss:List (List UInt8)):ss.map encStr=(ss.map fun l=>(⟨l.toArray⟩:ByteArray)).map Value.string:=by
 simp_all
theorem Cy_ (r:cm_ (gp_ φ) es xs) (A:∀ e∈es,∃ s:ByteArray,e.2.1= .s (.str s)∧s.size≤140737488351232):
 ∀ x∈xs,∃ s:ByteArray,x.key= .string s∧s.size≤140737488351232:=by
 intro x I;obtain⟨n,N,rfl⟩:=kK I;have F:=r.length;have G:es[n]? =some es[n]:=kG (by omega);have ⟨s,J,D⟩:=A _ (kE (by omega:n < es.length));have:=(zd_ r G (kG N)).2.1;rw[J] at this;exact⟨s,this,D⟩
theorem C6_:∀ {es:List Ent} {xs:List MapEntry},cm_ (gp_ φ) es xs→(∀ e∈es,∃ s:ByteArray,e.2.1= .s (.str s)∧s.size≤140737488351232)→
 xs.map (·.key)=es.map (fun e=>Value.string (kL_ e.2.1))∧xs.map (·.born)=es.map (·.1)
 | [],xs,r,_=>by rw[r.nil_inv]; exact⟨rfl,rfl⟩
 | e::es,xs,r,D=>by
  obtain⟨y,xs,rfl,A,r⟩:=r.cons_inv;have ⟨N,G⟩:=C6_ r fun J I=>D J (by grind);have ⟨s,F,_⟩:=D e (by simp);have:=A.2.1;rw[F] at this;refine⟨?_,by rw[map_cons,map_cons,G,A.1]⟩;rw[map_cons,map_cons,N,F];show y.key::_=Value.string s::_;rw[this]
set_option maxRecDepth 100000 in
theorem ft_:cN_ Tryz.prog 92 slices_Sorted_string:=by
 intro as0 H Q ⟨f,l,t,cs,m,hf,e,hl,h0,hm⟩ φ w vs hr ha;subst e;obtain⟨y,rfl,hy⟩:=ha.one;obtain⟨xs,rfl,hc⟩:=hy;obtain⟨p,rfl,i,hi,rfl⟩:=hc.one;obtain⟨i',hi',hrow⟩:=hr.row l true t cs hl;rw[hi] at hi'; cases hi';obtain⟨_,hu,hlt,hp,c,t',fz,hb,_,hs,_,hle,his⟩:=hrow;obtain⟨sv,hsv,hvx⟩:=his.get h0;have hcell:w.cell? ⟨i.b,0,none⟩=some sv:=by
  rw[f3_ hb];rw[getElem?_take] at hsv;split at hsv
  ·simpa using hsv
  ·simp at hsv
 have e0:i.p+0=0:=by omega
 show Bq_ Tryz.prog 92 #[.func (.func f) #[] #[.pointer (some ⟨i.b,i.p+0,none⟩)]] w _;rw[e0];refine .inl ⟨enters_of Tryz.func92 (by kernel_rfl) rfl _ _,?_⟩;cases m with
 | none=>
  cases hvx;refine ((callsIn_wide (n:=5)).1 (Uq.sortedKeysNil hf i.b w hlt hcell)).mono ?_;rintro e w' ⟨v,ss,rfl,rfl,hown,hnil,hbel⟩;exact xB_ (zs:=[]) hr (by simpa using hown) (by simpa using hnil) hbel (fun _=>hm) fun h=>(h rfl).elim
 | some k=>
  obtain⟨es,c,hk,sm,hQ⟩:=hm;obtain⟨j,hj,hbm,xs,hblk,hal⟩:=hr.map hk;cases mQ_ hj hvx;obtain⟨k1,k2⟩:=C6_ hal sm.keys;have hlen:es.length=xs.size:=by have:=hal.length; simpa using this
  have hrd:∀ x∈xs.toList,∃ y,WideElems.rd Tryz.prog 9 Uq.anyR x=some y:=by
   intro x hx;obtain⟨s,hs,hl⟩:=Cy_ hal sm.keys x hx;have hl':s.size≤maxLen:=Nat.le_trans hl (by decide);refine⟨(.string s.data.toList,.nil),?_⟩;have:WideElems.rd Tryz.prog 9 Uq.anyR ⟨x.key,x.val,x.born⟩=_:=WideElems.rd_mk (kl:= .string s.data.toList) (yv:=(.nil,[])) (by rw[hs]; simp [keyOf,Tryz.underlying9,mapKey,hl']) rfl;exact this
  have hfit:WideElems.Fit Tryz.prog 9 Uq.anyR xs c:=by
   refine⟨by rw[←hlen]; exact Nat.le_trans sm.few (by decide),⟨?_,?_,?_⟩,hrd⟩
   ·intro x hx;have:x.born∈es.map (·.1):=by rw[←k2]; exact mem_map.2 ⟨x,hx,rfl⟩
    obtain⟨e,he,q⟩:=mem_map.1 this;rw[←q]; exact sm.born e he
   ·rw[k2]; exact sm.nodB
   ·rw[k1];have:(es.map fun e=>Value.string (kL_ e.2.1))=(es.map fun e=>kL_ e.2.1).map Value.string:=by rw[map_map]; rfl
    rw[this];exact Pairwise.map _ (fun a b h q=>h (by cases q; rfl)) sm.nodK
  let D0:DataW Unit:= .map ((xs.toList.map (WideElems.rg Tryz.prog 9 Uq.anyR)).foldr DataW.insert [])
  have hown0:w.ownsMap Tryz.prog 9 Uq.anyR j.b xs.size D0:=⟨xs,c,hblk,hfit,kO _,rfl⟩;have hsz:Maps.size D0=xs.size:=by
   show ((xs.toList.map (WideElems.rg Tryz.prog 9 Uq.anyR)).foldr DataW.insert []).length=_;rw[(WideShapes.sorted_perm _).length_eq]; simp
  have hsz2:Maps.size D0≤100000:=by rw[hsz,←hlen]; exact sm.few
  refine ((callsIn_wide (n:=5)).1 (Uq.sortedKeys hf i.b j.b xs.size D0 w hlt hcell hown0 (Nat.le_trans hsz2 (by decide)) (by omega))).mono ?_;rintro e w' ⟨v,ss,rfl,hperm,hown,hnil,hbel⟩;have hkeys:((strKeys D0).map fun l=>(⟨l.toArray⟩:ByteArray)).Perm (es.map fun e=>kL_ e.2.1):=by
   have h1:(strKeys D0).Perm ((xs.toList.map (WideElems.rg Tryz.prog 9 Uq.anyR)).map fun p=>strOf p.1):=(WideShapes.sorted_perm _).map _;refine (h1.map _).trans (Perm.of_eq ?_);rw[map_map,map_map];have:∀ x∈xs.toList,(((fun l:List UInt8=>(⟨l.toArray⟩:ByteArray)) ∘ fun p:Lit × DataW Unit=>strOf p.1) ∘ WideElems.rg Tryz.prog 9 Uq.anyR) x=(match x.key with | .string s=>s | _=>⟨#[]⟩):=by
    intro x hx;obtain⟨y,hy⟩:=hrd x hx;obtain⟨s,hs,_⟩:=Cy_ hal sm.keys x hx;show (⟨(strOf (WideElems.rg Tryz.prog 9 Uq.anyR x).1).toArray⟩:ByteArray)=_;rw[WideElems.rg_of hy];have hk:=WideElems.rd_key hy;rw[hs] at hk ⊢;simp [keyOf,Tryz.underlying9,mapKey] at hk;rw[←hk.2];simp [strOf]
   rw[map_congr_left this];have h2:(xs.toList.map fun x=>(match x.key with | .string s=>s | _=>⟨#[]⟩:ByteArray))=(xs.toList.map (·.key)).map (fun v=>match v with | .string s=>s | _=>⟨#[]⟩):=by rw[map_map]; rfl
   rw[h2,k1,map_map];rfl
  have hp2:((ss.mergeSort fun x y=>decide (x≤y)).map fun l=>(⟨l.toArray⟩:ByteArray)).Perm (es.map fun e=>kL_ e.2.1):=
   (((mergeSort_perm _ _).trans hperm).map _).trans hkeys
  have hpw:((ss.mergeSort fun x y=>decide (x≤y)).map fun l=>(⟨l.toArray⟩:ByteArray)).Pairwise (fun a b=>Op.bytesLess b.data.toList a.data.toList=false):=by
   refine Pairwise.map (R:=fun x y=>leB x y=true) _ (fun a b h=> ?_) (pairwise_mergeSort (fun a b c h1 h2=>by simp only[leB,decide_eq_true_eq] at*; exact List.le_trans h1 h2) (fun a b=>by simp only[leB,Bool.or_eq_true,decide_eq_true_eq]; exact List.le_total a b) ss);rw[bytesLess_eq];simpa [leB] using h
  obtain⟨q1,q2⟩:=hQ _ hp2 hpw;have hl2:((ss.mergeSort fun x y=>decide (x≤y)).map fun l=>(⟨l.toArray⟩:ByteArray)).length=ss.length:=by simp
  refine xB_ hr (by rw[hl2,←Ge_]; exact hown) (hnil.trans ?_) hbel q1 q2;constructor
  ·intro h; rw[h]; simp
  ·intro h;have:=congrArg length h;rw[hl2] at this;exact eq_nil_of_length_eq_zero this
end Go.Am
end
namespace Go.Am
open List
open Go.Proofs
def bytealg_abigenruntimecmpstring:Sm:=fun xs H Q=>∃ a b:ByteArray,xs=[.g (.str a),.g (.str b)]∧Q (.g (.int .i64 (Lib.compareBytes a.data.toList b.data.toList))) H
theorem eR_:cN_ Tryz.prog 222 bytealg_abigenruntimecmpstring:=by
 intro as0 H Q ⟨a,b,e,hQ⟩ φ w vs hr ha;subst e;obtain⟨x,y,rfl,hx,hy⟩:=ha.two;cases hx;cases hy;refine .inr ⟨.int .i64 (Lib.compareBytes a.data.toList b.data.toList),w,?_,_,H,φ,_,hQ,rfl,rfl,bS_.refl hr⟩;show (callFunc 222 #[.string a,.string b]).run Tryz.prog w=_;rw[run_callFunc_extern Tryz.func222 (by kernel_rfl) (by kernel_rfl) (by kernel_rfl) (e:=Extern.BytealgCompare.compare) (by kernel_rfl),Lib.run_compareString];rfl
end Go.Am
section
namespace Go.Proofs
open List
open Go.Shelf Go.RowKit Go.Lib
theorem Uq.copy_z (w:World) (N W ty D:TypeId) (i:TypeInfo) (b o A I:Nat) (a:Addr) (r F:Nat) (cs:List Value)
 (O:P.underlying N=some (.slice D)) (hi:P.info? D=some i) (U:cs.length=Nat.min r A*i.size)
 (G:∀ j v,cs[j]? =some v→w.cell? (a.add j)=some v) (hc:∀ j,j < cs.length→(w.cell? ⟨b,o+j,none⟩).isSome=true) (Z:∀ j,j < cs.length→w.frozen? ⟨b,o+j,none⟩=false) (Y:∀ v∈cs,v.oneCell'=true):
 (Builtin.copy_ #[N,W] ty #[.slice (some ⟨b,o,none⟩) A I,.slice (some a) r F]).run P w= .ok (goInt (Nat.min r A)) (w.setCells b o cs):=by
 have V:=run_loadCells_list (P:=P) w a cs G;have J:=run_storeCells_cells (P:=P) b o cs 0 w (by omega) (by omega) Y;simp [Builtin.copy_,run_underlying O,Builtin.lenOf,Builtin.firstCells,sizeOf,typeInfo,hi,←U,V,J]
theorem Uq.infoFile:(Tryz.prog.info? 122).map (fun i=>(i.zero,i.size,i.bytes))=some (some (.agg #[.string ⟨#[]⟩,.string ⟨#[]⟩,.bool false]),3,40):=by kernel_rfl
set_option maxHeartbeats 4000000 in
set_option maxRecDepth 100000 in
theorem Uq.insF_shift (b n c i vb vc:Nat) (cs vs:List Value) (w:World) (hi:i < n) (hroom:n+1≤c) (hc63:c≤9223372036854775807) (hvb:vb≠b)
 (hcl:cs.length=n*3) (hvl:vs.length=3)
 (hcs:∀ j v,cs[j]? =some v→w.cell? ⟨b,j,none⟩=some v) (hsp:∀ j,j < (n+1)*3→(w.cell? ⟨b,j,none⟩).isSome=true) (hfz:∀ j,j < (n+1)*3→w.frozen? ⟨b,j,none⟩=false)
 (hvs:∀ j v,vs[j]? =some v→w.cell? ⟨vb,j,none⟩=some v) (h1c:∀ v∈cs,v.oneCell'=true) (h1v:∀ v∈vs,v.oneCell'=true)
 (tA tB:TypeId) (kA kB:Nat) (hsa:w.shape? vb=some (tA,kA)) (hsb:w.shape? b=some (tB,kB)) (hkB:kB≠0) (hfa:w.frozen? ⟨vb,0,none⟩=false) (hfe:w.frozen? ⟨vb,kA,none⟩=false):
 Calls Tryz.prog 150 #[.slice (some ⟨b,0,none⟩) n c,.int .i64 i,.slice (some ⟨vb,0,none⟩) 1 vc] w fun e w'=>
  e= .returned (.slice (some ⟨b,0,none⟩) (n+1) c)∧w'=(w.drew.setCells b ((i+1)*3) (cs.drop (i*3))).setCells b (i*3) vs:=by
 have hz2: ¬ ((i:Int)=(n:Int)):=by omega
 obtain⟨i0,hi0,hz0,hz1,hz2'⟩:=info_parts Uq.infoFile;have hov:∀ o lb cb,(callFunc 173 #[.slice (some ⟨vb,0,none⟩) 1 vc,.slice (some ⟨b,o,none⟩) lb cb]).run Tryz.prog w= .ok (.value (.bool false)) w:=fun o lb cb=>by
  rw[run_callFunc_extern Tryz.func173 (by kernel_rfl) (by kernel_rfl) (by kernel_rfl) (e:=Extern.SlicesOverlaps.overlaps #[43,43] #[4]) (by kernel_rfl),
   Lib.run_overlaps_apart w 43 4 122 Tryz.underlying43 3 (fun w=>by simp [sizeOf,typeInfo,hi0,hz1]) ⟨vb,0,none⟩ ⟨b,o,none⟩ 1 vc lb cb hvb tA tB kA kB hsa hsb hkB hfa hfe]
  rfl
 have mixed:Tryz.prog.follows .mixedOrders=true:=by kernel_rfl
 have hdl:(cs.drop (i*3)).length=(n - i)*3:=by rw[length_drop,hcl]; omega
 have hw1:IntKind.i64.wrap ((i:Int)+1)=(i:Int)+1:=by rw[IntKind.wrap_i64]; omega
 have hb1:(0:Int)≤(i:Int)+1:=by omega
 have hin:i≤n:=by omega
 have htn:((i:Int)+1).toNat=i+1:=by omega
 have hb2: ¬ (c=i+1):=by omega
 have hb3:(i:Int)≤(n:Int)+1:=by omega
 have hb4: ¬ (c=i):=by omega
 have hmn:Nat.min (n+1 - i) (n - i)=n - i:=by simp only[Nat.min_def]; split<;>omega
 have hcp1:∀ ty dc sc,(Builtin.copy_ #[43,43] ty #[.slice (some ⟨b,(i+1)*3,none⟩) (n - i) dc,.slice (some ⟨b,i*3,none⟩) (n+1 - i) sc]).run Tryz.prog w.drew= .ok (goInt (n - i:Nat)) (w.drew.setCells b ((i+1)*3) (cs.drop (i*3))):=fun ty dc sc=>by
  have h:=Uq.copy_z (P:=Tryz.prog) w.drew 43 43 ty 122 i0 b ((i+1)*3) (n - i) dc ⟨b,i*3,none⟩ (n+1 - i) sc (cs.drop (i*3)) Tryz.underlying43 hi0 (by rw[hdl,hmn,hz1])
   (fun j v hj=>by rw[Addr.add_lit]; exact hcs (i*3+j) v (by rwa [getElem?_drop] at hj))
   (fun j hj=>hsp _ (by omega)) (fun j hj=>hfz _ (by omega)) (fun v hv=>h1c v (mem_of_mem_drop hv))
  rw[hmn] at h;exact h
 obtain⟨W1,hW1⟩:∃ W1,W1=w.drew.setCells b ((i+1)*3) (cs.drop (i*3)):=⟨_,rfl⟩;have hsp1:∀ k,k < (n+1)*3→(W1.cell? ⟨b,k,none⟩).isSome=true:=fun k hk=>by
  rw[hW1];exact isSome_setCells b (cs.drop (i*3)) ((i+1)*3) w.drew (fun j hj=>hsp _ (by omega)) _ (hsp k hk)
 have hmn2:Nat.min 1 (n+1 - i)=1:=by simp only[Nat.min_def]; split<;>omega
 have hcp2:∀ (W:World),(∀ x,W.cell? x=W1.cell? x)→(∀ x,W.frozen? x=W1.frozen? x)→∀ ty dc,(Builtin.copy_ #[43,43] ty #[.slice (some ⟨b,i*3,none⟩) (n+1 - i) dc,.slice (some ⟨vb,0,none⟩) 1 vc]).run Tryz.prog W= .ok (goInt 1) (W.setCells b (i*3) vs):=fun W hWc hWf ty dc=>by
  have h:=Uq.copy_z (P:=Tryz.prog) W 43 43 ty 122 i0 b (i*3) (n+1 - i) dc ⟨vb,0,none⟩ 1 vc vs Tryz.underlying43 hi0 (by rw[hvl,hmn2,hz1])
   (fun j v hj=>by
    rw[Addr.add_lit,hWc,hW1,World.cell?_setCells_out b _ _ _ _ (fun h _=>absurd h hvb),Nat.zero_add];exact hvs j v hj)
   (fun j hj=>by rw[hWc]; exact hsp1 _ (by omega)) (fun j hj=>by rw[hWf,hW1,World.frozen?_setCells]; exact hfz _ (by omega)) h1v
  rw[hmn2] at h;exact h
 rw[←hW1] at hcp1;go_enter Tryz.func150,Tryz.ntmps150;go_wp2_with (simp only[hov]);go_region_law_o (refine step_copy_runI rfl _ _ 43 43 rfl _ _ (by simp [Act.eval,Act.put]) (by simp [Act.eval,Act.put]) (hcp1 _ _ _) ?_);go_wp2_with (at_builtin; refine wpList_copy_runI _ rfl _ _ 43 43 rfl _ _ rfl rfl (hcp2 _ (fun _=>rfl) (fun _=>rfl) _ _) ?_);go_ret
 first | exact⟨rfl,rfl⟩ | exact⟨rfl,by rw[hW1]⟩
end Go.Proofs
namespace Go.Proofs
open List
open Go.Shelf Go.RowKit Go.Lib
set_option maxHeartbeats 4000000 in
set_option maxRecDepth 100000 in
theorem Uq.insF_grow (b n c i vb vc:Nat) (cs vs:List Value) (w:World) (hi:i < n) (hnc:n≤c) (hroom:c < n+1) (hbig:(n+1)*40≤140737488355328)
 (hcl:cs.length=n*3) (hvl:vs.length=3)
 (hcs:∀ j v,cs[j]? =some v→w.cell? ⟨b,j,none⟩=some v)
 (hvs:∀ j v,vs[j]? =some v→w.cell? ⟨vb,j,none⟩=some v) (h1c:∀ v∈cs,v.oneCell'=true) (h1v:∀ v∈vs,v.oneCell'=true):
 Calls Tryz.prog 150 #[.slice (some ⟨b,0,none⟩) n c,.int .i64 i,.slice (some ⟨vb,0,none⟩) 1 vc] w fun e w'=>
  e= .returned (.slice (some ⟨w.heap.size,0,none⟩) (n+1) (grownCap w (n+1) c 122))∧
  w'=(((w.alloc (.cells ((cs.take (i*3)).toArray++Builtin.zeroCells #[.string ⟨#[]⟩,.string ⟨#[]⟩,.bool false] (n+1 - i)++Builtin.zeroCells #[.string ⟨#[]⟩,.string ⟨#[]⟩,.bool false] (grownCap w (n+1) c 122 - (n+1))) 122)).drew.setCells w.heap.size (i*3) vs).drew).setCells w.heap.size ((i+1)*3) (cs.drop (i*3)):=by
 obtain⟨i0,hi0,hz0,hzs,hzb⟩:=info_parts Uq.infoFile;have mixed:Tryz.prog.follows .mixedOrders=true:=by kernel_rfl
 have hz2: ¬ ((i:Int)=(n:Int)):=by omega
 have hz3:(c:Int) < (n:Int)+1:=by omega
 have hbw:b < w.heap.size:=block_lt_of_cell (hcs 0 _ (getElem?_eq_getElem (by omega)));have hvw:vb < w.heap.size:=block_lt_of_cell (hvs 0 _ (getElem?_eq_getElem (by omega)));have hkk:(n:Int)+1 - (i:Int)=((n+1 - i:Nat):Int):=by omega
 have hik:i+(n+1 - i)=n+1:=by omega
 have hold:(Builtin.firstCells i0.size i (.slice (some ⟨b,0,none⟩) i c)).run Tryz.prog w.drew= .ok (cs.take (i*3)).toArray w.drew:=by
  rw[hzs];exact run_firstCells_some w.drew 3 i ⟨b,0,none⟩ i c (cs.take (i*3)) (by rw[length_take]; omega) (fun j v hj=>by
   rw[Addr.add_lit,Nat.zero_add];rw[getElem?_take] at hj;split at hj
   ·exact hcs j v hj
   ·cases hj)
 have hrz:∀ ty,(Builtin.append_ #[43,3] ty #[.slice (some ⟨b,0,none⟩) i c,.int .i64 ((n:Int)+1 - (i:Int))]).run Tryz.prog w=
  .ok (.slice (some ⟨w.heap.size,0,none⟩) (n+1) (grownCap w (n+1) c 122)) (w.drew.alloc (.cells ((cs.take (i*3)).toArray++Builtin.zeroCells #[.string ⟨#[]⟩,.string ⟨#[]⟩,.bool false] (n+1 - i)++Builtin.zeroCells #[.string ⟨#[]⟩,.string ⟨#[]⟩,.bool false] (grownCap w (n+1) c 122 - (n+1))) 122)):=fun ty=>by
  have h:=Lib.run_append_grow_zeros w 43 3 ty 122 i0 _ .i64 .i64 Tryz.underlying43 Tryz.underlying3 hi0 hz0 (some ⟨b,0,none⟩) i c (cs.take (i*3)) hold (n+1 - i) (by omega) (by omega) (by omega) (by omega) (by rw[hzb]; omega) (by rw[hzb,hik]; exact growslice_fits hroom hbig);rw[hik] at h;rw[hkk];exact h
 obtain⟨G,hG⟩:∃ G,G=grownCap w (n+1) c 122:=⟨_,rfl⟩;obtain⟨ROW,hROW⟩:∃ ROW:Array Value,ROW=(cs.take (i*3)).toArray++Builtin.zeroCells #[.string ⟨#[]⟩,.string ⟨#[]⟩,.bool false] (n+1 - i)++Builtin.zeroCells #[.string ⟨#[]⟩,.string ⟨#[]⟩,.bool false] (G - (n+1)):=⟨_,rfl⟩;rw[←hG] at hrz ⊢;rw[←hROW] at hrz ⊢;have hRl:(n+1)*3≤ROW.size:=by
  rw[hROW];simp [Builtin.zeroCells];omega
 obtain⟨W1,hW1⟩:∃ W1,W1=w.drew.alloc (.cells ROW 122):=⟨_,rfl⟩;rw[←hW1] at hrz;have hN:∀ j,j < (n+1)*3→(W1.cell? ⟨w.heap.size,j,none⟩).isSome=true:=fun j hj=>by
  rw[hW1,World.cell?_alloc_at (w:=w.drew) ROW _ w.heap.size j rfl,Array.getElem?_eq_getElem (by omega)]; rfl
 have hNf:∀ j,W1.frozen? ⟨w.heap.size,j,none⟩=false:=fun j=>by rw[hW1]; exact World.frozen?_alloc_at (w:=w.drew) ROW _ w.heap.size j rfl
 have hOb:∀ j v,w.cell? ⟨b,j,none⟩=some v→W1.cell? ⟨b,j,none⟩=some v:=fun j v h=>by rw[hW1,World.cell?_alloc_past (w:=w.drew) _ b j hbw]; exact h
 have hOv:∀ j v,w.cell? ⟨vb,j,none⟩=some v→W1.cell? ⟨vb,j,none⟩=some v:=fun j v h=>by rw[hW1,World.cell?_alloc_past (w:=w.drew) _ vb j hvw]; exact h
 have hmA:Nat.min 1 (n+1 - i)=1:=by simp only[Nat.min_def]; split<;>omega
 have hcpA:∀ (W:World),(∀ x,W.cell? x=W1.cell? x)→(∀ x,W.frozen? x=W1.frozen? x)→∀ ty dc,(Builtin.copy_ #[43,43] ty #[.slice (some ⟨w.heap.size,i*3,none⟩) (n+1 - i) dc,.slice (some ⟨vb,0,none⟩) 1 vc]).run Tryz.prog W= .ok (goInt 1) (W.setCells w.heap.size (i*3) vs):=fun W hWc hWf ty dc=>by
  have h:=Uq.copy_z (P:=Tryz.prog) W 43 43 ty 122 i0 w.heap.size (i*3) (n+1 - i) dc ⟨vb,0,none⟩ 1 vc vs Tryz.underlying43 hi0 (by rw[hvl,hmA,hzs])
   (fun j v hj=>by rw[Addr.add_lit,hWc,Nat.zero_add]; exact hOv _ v (hvs j v hj))
   (fun j hj=>by rw[hWc]; exact hN _ (by omega)) (fun j hj=>by rw[hWf]; exact hNf _) h1v
  rw[hmA] at h;exact h
 have hGn:n+1≤G:=by rw[hG]; exact grownCap_ge w _ _ _
 have hG63:G≤9223372036854775807:=by
  have:=grownCap_le_maxLen w (n+1) c 122 (by unfold maxLen; omega);rw[←hG] at this;unfold maxLen at this;omega
 have hGi: ¬ (G=i):=by omega
 have hGim: ¬ (G=i+1):=by omega
 have hci: ¬ (c=i):=by omega
 have hbN:b≠w.heap.size:=by omega
 have hdl:(cs.drop (i*3)).length=(n - i)*3:=by rw[length_drop,hcl]; omega
 have hmB:Nat.min (n - i) (n - i)=n - i:=by simp only[Nat.min_def]; split<;>omega
 have hcpB:∀ (W:World),(∀ x,W.cell? x=(W1.setCells w.heap.size (i*3) vs).cell? x)→(∀ x,W.frozen? x=(W1.setCells w.heap.size (i*3) vs).frozen? x)→∀ ty dc sc,(Builtin.copy_ #[43,43] ty #[.slice (some ⟨w.heap.size,(i+1)*3,none⟩) (n - i) dc,.slice (some ⟨b,i*3,none⟩) (n - i) sc]).run Tryz.prog W= .ok (goInt (n - i:Nat)) (W.setCells w.heap.size ((i+1)*3) (cs.drop (i*3))):=fun W hWc hWf ty dc sc=>by
  have h:=Uq.copy_z (P:=Tryz.prog) W 43 43 ty 122 i0 w.heap.size ((i+1)*3) (n - i) dc ⟨b,i*3,none⟩ (n - i) sc (cs.drop (i*3)) Tryz.underlying43 hi0 (by rw[hdl,hmB,hzs])
   (fun j v hj=>by
    rw[Addr.add_lit,hWc,World.cell?_setCells_out _ _ _ _ _ (fun h _=>absurd h hbN)];exact hOb _ v (hcs (i*3+j) v (by rwa [getElem?_drop] at hj)))
   (fun j hj=>by rw[hWc]; exact isSome_setCells _ vs (i*3) W1 (fun t ht=>hN _ (by omega)) _ (hN _ (by omega)))
   (fun j hj=>by rw[hWf,World.frozen?_setCells]; exact hNf _) (fun v hv=>h1c v (mem_of_mem_drop hv))
  rw[hmB] at h;exact h
 subst hW1;have hE1:∀ x,((w.alloc (.cells ROW 122)).drew).cell? x=(w.drew.alloc (.cells ROW 122)).cell? x:=fun x=>rfl;have hE2:∀ x,((w.alloc (.cells ROW 122)).drew).frozen? x=(w.drew.alloc (.cells ROW 122)).frozen? x:=fun x=>rfl;have hF1:∀ x,(((w.alloc (.cells ROW 122)).drew.setCells w.heap.size (i*3) vs).drew).cell? x=((w.drew.alloc (.cells ROW 122)).setCells w.heap.size (i*3) vs).cell? x:=fun x=>rfl;have hF2:∀ x,(((w.alloc (.cells ROW 122)).drew.setCells w.heap.size (i*3) vs).drew).frozen? x=((w.drew.alloc (.cells ROW 122)).setCells w.heap.size (i*3) vs).frozen? x:=fun x=>rfl;have hw1:IntKind.i64.wrap ((i:Int)+1)=(i:Int)+1:=by rw[IntKind.wrap_i64]; omega
 have hb1:(0:Int)≤(i:Int)+1:=by omega
 have hin:i≤n:=by omega
 have htn:((i:Int)+1).toNat=i+1:=by omega
 have hb3:(i:Int)≤(n:Int):=by omega
 clear hkk hik hold hROW hG hRl;go_enter Tryz.func150,Tryz.ntmps150;go_wp2_with (first
  | (at_builtin; refine Lib.wpList_append_run _ rfl _ _ _ _ rfl _ _ rfl rfl _ _ (hrz _) ?_)
  | (at_builtin; refine wpList_copy_runI _ rfl _ _ 43 43 rfl _ _ rfl rfl (hcpA _ hE1 hE2 _ _) ?_)
  | (at_builtin; refine wpList_copy_runI _ rfl _ _ 43 43 rfl _ _ rfl rfl (hcpB _ (fun _=>rfl) (fun _=>rfl) _ _ _) ?_))
 go_region_law_o (refine step_copy_runI rfl _ _ 43 43 rfl (.slice (some ⟨w.heap.size,(i+1)*3,none⟩) (n - i) (G - (i+1))) (.slice (some ⟨b,i*3,none⟩) (n - i) (c - i)) (by simp [Act.eval,Act.put]) (by simp [Act.eval,Act.put]) (hcpB _ hF1 hF2 3 (G - (i+1)) (c - i)) ?_);go_wp2;go_ret;exact⟨rfl,rfl⟩
end Go.Proofs
end
section
namespace Go.Proofs
open List
open Go.Shelf Go.RowKit Go.Lib
theorem Uq.srcF (w:World) (F I:Nat) (vs:List Value) (A:vs.length=3) (D:∀ j v,vs[j]? =some v→w.cell? ⟨F,j,none⟩=some v):Go.Am.Src Tryz.prog w 3 (.slice (some ⟨F,0,none⟩) 1 I) 1 vs:=by
 refine⟨fun G=>by simp [Builtin.lenOf],fun G N=> ?_⟩;have O:=run_loadCells_list (P:=Tryz.prog) G ⟨F,0,none⟩ vs (fun j v J=>by
  rw[Addr.add_lit,Nat.zero_add];have:=D j v J;unfold World.cell?;rw[N]; exact this)
 rw[A] at O;simpa
set_option maxHeartbeats 4000000 in
set_option maxRecDepth 100000 in
theorem Uq.insF_end_room (b n c vb vc:Nat) (vs:List Value) (w:World) (hroom:n+1≤c) (hc63:c≤9223372036854775807) (hvl:vs.length=3)
 (hsp:∀ j,j < 3→(w.cell? ⟨b,n*3+j,none⟩).isSome=true) (hfz:∀ j,j < 3→w.frozen? ⟨b,n*3+j,none⟩=false)
 (hvs:∀ j v,vs[j]? =some v→w.cell? ⟨vb,j,none⟩=some v) (h1v:∀ v∈vs,v.oneCell'=true):
 Calls Tryz.prog 150 #[.slice (some ⟨b,0,none⟩) n c,.int .i64 n,.slice (some ⟨vb,0,none⟩) 1 vc] w fun e w'=>
  e= .returned (.slice (some ⟨b,0,none⟩) (n+1) c)∧w'=w.setCells b (n*3) vs:=by
 obtain⟨i0,hi0,hz0,hzs,hzb⟩:=info_parts Uq.infoFile;have mixed:Tryz.prog.follows .mixedOrders=true:=by kernel_rfl
 have hst:=run_storeCells_cells (P:=Tryz.prog) b (n*3) vs 0 w (by rw[hvl]; simpa using hsp) (by rw[hvl]; simpa using hfz) h1v;have hrun:∀ ty,(Builtin.append_ #[43,43] ty #[.slice (some ⟨b,0,none⟩) n c,.slice (some ⟨vb,0,none⟩) 1 vc]).run Tryz.prog w= .ok (.slice (some ⟨b,0,none⟩) (n+1) c) (w.setCells b (n*3) vs):=fun ty=>by
  have h:=Go.Am.run_append_in (P:=Tryz.prog) (ty:=ty) (w:=w) Tryz.underlying43 Tryz.underlying43 (.inl ⟨_,rfl⟩) hi0 hz0 (b:=⟨b,0,none⟩) (n:=n) (c:=c) (by rw[hzs]; exact Uq.srcF w vb vc vs hvl hvs) hroom;rw[h,hzs,Addr.add_lit,Nat.zero_add,hst];simp
 go_enter Tryz.func150,Tryz.ntmps150;go_wp2_with (at_builtin; refine Lib.wpList_append_run _ rfl _ _ _ _ rfl _ _ rfl rfl _ _ (hrun _) ?_);go_ret;exact⟨rfl,rfl⟩
set_option maxHeartbeats 4000000 in
set_option maxRecDepth 100000 in
theorem Uq.insF_end_grow (base:Option Addr) (n c vb vc:Nat) (cs vs:List Value) (w:World) (hnc:n≤c) (hroom:c < n+1) (hbig:(n+1)*40≤140737488355328)
 (hcl:cs.length=n*3) (hvl:vs.length=3) (hnil:base=none→n=0)
 (hcs:∀ a,base=some a→∀ j v,cs[j]? =some v→w.cell? (a.add j)=some v)
 (hvs:∀ j v,vs[j]? =some v→w.cell? ⟨vb,j,none⟩=some v):
 Calls Tryz.prog 150 #[.slice base n c,.int .i64 n,.slice (some ⟨vb,0,none⟩) 1 vc] w fun e w'=>
  e= .returned (.slice (some ⟨w.heap.size,0,none⟩) (n+1) (grownCap w (n+1) c 122))∧
  w'=w.drew.alloc (.cells ((cs++vs).toArray++Builtin.zeroCells #[.string ⟨#[]⟩,.string ⟨#[]⟩,.bool false] (grownCap w (n+1) c 122 - (n+1))) 122):=by
 obtain⟨i0,hi0,hz0,hzs,hzb⟩:=info_parts Uq.infoFile;have mixed:Tryz.prog.follows .mixedOrders=true:=by kernel_rfl
 have hold:(Builtin.firstCells i0.size n (.slice base n c)).run Tryz.prog w.drew= .ok cs.toArray w.drew:=by
  rw[hzs];cases base with
  | none=>
   have h0:=hnil rfl;subst h0;have hc0:cs=[]:=length_eq_zero_iff.1 (by simpa using hcl);rw[hc0];exact run_firstCells_none w.drew 3 0 0 c
  | some a=>exact run_firstCells_some w.drew 3 n a n c cs (by omega) (fun j v hj=>hcs a rfl j v hj)
 have hrun:∀ ty,(Builtin.append_ #[43,43] ty #[.slice base n c,.slice (some ⟨vb,0,none⟩) 1 vc]).run Tryz.prog w= .ok (.slice (some ⟨w.heap.size,0,none⟩) (n+1) (grownCap w (n+1) c 122))
  (w.drew.alloc (.cells ((cs++vs).toArray++Builtin.zeroCells #[.string ⟨#[]⟩,.string ⟨#[]⟩,.bool false] (grownCap w (n+1) c 122 - (n+1))) 122)):=fun ty=>by
  have h:=Go.Am.run_append_up (P:=Tryz.prog) (ty:=ty) (w:=w) Tryz.underlying43 Tryz.underlying43 (.inl ⟨_,rfl⟩) hi0 hz0 (base:=base) (n:=n) (c:=c) (by rw[hzs]; exact Uq.srcF w vb vc vs hvl hvs) hold hroom (by omega) (by rw[hzb]; exact growslice_fits hroom hbig);rw[h];congr 3;simp;rfl
 go_enter Tryz.func150,Tryz.ntmps150;cases base with
 | none=>
  have h0:=hnil rfl;subst h0;go_wp2_with (at_builtin; refine Lib.wpList_append_run _ rfl _ _ _ _ rfl _ _ rfl rfl _ _ (hrun _) ?_);go_ret;exact⟨rfl,rfl⟩
 | some a=>
  obtain⟨ab,ao,asp⟩:=a;go_wp2_with (at_builtin; refine Lib.wpList_append_run _ rfl _ _ _ _ rfl _ _ rfl rfl _ _ (hrun _) ?_)
  all_goals (go_ret; exact⟨rfl,rfl⟩)
end Go.Proofs
end
section
namespace Go.Am
open List
open Go.Proofs Go.RowKit
theorem cm_.three {a b c:α} {vs:List β} (h:cm_ R [a,b,c] vs):∃ x y z,vs=[x,y,z]∧R a x∧R b y∧R c z:=by
 obtain⟨x,vs,rfl,D,h⟩:=h.cons_inv;obtain⟨y,vs,rfl,A,h⟩:=h.cons_inv;obtain⟨z,vs,rfl,r,h⟩:=h.cons_inv;rw[h.nil_inv];grind
def slices_Insert__api_File_api_File:Sm:=fun xs H Q=>∃ a n i lv vs,xs=[.g (.sl a n 3),.g (.int .i64 ((i:Nat):Int)),.g (.sl (some (lv,0)) 1 3)]∧i≤n∧(n+1)*40≤Lim∧H[lv]? =some (.row false tn_ vs)∧vs.length=3∧
 ((a=none∧n=0∧Q (.g (.sl (some (ln H,0)) 1 3)) (pu H (.row true 122 vs)))∨
  ∃ l zs,a=some (l,0)∧H[l]? =some (.row true 122 zs)∧zs.length=n*3∧Q (.g (.sl (some (ln H,0)) (n+1) 3)) (pu (H.set l .dead) (.row true 122 (zs.take (i*3)++(vs++zs.drop (i*3))))))
theorem gt_ (b:Nat) (t:TypeId) (D:Nat × Nat):∀ (vs:List Value) (o:Nat) (c:Array Value) (w:World),w.heap[b]? =some (.cells c t D)→o+vs.length≤c.size→
 ∃ c',dL_ (fun I=>I=b) w (w.setCells b o vs)∧(w.setCells b o vs).heap[b]? =some (.cells c' t D)∧c'.toList=c.toList.take o++vs++c.toList.drop (o+vs.length)
 | [],o,c,w,A,_=>⟨c,dL_.refl _ _,A,by simp⟩
 | v::vs,o,c,w,A,J=>by
  have ⟨c',F,r,G⟩:=gt_ b t D vs (o+1) (c.setIfInBounds o v) (w.setCell ⟨b,o,none⟩ v) (iP_ A) (by grind);refine⟨c',(kT_ w b o v).trans F (fun b h=> .inl h),r,?_⟩;have:=iR_ c.toList o v vs (by grind);grind
theorem zl_ (k:Nat):(Builtin.zeroCells #[.string ⟨#[]⟩,.string ⟨#[]⟩,.bool false] k).size=k*3:=by simp [Builtin.zeroCells]
set_option maxHeartbeats 2000000 in
set_option maxRecDepth 100000 in
theorem eu_:cN_ Tryz.prog 150 slices_Insert__api_File_api_File:=by
 intro as0 H Q ⟨a,n,i,lv,vs,e,hi,hlim,hlv,hvl,hcase⟩ φ w us hr ha;subst e;obtain⟨x,y,z,rfl,hx,hy,hz'⟩:=ha.three;subst hy;obtain⟨iv,ad,cv,hiv,rfl,hqv,hncv,huv,_⟩:=hz';obtain⟨iv',hiv',r1,r2,r3,r4,r5⟩:=hr.row lv false tn_ vs hlv;rw[hiv] at hiv'; cases hiv';obtain⟨hp,cv0,ev,hbv⟩:=r5 rfl;obtain⟨iv',hiv',_,xv,hxis,hxc⟩:=hr.cells (l:=lv) (o:=0) (n:=3) (cs:=vs) (by simp only[cells?,hlv]; rw[if_pos (by omega),drop_zero,take_of_length_le (by omega)]);rw[hiv] at hiv'; cases hiv';have hqv:=hqv.resolve_right (by omega);rw[hp] at hqv hxc;subst hqv;have hxl:xv.length=3:=by rw[←hxis.length,hvl]
 have hvs:∀ j u,xv[j]? =some u→w.cell? ⟨iv.b,j,none⟩=some u:=fun j u hj=>by have:=hxc j u hj; simpa using this
 have h1v:=hxis.one;have hlim':(n+1)*40≤140737488355328:=hlim;have hgc:∀ c,n+1≤grownCap w (n+1) c 122:=fun c=>grownCap_ge w (n+1) c 122;have hgm:∀ c,grownCap w (n+1) c 122≤9223372036854775807:=fun c=>grownCap_le_maxLen w (n+1) c 122 (by unfold maxLen; omega);refine .inl ⟨enters_of Tryz.func150 (by kernel_rfl) rfl _ _,?_⟩;rcases hcase with⟨rfl,rfl,hQ⟩ | ⟨l,zs,rfl,hl,hzl,hQ⟩
 ·obtain⟨_,rfl⟩:=hx;have hi0:i=0:=by omega
  subst hi0;refine (Uq.insF_end_grow none 0 0 iv.b cv [] xv w (by omega) (by omega) hlim' rfl hxl (fun _=>rfl) (by intro a h; cases h) hvs).mono ?_;rintro e w' ⟨rfl,rfl⟩;have B:=(bS_.drew hr).trans (bS_.new (bS_.drew hr).rep 122 vs (([]++xv).toArray++Builtin.zeroCells #[.string ⟨#[]⟩,.string ⟨#[]⟩,.bool false] (grownCap w (0+1) 0 122 - (0+1))) (0,0) (by simp; omega) (by
   have e:(([]++xv).toArray++Builtin.zeroCells #[.string ⟨#[]⟩,.string ⟨#[]⟩,.bool false] (grownCap w (0+1) 0 122 - (0+1))).toList.take vs.length=xv:=by
    rw[Array.toList_append];exact List.take_left' (by simp [hxl,hvl])
   rw[e]; exact hxis) (fun j _ h=>by simp at h))
  refine⟨_,_,_,_,hQ,rfl,?_,B⟩;refine⟨_,_,_,by simp only[ln,←hr.len]; exact getElem?_concat_length,rfl,.inl rfl,hgc 0,?_,fun _=>⟨rfl,?_,hgm 0⟩⟩
  ·have:=hgc 0; show vs.length≤_; omega
  ·have:=hgc 0; simp only[Array.size_append,zl_]; simp [hxl]; omega
 ·obtain⟨il,al,c,hil,rfl,hq,hnc,hu,ho⟩:=hx;obtain⟨il',hil',ho',hu',hlt,hpl,cur,t',fz,hb,ht',hs,hfz,hle,his⟩:=hr.row l true 122 zs hl;rw[hil] at hil'; cases hil';obtain⟨_,hcs,hc63⟩:=ho ho';have hcl:=his.length;have hcurl:cur.toList.length=il.s:=by simpa using hs
  have hxl':(cur.toList.take zs.length).length=n*3:=by rw[←hcl,hzl]
  have hcells:∀ j u,(cur.toList.take zs.length)[j]? =some u→w.cell? ⟨il.b,j,none⟩=some u:=by
   intro j u hj;rw[f3_ hb];rw[getElem?_take] at hj;split at hj
   ·simpa using hj
   ·cases hj
  have h1c:=his.one;have hnl:(zs.take (i*3)++(vs++zs.drop (i*3))).length=(n+1)*3:=by simp [hzl,hvl]; omega
  by_cases hroom:n+1≤c
  ·have hpos:0 < il.s:=by omega
   have hq':al=⟨il.b,0,none⟩:=by
    rcases hq with h | h
    ·rw[h,hpl]
    ·omega
   subst hq';have hvb:iv.b≠il.b:=fun e=>hr.rows l lv 122 zs false tn_ vs il iv hl hlv (fun q=>by subst q; rw[hl] at hlv; cases hlv) hil hiv hpos e.symm;have hsp:∀ j,j < il.s→(w.cell? ⟨il.b,j,none⟩).isSome=true:=by
    intro j hj;rw[f3_ hb,Array.getElem?_eq_getElem (by omega)]; rfl
   have hfr:∀ j,j < il.s→w.frozen? ⟨il.b,j,none⟩=false:=by
    intro j hj;obtain⟨f1,f2⟩:=fz;simp only[World.frozen?,hb];by_cases q:f1≤j∧j < f2
    ·have:=(hfz _ q.1 q.2).1; omega
    ·simp; omega
   have main:∀ w',dL_ (fun b=>b=il.b) w w'→(∃ c',w'.heap[il.b]? =some (.cells c' t' fz)∧c'.toList=cur.toList.take (i*3)++(xv++(cur.toList.take (n*3)).drop (i*3))++cur.toList.drop ((n+1)*3))→
    ∃ r H' φ' x,Q r H'∧Ending.returned (.slice (some ⟨il.b,0,none⟩) (n+1) c)= .returned x∧r.is φ' x∧bS_ φ H w φ' H' w':=by
    rintro w' hk ⟨c',hb',hc'⟩;have e1:(cur.toList.take (i*3)++(xv++(cur.toList.take (n*3)).drop (i*3))).length=(n+1)*3:=by simp [hcurl,hxl]; omega
    have hc'l:c'.toList.length=il.s:=by rw[hc',kI,e1,length_drop,hcurl]; omega
    have hsz':c'.size=il.s:=by simpa using hc'l
    have B:=bS_.pass (i':=⟨il.b,0,true,(n+1)*3,il.s⟩) (t':=122) (cs':=zs.take (i*3)++(vs++zs.drop (i*3))) hr hl hil hpos rfl hk
     ⟨rfl,hnl.symm,Nat.lt_of_lt_of_le hlt hk.size,rfl,c',t',fz,hb',ht',hsz',hfz,(by rw[hnl,hsz']; omega),by
      rw[hnl,hc',List.take_left' e1];have h3:Is2 φ zs (cur.toList.take (n*3)):=by rw[←hzl]; exact his
      have h4:=h3.take (i*3);have h5:=h3.drop (i*3);rw[take_take,Nat.min_eq_left (by omega)] at h4;exact (cm_.append (Is2.mono (prefix_append _ _) h4) (cm_.append (Is2.mono (prefix_append _ _) hxis) (Is2.mono (prefix_append _ _) h5)))⟩
    refine⟨_,_,_,_,hQ,rfl,?_,by simpa [pu] using B⟩;refine⟨_,_,c,by simp only[ln,←hr.len]; exact getElem?_concat_length,rfl,.inl rfl,hroom,?_,fun _=>⟨rfl,?_,hc63⟩⟩
    ·show (n+1)*3≤0+c*3; omega
    ·show 0+c*3≤il.s; omega
   by_cases hin:i=n
   ·subst hin;refine (Uq.insF_end_room il.b i c iv.b cv xv w hroom hc63 hxl (fun j hj=>hsp _ (by omega)) (fun j hj=>hfr _ (by omega)) hvs h1v).mono ?_;rintro e w' ⟨rfl,rfl⟩;obtain⟨c',h1,h2,h3⟩:=gt_ il.b t' fz xv (i*3) cur w hb (by rw[hxl]; omega);refine main _ h1 ⟨c',h2,?_⟩;rw[h3,hxl,drop_of_length_le (l:=cur.toList.take (i*3)) (by rw[length_take]; omega),append_nil];congr 2;omega
   ·obtain⟨tA,tB,hsa,hsb⟩:∃ tA tB,w.shape? iv.b=some (tA,cv0.size)∧w.shape? il.b=some (tB,cur.size):=⟨ev,t',by simp [World.shape?,hbv],by simp [World.shape?,hb]⟩;refine (Uq.insF_shift il.b n c i iv.b cv _ xv w (by omega) hroom hc63 hvb hxl' hxl hcells (fun j hj=>hsp j (by omega)) (fun j hj=>hfr j (by omega)) hvs h1c h1v tA tB cv0.size cur.size hsa hsb (by omega) (by simp [World.frozen?,hbv]) (by simp [World.frozen?,hbv])).mono ?_;rintro e w' ⟨rfl,rfl⟩;have hD:((cur.toList.take zs.length).drop (i*3)).length=(n - i)*3:=by rw[length_drop,hxl']; omega
    obtain⟨c1,k1,b1,e1⟩:=gt_ il.b t' fz ((cur.toList.take zs.length).drop (i*3)) ((i+1)*3) cur w.drew hb (by rw[hD]; omega);have g0:(cur.toList.take ((i+1)*3)).length=(i+1)*3:=by rw[length_take,hcurl]; omega
    have hc1l:c1.toList.length=il.s:=by rw[e1,kI,kI,g0,hD,length_drop,hcurl]; omega
    have hc1s:c1.size=il.s:=by simpa using hc1l
    obtain⟨c2,k2,b2,e2⟩:=gt_ il.b t' fz xv (i*3) c1 _ b1 (by rw[hxl]; omega);refine main _ (((lU_ _ w).trans k1 (fun b h=> .inl h)).trans k2 (fun b h=> .inl h)) ⟨c2,b2,?_⟩;have g1:c1.toList.take (i*3)=cur.toList.take (i*3):=by
     rw[e1,append_assoc,take_append_of_le_length (by omega),take_take];congr 1; omega
    have g2:c1.toList.drop (i*3+xv.length)=(cur.toList.take zs.length).drop (i*3)++cur.toList.drop ((n+1)*3):=by
     rw[e1,append_assoc,List.drop_left' (by rw[g0,hxl]; omega),hD];congr 2; omega
    rw[e2,g1,g2,hzl];simp
  ·have hroom':c < n+1:=by omega
   have hsplit:Is2 φ (zs.take (i*3)++(vs++zs.drop (i*3))) ((cur.toList.take zs.length).take (i*3)++(xv++(cur.toList.take zs.length).drop (i*3))):=cm_.append (his.take _) (cm_.append hxis (his.drop _));have hlt':l < H.length:=(kC.1 hl).1;have main:∀ w' (cc:Array Value),bS_ φ H w φ H w'→cc.size=grownCap w (n+1) c 122*3→cc.toList.take ((n+1)*3)=(cur.toList.take zs.length).take (i*3)++(xv++(cur.toList.take zs.length).drop (i*3))→
    ∃ r H' φ' x,Q r H'∧Ending.returned (.slice (some ⟨w'.heap.size,0,none⟩) (n+1) (grownCap w (n+1) c 122))= .returned x∧r.is φ' x∧bS_ φ H w φ' H' (w'.alloc (.cells cc 122)):=by
    intro w' cc B0 hcs hct;have B1:=B0.trans (bS_.drop B0.rep l);have hg:=hgc c;have B2:=B1.trans (bS_.new B1.rep 122 (zs.take (i*3)++(vs++zs.drop (i*3))) cc (0,0) (by rw[hnl,hcs]; omega) (by rw[hnl,hct]; exact hsplit) (fun j _ h=>by simp at h));have hlen:(H.set l .dead).length=φ.length:=by rw[length_set,hr.len]
    refine⟨_,_,_,_,hQ,rfl,?_,B2⟩;refine⟨_,_,_,by simp only[ln,←hr.len]; exact getElem?_concat_length,rfl,.inl rfl,hgc c,?_,fun _=>⟨rfl,?_,hgm c⟩⟩
    ·show (zs.take (i*3)++(vs++zs.drop (i*3))).length≤0+grownCap w (n+1) c 122*3;rw[hnl]; omega
    ·show 0+grownCap w (n+1) c 122*3≤cc.size;rw[hcs]; omega
   by_cases hin:i=n
   ·subst hin;refine (Uq.insF_end_grow (some al) i c iv.b cv (cur.toList.take zs.length) xv w hnc hroom' hlim' hxl' hxl (fun h=>by cases h) (by
     intro a ha j u hj;cases ha;have hj':=(kC.1 hj).1;have hq':al=⟨il.b,0,none⟩:=by
      rcases hq with h | h
      ·rw[h,hpl]
      ·omega
     rw[hq',gK_,kN];exact hcells j u hj) hvs).mono ?_
    rintro e w' ⟨rfl,rfl⟩;refine main w.drew _ (bS_.drew hr) ?_ ?_
    ·have:=hgc c;simp only[Array.size_append,zl_,size_toArray,kI,hxl',hxl];omega
    ·simp only[Array.toList_append];rw[List.take_left' (by simp [hxl',hxl]; omega),take_of_length_le (l:=cur.toList.take zs.length) (by omega),drop_of_length_le (by omega),append_nil]
   ·have hq':al=⟨il.b,0,none⟩:=by
     rcases hq with h | h
     ·rw[h,hpl]
     ·omega
    subst hq';refine (Uq.insF_grow il.b n c i iv.b cv (cur.toList.take zs.length) xv w (by omega) hnc hroom' hlim' hxl' hxl hcells hvs h1c h1v).mono ?_;rintro e w' ⟨rfl,rfl⟩;have hg:=hgc c;obtain⟨row,hrow⟩:∃ row:Array Value,row=((cur.toList.take zs.length).take (i*3)).toArray++Builtin.zeroCells #[.string ⟨#[]⟩,.string ⟨#[]⟩,.bool false] (n+1 - i)++Builtin.zeroCells #[.string ⟨#[]⟩,.string ⟨#[]⟩,.bool false] (grownCap w (n+1) c 122 - (n+1)):=⟨_,rfl⟩;rw[←hrow];have hA:(w.alloc (.cells row 122)).drew.heap[w.heap.size]? =some (.cells row 122 (0,0)):=heap_alloc_new w _;have hAs:row.size=grownCap w (n+1) c 122*3:=by
     rw[hrow];simp only[Array.size_append,zl_,size_toArray,length_take,hxl'];omega
    have hrt:row.toList.take (i*3)=(cur.toList.take zs.length).take (i*3):=by
     rw[hrow,Array.toList_append,Array.toList_append,append_assoc];exact List.take_left' (by rw[length_take]; omega)
    obtain⟨c1,k1,b1,e1⟩:=gt_ w.heap.size 122 (0,0) xv (i*3) row _ hA (by rw[hAs,hxl]; omega);have hD:((cur.toList.take zs.length).drop (i*3)).length=(n - i)*3:=by rw[length_drop,hxl']; omega
    have hrl:row.toList.length=grownCap w (n+1) c 122*3:=by simpa using hAs
    have hT:(row.toList.take (i*3)++xv).length=(i+1)*3:=by rw[kI,length_take,hrl,hxl]; omega
    have hc1l:c1.toList.length=grownCap w (n+1) c 122*3:=by
     rw[e1,kI,hT,length_drop,hrl,hxl]; omega
    have hc1s:c1.size=grownCap w (n+1) c 122*3:=by simpa using hc1l
    obtain⟨c2,k2,b2,e2⟩:=gt_ w.heap.size 122 (0,0) ((cur.toList.take zs.length).drop (i*3)) ((i+1)*3) c1 _ (show (World.drew (World.setCells (World.drew (w.alloc _)) w.heap.size (i*3) xv)).heap[w.heap.size]? =_ from b1) (by rw[hc1s,hD]; omega);have g1:c1.toList.take ((i+1)*3)=(cur.toList.take zs.length).take (i*3)++xv:=by
     rw[e1,List.take_left' hT,hrt]
    have hct:c2.toList.take ((n+1)*3)=(cur.toList.take zs.length).take (i*3)++(xv++(cur.toList.take zs.length).drop (i*3)):=by
     rw[e2,g1,List.take_left' (by rw[kI,kI,length_take,hxl',hxl,hD]; omega),append_assoc]
    have hc2l:c2.toList.length=grownCap w (n+1) c 122*3:=by
     rw[e2,kI,kI,hD,length_take,length_drop,hc1l]; omega
    have hc2s:c2.size=grownCap w (n+1) c 122*3:=by simpa using hc2l
    have kk:=((((gs_ (fun b=>b=w.heap.size) w (.cells row 122)).trans (lU_ (fun b=>b=w.heap.size) _) (fun b h=> .inl h)).trans k1 (fun b h=> .inl h)).trans (lU_ (fun b=>b=w.heap.size) _) (fun b h=> .inl h)).trans k2 (fun b h=> .inl h);have B0:=bS_.drop hr l;have B2:=B0.trans (bS_.snoc (own:=true) (t:=122) (cs:=zs.take (i*3)++(vs++zs.drop (i*3))) (i:=⟨w.heap.size,0,true,(zs.take (i*3)++(vs++zs.drop (i*3))).length,c2.size⟩) B0.rep ⟨kk.os,kk.tape,kk.output,kk.size,fun b h1 _=>kk.block b h1 (by omega)⟩ (fun b q=>kk.block b (B0.rep.blockLt q) (by have:=B0.rep.blockLt q; omega))
     ⟨rfl,rfl,(Array.getElem?_eq_some_iff.1 b2).1,rfl,c2,122,(0,0),b2,fun _=>rfl,rfl,fun j _ h=>by simp at h,by rw[hnl,hc2s]; omega,Is2.mono (prefix_append _ _) (by rw[hnl,hct]; exact hsplit)⟩ (kO _))
    have hlen:(H.set l .dead).length=φ.length:=by rw[length_set,hr.len]
    refine⟨_,_,_,_,hQ,rfl,?_,B2⟩;refine⟨_,_,_,by simp only[ln,←hr.len]; exact getElem?_concat_length,rfl,.inl rfl,hg,?_,fun _=>⟨rfl,?_,hgm c⟩⟩
    ·show (zs.take (i*3)++(vs++zs.drop (i*3))).length≤0+grownCap w (n+1) c 122*3;rw[hnl]; omega
    ·show 0+grownCap w (n+1) c 122*3≤c2.size;rw[hc2s]; omega
end Go.Am
end
namespace Go.Am
open List
open Go.Proofs
def slices_Insert__string_string:Sm:=fun _ _ _=>False
theorem fg_:cN_ Tryz.prog 166 slices_Insert__string_string:=by intro as0 H Q h; exact h.elim
def slices_Insert__int_int:Sm:=fun _ _ _=>False
theorem j9_:cN_ Tryz.prog 167 slices_Insert__int_int:=by intro as0 H Q h; exact h.elim
def insert_writer_take:Sm:=fun _ _ _=>False
theorem mC_:cN_ Tryz.prog 136 insert_writer_take:=by intro as0 H Q h; exact h.elim
def insert_writer_settle:Sm:=fun _ _ _=>False
theorem g2_:cN_ Tryz.prog 168 insert_writer_settle:=by intro as0 H Q h; exact h.elim
def insert_entries:Sm:=fun _ _ _=>False
theorem qK_:cN_ Tryz.prog 133 insert_entries:=by intro as0 H Q h; exact h.elim
end Go.Am
namespace Go.Am
open List
open Go.Proofs.Tryz
inductive Wp (P:Prop)|I
inductive WF (v:FV)|I
inductive WI (n:Int)|I
instance:CoeT (Wp P) a Prop:=⟨P⟩
instance:CoeT (WF v) a FV:=⟨v⟩
instance:CoeT (WI n) a FV:=⟨.g (.int .i64 n)⟩
instance:CoeT (WI n) a GV:=⟨.int .i64 n⟩
instance:CoeT (WI n) a RV:=⟨.s (.int .i64 n)⟩
instance:Coe Int GV:=⟨fun n=>.int .i64 n⟩
instance:Coe Bool GV:=⟨.bool⟩
instance:Coe ByteArray GV:=⟨.str⟩
instance:Coe Pl GV:=⟨.ptr⟩
instance:Coe GV FV:=⟨.g⟩
instance:Coe GV RV:=⟨.s⟩
def nN(n:Int):WI n:=.I
def nL(x:Pl)(n z:Nat):WF (.g (.sl x n z)):=.I
def gI(n:Int):WF (.g (.int .i64 n)):=.I
def gB(b:Bool):WF (.g (.bool b)):=.I
def gS(s:ByteArray):WF (.g (.str s)):=.I
def gP(s:Pl):WF (.g (.ptr s)):=.I
def gM(s:Option Nat):WF (.g (.map s)):=.I
def fF(c:Cx)(f:Func):Sm:=fun a H Q=>∃k,aw_ c f k a H Q
def eE(E:Nat→Sm):Prop:=∀f,cN_ prog f (E f)
theorem zz{a b:Prop}(h:a=b:=by kernel_rfl):a=b:=h
theorem eN:dw_ prog []:=.nil _
theorem nO:eE au_:=lo_ _
theorem eZ{f s l}{b:Func}(h:ao_ prog f s)(g:prog.funcs[f]?=some b)(hl:dw_ prog l)(h1:(b.name== "runtime.NumGoroutine")=false:=by kernel_rfl)(h2:b.body.isNone=false:=by kernel_rfl):dw_ prog ((f,s)::l):=.cons (h.c ⟨_,g,h1,h2⟩) hl
theorem sO{f}{c:Cx}{b:Func}(e:dw_ prog c.env)(d:eE c.dyn)(g:prog.funcs[f]?=some b)(r:b.results=c.res.toArray:=by rfl)(t:c.tys=tys:=by rfl):ao_ prog f (fF c b):=lX_.sound t e d g r
def ac(a b c)(f:_→_→Prop):Wp (cl a b c fun d e=>rG d fun g=>f e g):=.I
def ae(a b c e f):Wp (rd a b c fun d=>dL e d f):=.I
def ah(a b c):Wp (chk a (chk b c)):=.I
def ai(a)(d:_→_→Prop):Wp (uR a fun b c=>rS b fun e=>d c e):=.I
def aj(a b c e):Wp (rd a b c fun d=>dS d e):=.I
def ak(a b c)(f:_→_→Prop):Wp (ac a b c fun d e=>dB e fun g=>f d g):=.I
def aq(a b):Wp (dI .i64 a b):=.I
def au(a b c e):Wp (rd a b c fun d=>aq d e):=.I
def av(a b):Wp (ah true a b):=.I
def aw(a b c)(f:_→_→Prop):Wp (cl a b c fun d e=>rT d fun g=>f e g):=.I
def ax(a b c d g h)(i:_→Prop):Wp (ae a b c d fun e f=>av (g&&ltI h (nI f)) (i e)):=.I
def ay(a b c d):Wp (b2_ (ltI a b) c d):=.I
def aA(a)(d:_→_→Prop):Wp (ai a fun b c=>aq c fun e=>d b e):=.I
def aB(a d)(e:_→_→_→Prop):Wp (uC a fun b c=>dL d b fun f g=>e c f g):=.I
def aC(a:Post)(b c):Wp (a (.tup b) c):=.I
def aD(a b c):Wp (av a (pS b c)):=.I
def aE(a b c):Wp (b2_ (!a) b c):=.I
def aF(a b c e):Wp (rd a b c fun d=>dB d e):=.I
def aG(a b c f)(g:_→_→_→Prop):Wp (ac a b c fun d e=>dL f e fun h i=>g d h i):=.I
def aH(a b c d e f h):Wp (ax a b c d e f fun g=>pS g h):=.I
def aI(a b c)(f:_→_→Prop):Wp (ac a b c fun d e=>aq e fun g=>f d g):=.I
def aJ(a b c d f g h i):Wp (wr a b c d fun e=>wr e f g h i):=.I
def aK(a b c)(f:_→_→_→Prop):Wp (aw a b c fun d e=>ai e fun g h=>f d g h):=.I
def aL(a b e)(f:Nat)(g):Wp (aD a b fun c d=>aj e c (d+f) g):=.I
def aM(a b)(f:_→_→Prop):Wp (aB a b fun c d e=>uN c (f d e)):=.I
def aN(a b e)(f:Nat)(g):Wp (aD a b fun c d=>au e c (d+f) g):=.I
def aO(a:Post)(b):Wp (a false b):=.I
def aP(a b c d e):Wp (aE a (aC b c d) e):=.I
def aR(a b c f g)(h:_→Prop):Wp (ak a b c fun d e=>aP e f g d (h d)):=.I
def aS(a):Wp (chk true a):=.I
def aT(a)(d:_→_→Prop):Wp (uR a fun b c=>rC b fun e=>d c e):=.I
def aU(a d):Wp (aA a fun b c=>uE b d):=.I
def aV(a b c)(f:_→_→_→Prop):Wp (aw a b c fun d e=>aT e fun g h=>f d g h):=.I
def aW(a b c d):Wp (b2_ a d (aO b c)):=.I
def aX(a)(d:_→_→Prop):Wp (ai a fun b c=>dB c fun e=>d b e):=.I
def aY(a d e f):Wp (pS a fun b c=>ae d b (c+0) e f):=.I
def aZ(a d e f g h):Wp (pS a fun b c=>aH d b (c+0) e f g h):=.I
def bc(a b c d h i):Wp (aG a b c d fun e f g=>aC h [.s (.sl f g 5),i] e):=.I
def bd(a b c)(f:_→_→Prop):Wp (cl a b c fun d e=>rA d fun g=>f e g):=.I
def bf(a)(d:_→Prop):Wp (aA a fun b c=>uE b (d c)):=.I
def bg(a b c d):Wp (ay a (nI b) c d):=.I
def bh(a)(d:_→_→Prop):Wp (uC a fun b c=>aq b fun e=>d c e):=.I
def bj(a b c d g h i j)(l:_→_→_→_→Prop):Wp (ae a b c d fun e f=>ae g h i j fun m n=>l e f m n):=.I
def bk(a)(d:_→_→Prop):Wp (uC a fun b c=>dB b fun e=>d c e):=.I
def bm(a b c g)(h:_→_→_→_→Prop):Wp (aV a b c fun d e f=>aM f g fun i j=>h d e i j):=.I
def bn(a b e)(f:Nat)(g:_→_→_→Prop):Wp (aD a b fun c d=>aj e c (d+f) fun h=>g c d h):=.I
def bo(a b e)(f:Nat)(g):Wp (aD a b fun c d=>aj e c (d+f+0) g):=.I
def bp(a b c e):Wp (rd a b c fun d=>dM d e):=.I
def bq(a d e f):Wp (pS a fun b c=>ae d b (c+1) e f):=.I
def br(a)(d:_→_→Prop):Wp (uC a fun b c=>dS b fun e=>d c e):=.I
def bt(a d e f g h):Wp (pS a fun b c=>aH d b (c+1) e f g h):=.I
def bv(a b c)(f:Post):Wp (ak a b c fun d e=>f e d):=.I
def bw(a b c d e g h)(i:_→_→Prop):Wp (aR a b c d e fun f=>rdN (pu f g) (some (ln f,0)) h fun j=>i f j):=.I
def bz(a b c d):Wp (aE a (aO b c) d):=.I
def bA(a b c f)(g:_→Prop):Wp (ak a b c fun d e=>bz e f d (g d)):=.I
def bB(a b c d h i j l m):Wp (aG a b c d fun e f g=>bc h [nL f g 5,i] e j l m):=.I
def bC(a d e f):Wp (pS a fun b c=>ae d b (c+2) e f):=.I
def bD(a b c d):Wp (b2_ (leI a b) c d):=.I
def bF(a b c g)(h:_→_→_→_→Prop):Wp (aK a b c fun d e f=>dL g f fun i j=>h d e i j):=.I
def bG(a b c f)(g:_→_→_→Prop):Wp (bd a b c fun d e=>aM e f fun h i=>g d h i):=.I
def bH(a b c d h i):Wp (bG a b c d fun e f g=>aC h [.a [.sl f g 5],i] e):=.I
def bI(a b c d f g):Wp (wr a b c d fun e=>aC f g e):=.I
def bJ(a b c d e f g h i):Wp (aS (ap a b c d e f g h i)):=.I
def bK(a b e)(f:Nat)(g)(h:Nat)(i)(j:_→_→_→Prop):Wp (aD a b fun c d=>aJ e c (d+f) g c (d+h+1) i fun l=>j c d l):=.I
def bL(a b c d e f g)(l:Nat)(m)(n:Nat)(o)(p:_→_→_→Prop):Wp (bK a b c d e f g fun h i j=>aJ j h (i+l+1+1) m h (i+n+1+1+1) o fun q=>p h i q):=.I
def bM(a b c d e f g h i j l)(p:Nat)(q r):Wp (bL a b c d e f g h i j l fun m n o=>wr o m (n+p+1+1+1+1) q r):=.I
def bN(a b e)(f:Nat)(g:_→_→_→Prop):Wp (aD a b fun c d=>aF e c (d+f) fun h=>g c d h):=.I
def bO(a b c d h)(i:Nat)(j:_→_→_→_→Prop):Wp (bN a b c d fun e f g=>aF h e (f+i+1) fun l=>j e f g l):=.I
def bP(a b c d e f l)(m:Nat)(n o)(p:Nat)(q)(r:_→_→_→_→_→_→_→_→Prop):Wp (bO a b c d e f fun g h i j=>bj l g (h+m+1+1) n o g (h+p+1+1+1) q fun s t u v=>r g h i j s t u v):=.I
def bQ(a b c d e f g h i j l m v)(w:Nat)(x)(y:_→_→_→_→_→_→_→_→Prop):Wp (bP a b c d e f g h i j l m fun n o p q r s t u=>ae v n (o+w+1+1+1+1) x fun z A=>y p q r s t u z A):=.I
def bR(a)(d:_→Prop):Wp (aX a fun b c=>uE b (d c)):=.I
def bT(a b c d g h):Wp (ae a b c d fun e f=>eqv g (nL e f 5) h):=.I
def bU(a c):Wp (rC a fun b=>bh b c):=.I
def bV(a b c d):Wp (b2_ (eqI a b) c d):=.I
def bW(a d e f):Wp (pS a fun b c=>wr d b (c+1) e f):=.I
def bX(a d e f g h):Wp (pS a fun b c=>aH d b (c+2) e f g h):=.I
def bY(a b c f)(g:_→Prop):Wp (ak a b c fun d e=>aW e f d (g d)):=.I
def bZ(a b c)(f:_→_→_→Prop):Wp (aw a b c fun d e=>aA e fun g h=>f d g h):=.I
def ca(a d e):Wp (pS a fun b c=>bp d b (c+3) e):=.I
def cd(a b c)(g:_→_→_→Prop):Wp (aK a b c fun d e f=>dS f fun h=>g d e h):=.I
def ce(a b c d)(i:_→_→_→_→Prop):Wp (bm a b c d fun e f g h=>bf f fun j=>i e g h j):=.I
def cf(a d e):Wp (pS a fun b c=>bp d b (c+2) e):=.I
def ch(a d e):Wp (pS a fun b c=>bp d b (c+1) e):=.I
def cn(a b c d e f):Wp (aP (eqI a b) c d e f):=.I
def co(a b c)(g:_→_→_→Prop):Wp (aK a b c fun d e f=>dP f fun h=>g d e h):=.I
def cp(a b c d h)(i:Nat)(j:_→_→_→_→Prop):Wp (bn a b c d fun e f g=>au h e (f+i+1) fun l=>j e f g l):=.I
def cq(a b c d e f l)(m:Nat)(n:_→_→_→_→_→Prop):Wp (cp a b c d e f fun g h i j=>aj l g (h+m+1+1) fun o=>n g h i j o):=.I
def ct(a b c d e f g h o)(p:Nat)(q:_→_→_→_→_→_→Prop):Wp (cq a b c d e f g h fun i j l m n=>aj o i (j+p+1+1+1) fun r=>q i j l m n r):=.I
def cw(a b c d e f g h i j r)(s:Nat)(t)(u:_→_→_→_→_→_→Prop):Wp (ct a b c d e f g h i j fun l m n o p q=>ae r l (m+s+1+1+1+1) t fun v w=>u n o p q v w):=.I
def cy(a b c d e):Wp (aW (eqI a b) c d e):=.I
def cz(a d e f g):Wp (pS a fun b c=>bI d b (c+3) e f g):=.I
def cA(a b e)(f:Nat)(g):Wp (aD a b fun c d=>au e c (d+f+1) g):=.I
def cC(a b c d g h):Wp (ae a b c d fun e f=>eqv g (nL e f 1) h):=.I
def cD(a b c):Wp (av (leI a b) c):=.I
def cE(a d e):Wp (pS a fun b c=>au d b (c+1) e):=.I
def cF(a b c g h i)(j:_→_→_→Prop):Wp (nxt a b c (fun d e f=>BN_ f g h fun l m=>j f l m) i):=.I
def cG(a b c d e f g h i j l m n o p y z A C D E F G I):Wp (bQ a b c d e f g h i j l m n o p fun q r s t u v w x=>bM y z A C q D r E (.sl s t 1) F (.sl u v 1) G (.sl w x 1) I):=.I
def cH(a b f)(g:_→_→_→_→Prop):Wp (aB a b fun c d e=>aM c f fun h i=>g d e h i):=.I
def cI(a b e)(f:Nat)(g):Wp (aD a b fun c d=>au e c (d+f+1+0) g):=.I
def cJ(a b e)(f:Nat)(g h):Wp (aD a b fun c d=>ae e c (d+f+4) g h):=.I
def cK(a)(d:_→_→_→Prop):Wp (bk a fun b c=>bk b fun e f=>d c e f):=.I
def cL(a b c d e f g):Wp (aZ a b c (leI d e) f g):=.I
def cM(a e)(f:_→_→_→_→_→Prop):Wp (cK a fun b c d=>aB c e fun g h i=>f b d g h i):=.I
def cN(a b c)(g:_→_→_→Prop):Wp (co a b c fun d e f=>bR e fun h=>g d f h):=.I
def cO(a b h i)(j:_→_→_→_→_→_→_→_→Prop):Wp (cM a b fun c d e f g=>cH e h i fun l m n o=>j c d f g l m n o):=.I
def cP(a b c d e f g h i j l m n):Wp (cw a b c d e d f g h i j l m n):=.I
def cQ(a b c d e f g h i j l m):Wp (cP a b c d e f d g h i j l m):=.I
def cR(a b c d e f g h i j l):Wp (cQ a b c d e f g d h i j l):=.I
def cS(a b c d e f g h i j):Wp (cR a b c d e f g h d i j):=.I
def cT(a:Post)(b c):Wp (a (.g b) c):=.I
def cU(a b c):Wp (cT a (.bool b) c):=.I
def cV(a)(d:_→Prop):Wp (br a fun b c=>uN b (d c)):=.I
def cW(a b c d e f g)(j:_→_→Prop):Wp (bw a b c d e f g fun h i=>txt i fun l=>j h l):=.I
def cX(a b c)(g:_→_→_→Prop):Wp (bZ a b c fun d e f=>bR e fun h=>g d f h):=.I
def cY(a b c d):Wp (aE (eqI a b) c d):=.I
def cZ(a b c d)(i:_→_→_→_→Prop):Wp (bF a b c d fun e f g h=>bf f fun j=>i e g h j):=.I
def da(a b c f g h):Wp (bq a b c fun d e=>bg f e g h):=.I
def db(a b c d e f g h):Wp (aH a b c d (leI e f) g h):=.I
def de(a b d e f):Wp (GI_ a b fun c=>aC d [c,e] f):=.I
def dg(a b c d h)(i:Nat)(j:_→_→Prop):Wp (bn a b c d fun e f g=>aj h e (f+i+1) fun l=>j g l):=.I
def dh(a b c e f):Wp (aF a b c fun d=>b2_ d e f):=.I
def di(a b c d):Wp (cU a (eqI b c) d):=.I
def dj(a b c d e f g):Wp (bt a b c (leI d e) f g):=.I
def dk(a c):Wp (rS a fun b=>dS b c):=.I
def dl(a b c d h)(i:Nat)(j:_→_→_→_→Prop):Wp (bn a b c d fun e f g=>aj h e (f+i+1) fun l=>j e f g l):=.I
def dm(a b c d e f l)(m:Nat)(n:_→_→_→Prop):Wp (dl a b c d e f fun g h i j=>aF l g (h+m+1+1) fun o=>n i j o):=.I
def dn(a b c d e f g h):Wp (dm a b c d e d f g h):=.I
def dp(a b c d e f g):Wp (dn a b c d e f d g):=.I
def dq(a b c d e):Wp (aW (leI a b) c d e):=.I
def dt(a b c d e):Wp (bz (eqI a b) c d e):=.I
def du(a b c e f g h i j):Wp (rdN a b c fun d=>ap0 e f g h d i j):=.I
def dv(a b c d)(i:_→_→_→Prop):Wp (bm a b c d fun e f g h=>aU f (i e g h)):=.I
def dw(a b c e f g h i j l m):Wp (rdN a b c fun d=>bJ e f g h i j d l m):=.I
def dx(a b c d):Wp (cU a (leI b c) d):=.I
def dy(a b e)(f:Nat)(g h i j l):Wp (aD a b fun c d=>db e c (d+f+4) g h i j l):=.I
def dz(a b c d):Wp (b2_ (ey_ a b) c d):=.I
def dA(a b c d e g h i j l):Wp (aR a b c d e fun f=>aR g h f i j l):=.I
def dC(a b c d e f g h i):Wp (dA a b c d e f g h e i):=.I
def dD(a d e)(f:_→_→_→_→Prop):Wp (pS a fun b c=>ae d b (c+0) e fun g h=>f b c g h):=.I
def dE(a b c d e):Wp (ay a b (aO c d) e):=.I
def dG(a b c)(g:_→_→Prop):Wp (cd a b c fun d e f=>aU e (g d f)):=.I
def dH(a b c d e f g h i j l m n o p):Wp (bQ a b c d e d f g h i j l m n o p):=.I
def dJ(a b c d e f g h i j l m n o):Wp (dH a b c d e f d g h i j l m n o):=.I
def dK(a b c d e f g h i j l m n):Wp (dJ a b c d e f g h d i j l m n):=.I
def dN(a b c d e f g h i j l m):Wp (dK a b c d e f g h i j d l m):=.I
def dO(a b c d e f g h):Wp (bJ a b c d e f g 1 h):=.I
def dQ(a b c d e f g j l m n):Wp (cW a b c d e f g fun h i=>de i j l m (pu h n)):=.I
def dR(a b c d e f g h i j):Wp (dQ a b c d e f g h i j f):=.I
def dT(a b c d e f):Wp (tX_ a b false c d e f):=.I
def dU(a b c d):Wp (aE (ey_ a b) c d):=.I
def dV(a:Post)(b c):Wp (a (.agg b) c):=.I
def dW(a b c d):Wp (ae a b c 1 d):=.I
def dY(a b c d):Wp (cT a (.int b c) d):=.I
def dZ(a b c d e f):Wp (yn_ a b false c d e f):=.I
def d5(a b c d e f):Wp (ay a b (aC c d e) f):=.I
def d6(a b c d e f):Wp (bD a b (aC c d e) f):=.I
def d7(a b c d f g h):Wp (bY a b c d fun e=>bv f g e h):=.I
def d8(a b c d):Wp (ah (leI a b) c d):=.I
def d9(a b c d e f g j)(l:Nat)(m):Wp (db a b c d e f g fun h i=>au j h (i+l) m):=.I
def eg(a b c d g h i):Wp (ae a b c d fun e f=>aC g [.a [.sl e f 5],h] i):=.I
def en(a c d e f g):Wp (bf a fun b=>cn b c d [e,b] f g):=.I
def ep(a b c d h i j l m n):Wp (dv a b c d fun e f g=>dv h [.agg [.sl f g 5],i,j,l] e m n):=.I
def et(a b c f g h)(i:_→_→_→_→_→_→_→_→_→Prop):Wp (bd a b c fun d e=>cO e f g h fun j l m n o p q r=>i d j l m n o p q r):=.I
def eu(a d e f):Wp (pS a fun b c=>wr d b (c+2) e f):=.I
def ew(a b c d):Wp (dU a (mkS b) c d):=.I
def eD(a b c e f g)(h:_→_→Prop):Wp (au a b c fun d=>aj e f g fun i=>h d i):=.I
def eF(a b c d e f i)(j:Nat)(l)(m:Nat)(n:_→_→_→_→Prop):Wp (dj a b c d e f fun g h=>eD i g (h+j) l g (h+m+1) fun o p=>n g h o p):=.I
def eG(a b c d e f g h i):Wp (bB a b c d e (.agg f) g h i):=.I
def eH(a b c f):Wp (ak a b c fun d e=>cU f (!e) d):=.I
def eI(a b c d f g h i):Wp (bo a b c d fun e=>b2_ (dN_ f e||ey_ g e) h i):=.I
def eJ(a b c d f g h):Wp (aL a b c d fun e=>b2_ (dN_ e f) g h):=.I
def eK(a:Post)(b c d e):Wp (a (nL b c d) e):=.I
def eM(a b c d e f g):Wp (bX a b c (leI d e) f g):=.I
def eO(a b c d e f g l m):Wp (dO a b c d e f g fun h i j=>bW l j (.sl h i 4) m):=.I
def eQ(a b c g h)(i:_→_→Prop):Wp (cN a b c fun d e f=>aP f g h d (i d e)):=.I
def eS(a b d e f):Wp (cE a b fun c=>bV c d e f):=.I
def eU(a b c d e f g h i j p)(q:Nat)(r:_→_→_→_→_→Prop):Wp (eF a b c d e f g h i j fun l m n o=>au p l (m+q+1+1) fun s=>r l m n o s):=.I
def e8(a b c d e f g h i j l m s)(t:Nat)(u:_→_→_→_→Prop):Wp (eU a b c d e f g h i j l m fun n o p q r=>aF s n (o+t+1+1+1) fun v=>u p q r v):=.I
end Go.Am
namespace Go.Am
open List
open Go.Proofs.Tryz
variable {E:Nat→Sm}{k:Nat}{H:Hp}{Q:Post}{U X Y Z u w x x1 y z:Pl}{D L M N O l m n n1 o:Nat}{I g h i j:Int}{C b b1 b2 c d:Bool}{R S e r s t:ByteArray}{A a:Option Nat}{p q:List (Nat×Nat)}{F:Sm}
def ff_.cx:Cx:=⟨tys,[],[],[],[],au_,[.cell 2 62]⟩
def ff_:=fF ff_.cx f25
theorem sx_:aw_ ff_.cx f25 (k+1) [.agg [b,c,.sl x n 1,.sl y m 1,.sl z l 1]] H Q=aS (du H x (n*1) H 9 1 16 n (fun a=>aS (du a y (m*1) a 9 1 16 m (fun d=>aS (du d z (l*1) d 3 1 8 l (fun e=>dV Q [b,c,.sl (some (ln H,0)) n 1,.sl (some (ln a,0)) m 1,.sl (some (ln d,0)) l 1] e)))))):=zz
theorem sO_:ao_ prog 25 (ff_):=sO eN nO func25
def b0_.cx:Cx:=⟨tys,[],[(3,[1,2,3,4])],[],[(25,ff_)],au_,[.cell 2 24]⟩
def b0_:=fF b0_.cx f8
def b0_.l3 k a b c d e f g:=aW_ (b0_.cx) f8 3 k (.bad::.bx [.sl a b 5]::.bx [.sl c d 5]::.bx [.sl e f 5]::gI g::B 19 [])
theorem s3_:aw_ b0_.cx f8 (k+1) [.agg [.sl x n 5]] H Q=b0_.l3 k x n none 0 none 0 0 H Q:=zz
theorem b0_.l3_eq:b0_.l3 (k+1) x n y m z l i H Q=bg i n (dN (leI 0 i&&ltI i (nI n)) x H (tN i*5) H H 1 H 1 H 1 (fun a b c d e f g h=>et ff_ [.agg [a,b,.sl c d 1,.sl e f 1,.sl g h 1]] H 1 1 1 fun a b c d e f g h j=>dO a 62 5 80 z l [b,c,.sl d e 1,.sl f g 1,.sl h j 1] fun a b c=>b0_.l3 k x n y m a b (ac_ .i64 (i+1)) c Q)) (dV Q [.sl z l 5] H):=zz
theorem sW_:ao_ prog 8 (b0_):=sO (eZ sO_ func25 eN) nO func8
def cv_.cx:Cx:=⟨tys,[],[(2,[0,3])],[],[],au_,[.tmp 2]⟩
def cv_:=fF cv_.cx f227
def cv_.l2 k a b c:=aW_ (cv_.cx) f227 2 k (nL a b 1::.bad::.bad::gI c::B 16 [])
theorem cv_.l2_eq:cv_.l2 (k+1) x n i H Q=bg i n (aL (leI 0 (ac_ .i64 (i-1))&&ltI (ac_ .i64 (i-1)) (nI n)) x H (tN (ac_ .i64 (i-1))*1) (fun a=>aL (leI 0 i&&ltI i (nI n)) x H (tN i*1) fun b=>bz (dN_ a b) Q H (cv_.l2 k x n (ac_ .i64 (i+1)) H Q))) (Q true H):=zz
theorem wg_:ao_ prog 227 (cv_):=sO eN nO func227
def aL_.cx E:=(⟨tys,[],[(2,[0,1,7,8])],[],[],E,[.tmp 4]⟩:Cx)
def aL_ E:=fF (aL_.cx E) f239
def aL_.l2 E k a b c d e f:=aW_ (aL_.cx E) f239 2 k (nL a b 1::.g (.fn c d)::B 5 (gI e::gI f::B 10 []))
theorem aL_.l2_eq:aL_.l2 E (k+1) x n m p i j H Q=ay j i (aL (leI 0 j&&ltI j (nI n)) x H (tN j*1) (fun a=>ak (E m) (cpl [.g (.str a)] p) H fun a b=>b2_ b (Q j a) (aL_.l2 E k x n m p i (ac_ .i64 (j+1)) a Q))) (dY Q .i64 (-1) H):=zz
theorem gX_(E)(h:eE E):ao_ prog 239 (aL_ E):=sO eN h func239
def cs_.cx E:=(⟨tys,[],[],[],[(239,(aL_ E))],E,[.tmp 4]⟩:Cx)
def cs_ E:=fF (cs_.cx E) f232
theorem gx_(E)(h:eE E):ao_ prog 232 (cs_ E):=sO (eZ (gX_ E h) func239 eN) h func232
def cT_.cx E:=(⟨tys,[],[],[],[],E,[.tmp 3]⟩:Cx)
def cT_ E:=fF (cT_.cx E) f233
theorem nY_:aw_ (cT_.cx E) f233 (k+1) [s,.g (.ptr (some (n,m)))] H Q=rd H n m fun a=>dF a fun a b=>eH (E a) (cpl [.g (.str s)] b) H Q:=zz
theorem m5_(E)(h:eE E):ao_ prog 233 (cT_ E):=sO eN h func233
def eb_.cx E:=(⟨tys,[3],[],[],[(232,(cs_ (c5_ [(233,(cT_ E))])))],E,[.tmp 4]⟩:Cx)
def eb_ E:=fF (eb_.cx E) f228
theorem pF_(E)(h:eE E):ao_ prog 228 (eb_ E):=sO (dw_.cons ((gx_ (c5_ [(233,(cT_ E))]) (hn_ (eZ (m5_ E h) func233 eN))).c ⟨_,func232,by kernel_rfl,by kernel_rfl⟩) eN) h func228
def a2_.cx E:=(⟨tys,[],[(2,[0,1,7,8])],[],[],E,[.tmp 4]⟩:Cx)
def a2_ E:=fF (a2_.cx E) f240
def a2_.l2 E k a b c d e f:=aW_ (a2_.cx E) f240 2 k (nL a b 1::.g (.fn c d)::B 5 (gI e::gI f::B 10 []))
theorem a2_.l2_eq:a2_.l2 E (k+1) x n m p i j H Q=ay j i (aN (leI 0 j&&ltI j (nI n)) x H (tN j*1) (fun a=>ak (E m) (cpl [.g (.int .i64 a)] p) H fun a b=>b2_ b (Q j a) (a2_.l2 E k x n m p i (ac_ .i64 (j+1)) a Q))) (dY Q .i64 (-1) H):=zz
theorem iJ_(E)(h:eE E):ao_ prog 240 (a2_ E):=sO eN h func240
def c2_.cx E:=(⟨tys,[],[],[],[(240,(a2_ E))],E,[.tmp 4]⟩:Cx)
def c2_ E:=fF (c2_.cx E) f234
theorem hH_(E)(h:eE E):ao_ prog 234 (c2_ E):=sO (eZ (iJ_ E h) func240 eN) h func234
def d1_.cx E:=(⟨tys,[],[],[],[],E,[.tmp 3]⟩:Cx)
def d1_ E:=fF (d1_.cx E) f235
theorem ro_:aw_ (d1_.cx E) f235 (k+1) [i,.g (.ptr (some (n,m)))] H Q=rd H n m fun a=>dF a fun a b=>eH (E a) (cpl [.g (.int .i64 i)] b) H Q:=zz
theorem rr_(E)(h:eE E):ao_ prog 235 (d1_ E):=sO eN h func235
def gE_.cx E:=(⟨tys,[3],[],[],[(234,(c2_ (c5_ [(235,(d1_ E))])))],E,[.tmp 4]⟩:Cx)
def gE_ E:=fF (gE_.cx E) f229
theorem tI_(E)(h:eE E):ao_ prog 229 (gE_ E):=sO (dw_.cons ((hH_ (c5_ [(235,(d1_ E))]) (hn_ (eZ (rr_ E h) func235 eN))).c ⟨_,func234,by kernel_rfl,by kernel_rfl⟩) eN) h func229
def dq_.cx E:=(⟨tys,[1],[],[],[],E,[.tmp 2]⟩:Cx)
def dq_ E:=fF (dq_.cx E) f237
theorem j7_(E)(h:eE E):ao_ prog 237 (dq_ E):=sO eN h func237
def dB_.cx:Cx:=⟨tys,[],[],[],[(244,slices_AppendSeq__int_int)],au_,[.tmp 2]⟩
def dB_:=fF dB_.cx f241
theorem mw_:aw_ dB_.cx f241 (k+1) [.g (.fn n p)] H Q=aG slices_AppendSeq__int_int [nL none 0 1,.g (.fn n p)] H 1 fun a b c=>eK Q b c 1 a:=zz
theorem mF_:ao_ prog 241 (dB_):=sO (dw_.cons (fV_) eN) nO func241
def d8_.cx:Cx:=⟨tys,[],[],[],[(241,dB_),(242,slices_Sort__int_int)],au_,[.tmp 2]⟩
def d8_:=fF d8_.cx f236
theorem m1_:aw_ d8_.cx f236 (k+1) [.g (.fn n p)] H Q=aG dB_ [.g (.fn n p)] H 1 fun a b c=>cl slices_Sort__int_int [nL b c 1] a fun _ a=>eK Q b c 1 a:=zz
theorem nw_:ao_ prog 236 (d8_):=sO (eZ mF_ func241 (dw_.cons (ha_) eN)) nO func236
def ar_.cx:Cx:=⟨tys,[],[(4,[0,3]),(9,[0,3,4,5])],[],[],au_,[.tmp 2]⟩
def ar_:=fF ar_.cx f238
def ar_.l4 k a b c:=aW_ (ar_.cx) f238 4 k (nL a b 1::.bad::.bad::gI c::B 57 [])
def ar_.l9 k a b c d e f:=aW_ (ar_.cx) f238 9 k (nL a b 1::.bad::.bad::gI c::nL d e 1::gI f::B 55 [])
theorem eL_:aw_ ar_.cx f238 (k+1) [nL x n 1] H Q=ay (nI n) 2 (eK Q x n 1 H) (ar_.l4 k x n 1 H Q):=zz
theorem ar_.l4_eq:ar_.l4 (k+1) x n i H Q=bg i n (aN (leI 0 i&&ltI i (nI n)) x H (tN i*1) (fun a=>aN (leI 0 (ac_ .i64 (i-1))&&ltI (ac_ .i64 (i-1)) (nI n)) x H (tN (ac_ .i64 (i-1))*1) fun b=>bV a b (cD 0 i (chk (leN (tN i) n) (ar_.l9 k x n i (shf x (tN i*1)) (n-tN i) 1 H Q))) (ar_.l4 k x n (ac_ .i64 (i+1)) H Q))) (eK Q x n 1 H):=zz
theorem ar_.l9_eq:ar_.l9 (k+1) x n i y m j H Q=bg j m (aN (leI 0 j&&ltI j (nI m)) y H (tN j*1) (fun a=>aN (leI 0 (ac_ .i64 (j-1))&&ltI (ac_ .i64 (j-1)) (nI m)) y H (tN (ac_ .i64 (j-1))*1) fun b=>cY a b (aN (leI 0 j&&ltI j (nI m)) y H (tN j*1) (fun a=>aD (leI 0 i&&ltI i (nI n)) x fun b c=>wr H b (c+tN i*1) a fun a=>ar_.l9 k x n (ac_ .i64 (i+1)) y m (ac_ .i64 (j+1)) a Q)) (ar_.l9 k x n i y m (ac_ .i64 (j+1)) H Q))) (cD 0 i (ah (leN (tN i) n) true (clr H (shf x (tN i*1)) (n-tN i) [.int .i64 0] (fun a=>cD 0 i (chk (leN 0 (tN i)&&(leN (tN i) n||mM_ a x (tN i*1))) (eK Q (shf x 0) (tN i-0) 1 a)))))):=zz
theorem jU_:ao_ prog 238 (ar_):=sO eN nO func238
def gc_.cx E:=(⟨tys,[],[],[],[(237,(dq_ E)),(236,d8_),(238,ar_)],E,[.tmp 2]⟩:Cx)
def gc_ E:=fF (gc_.cx E) f231
theorem uL_:aw_ (gc_.cx E) f231 (k+1) [nL x n 1] H Q=ac (dq_ E) [nL x n 1] H fun a b=>aG d8_ [b] a 1 fun a b c=>aG ar_ [nL b c 1] a 1 fun a _ b=>di Q (nI b) (nI n) a:=zz
theorem vK_(E)(h:eE E):ao_ prog 231 (gc_ E):=sO (eZ (j7_ E h) func237 (eZ nw_ func236 (eZ jU_ func238 eN))) h func231
def dg_.cx:Cx:=⟨tys,[],[],[],[],au_,[.tmp 2]⟩
def dg_:=fF dg_.cx f131
theorem A6_:aw_ dg_.cx f131 (k+1) [s] H Q=dq 1 (sz s) Q H (dx Q (sz s) 6 H):=zz
theorem ky_:ao_ prog 131 (dg_):=sO eN nO func131
def cg_.cx:Cx:=⟨tys,[],[],[],[],au_,[.tmp 2]⟩
def cg_:=fF cg_.cx f132
theorem wO_:aw_ cg_.cx f132 (k+1) [s] H Q=dx Q (sz s) 10 H:=zz
theorem ib_:ao_ prog 132 (cg_):=sO eN nO func132
def dy_.cx:Cx:=⟨tys,[],[],[],[],au_,[.tmp 2]⟩
def dy_:=fF dy_.cx f230
theorem zw_:aw_ dy_.cx f230 (k+1) [i] H Q=dq 1 i Q H (cU Q (ltI i 48) H):=zz
theorem nf_:ao_ prog 230 (dy_):=sO eN nO func230
def je_.cx:Cx:=⟨tys,[],[],[],[(227,cv_),(228,(eb_ (c5_ [(131,dg_),(132,cg_),(230,dy_)]))),(229,(gE_ (c5_ [(131,dg_),(132,cg_),(230,dy_)]))),(231,(gc_ (c5_ [(131,dg_),(132,cg_),(230,dy_)])))],au_,[.tmp 2]⟩
def je_:=fF je_.cx f221
theorem zj_:aw_ je_.cx f221 (k+1) [.agg [b,c,.sl x n 1,.sl y m 1,.sl z l 1]] H Q=bz b Q H (bA cv_ [nL x n 1] H Q (fun a=>bA (eb_ (c5_ [(131,dg_),(132,cg_),(230,dy_)])) [nL x n 1,.g (.fn 131 [])] a Q fun a=>b2_ c (cy (nI m) (nI n) Q a (cy (nI l) 0 Q a (bv (eb_ (c5_ [(131,dg_),(132,cg_),(230,dy_)])) [nL y m 1,.g (.fn 132 [])] a Q))) (dq 1 (nI n) Q a (cy (nI m) 0 Q a (cy (nI l) (ac_ .i64 (nI n+1)) Q a (d7 (gE_ (c5_ [(131,dg_),(132,cg_),(230,dy_)])) [nL z l 1,.g (.fn 230 [])] a Q (gc_ (c5_ [(131,dg_),(132,cg_),(230,dy_)])) [nL z l 1] Q)))))):=zz
theorem zf_:ao_ prog 221 (je_):=sO (eZ wg_ func227 (dw_.cons ((pF_ (c5_ [(131,dg_),(132,cg_),(230,dy_)]) (hn_ (eZ ky_ func131 (eZ ib_ func132 (eZ nf_ func230 eN))))).c ⟨_,func228,by kernel_rfl,by kernel_rfl⟩) (dw_.cons ((tI_ (c5_ [(131,dg_),(132,cg_),(230,dy_)]) (hn_ (eZ ky_ func131 (eZ ib_ func132 (eZ nf_ func230 eN))))).c ⟨_,func229,by kernel_rfl,by kernel_rfl⟩) (dw_.cons ((vK_ (c5_ [(131,dg_),(132,cg_),(230,dy_)]) (hn_ (eZ ky_ func131 (eZ ib_ func132 (eZ nf_ func230 eN))))).c ⟨_,func231,by kernel_rfl,by kernel_rfl⟩) eN)))) nO func221
def gP_.cx:Cx:=⟨tys,[],[],[],[(221,je_)],au_,[.tmp 2]⟩
def gP_:=fF gP_.cx f206
theorem tD_:ao_ prog 206 (gP_):=sO (eZ zf_ func221 eN) nO func206
def bf_.cx:Cx:=⟨tys,[],[(2,[2,7,8,9])],[],[],au_,[.tmp 4]⟩
def bf_:=fF bf_.cx f215
def bf_.l2 k a b c d e f g:=aW_ (bf_.cx) f215 2 k (.bad::.bad::.bx [.str a,.str b,.bool c]::B 4 (nL d e 1::gI f::gI g::B 19 []))
theorem nN_:aw_ bf_.cx f215 (k+1) [.agg [s,t,b],nL x n 1] H Q=bf_.l2 k s t b x n (nI n) 0 H Q:=zz
theorem bf_.l2_eq:bf_.l2 (k+1) s t b x n i j H Q=ay j i (aL (leI 0 j&&ltI j (nI n)) x H (tN j*1) (fun a=>b2_ (dN_ a s) (aO Q H) (aE b (bz (dN_ a t) Q H (bf_.l2 k s t b x n i (ac_ .i64 (j+1)) H Q)) (bf_.l2 k s t b x n i (ac_ .i64 (j+1)) H Q)))) (Q true H):=zz
theorem nL_:ao_ prog 215 (bf_):=sO eN nO func215
def bI_.cx:Cx:=⟨tys,[],[],[(3,[0,1,2])],[],au_,[.tmp 6]⟩
def bI_:=fF bI_.cx f216
def bI_.l3 k a b c:=aW_ (bI_.cx) f216 3 k (gP a::gP b::gI c::B 31 [])
theorem qe_:aw_ bI_.cx f216 (k+1) [x,y,i] H Q=pS x fun a b=>au H a (b+2) fun a=>ay a 0 (eu x H i (fun a=>bI_.l3 k x y i a Q)) (bI_.l3 k x y i H Q):=zz
theorem bI_.l3_eq:bI_.l3 (k+1) x y i H Q=pS x fun a b=>au H a (b+3) fun a=>bC y H 1 fun _ b=>pS x fun c d=>wr H c (d+3) (ac_ .i64 (a+nI b)) fun a=>pS x fun b c=>au a b (c+2) fun b=>di Q b i a:=zz
theorem p4_:ao_ prog 216 (bI_):=sO eN nO func216
def bo_.cx:Cx:=⟨tys,[],[],[(3,[1,2,3,6])],[],au_,[.cell 6 260]⟩
def bo_:=fF bo_.cx f217
def bo_.l3 k a b c d e f g h i:=aW_ (bo_.cx) f217 3 k (.bad::nL a b 1::gI c::.bx [.str d,.str e,.bool f]::.bad::.bad::.bx [.str g,.str h,.bool i]::B 19 [])
theorem my_:aw_ bo_.cx f217 (k+1) [.agg [s,t,b],nL x n 1,i] H Q=ay 0 i (aL (leI 0 (ac_ .i64 (i-1))&&ltI (ac_ .i64 (i-1)) (nI n)) x H (tN (ac_ .i64 (i-1))*1) (fun a=>bo_.l3 k x n i a t b (mkS []) (mkS []) false H Q)) (bo_.l3 k x n i s t b (mkS []) (mkS []) false H Q):=zz
theorem bo_.l3_eq:bo_.l3 (k+1) x n i s t b r S c H Q=bg i n (aL (leI 0 i&&ltI i (nI n)) x H (tN i*1) (fun a=>dV Q [s,a,false] H)) (dV Q [s,t,b] H):=zz
theorem mN_:ao_ prog 217 (bo_):=sO eN nO func217
def aE_.cx S:=(⟨tys,[],[(8,[0,2,7,9,70,71,72])],[],[(206,gP_),(215,bf_),(216,bI_),(217,bo_),(195,S)],au_,[.tmp 8]⟩:Cx)
def aE_.st S:=fF (aE_.cx S) f195
def aE_.l8 S k a b c d e f g h i j l:=aW_ (aE_.cx S) f195 8 k (gP a::.bad::gI b::B 4 (.bx [.str c,.str d,.bool e]::.bad::.g (.ptr (some (f,g)))::B 60 (nL h i 1::gI j::gI l::B 18 [])))
theorem os_:aw_ (aE_.cx F) f195 (k+1) [x,i,j,.agg [s,t,b]] H Q=cL x H 5 0 i i fun a c=>dj x H 1 0 i i fun d e=>dh H d (e+tN i*1) (aO Q H) (aF H a (c+tN i*5) (fun d=>aF H a (c+tN i*5+1) fun e=>bj H a (c+tN i*5+1+1) 1 H a (c+tN i*5+1+1+1) 1 fun f g h l=>dW H a (c+tN i*5+1+1+1+1) fun m n=>bA gP_ [.agg [d,e,.sl f g 1,.sl h l 1,.sl m n 1]] H Q fun d=>ay 0 i (dW d a (c+tN i*5+2) (fun _ e=>dE (nI e) 2 Q d (dW d a (c+tN i*5+2) (fun e f=>bA bf_ [.agg [s,t,b],nL e f 1] d Q fun d=>dj x d 1 0 i i fun e f=>wr d e (f+tN i*1) true fun d=>dh d a (c+tN i*5+1) (bv bI_ [x,.g (.ptr (some (a,c+tN i*5))),j] d Q) (dW d a (c+tN i*5+4) (fun e f=>aE_.l8 F k x j s t b a (c+tN i*5) e f (nI f) 0 d Q)))))) (dW d a (c+tN i*5+2) (fun e f=>bA bf_ [.agg [s,t,b],nL e f 1] d Q fun d=>dj x d 1 0 i i fun e f=>wr d e (f+tN i*1) true fun d=>dh d a (c+tN i*5+1) (bv bI_ [x,.g (.ptr (some (a,c+tN i*5))),j] d Q) (dW d a (c+tN i*5+4) (fun e f=>aE_.l8 F k x j s t b a (c+tN i*5) e f (nI f) 0 d Q)))))):=zz
theorem aE_.l8_eq:aE_.l8 F (k+1) x i s t b n m y l j h H Q=ay h j (aN (leI 0 h&&ltI h (nI l)) y H (tN h*1) (fun a=>dW H n (m+2) fun c d=>bd bo_ [.agg [s,t,b],nL c d 1,h] H fun c d=>br d fun d e=>br d fun d f=>bk d fun d g=>uN d (bA F [x,a,ac_ .i64 (i+1),.agg [e,f,g]] c Q (fun a=>aE_.l8 F k x i s t b n m y l j (ac_ .i64 (h+1)) a Q)))) (Q true H):=zz
theorem aE_.st_ok (S:Sm) (hS:cN_ prog 195 S):ao_ prog 195 (aE_.st S):=lX_.sound (cx:=aE_.cx S) rfl (eZ tD_ func206 (eZ nL_ func215 (eZ p4_ func216 (eZ mN_ func217 (dw_.cons hS eN))))) nO func195 rfl
def aE_.at:Nat→Sm
 | 0=>fun _ _ _=>False
 | n+1=>aE_.st (aE_.at n)
def aE_:Sm:=fun xs H Q=>∃ n,aE_.at n xs H Q
theorem aE_.at_ok:∀ n,ao_ prog 195 (aE_.at n)
 | 0=>fun _ _ _ h=>h.elim
 | n+1=>aE_.st_ok _ ((aE_.at_ok n).c ⟨_,func195,by kernel_rfl,by kernel_rfl⟩)
theorem oo_:ao_ prog 195 (aE_):=ao_.ex (aE_.at_ok)
def fE_.cx:Cx:=⟨tys,[],[],[],[],au_,[.tmp 2]⟩
def fE_:=fF fE_.cx f218
theorem t9_:aw_ fE_.cx f218 (k+1) [.agg [b,c,.sl x n 1,.sl y m 1,.sl z l 1]] H Q=aE b (aE c (di Q (ac_ .i64 (ac_ .i64 (nI n+nI m)+nI l)) 0 H) (aO Q H)) (aO Q H):=zz
theorem tH_:ao_ prog 218 (fE_):=sO eN nO func218
def bH_.cx:Cx:=⟨tys,[],[(2,[0,8,9,10])],[],[(218,fE_)],au_,[.tmp 2]⟩
def bH_:=fF bH_.cx f196
def bH_.l2 k a b c d e:=aW_ (bH_.cx) f196 2 k (gP a::B 7 (nL b c 5::gI d::gI e::B 18 []))
theorem pG_:aw_ bH_.cx f196 (k+1) [x] H Q=aY x H 5 fun a b=>bH_.l2 k x a b (nI b) 0 H Q:=zz
theorem bH_.l2_eq:bH_.l2 (k+1) x y n i j H Q=ay j i (dN (leI 0 j&&ltI j (nI n)) y H (tN j*5) H H 1 H 1 H 1 (fun a b c d e f g h=>dj x H 1 0 j j fun l m=>aF H l (m+tN j*1) fun l=>aE l (bA fE_ [.agg [a,b,.sl c d 1,.sl e f 1,.sl g h 1]] H Q (fun a=>bH_.l2 k x y n i (ac_ .i64 (j+1)) a Q)) (bH_.l2 k x y n i (ac_ .i64 (j+1)) H Q))) (Q true H):=zz
theorem pk_:ao_ prog 196 (bH_):=sO (eZ tH_ func218 eN) nO func196
def g0_.cx:Cx:=⟨tys,[14,16],[],[],[(195,aE_),(196,bH_)],au_,[.tmp 2]⟩
def g0_:=fF g0_.cx f163
theorem wR_:aw_ g0_.cx f163 (k+1) [x] H Q=aY x H 5 fun _ a=>cY (nI a) 48 (Q (nN 0) H) (pS x (fun a b=>bj H a (b+0) 5 (pu H (.row true 4 (ls_ (tN 48) [.bool false]))) a (b+0) 5 fun a b c d=>eqv (nL a b 5) (nL c d 5) (ak aE_ [.g (.ptr (some (ln (pu H (.row true 4 (ls_ (tN 48) [.bool false]))),0))),nN 0,nN 1,.agg [mkS [],mkS [],true]] (pu (pu H (.row true 4 (ls_ (tN 48) [.bool false]))) (.row true 257 [.sl a b 5,.sl (some (ln H,0)) (tN 48) 1,.int .i64 (-1),nN 0])) (fun a b=>aE b (Q (nN 0) a) (ak bH_ [.g (.ptr (some (ln (pu H (.row true 4 (ls_ (tN 48) [.bool false]))),0)))] a (fun a b=>aE b (Q (nN 0) a) (au a (ln (pu H (.row true 4 (ls_ (tN 48) [.bool false])))) 3 (fun b=>ay 60 b (Q (nN 0) a) (au a (ln (pu H (.row true 4 (ls_ (tN 48) [.bool false])))) 2 (fun b=>Q b a)))))))))):=zz
theorem wP_:ao_ prog 163 (g0_):=sO (eZ oo_ func195 (eZ pk_ func196 eN)) nO func163
def dV_.cx:Cx:=⟨tys,[1],[],[],[(163,g0_)],au_,[.tmp 2]⟩
def dV_:=fF dV_.cx f130
theorem wq_:aw_ dV_.cx f130 (k+1) [.agg [.sl x n 5]] H Q=aI g0_ [.g (.ptr (some (ln H,0)))] (pu H (.row true 24 [.sl x n 5])) fun a b=>cU Q (ltI 0 b) a:=zz
theorem j6_:ao_ prog 130 (dV_):=sO (eZ wP_ func163 eN) nO func130
def bh_.cx (E:Nat→Sm) (S:Sm):Cx:=⟨tys,[],[(2,[0,2,6,20,21,22]),(7,[2,6,34,35,36])],[],[(141,S)],E,[]⟩
def bh_.st (E:Nat→Sm) (S:Sm):Sm:=fun xs H Q=>∃ k,aw_ (bh_.cx E S) f141 k xs H Q
def bh_.l2 (E:Nat→Sm) (S:Sm) (k:Nat) (xx0:Pl) (nx1:Nat) (cx2:List (Nat × Nat)) (nx3:Nat) (nx4:Nat) (xx5:Pl) (nx6:Nat) (ix7:Int) (ix8:Int) (H:Hp) (Q:Post):Prop:=aW_ (bh_.cx E S) f141 2 k ((.g (.ptr xx0)):: .bad::(.g (.fn nx1 cx2))::B 3 ((.g (.ptr (some (nx3,nx4))))::B 13 ((.g (.sl xx5 nx6 1))::(.g (.int .i64 ix7))::(.g (.int .i64 ix8))::B 30 ([])))) H Q
def bh_.l7 (E:Nat→Sm) (S:Sm) (k:Nat) (nx0:Nat) (cx1:List (Nat × Nat)) (nx2:Nat) (nx3:Nat) (xx4:Pl) (nx5:Nat) (ix6:Int) (ix7:Int) (H:Hp) (Q:Post):Prop:=aW_ (bh_.cx E S) f141 7 k (.bad:: .bad::(.g (.fn nx0 cx1))::B 3 ((.g (.ptr (some (nx2,nx3))))::B 27 ((.g (.sl xx4 nx5 1))::(.g (.int .i64 ix6))::(.g (.int .i64 ix7))::B 16 ([])))) H Q
theorem yz_:aw_ (bh_.cx E F) f141 (k+1) [x,i,.g (.fn n p)] H Q=cL x H 5 0 i i fun a b=>dW H a (b+tN i*5+4) fun c d=>bh_.l2 E F k x n p a (b+tN i*5) c d (nI d) 0 H Q:=zz
theorem bh_.l2_eq:bh_.l2 E F (k+1) x n p m l y o i j H Q=ay j i (aN (leI 0 j&&ltI j (nI o)) y H (tN j*1) (fun a=>cl F [x,a,.g (.fn n p)] H fun _ a=>bh_.l2 E F k x n p m l y o i (ac_ .i64 (j+1)) a Q)) (dW H m (l+3) (fun a b=>bh_.l7 E F k n p m l a b (nI b) 0 H Q)):=zz
theorem bh_.l7_eq:bh_.l7 E F (k+1) n p m l x o i j H Q=ay j i (aL (leI 0 j&&ltI j (nI o)) x H (tN j*1) (fun a=>db H m (l+2) 1 0 j j fun b c=>aj H b (c+tN j*1) fun b=>cl (E n) (cpl [.agg [.str b,.str a]] p) H fun _ a=>bh_.l7 E F k n p m l x o i (ac_ .i64 (j+1)) a Q)) (aC Q [] H):=zz
theorem bh_.st_ok (E:Nat→Sm) (hE:∀ f,cN_ prog f (E f)) (S:Sm) (hS:cN_ prog 141 S):ao_ prog 141 (bh_.st E S):=lX_.sound (cx:=bh_.cx E S) rfl (dw_.cons hS eN) hE func141 rfl
def bh_.at (E:Nat→Sm):Nat→Sm
 | 0=>fun _ _ _=>False
 | n+1=>bh_.st E (bh_.at E n)
def bh_ (E:Nat→Sm):Sm:=fun xs H Q=>∃ n,bh_.at E n xs H Q
theorem bh_.at_ok (E:Nat→Sm) (hE:∀ f,cN_ prog f (E f)):∀ n,ao_ prog 141 (bh_.at E n)
 | 0=>fun _ _ _ h=>h.elim
 | n+1=>bh_.st_ok E hE _ ((bh_.at_ok E hE n).c ⟨_,func141,by kernel_rfl,by kernel_rfl⟩)
theorem ye_ (E:Nat→Sm) (hE:∀ f,cN_ prog f (E f)):ao_ prog 141 (bh_ E):=ao_.ex (bh_.at_ok E hE)
def ep_.cx:Cx:=⟨tys,[],[],[],[],au_,[]⟩
def ep_:=fF ep_.cx f142
theorem t4_:aw_ ep_.cx f142 (k+1) [.agg [s,t],.g (.ptr (some (n,m))),.g (.ptr (some (l,o))),.g (.ptr (some (N,M)))] H Q=aj H n m fun a=>aE (dN_ s a) (aj H l o (fun a=>dz a (mkS []) (ae H N M 2 (fun a b=>dO H 74 2 32 a b [s,t] fun a b c=>bI c N M (.sl a b 2) Q [])) (aj H l o (fun a=>b2_ (dN_ s a) (ae H N M 2 (fun a b=>dO H 74 2 32 a b [s,t] fun a b c=>bI c N M (.sl a b 2) Q [])) (aC Q [] H))))) (aC Q [] H):=zz
theorem ug_:ao_ prog 142 (ep_):=sO eN nO func142
def g1_.cx:Cx:=⟨tys,[3,4,5,8],[],[],[(130,dV_),(141,(bh_ (c5_ [(142,ep_)])))],au_,[.tmp 6,.tmp 7]⟩
def g1_:=fF g1_.cx f101
theorem wN_:aw_ g1_.cx f101 (k+1) [.agg [.sl x n 5],s,t] H Q=ae (pu (pu (pu H (.row true 24 [.sl x n 5])) (.row true 9 [s])) (.row true 9 [t])) (ln H) 0 5 fun a b=>aR dV_ [.agg [.sl a b 5]] (pu (pu (pu H (.row true 24 [.sl x n 5])) (.row true 9 [s])) (.row true 9 [t])) Q [.s (.sl none 0 2),nN 1400] fun a=>cl (bh_ (c5_ [(142,ep_)])) [.g (.ptr (some (ln H,0))),nN 0,.g (.fn 142 [(ln (pu H (.row true 24 [.sl x n 5])),0),(ln (pu (pu H (.row true 24 [.sl x n 5])) (.row true 9 [.str s])),0),(ln a,0)])] (pu a (.row true 35 [.sl none 0 2])) fun _ b=>ae b (ln a) 0 2 fun a c=>aC Q [.s (.sl a c 2),nN 0] b:=zz
theorem wI_:ao_ prog 101 (g1_):=sO (eZ j6_ func130 (dw_.cons ((ye_ (c5_ [(142,ep_)]) (hn_ (eZ ug_ func142 eN))).c ⟨_,func141,by kernel_rfl,by kernel_rfl⟩) eN)) nO func101
def hC_.cx:Cx:=⟨tys,[],[],[],[(101,g1_)],au_,[.tmp 2,.tmp 3]⟩
def hC_:=fF hC_.cx f64
theorem Bg_:aw_ hC_.cx f64 (k+1) [.agg [.sl x n 5]] H Q=cZ g1_ [.agg [.sl x n 5],mkS [],mkS []] H 2 fun a b c d=>aC Q [.s (.sl b c 2),d] a:=zz
theorem tl_:ao_ prog 64 (hC_):=sO (eZ wI_ func101 eN) nO func64
def j5_.cx:Cx:=⟨tys,[],[],[],[],au_,[.tmp 6]⟩
def j5_:=fF j5_.cx f143
theorem DM_:aw_ j5_.cx f143 (k+1) [s,.g (.int .u8 i),j] H Q=dq j (sz s) Q H (chk (leI 0 0&&ltI 0 (sz s)) (di Q (byt s (tN 0)) i H)):=zz
theorem sw_:ao_ prog 143 (j5_):=sO eN nO func143
def c8_.cx:Cx:=⟨tys,[],[(2,[0,1,8,9])],[],[],au_,[.tmp 4]⟩
def c8_:=fF c8_.cx f151
def c8_.l2 k a b c d:=aW_ (c8_.cx) f151 2 k (gS a::gI b::B 6 (gI c::gI d::B 28 []))
theorem At_:aw_ c8_.cx f151 (k+1) [s,i] H Q=c8_.l2 k s i (sz s) 0 H Q:=zz
theorem c8_.l2_eq:c8_.l2 (k+1) s i j h H Q=ay h j (chk (leI 0 h&&ltI h (sz s)) (ay (byt s (tN h)) 97 (dE (byt s (tN h)) 48 Q H (dE 57 (byt s (tN h)) Q H (c8_.l2 k s i j (ac_ .i64 (h+1)) H Q))) (ay 122 (byt s (tN h)) (dE (byt s (tN h)) 48 Q H (dE 57 (byt s (tN h)) Q H (c8_.l2 k s i j (ac_ .i64 (h+1)) H Q))) (c8_.l2 k s i j (ac_ .i64 (h+1)) H Q)))) (ew s [] (dx Q (sz s) i H) (aO Q H)):=zz
theorem tx_:ao_ prog 151 (c8_):=sO eN nO func151
def dI_.cx:Cx:=⟨tys,[],[],[],[(151,c8_)],au_,[.tmp 2]⟩
def dI_:=fF dI_.cx f109
theorem wT_:aw_ dI_.cx f109 (k+1) [s] H Q=bv c8_ [s,nN 4] H Q:=zz
theorem ik_:ao_ prog 109 (dI_):=sO (eZ tx_ func151 eN) nO func109
def jI_.cx:Cx:=⟨tys,[],[],[],[(143,j5_),(109,dI_)],au_,[.tmp 2,.tmp 3]⟩
def jI_:=fF jI_.cx f102
theorem zS_:aw_ jI_.cx f102 (k+1) [s] H Q=aR j5_ [s,.g (.int .u8 115),nN 1] H Q [mkS [],false] fun a=>chk (leN (tN 1) (szN s)&&leN (szN s) (szN s)) (aR dI_ [sub s (tN 1) (szN s)] a Q [mkS [],false] (fun a=>chk (leN (tN 1) (szN s)&&leN (szN s) (szN s)) (aC Q [sub s (tN 1) (szN s),true] a))):=zz
theorem zD_:ao_ prog 102 (jI_):=sO (eZ sw_ func143 (eZ ik_ func109 eN)) nO func102
def gq_.cx:Cx:=⟨tys,[],[],[],[],au_,[.tmp 2]⟩
def gq_:=fF gq_.cx f145
theorem Dp_:aw_ gq_.cx f145 (k+1) [i] H Q=dq 1 i Q H (dx Q i 255 H):=zz
theorem jn_:ao_ prog 145 (gq_):=sO eN nO func145
def gy_.cx:Cx:=⟨tys,[],[],[],[],au_,[.tmp 2]⟩
def gy_:=fF gy_.cx f110
theorem yO_:aw_ gy_.cx f110 (k+1) [i] H Q=dq 0 i Q H (dx Q i 2 H):=zz
theorem ql_:ao_ prog 110 (gy_):=sO eN nO func110
def fK_.cx:Cx:=⟨tys,[],[],[],[],au_,[.tmp 2]⟩
def fK_:=fF fK_.cx f111
theorem o5_:ao_ prog 111 (fK_):=sO eN nO func111
def ht_.cx:Cx:=⟨tys,[],[],[],[(145,gq_),(110,gy_),(109,dI_),(111,fK_)],au_,[.tmp 2]⟩
def ht_:=fF ht_.cx f144
theorem A0_:aw_ ht_.cx f144 (k+1) [.agg [i,j,s,t]] H Q=bY gq_ [i] H Q fun a=>bY gy_ [j] a Q fun a=>dz s (mkS []) (bv fK_ [t] a Q) (d7 dI_ [s] a Q fK_ [t] Q):=zz
theorem tk_:ao_ prog 144 (ht_):=sO (eZ jn_ func145 (eZ ql_ func110 (eZ ik_ func109 (eZ o5_ func111 eN)))) nO func144
def jZ_.cx:Cx:=⟨tys,[],[],[],[(144,ht_)],au_,[.cell 2 79,.tmp 3]⟩
def jZ_:=fF jZ_.cx f103
theorem A5_:aw_ jZ_.cx f103 (k+1) [s] H Q=d5 (sz s) 3 Q [.a [nN 0,nN 0,mkS [],mkS []],nN 1700] H (chk (leI 0 2&&ltI 2 (sz s)) (d5 (ac_ .i64 (sz s-3)) (ac_ .i64 (byt s (tN 2))) Q [.a [nN 0,nN 0,mkS [],mkS []],nN 1700] H (ah (leI 0 2&&ltI 2 (sz s)) (leI 0 0&&ltI 0 (sz s)) (ah (leI 0 1&&ltI 1 (sz s)) (leI 0 (ac_ .i64 (3+ac_ .i64 (byt s (tN 2))))) (ah (leN (tN 3) (tN (ac_ .i64 (3+ac_ .i64 (byt s (tN 2)))))&&leN (tN (ac_ .i64 (3+ac_ .i64 (byt s (tN 2))))) (szN s)) (leI 0 (ac_ .i64 (3+ac_ .i64 (byt s (tN 2))))) (chk (leN (tN (ac_ .i64 (3+ac_ .i64 (byt s (tN 2))))) (szN s)&&leN (szN s) (szN s)) (aR ht_ [.agg [ac_ .i64 (byt s (tN 0)),ac_ .i64 (byt s (tN 1)),sub s (tN 3) (tN (ac_ .i64 (3+ac_ .i64 (byt s (tN 2))))),sub s (tN (ac_ .i64 (3+ac_ .i64 (byt s (tN 2))))) (szN s)]] H Q [.a [nN 0,nN 0,mkS [],mkS []],nN 1700] (fun a=>aC Q [.a [ac_ .i64 (byt s (tN 0)),ac_ .i64 (byt s (tN 1)),sub s (tN 3) (tN (ac_ .i64 (3+ac_ .i64 (byt s (tN 2))))),sub s (tN (ac_ .i64 (3+ac_ .i64 (byt s (tN 2))))) (szN s)],nN 0] a)))))))):=zz
theorem AN_:ao_ prog 103 (jZ_):=sO (eZ tk_ func144 eN) nO func103
def eK_.cx:Cx:=⟨tys,[],[],[],[(151,c8_)],au_,[.tmp 2]⟩
def eK_:=fF eK_.cx f146
theorem wK_:aw_ eK_.cx f146 (k+1) [s] H Q=bv c8_ [s,nN 3] H Q:=zz
theorem kB_:ao_ prog 146 (eK_):=sO (eZ tx_ func151 eN) nO func146
def jq_.cx:Cx:=⟨tys,[],[],[],[(143,j5_),(145,gq_),(146,eK_)],au_,[.tmp 2,.tmp 3,.tmp 4]⟩
def jq_:=fF jq_.cx f104
theorem zK_:aw_ jq_.cx f104 (k+1) [s] H Q=aR j5_ [s,.g (.int .u8 102),nN 2] H Q [nN 0,mkS [],false] fun a=>chk (leI 0 1&&ltI 1 (sz s)) (aR gq_ [ac_ .i64 (byt s (tN 1))] a Q [nN 0,mkS [],false] (fun a=>chk (leN (tN 2) (szN s)&&leN (szN s) (szN s)) (aR eK_ [sub s (tN 2) (szN s)] a Q [nN 0,mkS [],false] (fun a=>ah (leI 0 1&&ltI 1 (sz s)) (leN (tN 2) (szN s)&&leN (szN s) (szN s)) (aC Q [ac_ .i64 (byt s (tN 1)),sub s (tN 2) (szN s),true] a))))):=zz
theorem AV_:ao_ prog 104 (jq_):=sO (eZ sw_ func143 (eZ jn_ func145 (eZ kB_ func146 eN))) nO func104
def gW_.cx:Cx:=⟨tys,[],[],[],[(143,j5_),(145,gq_)],au_,[.tmp 2,.tmp 3]⟩
def gW_:=fF gW_.cx f105
theorem xb_:aw_ gW_.cx f105 (k+1) [s] H Q=aR j5_ [s,.g (.int .u8 105),nN 2] H Q [nN 0,false] fun a=>cn (sz s) 2 Q [nN 0,false] a (chk (leI 0 1&&ltI 1 (sz s)) (aR gq_ [ac_ .i64 (byt s (tN 1))] a Q [nN 0,false] (fun a=>chk (leI 0 1&&ltI 1 (sz s)) (aC Q [ac_ .i64 (byt s (tN 1)),true] a)))):=zz
theorem wY_:ao_ prog 105 (gW_):=sO (eZ sw_ func143 (eZ jn_ func145 eN)) nO func105
def ex_.cx:Cx:=⟨tys,[],[],[],[],au_,[.tmp 2]⟩
def ex_:=fF ex_.cx f152
theorem lw_:ao_ prog 152 (ex_):=sO eN nO func152
def gv_.cx:Cx:=⟨tys,[],[],[],[(145,gq_),(152,ex_)],au_,[.tmp 2]⟩
def gv_:=fF gv_.cx f147
theorem zk_:aw_ gv_.cx f147 (k+1) [.agg [i,s]] H Q=d7 gq_ [i] H Q ex_ [s] Q:=zz
theorem qE_:ao_ prog 147 (gv_):=sO (eZ jn_ func145 (eZ lw_ func152 eN)) nO func147
def hU_.cx:Cx:=⟨tys,[],[],[],[(147,gv_)],au_,[.cell 2 90,.tmp 3]⟩
def hU_:=fF hU_.cx f106
theorem zn_:aw_ hU_.cx f106 (k+1) [s] H Q=dz s (mkS []) (aC Q [.a [nN 0,mkS []],nN 1800] H) (ah (leI 0 0&&ltI 0 (sz s)) (leN (tN 1) (szN s)&&leN (szN s) (szN s)) (aR gv_ [.agg [ac_ .i64 (byt s (tN 0)),sub s (tN 1) (szN s)]] H Q [.a [nN 0,mkS []],nN 1800] (fun a=>aC Q [.a [ac_ .i64 (byt s (tN 0)),sub s (tN 1) (szN s)],nN 0] a))):=zz
theorem yq_:ao_ prog 106 (hU_):=sO (eZ qE_ func147 eN) nO func106
def dt_.cx:Cx:=⟨tys,[],[],[],[(102,jI_),(103,jZ_),(104,jq_),(105,gW_),(106,hU_)],au_,[.tmp 4]⟩
def dt_:=fF dt_.cx f65
theorem mR_:aw_ dt_.cx f65 (k+1) [x,.agg [s,t]] H Q=cd jI_ [s] H fun a b c=>bR b fun b=>b2_ b (aV jZ_ [t] a (fun a b d=>bh d fun d e=>bh d fun d f=>br d fun d g=>cV d fun d=>bf b fun b=>ch x a fun h=>dZ a h [.str] c (.a [e,f,g,d]) fun a=>di Q b 0 a)) (bZ jq_ [s] a (fun a b c=>ai b fun b d=>dS d fun d=>bR b fun b=>b2_ b (dt (sz t) 2 Q a (chk (leI 0 1&&ltI 1 (sz t)) (dE 1 (byt t (tN 1)) Q a (cf x a (fun b=>ah (leI 0 0&&ltI 0 (sz t)) (leI 0 1&&ltI 1 (sz t)) (yn_ a b true [.int .i64,.str] (.a [c,d]) (.a [ac_ .i64 (byt t (tN 0)),.bool (eqI (byt t (tN 1)) 1)]) (fun a=>Q true a))))))) (cX gW_ [s] a (fun a b c=>aV hU_ [t] a fun a d e=>bh e fun e f=>cV e fun e=>bf d fun d=>ca x a fun g=>dZ a g [.int .i64] b (.a [f,e]) fun a=>aW c Q a (di Q d 0 a))))):=zz
theorem mZ_:ao_ prog 65 (dt_):=sO (eZ zD_ func102 (eZ AN_ func103 (eZ AV_ func104 (eZ wY_ func105 (eZ yq_ func106 eN))))) nO func65
def aF_.cx:Cx:=⟨tys,[],[(3,[0,3,13]),(7,[0,3,27]),(1000016,[97]),(1000030,[98])],[],[],au_,[.tmp 2]⟩
def aF_:=fF aF_.cx f66
def aF_.l3 k a b c d:=aW_ (aF_.cx) f66 3 k (gP a::.bad::.bad::gM b::B 9 (.g (.ptr (some (c,d)))::B 33 []))
def aF_.l7 k a b c d:=aW_ (aF_.cx) f66 7 k (gP a::.bad::.bad::gM b::B 23 (.g (.ptr (some (c,d)))::B 19 []))
theorem lY_:aw_ aF_.cx f66 (k+1) [x] H Q=cf x (pu H (.map [] 0)) fun a=>rng (pu H (.map [] 0)) a fun a=>aF_.l3 k x (some (ln H)) (ln (pu H (.map [] 0))) 0 a Q:=zz
theorem aF_.l3_eq:aF_.l3 (k+1) x a n m H Q=cF H n m n m (fun b=>ca x b fun c=>rng b c fun c=>aF_.l7 k x a (ln b) 0 c Q) fun b c d=>bU c fun c _=>br c fun c _=>uN c (bU d (fun c d=>bk c fun c _=>uN c (dT b a [.int .i64] d (nN 0) (fun c _=>rS c fun c=>aq c fun c=>dZ b a [.int .i64] d (ac_ .i64 (c+1)) fun b=>aF_.l3 k x a n m b Q)))):=zz
theorem aF_.l7_eq:aF_.l7 (k+1) x a n m H Q=cF H n m n m (fun b=>oV_ b a fun a=>ca x b fun c=>oV_ b c fun c=>di Q (nI a) (nI c) b) fun b c d=>rS c fun c=>aq c fun c=>bU d fun d e=>br d fun d _=>uN d (dT b a [.int .i64] c (nN 0) (fun c _=>rS c fun c=>aq c fun c=>dt c e Q b (aF_.l7 k x a n m b Q))):=zz
theorem lL_:ao_ prog 66 (aF_):=sO eN nO func66
def bp_.cx:Cx:=⟨tys,[],[(3,[0,3,11]),(1000014,[96])],[],[],au_,[.tmp 2]⟩
def bp_:=fF bp_.cx f67
def bp_.l3 k a b c d:=aW_ (bp_.cx) f67 3 k (gP a::.bad::.bad::gM b::B 7 (.g (.ptr (some (c,d)))::B 15 []))
theorem mH_:aw_ bp_.cx f67 (k+1) [x] H Q=ch x (pu H (.map [] 0)) fun a=>rng (pu H (.map [] 0)) a fun a=>bp_.l3 k x (some (ln H)) (ln (pu H (.map [] 0))) 0 a Q:=zz
theorem bp_.l3_eq:bp_.l3 (k+1) x a n m H Q=cF H n m n m (fun b=>oV_ b a fun a=>ch x b fun c=>oV_ b c fun c=>di Q (nI a) (nI c) b) fun b c d=>dk c fun _=>bU d fun c d=>bh c fun c _=>br c fun c _=>br c fun c _=>uN c (dZ b a [.int .i64] d true (fun b=>bp_.l3 k x a n m b Q)):=zz
theorem mv_:ao_ prog 67 (bp_):=sO eN nO func67
def aY_.cx E:=(⟨tys,[1],[],[],[],E,[.tmp 2]⟩:Cx)
def aY_ E:=fF (aY_.cx E) f107
theorem eY_:aw_ (aY_.cx E) f107 (k+1) [.g (.map a)] H Q=cT Q (.fn 148 [(ln H,0)]) (pu H (.row true 96 [.map a])):=zz
theorem e5_(E)(h:eE E):ao_ prog 107 (aY_ E):=sO eN h func107
def am_.cx E:=(⟨tys,[],[(3,[0,1,2,8,9,10])],[],[],E,[.tmp 6,.tmp 7]⟩:Cx)
def am_ E:=fF (am_.cx E) f170
def am_.l3 E k a b c d e f g h:=aW_ (am_.cx E) f170 3 k (nL a b 3::gS c::.g (.fn d e)::B 5 (gI f::gI g::gI h::B 38 []))
theorem en_:aw_ (am_.cx E) f170 (k+1) [nL x n 3,s,.g (.fn m p)] H Q=am_.l3 E k x n s m p (nI n) 0 (nI n) H Q:=zz
theorem am_.l3_eq:am_.l3 E (k+1) x n s m p i j h H Q=ay j h (dp (leI 0 (ac_ .i64 (qN_ .u64 (ac_ .u64 (ac_ .i64 (j+h))) 1))&&ltI (ac_ .i64 (qN_ .u64 (ac_ .u64 (ac_ .i64 (j+h))) 1)) (nI n)) x H (tN (ac_ .i64 (qN_ .u64 (ac_ .u64 (ac_ .i64 (j+h))) 1))*3) H H (fun a b c=>aI (E m) (cpl [.agg [.str a,.str b,.bool c],.g (.str s)] p) H fun a b=>ay b 0 (am_.l3 E k x n s m p i (ac_ .i64 (ac_ .i64 (qN_ .u64 (ac_ .u64 (ac_ .i64 (j+h))) 1)+1)) h a Q) (am_.l3 E k x n s m p i j (ac_ .i64 (qN_ .u64 (ac_ .u64 (ac_ .i64 (j+h))) 1)) a Q))) (ay j i (dp (leI 0 j&&ltI j (nI n)) x H (tN j*3) H H (fun a b c=>aI (E m) (cpl [.agg [.str a,.str b,.bool c],.g (.str s)] p) H fun a b=>aC Q [j,.s (.bool (eqI b 0))] a)) (aC Q [j,false] H)):=zz
theorem ek_(E)(h:eE E):ao_ prog 170 (am_ E):=sO eN h func170
def cU_.cx:Cx:=⟨tys,[],[],[],[(222,bytealg_abigenruntimecmpstring)],au_,[.tmp 4]⟩
def cU_:=fF cU_.cx f203
theorem kF_:aw_ cU_.cx f203 (k+1) [s,t] H Q=aI bytealg_abigenruntimecmpstring [s,t] H fun a b=>Q b a:=zz
theorem kM_:ao_ prog 203 (cU_):=sO (dw_.cons (eR_) eN) nO func203
def c3_.cx:Cx:=⟨tys,[],[],[],[(203,cU_)],au_,[.tmp 4]⟩
def c3_:=fF c3_.cx f172
theorem pK_:aw_ c3_.cx f172 (k+1) [s,t] H Q=aI cU_ [s,t] H fun a b=>Q b a:=zz
theorem jO_:ao_ prog 172 (c3_):=sO (eZ kM_ func203 eN) nO func172
def c4_.cx:Cx:=⟨tys,[],[],[],[(172,c3_)],au_,[.tmp 4]⟩
def c4_:=fF c4_.cx f171
theorem pB_:aw_ c4_.cx f171 (k+1) [.agg [s,t,b],r] H Q=aI c3_ [s,r] H fun a b=>Q b a:=zz
theorem pT_:ao_ prog 171 (c4_):=sO (eZ jO_ func172 eN) nO func171
def fe_.cx:Cx:=⟨tys,[],[],[],[(170,(am_ (c5_ [(171,c4_)])))],au_,[.tmp 4,.tmp 5]⟩
def fe_:=fF fe_.cx f149
theorem sr_:aw_ fe_.cx f149 (k+1) [nL x n 3,s] H Q=cX (am_ (c5_ [(171,c4_)])) [nL x n 3,s,.g (.fn 171 [])] H fun a b c=>aC Q [b,c] a:=zz
theorem sA_:ao_ prog 149 (fe_):=sO (dw_.cons ((ek_ (c5_ [(171,c4_)]) (hn_ (eZ pT_ func171 eN))).c ⟨_,func170,by kernel_rfl,by kernel_rfl⟩) eN) nO func149
def bj_.cx:Cx:=⟨tys,[],[(3,[0,1,5,14]),(1000017,[97]),(2000000,[5])],[],[(149,fe_),(150,slices_Insert__api_File_api_File)],au_,[.tmp 4]⟩
def bj_:=fF bj_.cx f108
def bj_.l3 k a b c d e f:=aW_ (bj_.cx) f108 3 k (gP a::gI b::B 3 (nL c d 3::B 8 (.g (.ptr (some (e,f)))::B 34 [])))
theorem ns_:aw_ bj_.cx f108 (k+1) [x,i] H Q=cf x H fun a=>rng H a fun a=>bj_.l3 k x i none 0 (ln H) 0 a Q:=zz
theorem bj_.l3_eq:bj_.l3 (k+1) x i y n m l H Q=cF H m l m l (fun a=>eK Q y n 3 a) fun a b c=>bU b fun b d=>cV b fun b=>bU c fun c e=>bk c fun c f=>uN c (bV d i (bZ fe_ [nL y n 3,b] a (fun a c d=>aX c fun c _=>uE c (ca x a (fun c=>dT a c [.int .i64] e (.a [nN 0,mkS []]) fun c _=>bU c fun c _=>cV c fun c=>aG slices_Insert__api_File_api_File [nL y n 3,d,nL (some (ln a,0)) 1 3] (pu a (.row false 1000003 [b,c,f])) 3 fun a b c=>bj_.l3 k x i b c m l a Q)))) (bj_.l3 k x i y n m l a Q)):=zz
theorem nl_:ao_ prog 108 (bj_):=sO (eZ sA_ func149 (dw_.cons (eu_) eN)) nO func108
def bx_.cx E:=(⟨tys,[],[(3,[0,3,12,13,14]),(2000000,[3])],[],[(107,(aY_ E)),(92,slices_Sorted_string),(108,bj_)],E,[.tmp 2]⟩:Cx)
def bx_ E:=fF (bx_.cx E) f68
def bx_.l3 E k a b c d e f g:=aW_ (bx_.cx E) f68 3 k (gP a::.bad::.bad::nL b c 5::B 8 (nL d e 1::gI f::gI g::B 26 []))
theorem nW_:aw_ (bx_.cx E) f68 (k+1) [x] H Q=ch x H fun a=>ac (aY_ E) [.g (.map a)] H fun a b=>aG slices_Sorted_string [b] a 1 fun a b c=>bx_.l3 E k x none 0 b c (nI c) 0 a Q:=zz
theorem bx_.l3_eq:bx_.l3 E (k+1) x y n z m i j H Q=ay j i (aL (leI 0 j&&ltI j (nI m)) z H (tN j*1) (fun a=>ch x H fun b=>dT H b [.str] a (.a [nN 0,nN 0,mkS [],mkS []]) fun b _=>bU b fun b c=>bh b fun b d=>br b fun b e=>cV b fun b=>aG bj_ [x,c] H 3 fun c f g=>dO c 45 5 80 y n [a,d,e,b,.sl f g 3] fun a b c=>bx_.l3 E k x a b z m i (ac_ .i64 (j+1)) c Q)) (eK Q y n 5 H):=zz
theorem n0_(E)(h:eE E):ao_ prog 68 (bx_ E):=sO (eZ (e5_ E h) func107 (dw_.cons (ft_) (eZ nl_ func108 eN))) h func68
def bJ_.cx:Cx:=⟨tys,[],[(2,[0,1,7,8,9])],[],[(146,eK_),(152,ex_)],au_,[.tmp 4]⟩
def bJ_:=fF bJ_.cx f112
def bJ_.l2 k a b c d e f g:=aW_ (bJ_.cx) f112 2 k (nL a b 3::gB c::B 5 (nL d e 3::gI f::gI g::B 40 []))
theorem up_:aw_ bJ_.cx f112 (k+1) [nL x n 3,b] H Q=bJ_.l2 k x n b x n (nI n) 0 H Q:=zz
theorem bJ_.l2_eq:bJ_.l2 (k+1) x n b y m i j H Q=ay j i (dp (leI 0 j&&ltI j (nI m)) y H (tN j*3) H H (fun a c d=>bA eK_ [a] H Q fun e=>bA ex_ [c] e Q fun c=>b2_ b (b2_ d (aO Q c) (ay 0 j (bo (leI 0 (ac_ .i64 (j-1))&&ltI (ac_ .i64 (j-1)) (nI n)) x c (tN (ac_ .i64 (j-1))*3) (fun d=>bz (dN_ d a) Q c (bJ_.l2 k x n b y m i (ac_ .i64 (j+1)) c Q))) (bJ_.l2 k x n b y m i (ac_ .i64 (j+1)) c Q))) (ay 0 j (bo (leI 0 (ac_ .i64 (j-1))&&ltI (ac_ .i64 (j-1)) (nI n)) x c (tN (ac_ .i64 (j-1))*3) (fun d=>bz (dN_ d a) Q c (bJ_.l2 k x n b y m i (ac_ .i64 (j+1)) c Q))) (bJ_.l2 k x n b y m i (ac_ .i64 (j+1)) c Q)))) (dx Q (nI n) 4 H):=zz
theorem tS_:ao_ prog 112 (bJ_):=sO (eZ kB_ func146 (eZ lw_ func152 eN)) nO func112
def al_.cx E:=(⟨tys,[],[(3,[0,1,2,8,9,10])],[],[],E,[.tmp 6,.tmp 7]⟩:Cx)
def al_ E:=fF (al_.cx E) f175
def al_.l3 E k a b c d e f g h:=aW_ (al_.cx E) f175 3 k (nL a b 5::gS c::.g (.fn d e)::B 5 (gI f::gI g::gI h::B 38 []))
theorem eh_:aw_ (al_.cx E) f175 (k+1) [nL x n 5,s,.g (.fn m p)] H Q=al_.l3 E k x n s m p (nI n) 0 (nI n) H Q:=zz
theorem al_.l3_eq:al_.l3 E (k+1) x n s m p i j h H Q=ay j h (cS (leI 0 (ac_ .i64 (qN_ .u64 (ac_ .u64 (ac_ .i64 (j+h))) 1))&&ltI (ac_ .i64 (qN_ .u64 (ac_ .u64 (ac_ .i64 (j+h))) 1)) (nI n)) x H (tN (ac_ .i64 (qN_ .u64 (ac_ .u64 (ac_ .i64 (j+h))) 1))*5) H H H H 3 (fun a b c d e f=>aI (E m) (cpl [.agg [.str a,.int .i64 b,.str c,.str d,.sl e f 3],.g (.str s)] p) H fun a b=>ay b 0 (al_.l3 E k x n s m p i (ac_ .i64 (ac_ .i64 (qN_ .u64 (ac_ .u64 (ac_ .i64 (j+h))) 1)+1)) h a Q) (al_.l3 E k x n s m p i j (ac_ .i64 (qN_ .u64 (ac_ .u64 (ac_ .i64 (j+h))) 1)) a Q))) (ay j i (cS (leI 0 j&&ltI j (nI n)) x H (tN j*5) H H H H 3 (fun a b c d e f=>aI (E m) (cpl [.agg [.str a,.int .i64 b,.str c,.str d,.sl e f 3],.g (.str s)] p) H fun a b=>aC Q [j,.s (.bool (eqI b 0))] a)) (aC Q [j,false] H)):=zz
theorem eo_(E)(h:eE E):ao_ prog 175 (al_ E):=sO eN h func175
def e4_.cx:Cx:=⟨tys,[],[],[],[(172,c3_)],au_,[.tmp 4]⟩
def e4_:=fF e4_.cx f176
theorem vG_:aw_ e4_.cx f176 (k+1) [.agg [s,i,t,r,.sl x n 3],S] H Q=aI c3_ [s,S] H fun a b=>Q b a:=zz
theorem vI_:ao_ prog 176 (e4_):=sO (eZ jO_ func172 eN) nO func176
def h5_.cx:Cx:=⟨tys,[],[],[],[(175,(al_ (c5_ [(176,e4_)])))],au_,[.tmp 4,.tmp 5]⟩
def h5_:=fF h5_.cx f153
theorem yt_:aw_ h5_.cx f153 (k+1) [nL x n 5,s] H Q=cX (al_ (c5_ [(176,e4_)])) [nL x n 5,s,.g (.fn 176 [])] H fun a b c=>aC Q [b,c] a:=zz
theorem y2_:ao_ prog 153 (h5_):=sO (dw_.cons ((eo_ (c5_ [(176,e4_)]) (hn_ (eZ vI_ func176 eN))).c ⟨_,func175,by kernel_rfl,by kernel_rfl⟩) eN) nO func153
def bZ_.cx:Cx:=⟨tys,[],[(2,[0,1,9,10])],[],[(153,h5_)],au_,[.tmp 4]⟩
def bZ_:=fF bZ_.cx f113
def bZ_.l2 k a b c d e:=aW_ (bZ_.cx) f113 2 k (nL a b 5::gI c::B 7 (gI d::gI e::B 26 []))
theorem sv_:aw_ bZ_.cx f113 (k+1) [nL x n 5,i] H Q=bZ_.l2 k x n i (nI n) 0 H Q:=zz
theorem bZ_.l2_eq:bZ_.l2 (k+1) x n i j h H Q=ay h j (aD (leI 0 i&&ltI i (nI n)) x (fun a b=>aj H a (b+tN i*5+2) fun a=>dz a (mkS []) (Q true H) (cX h5_ [nL x n 5,a] H (fun a b c=>bz c Q a (cA (leI 0 b&&ltI b (nI n)) x a (tN b*5) (fun c=>dt c 2 Q a (bZ_.l2 k x n b j (ac_ .i64 (h+1)) a Q))))))) (aO Q H):=zz
theorem sQ_:ao_ prog 113 (bZ_):=sO (eZ y2_ func153 eN) nO func113
def bG_.cx:Cx:=⟨tys,[],[(2,[0,6,7,8]),(8,[0,55,56])],[],[(109,dI_),(110,gy_),(111,fK_),(112,bJ_),(113,bZ_)],au_,[.tmp 2]⟩
def bG_:=fF bG_.cx f69
def bG_.l2 k a b c d e f:=aW_ (bG_.cx) f69 2 k (nL a b 5::B 5 (nL c d 5::gI e::gI f::B 58 []))
def bG_.l8 k a b c d:=aW_ (bG_.cx) f69 8 k (nL a b 5::B 54 (gI c::gI d::B 10 []))
theorem wQ_:aw_ bG_.cx f69 (k+1) [nL x n 5] H Q=bG_.l2 k x n x n (nI n) 0 H Q:=zz
theorem bG_.l2_eq:bG_.l2 (k+1) x n y m i j H Q=ay j i (cq (leI 0 j&&ltI j (nI m)) y H (tN j*5) H (tN j*5) H (tN j*5) (fun a b c d _=>aj H a (b+tN j*5+1+1+1) fun e=>ae H a (b+tN j*5+1+1+1+1) 3 fun a b=>bA dI_ [c] H Q fun f=>bA gy_ [d] f Q fun f=>bA fK_ [e] f Q fun e=>bA bJ_ [nL a b 3,.g (.bool (eqI d 1))] e Q fun a=>ay 0 j (bo (leI 0 (ac_ .i64 (j-1))&&ltI (ac_ .i64 (j-1)) (nI n)) x a (tN (ac_ .i64 (j-1))*5) (fun b=>bz (dN_ b c) Q a (bG_.l2 k x n y m i (ac_ .i64 (j+1)) a Q))) (bG_.l2 k x n y m i (ac_ .i64 (j+1)) a Q))) (bG_.l8 k x n (nI n) 0 H Q):=zz
theorem bG_.l8_eq:bG_.l8 (k+1) x n i j H Q=ay j i (bA bZ_ [nL x n 5,j] H Q (fun a=>bG_.l8 k x n i (ac_ .i64 (j+1)) a Q)) (dx Q (nI n) 6 H):=zz
theorem w9_:ao_ prog 69 (bG_):=sO (eZ ik_ func109 (eZ ql_ func110 (eZ o5_ func111 (eZ tS_ func112 (eZ sQ_ func113 eN))))) nO func69
def dz_.cx E:=(⟨tys,[19],[(4,[5,6,19,20,21,22])],[],[(64,hC_),(65,dt_),(66,aF_),(67,bp_),(68,(bx_ E)),(69,bG_)],E,[.tmp 2,.tmp 3]⟩:Cx)
def dz_ E:=fF (dz_.cx E) f31
def dz_.l4 E k a b c d e f g h i:=aW_ (dz_.cx E) f31 4 k (B 5 (gI a::.g (.ptr (some (b,c)))::B 12 (.g (.ptr (some (d,e)))::nL f g 2::gI h::gI i::B 31 [])))
theorem AG_:aw_ (dz_.cx E) f31 (k+1) [.agg [.sl x n 5]] H Q=cZ hC_ [.agg [.sl x n 5]] H 2 fun a b c d=>dz_.l4 E k d (ln (pu (pu (pu a (.map [] 0)) (.map [] 0)) (.map [] 0))) 0 (ln (pu (pu (pu a (.map [] 0)) (.map [] 0)) (.map [] 0))) 0 b c (nI c) 0 (pu (pu (pu (pu a (.map [] 0)) (.map [] 0)) (.map [] 0)) (.row true 100 [.sl x n 5,.map (some (ln a)),.map (some (ln (pu a (.map [] 0)))),.map (some (ln (pu (pu a (.map [] 0)) (.map [] 0)))),.sl none 0 5])) Q:=zz
theorem dz_.l4_eq:dz_.l4 E (k+1) i n m l o x N j h H Q=ay h j (dg (leI 0 h&&ltI h (nI N)) x H (tN h*2) H (tN h*2) (fun a b=>aR dt_ [.g (.ptr (some (n,m))),.agg [a,b]] H Q [.s (.ptr none),false] fun a=>dz_.l4 E k i n m l o x N j (ac_ .i64 (h+1)) a Q)) (cn i 0 Q [.s (.ptr none),false] H (dC aF_ [.g (.ptr (some (n,m)))] H Q [.s (.ptr none),false] bp_ [.g (.ptr (some (n,m)))] Q (fun a=>aG (bx_ E) [.g (.ptr (some (n,m)))] a 5 fun a b c=>wr a n (m+4) (.sl b c 5) fun a=>ae a n (m+4) 5 fun b c=>ak bG_ [nL b c 5] a fun a b=>aC Q [.s (.ptr (some (n,m))),b] a))):=zz
theorem tb_(E)(h:eE E):ao_ prog 31 (dz_ E):=sO (eZ tl_ func64 (eZ mZ_ func65 (eZ lL_ func66 (eZ mv_ func67 (eZ (n0_ E h) func68 (eZ w9_ func69 eN)))))) h func31
end Go.Am
namespace Go.Am
open List
open Go.Proofs.Tryz
variable {E:Nat→Sm}{k:Nat}{H:Hp}{Q:Post}{U X Y Z u w x x1 y z:Pl}{D L M N O l m n n1 o:Nat}{I g h i j:Int}{C b b1 b2 c d:Bool}{R S e r s t:ByteArray}{A a:Option Nat}{p q:List (Nat×Nat)}{F:Sm}
def eA_.cx:Cx:=⟨tys,[],[],[],[],au_,[.tmp 2]⟩
def eA_:=fF eA_.cx f54
theorem ot_:aw_ eA_.cx f54 (k+1) [x] H Q=ch x H fun a=>oV_ H a fun a=>cf x H fun b=>oV_ H b fun b=>ca x H fun c=>oV_ H c fun c=>Q (ac_ .i64 (ac_ .i64 (nI a+nI b)+nI c)) H:=zz
theorem oN_:ao_ prog 54 (eA_):=sO eN nO func54
def aC_.cx:Cx:=⟨tys,[],[(3,[0,3,13]),(8,[3,6,25]),(1000016,[96]),(1000028,[97])],[],[],au_,[.tmp 2]⟩
def aC_:=fF aC_.cx f56
def aC_.l3 k a b c d:=aW_ (aC_.cx) f56 3 k (gP a::.bad::.bad::gM b::B 9 (.g (.ptr (some (c,d)))::B 26 []))
def aC_.l8 k a b c d e:=aW_ (aC_.cx) f56 8 k (B 3 (gM a::.bad::.bad::nL b c 2::B 18 (.g (.ptr (some (d,e)))::B 14 [])))
theorem lT_:aw_ aC_.cx f56 (k+1) [x] H Q=ch x (pu H (.map [] 0)) fun a=>rng (pu H (.map [] 0)) a fun a=>aC_.l3 k x (some (ln H)) (ln (pu H (.map [] 0))) 0 a Q:=zz
theorem aC_.l3_eq:aC_.l3 (k+1) x a n m H Q=cF H n m n m (fun b=>cf x b fun c=>rng b c fun c=>aC_.l8 k a none 0 (ln b) 0 c Q) fun b c d=>dk c fun _=>bU d fun c d=>bh c fun c _=>br c fun c _=>br c fun c _=>uN c (dZ b a [.int .i64] d true (fun b=>aC_.l3 k x a n m b Q)):=zz
theorem aC_.l8_eq:aC_.l8 (k+1) a x n m l H Q=cF H m l m l (fun a=>eK Q x n 2 a) fun b c d=>bU c fun c e=>cV c fun c=>bU d fun d _=>bk d fun d _=>uN d (dT b a [.int .i64] e false (fun d _=>rS d fun d=>dB d fun d=>aE d (dO b 104 2 24 x n [e,c] (fun b c d=>aC_.l8 k a b c m l d Q)) (aC_.l8 k a x n m l b Q))):=zz
theorem hA_:ao_ prog 56 (aC_):=sO eN nO func56
def c6_.cx:Cx:=⟨tys,[],[],[],[],au_,[]⟩
def c6_:=fF c6_.cx f57
theorem mz_:aw_ c6_.cx f57 (k+1) [x,.agg [i,s]] H Q=cf x H fun a=>tX_ H a true [.int .i64,.str] (.a [i,s]) (.a [nN 0,false]) fun a _=>bU a fun a b=>bk a fun a _=>uN a (cf x H (fun a=>BL_ H a true [.int .i64,.str] (.a [i,s]) fun a=>ca x a fun c=>dT a c [.int .i64] b (.a [nN 0,mkS []]) fun c _=>bU c fun c d=>cV c fun c=>bV (ac_ .i64 (d-1)) 0 (ca x a (fun c=>BL_ a c false [.int .i64] b fun a=>aC Q [] a)) (ca x a (fun e=>dZ a e [.int .i64] b (.a [ac_ .i64 (d-1),c]) fun a=>aC Q [] a)))):=zz
theorem mL_:ao_ prog 57 (c6_):=sO eN nO func57
def ba_.cx:Cx:=⟨tys,[],[(1,[0,5,6,7])],[],[(56,aC_),(57,c6_)],au_,[]⟩
def ba_:=fF ba_.cx f28
def ba_.l1 k a b c d e:=aW_ (ba_.cx) f28 1 k (gP a::B 4 (nL b c 2::gI d::gI e::B 7 []))
theorem nA_:aw_ ba_.cx f28 (k+1) [x] H Q=aG aC_ [x] H 2 fun a b c=>ba_.l1 k x b c (nI c) 0 a Q:=zz
theorem ba_.l1_eq:ba_.l1 (k+1) x y n i j H Q=ay j i (aD (leI 0 j&&ltI j (nI n)) y (fun a b=>eD H a (b+tN j*2) H a (b+tN j*2+1) fun a b=>cl c6_ [x,.agg [a,b]] H fun _ a=>ba_.l1 k x y n i (ac_ .i64 (j+1)) a Q)) (aC Q [] H):=zz
theorem io_:ao_ prog 28 (ba_):=sO (eZ hA_ func56 (eZ mL_ func57 eN)) nO func28
def jE_.cx:Cx:=⟨tys,[7],[],[],[(109,dI_)],au_,[.tmp 2,.tmp 3]⟩
def jE_:=fF jE_.cx f118
theorem z2_:aw_ jE_.cx f118 (k+1) [s] H Q=dR dI_ [s] H Q [mkS [],nN 1600] (.row true 5 [.int .u8 115]) 1 s Q (nN 0):=zz
theorem zy_:ao_ prog 118 (jE_):=sO (eZ ik_ func109 eN) nO func118
def jR_.cx:Cx:=⟨tys,[17],[],[],[(144,ht_)],au_,[.tmp 2,.tmp 3]⟩
def jR_:=fF jR_.cx f119
theorem A8_:aw_ jR_.cx f119 (k+1) [.agg [i,j,s,t]] H Q=cW ht_ [.agg [i,j,s,t]] H Q [mkS [],nN 1700] (.row true 5 [.int .u8 (ac_ .u8 i),.int .u8 (ac_ .u8 j),.int .u8 (ac_ .u8 (sz s))]) 3 fun a b=>GI_ b s fun b=>de b t Q (nN 0) (pu a (.row true 5 [.int .u8 (ac_ .u8 i),.int .u8 (ac_ .u8 j),.int .u8 (ac_ .u8 (sz s))])):=zz
theorem zX_:ao_ prog 119 (jR_):=sO (eZ tk_ func144 eN) nO func119
def jr_.cx:Cx:=⟨tys,[16],[],[],[(145,gq_),(146,eK_)],au_,[.tmp 4,.tmp 5]⟩
def jr_:=fF jr_.cx f120
theorem Ad_:aw_ jr_.cx f120 (k+1) [i,s] H Q=aR gq_ [i] H Q [mkS [],nN 1600] fun a=>dR eK_ [s] a Q [mkS [],nN 1600] (.row true 5 [.int .u8 102,.int .u8 (ac_ .u8 i)]) 2 s Q (nN 0):=zz
theorem Af_:ao_ prog 120 (jr_):=sO (eZ jn_ func145 (eZ kB_ func146 eN)) nO func120
def hY_.cx:Cx:=⟨tys,[9],[],[],[(145,gq_)],au_,[.tmp 2,.tmp 3]⟩
def hY_:=fF hY_.cx f121
theorem zp_:aw_ hY_.cx f121 (k+1) [i] H Q=cW gq_ [i] H Q [mkS [],nN 1600] (.row true 5 [.int .u8 105,.int .u8 (ac_ .u8 i)]) 2 fun a b=>aC Q [b,nN 0] (pu a (.row true 5 [.int .u8 105,.int .u8 (ac_ .u8 i)])):=zz
theorem yR_:ao_ prog 121 (hY_):=sO (eZ jn_ func145 eN) nO func121
def hW_.cx:Cx:=⟨tys,[10],[],[],[(147,gv_)],au_,[.tmp 2,.tmp 3]⟩
def hW_:=fF hW_.cx f122
theorem yM_:aw_ hW_.cx f122 (k+1) [.agg [i,s]] H Q=dR gv_ [.agg [i,s]] H Q [mkS [],nN 1800] (.row true 5 [.int .u8 (ac_ .u8 i)]) 1 s Q (nN 0):=zz
theorem y0_:ao_ prog 122 (hW_):=sO (eZ qE_ func147 eN) nO func122
def ap_.cx:Cx:=⟨tys,[66],[(3,[0,3,22]),(8,[0,3,44]),(16,[3,72]),(1000025,[96]),(1000047,[97]),(1000075,[98])],[(14,[0,3,9,10,12,44])],[(118,jE_),(119,jR_),(120,jr_),(121,hY_),(122,hW_)],au_,[.tmp 2]⟩
def ap_:=fF ap_.cx f90
def ap_.l3 k a b c d:=aW_ (ap_.cx) f90 3 k (gP a::.bad::.bad::gM b::B 18 (.g (.ptr (some (c,d)))::B 68 []))
def ap_.l8 k a b c d:=aW_ (ap_.cx) f90 8 k (gP a::.bad::.bad::gM b::B 40 (.g (.ptr (some (c,d)))::B 46 []))
def ap_.l14 k a b c d e f g h:=aW_ (ap_.cx) f90 14 k (gP a::.bad::.bad::gM b::B 5 (.bx [.int .i64 c,.bool d]::gS e::.bad::.g (.int .u8 f)::B 31 (.g (.ptr (some (g,h)))::B 46 [])))
def ap_.l16 k a b c:=aW_ (ap_.cx) f90 16 k (B 3 (gM a::B 68 (.g (.ptr (some (b,c)))::B 18 [])))
theorem lR_:aw_ ap_.cx f90 (k+1) [x] H Q=ch x (pu H (.map [] 0)) fun a=>rng (pu H (.map [] 0)) a fun a=>ap_.l3 k x (some (ln H)) (ln (pu H (.map [] 0))) 0 a Q:=zz
theorem ap_.l3_eq:ap_.l3 (k+1) x a n m H Q=cF H n m n m (fun b=>cf x b fun c=>rng b c fun c=>ap_.l8 k x a (ln b) 0 c Q) fun b c d=>dk c fun c=>bU d fun d e=>bh d fun d f=>br d fun d g=>cV d fun d=>dG jE_ [c] b fun b c=>dG jR_ [.agg [e,f,g,d]] b fun b d=>dZ b a [.str] c d fun b=>ap_.l3 k x a n m b Q:=zz
theorem ap_.l8_eq:ap_.l8 (k+1) x a n m H Q=cF H n m n m (fun b=>ca x b fun c=>rng b c fun c=>ap_.l16 k a (ln b) 0 c Q) fun b c d=>bU c fun c e=>cV c fun c=>bU d fun d f=>bk d fun d g=>uN d (dG jr_ [e,c] b (fun b c=>b2_ g (ap_.l14 k x a f g c 1 n m b Q) (ap_.l14 k x a f g c 0 n m b Q))):=zz
theorem ap_.l14_eq:ap_.l14 (k+1) x a i b s j n m H Q=rdN (pu H (.row true 5 [.int .u8 (ac_ .u8 i),.int .u8 j])) (some (ln H,0)) 2 fun b=>txt b fun b=>dZ (pu H (.row true 5 [.int .u8 (ac_ .u8 i),.int .u8 j])) a [.str] s b fun b=>ap_.l8 k x a n m b Q:=zz
theorem ap_.l16_eq:ap_.l16 (k+1) a n m H Q=cF H n m n m (fun b=>cT Q (.map a) b) fun b c d=>rS c fun c=>aq c fun c=>bU d fun d e=>cV d fun d=>dG hY_ [c] b fun b c=>dG hW_ [.agg [e,d]] b fun b d=>dZ b a [.str] c d fun b=>ap_.l16 k a n m b Q:=zz
theorem l0_:ao_ prog 90 (ap_):=sO (eZ zy_ func118 (eZ zX_ func119 (eZ Af_ func120 (eZ yR_ func121 (eZ y0_ func122 eN))))) nO func90
def cq_.cx:Cx:=⟨tys,[],[(3,[0,1,6,9,10,11])],[],[],au_,[.tmp 4,.tmp 5]⟩
def cq_:=fF cq_.cx f156
def cq_.l3 k a b c d e f g h:=aW_ (cq_.cx) f156 3 k (nL a b 1::gS c::B 4 (gI d::.bad::.bad::nL e f 1::gI g::gI h::B 22 []))
theorem yj_:aw_ cq_.cx f156 (k+1) [nL x n 1,s] H Q=cq_.l3 k x n s 0 x n (nI n) 0 H Q:=zz
theorem cq_.l3_eq:cq_.l3 (k+1) x n s i y m j h H Q=ay h j (eJ (leI 0 h&&ltI h (nI m)) y H (tN h*1) s (cq_.l3 k x n s (ac_ .i64 (i+1)) y m j (ac_ .i64 (h+1)) H Q) (cq_.l3 k x n s i y m j (ac_ .i64 (h+1)) H Q)) (bg i n (aL (leI 0 i&&ltI i (nI n)) x H (tN i*1) (fun a=>aC Q [i,.s (.bool (ey_ a s))] H)) (aC Q [i,false] H)):=zz
theorem i9_:ao_ prog 156 (cq_):=sO eN nO func156
def gf_.cx:Cx:=⟨tys,[],[],[],[(156,cq_)],au_,[.tmp 4]⟩
def gf_:=fF gf_.cx f155
theorem Ba_:aw_ gf_.cx f155 (k+1) [x,s] H Q=bC x H 1 fun a b=>cX cq_ [nL a b 1,s] H fun a b c=>b2_ c (Q (ac_ .i64 (b+1)) a) (Q b a):=zz
theorem nU_:ao_ prog 155 (gf_):=sO (eZ i9_ func156 eN) nO func155
def dh_.cx:Cx:=⟨tys,[],[(4,[1,2,7]),(2000000,[7])],[],[(130,dV_),(155,gf_),(156,cq_)],au_,[.tmp 4,.tmp 5,.tmp 6]⟩
def dh_:=fF dh_.cx f123
def dh_.l4 k a b c d e:=aW_ (dh_.cx) f123 4 k (.bad::gS a::.bx [.sl b c 5]::B 4 (.g (.ptr (some (d,e)))::B 43 []))
theorem y6_:aw_ dh_.cx f123 (k+1) [.agg [.sl x n 5],s] H Q=aR dV_ [.agg [.sl x n 5]] H Q [mkS [],false,nN 1100] fun a=>aD (leI 0 0&&ltI 0 (nI n)) x fun b c=>dh_.l4 k s x n b (c+tN 0*5) a Q:=zz
theorem dh_.l4_eq:dh_.l4 (k+1) s x n m l H Q=aF H m (l+1) fun a=>aE a (dW H m (l+4) (fun a b=>aI gf_ [.g (.ptr (some (m,l))),s] H fun c d=>cC c m (l+4) 1 (nL a b 1) (aN (leI 0 d&&ltI d (nI b)) a c (tN d*1) (fun a=>aD (leI 0 a&&ltI a (nI n)) x fun b d=>dh_.l4 k s x n b (d+tN a*5) c Q)))) (dW H m (l+2) (fun a b=>cX cq_ [nL a b 1,s] H fun a b c=>aP c Q [mkS [],false,nN 0] a (db a m (l+3) 1 0 b b (fun c d=>aj a c (d+tN b*1) fun b=>aC Q [b,true,nN 0] a)))):=zz
theorem q8_:ao_ prog 123 (dh_):=sO (eZ j6_ func130 (eZ nU_ func155 (eZ i9_ func156 eN))) nO func123
def bE_.cx:Cx:=⟨tys,[],[],[],[],au_,[.tmp 2]⟩
def bE_:=fF bE_.cx f178
theorem hO_:aw_ bE_.cx f178 (k+1) [nL x n 1] H Q=b2_ (isNone x) (eK Q none 0 1 H) (aS (du H x (n*1) H 9 1 16 n (fun a=>eK Q (some (ln H,0)) n 1 a))):=zz
theorem h0_:ao_ prog 178 (bE_):=sO eN nO func178
def cw_.cx:Cx:=⟨tys,[],[],[],[],au_,[.tmp 2]⟩
def cw_:=fF cw_.cx f179
theorem kU_:aw_ cw_.cx f179 (k+1) [nL x n 1] H Q=b2_ (isNone x) (eK Q none 0 1 H) (aS (du H x (n*1) H 3 1 8 n (fun a=>eK Q (some (ln H,0)) n 1 a))):=zz
theorem kD_:ao_ prog 179 (cw_):=sO eN nO func179
def eT_.cx:Cx:=⟨tys,[],[],[],[(178,bE_),(179,cw_)],au_,[.cell 2 62]⟩
def eT_:=fF eT_.cx f157
theorem yT_:aw_ eT_.cx f157 (k+1) [.agg [b,c,.sl x n 1,.sl y m 1,.sl z l 1]] H Q=aG bE_ [nL x n 1] H 1 fun a d e=>aG bE_ [nL y m 1] a 1 fun a f g=>aG cw_ [nL z l 1] a 1 fun a h i=>dV Q [b,c,.sl d e 1,.sl f g 1,.sl h i 1] a:=zz
theorem lV_:ao_ prog 157 (eT_):=sO (eZ h0_ func178 (eZ kD_ func179 eN)) nO func157
def cz_.cx:Cx:=⟨tys,[],[(3,[2,3,8,9,10])],[],[(157,eT_)],au_,[.cell 2 24]⟩
def cz_:=fF cz_.cx f124
def cz_.l3 k a b c d e f g h:=aW_ (cz_.cx) f124 3 k (.bad::.bad::.bx [.sl a b 5]::.bx [.sl c d 5]::B 4 (nL e f 5::gI g::gI h::B 12 []))
theorem wH_:aw_ cz_.cx f124 (k+1) [.agg [.sl x n 5]] H Q=cz_.l3 k none 0 none 0 x n (nI n) 0 H Q:=zz
theorem cz_.l3_eq:cz_.l3 (k+1) x n y m z l i j H Q=ay j i (dN (leI 0 j&&ltI j (nI l)) z H (tN j*5) H H 1 H 1 H 1 (fun a b c d e f g h=>et eT_ [.agg [a,b,.sl c d 1,.sl e f 1,.sl g h 1]] H 1 1 1 fun a b c d e f g h o=>dO a 62 5 80 y m [b,c,.sl d e 1,.sl f g 1,.sl h o 1] fun a b c=>cz_.l3 k x n a b z l i (ac_ .i64 (j+1)) c Q)) (dV Q [.sl y m 5] H):=zz
theorem ph_:ao_ prog 124 (cz_):=sO (eZ lV_ func157 eN) nO func124
def aS_.cx:Cx:=⟨tys,[],[(2000000,[0])],[],[],au_,[.tmp 6]⟩
def aS_:=fF aS_.cx f158
theorem hJ_:aw_ aS_.cx f158 (k+1) [nL x n 1,i,j] H Q=cD 0 (nI n) (d8 0 j (leI 0 i) (chk (leN (tN i) (tN j)&&(leN (tN j) (tN (nI n))&&(leN (tN (nI n)) n&&oT_ H x (tN (nI n)*1)))) (bV i j (eK Q x n 1 H) (cD 0 i (ah (leN 0 (tN i)&&(leN (tN i) n||mM_ H x (tN i*1))) true (d8 0 j (leN (tN j) n) (aS (dw H (shf x (tN j*1)) ((n-tN j)*1) H 9 1 16 (shf x 0) (tN i-0) (n-tN j) (fun a b c=>cD 0 (nI n) (d8 0 (nI b) (leN (tN (nI b)) (tN (nI n))&&(leN (tN (nI n)) b||mM_ c a (tN (nI n)*1))) (aS (clr c (shf a (tN (nI b)*1)) (tN (nI n)-tN (nI b)) [.str (mkS [])] (fun c=>eK Q a b 1 c))))))))))))):=zz
theorem fh_:ao_ prog 158 (aS_):=sO eN nO func158
def db_.cx:Cx:=⟨tys,[],[],[(4,[5,6,7])],[(157,eT_)],au_,[.cell 6 62]⟩
def db_:=fF db_.cx f182
def db_.l4 k a b c d e f g h i j l m n o p q r s t u v w x y:=aW_ (db_.cx) f182 4 k (B 5 (.bx [.bool a,.bool b,.sl c d 1,.sl e f 1,.sl g h 1]::.bx [.bool i,.bool j,.sl l m 1,.sl n o 1,.sl p q 1]::.bx [.bool r,.bool s,.sl t u 1,.sl v w 1,.sl x y 1]::B 30 []))
theorem yJ_:aw_ db_.cx f182 (k+1) [.agg [b,c,.sl x n 1,.sl y m 1,.sl z l 1],s,.agg [C,d,.sl u o 1,.sl w N 1,.sl X M 1]] H Q=et eT_ [.agg [b,c,.sl x n 1,.sl y m 1,.sl z l 1]] H 1 1 1 fun a b e f g h i j l=>aE c (dO a 9 1 16 f g [s] (fun a c f=>db_.l4 k C d u o w N X M false false none 0 none 0 none 0 b e a c h i j l f Q)) (db_.l4 k C d u o w N X M false false none 0 none 0 none 0 b e f g h i j l a Q):=zz
theorem db_.l4_eq:db_.l4 (k+1) b c x n y m z l C d u o w N X M b1 b2 Y L Z O U D H Q=aS (dw H x (n*1) H 9 1 16 Y L n (fun a b c=>aS (dw c y (m*1) c 9 1 16 Z O m (fun c d e=>aS (dw e z (l*1) e 3 1 8 U D l (fun e f g=>dV Q [b1,b2,.sl a b 1,.sl c d 1,.sl e f 1] g)))))):=zz
theorem qH_:ao_ prog 182 (db_):=sO (eZ lV_ func157 eN) nO func182
def bM_.cx:Cx:=⟨tys,[],[],[],[],au_,[.tmp 2]⟩
def bM_:=fF bM_.cx f207
theorem it_:aw_ bM_.cx f207 (k+1) [nL x n 1] H Q=cD 0 (nI n) (d8 0 (nI n) (leN 0 (tN (nI n))&&(leN (tN (nI n)) (tN (nI n))&&(leN (tN (nI n)) n&&oT_ H x (tN (nI n)*1)))) (eK Q (shf x 0) (tN (nI n)-0) 1 H)):=zz
theorem is_:ao_ prog 207 (bM_):=sO eN nO func207
def cK_.cx:Cx:=⟨tys,[],[],[],[],au_,[.tmp 2]⟩
def cK_:=fF cK_.cx f208
theorem lm_:aw_ cK_.cx f208 (k+1) [nL x n 1] H Q=cD 0 (nI n) (d8 0 (nI n) (leN 0 (tN (nI n))&&(leN (tN (nI n)) (tN (nI n))&&(leN (tN (nI n)) n&&oT_ H x (tN (nI n)*1)))) (eK Q (shf x 0) (tN (nI n)-0) 1 H)):=zz
theorem lk_:ao_ prog 208 (cK_):=sO eN nO func208
def hS_.cx:Cx:=⟨tys,[],[],[],[(206,gP_),(182,db_),(207,bM_),(208,cK_)],au_,[.cell 6 62,.tmp 7]⟩
def hS_:=fF hS_.cx f180
theorem yX_:aw_ hS_.cx f180 (k+1) [.agg [b,c,.sl x n 1,.sl y m 1,.sl z l 1],s,.agg [C,d,.sl u o 1,.sl w N 1,.sl X M 1]] H Q=dC gP_ [.agg [b,c,.sl x n 1,.sl y m 1,.sl z l 1]] H Q [.a [false,false,.sl none 0 1,.sl none 0 1,.sl none 0 1],nN 900] gP_ [.agg [C,d,.sl u o 1,.sl w N 1,.sl X M 1]] Q fun a=>aP (eqB c d) Q [.a [false,false,.sl none 0 1,.sl none 0 1,.sl none 0 1],nN 900] a (et db_ [.agg [b,c,.sl x n 1,.sl y m 1,.sl z l 1],s,.agg [C,d,.sl u o 1,.sl w N 1,.sl X M 1]] a 1 1 1 (fun a b c d e f g h i=>aR gP_ [.agg [b,c,.sl d e 1,.sl f g 1,.sl h i 1]] a Q [.a [false,false,.sl none 0 1,.sl none 0 1,.sl none 0 1],nN 900] fun a=>aG bM_ [nL d e 1] a 1 fun a d e=>aG bM_ [nL f g 1] a 1 fun a f g=>aG cK_ [nL h i 1] a 1 fun a h i=>aC Q [.a [b,c,.sl d e 1,.sl f g 1,.sl h i 1],nN 0] a)):=zz
theorem zr_:ao_ prog 180 (hS_):=sO (eZ tD_ func206 (eZ qH_ func182 (eZ is_ func207 (eZ lk_ func208 eN)))) nO func180
def b5_.cx:Cx:=⟨tys,[],[(2000000,[0])],[],[],au_,[.tmp 6]⟩
def b5_:=fF b5_.cx f181
theorem ka_:aw_ b5_.cx f181 (k+1) [nL x n 1,i,j] H Q=cD 0 (nI n) (d8 0 j (leI 0 i) (chk (leN (tN i) (tN j)&&(leN (tN j) (tN (nI n))&&(leN (tN (nI n)) n&&oT_ H x (tN (nI n)*1)))) (bV i j (eK Q x n 1 H) (cD 0 i (ah (leN 0 (tN i)&&(leN (tN i) n||mM_ H x (tN i*1))) true (d8 0 j (leN (tN j) n) (aS (dw H (shf x (tN j*1)) ((n-tN j)*1) H 3 1 8 (shf x 0) (tN i-0) (n-tN j) (fun a b c=>cD 0 (nI n) (d8 0 (nI b) (leN (tN (nI b)) (tN (nI n))&&(leN (tN (nI n)) b||mM_ c a (tN (nI n)*1))) (aS (clr c (shf a (tN (nI b)*1)) (tN (nI n)-tN (nI b)) [.int .i64 0] (fun c=>eK Q a b 1 c))))))))))))):=zz
theorem kc_:ao_ prog 181 (b5_):=sO eN nO func181
def jv_.cx:Cx:=⟨tys,[],[],[],[(157,eT_)],au_,[.cell 4 62,.tmp 5,.cell 6 62]⟩
def jv_:=fF jv_.cx f183
theorem zY_:aw_ jv_.cx f183 (k+1) [.agg [b,c,.sl x n 1,.sl y m 1,.sl z l 1],i] H Q=bn (leI 0 i&&ltI i (nI n)) x H (tN i*1) fun a d e=>et eT_ [.agg [b,c,.sl x n 1,.sl y m 1,.sl z l 1]] H 1 1 1 fun f g h j o p q r s=>aj f a (d+tN i*1) fun t=>eqv e t (et eT_ [.agg [b,c,.sl x n 1,.sl y m 1,.sl z l 1]] f 1 1 1 (fun b f l m n t u v w=>aj b a (d+tN i*1) fun a=>eqv e a (cD 0 i (chk (leN 0 (tN i)&&(leN (tN i) o||mM_ b j (tN i*1))) (b2_ c (cD 0 i (ah (leN 0 (tN i)&&(leN (tN i) q||mM_ b p (tN i*1))) true (d8 0 i (leN (tN i) n) (cD 0 i (chk (leN (tN i) u) (aC Q [.a [g,h,.sl (shf j 0) (tN i-0) 1,.sl (shf p 0) (tN i-0) 1,.sl r s 1],e,.a [f,l,.sl (shf m (tN i*1)) (n-tN i) 1,.sl (shf t (tN i*1)) (u-tN i) 1,.sl v w 1]] b)))))) (cD 0 (ac_ .i64 (i+1)) (ah (leN 0 (tN (ac_ .i64 (i+1)))&&(leN (tN (ac_ .i64 (i+1))) s||mM_ b r (tN (ac_ .i64 (i+1))*1))) true (d8 0 (ac_ .i64 (i+1)) (leN (tN (ac_ .i64 (i+1))) n) (cD 0 (ac_ .i64 (i+1)) (chk (leN (tN (ac_ .i64 (i+1))) w) (aC Q [.a [g,h,.sl (shf j 0) (tN i-0) 1,.sl p q 1,.sl (shf r 0) (tN (ac_ .i64 (i+1))-0) 1],e,.a [f,l,.sl (shf m (tN (ac_ .i64 (i+1))*1)) (n-tN (ac_ .i64 (i+1))) 1,.sl t u 1,.sl (shf v (tN (ac_ .i64 (i+1))*1)) (w-tN (ac_ .i64 (i+1))) 1]] b))))))))))):=zz
theorem AO_:ao_ prog 183 (jv_):=sO (eZ lV_ func157 eN) nO func183
def dm_.cx:Cx:=⟨tys,[],[],[],[(180,hS_),(158,aS_),(181,b5_),(182,db_),(183,jv_)],au_,[]⟩
def dm_:=fF dm_.cx f159
theorem mO_:aw_ dm_.cx f159 (k+1) [x,y,i] H Q=pS y fun a b=>d9 H a (b+4) 1 0 i i H (tN i*1) fun a=>pS y fun b c=>d9 H b (c+4) 1 0 (ac_ .i64 (i+1)) (ac_ .i64 (i+1)) H (tN (ac_ .i64 (i+1))*1) fun b=>cL x H 5 0 a a fun c d=>aF H c (d+tN a*5) fun e=>aF H c (d+tN a*5+1) fun f=>bj H c (d+tN a*5+1+1) 1 H c (d+tN a*5+1+1+1) 1 fun g h j l=>dW H c (d+tN a*5+1+1+1+1) fun c d=>eM y H 1 0 i i fun m n=>aj H m (n+tN i*1) fun m=>cL x H 5 0 b b fun n o=>aF H n (o+tN b*5) fun p=>aF H n (o+tN b*5+1) fun q=>bj H n (o+tN b*5+1+1) 1 H n (o+tN b*5+1+1+1) 1 fun r s t u=>dW H n (o+tN b*5+1+1+1+1) fun n o=>aV hS_ [.agg [e,f,.sl g h 1,.sl j l 1,.sl c d 1],m,.agg [p,q,.sl r s 1,.sl t u 1,.sl n o 1]] H fun c d e=>cO e 1 1 1 fun e f g h j l m n=>bf d fun d=>bV d 0 (aY x c 5 (fun d o=>aY x c 5 fun p q=>bM (leI 0 a&&ltI a (nI o)) d c (tN a*5) e (tN a*5) f (tN a*5) (.sl g h 1) (tN a*5) (.sl j l 1) (tN a*5) (.sl m n 1) fun a=>bM (leI 0 b&&ltI b (nI q)) p a (tN b*5) false (tN b*5) false (tN b*5) (.sl none 0 1) (tN b*5) (.sl none 0 1) (tN b*5) (.sl none 0 1) fun a=>bC y a 1 fun b c=>pS y fun d e=>dW a d (e+4) fun f g=>aG aS_ [nL b c 1,i,ac_ .i64 (i+1)] a 1 fun a b c=>cC a d (e+4) 1 (nL f g 1) (aG b5_ [nL f g 1,ac_ .i64 (i+1),ac_ .i64 (i+2)] a 1 (fun a d e=>eu y a (.sl b c 1) fun a=>pS y fun b c=>bI a b (c+4) (.sl d e 1) Q [])))) (cL x c 5 0 a a (fun d e=>aF c d (e+tN a*5) fun f=>aF c d (e+tN a*5+1) fun g=>bj c d (e+tN a*5+1+1) 1 c d (e+tN a*5+1+1+1) 1 fun h j l m=>dW c d (e+tN a*5+1+1+1+1) fun d e=>eM y c 1 0 i i fun n o=>aj c n (o+tN i*1) fun n=>cL x c 5 0 b b fun o p=>aF c o (p+tN b*5) fun q=>aF c o (p+tN b*5+1) fun r=>bj c o (p+tN b*5+1+1) 1 c o (p+tN b*5+1+1+1) 1 fun s t u v=>dW c o (p+tN b*5+1+1+1+1) fun o p=>et db_ [.agg [f,g,.sl h j 1,.sl l m 1,.sl d e 1],n,.agg [q,r,.sl s t 1,.sl u v 1,.sl o p 1]] c 1 1 1 fun c d e f g h j l m=>dD x c 5 fun n o p q=>pS y fun r s=>dW c r (s+2) fun t u=>dD x c 5 fun v w x y=>aV jv_ [.agg [d,e,.sl f g 1,.sl h j 1,.sl l m 1],ac_ .i64 (Int.tdiv (nI g) 2)] c fun c d e=>cO e 1 1 1 fun e f g h j l m z=>ai d fun d A=>dS A fun A=>aT d fun d C=>cO C 1 1 1 fun C D F G I J L M=>uE d (bT c v (w+0) 5 (nL x y 5) (cC c r (s+2) 1 (nL t u 1) (bT c n (o+0) 5 (nL p q 5) (bM (leI 0 a&&ltI a (nI q)) p c (tN a*5) e (tN a*5) f (tN a*5) (.sl g h 1) (tN a*5) (.sl j l 1) (tN a*5) (.sl m z 1) (fun a=>aD (leI 0 i&&ltI i (nI u)) t fun c d=>wr a c (d+tN i*1) A fun a=>bL (leI 0 b&&ltI b (nI y)) x a (tN b*5) C (tN b*5) D (tN b*5) (.sl F G 1) (tN b*5) (.sl I J 1) fun a c d=>bI d a (c+tN b*5+1+1+1+1) (.sl L M 1) Q []))))))):=zz
theorem nx_:ao_ prog 159 (dm_):=sO (eZ zr_ func180 (eZ fh_ func158 (eZ kc_ func181 (eZ qH_ func182 (eZ AO_ func183 eN))))) nO func159
def a5_.cx S:=(⟨tys,[],[],[],[(156,cq_),(158,aS_),(155,gf_),(125,S),(159,dm_)],au_,[]⟩:Cx)
def a5_.st S:=fF (a5_.cx S) f125
theorem m9_:aw_ (a5_.cx F) f125 (k+1) [x,i,s] H Q=cL x H 5 0 i i fun a b=>dh H a (b+tN i*5+1) (dW H a (b+tN i*5+2) (fun c d=>bZ cq_ [nL c d 1,s] H fun c d e=>aX d fun d _=>uE d (bj c a (b+tN i*5+2) 1 c a (b+tN i*5+3) 1 (fun d f g h=>aG aS_ [nL d f 1,e,ac_ .i64 (e+1)] c 1 fun c d f=>cC c a (b+tN i*5+3) 1 (nL g h 1) (aG aS_ [nL g h 1,e,ac_ .i64 (e+1)] c 1 (fun c e g=>aJ c a (b+tN i*5+2) (.sl d f 1) a (b+tN i*5+3) (.sl e g 1) fun a=>aC Q [] a)))))) (aI gf_ [.g (.ptr (some (a,b+tN i*5))),s] H (fun c d=>d9 c a (b+tN i*5+4) 1 0 d d c (tN d*1) fun e=>cl F [x,e,s] c fun _ c=>aY x c 5 fun e f=>d9 c a (b+tN i*5+4) 1 0 d d c (tN d*1) fun g=>aD (leI 0 g&&ltI g (nI f)) e fun e f=>dW c e (f+tN g*5+2) fun _ e=>ay (nI e) 2 (dW c a (b+tN i*5+2) (fun _ e=>cl dm_ [x,.g (.ptr (some (a,b+tN i*5))),mnI d (ac_ .i64 (nI e-1))] c fun _ a=>aC Q [] a)) (aC Q [] c))):=zz
theorem a5_.st_ok (S:Sm) (hS:cN_ prog 125 S):ao_ prog 125 (a5_.st S):=lX_.sound (cx:=a5_.cx S) rfl (eZ i9_ func156 (eZ fh_ func158 (eZ nU_ func155 (dw_.cons hS (eZ nx_ func159 eN))))) nO func125 rfl
def a5_.at:Nat→Sm
 | 0=>fun _ _ _=>False
 | n+1=>a5_.st (a5_.at n)
def a5_:Sm:=fun xs H Q=>∃ n,a5_.at n xs H Q
theorem a5_.at_ok:∀ n,ao_ prog 125 (a5_.at n)
 | 0=>fun _ _ _ h=>h.elim
 | n+1=>a5_.st_ok _ ((a5_.at_ok n).c ⟨_,func125,by kernel_rfl,by kernel_rfl⟩)
theorem nH_:ao_ prog 125 (a5_):=ao_.ex (a5_.at_ok)
def du_.cx:Cx:=⟨tys,[],[],[],[],au_,[]⟩
def du_:=fF du_.cx f126
theorem nX_:aw_ du_.cx f126 (k+1) [x] H Q=aY x H 5 fun a b=>bN (leI 0 0&&ltI 0 (nI b)) a H (tN 0*5) fun a b _=>aF H a (b+tN 0*5+1) fun c=>dW H a (b+tN 0*5+1+1) fun _ d=>dW H a (b+tN 0*5+1+1+1) fun _ _=>dW H a (b+tN 0*5+1+1+1+1) fun a b=>aE c (bV (nI d) 0 (aY x H 5 (fun c d=>aY x H 5 fun e f=>aN (leI 0 0&&ltI 0 (nI b)) a H (tN 0*1) fun g=>aY x H 5 fun h i=>aN (leI 0 0&&ltI 0 (nI b)) a H (tN 0*1) fun a=>cG (leI 0 a&&ltI a (nI i)) h H (tN a*5) H (tN a*5) H (tN a*5) 1 H (tN a*5) 1 H (tN a*5) 1 (leI 0 0&&ltI 0 (nI d)) c H (tN 0*5) (tN 0*5) (tN 0*5) (tN 0*5) (tN 0*5) fun a=>bL (leI 0 g&&ltI g (nI f)) e a (tN g*5) false (tN g*5) false (tN g*5) (.sl none 0 1) (tN g*5) (.sl none 0 1) fun a b c=>bI c a (b+tN g*5+1+1+1+1) (.sl none 0 1) Q [])) (aC Q [] H)) (aC Q [] H):=zz
theorem np_:ao_ prog 126 (du_):=sO eN nO func126
def cL_.cx:Cx:=⟨tys,[25],[],[(8,[4,8,10,25])],[(123,dh_),(124,cz_),(125,a5_),(126,du_)],au_,[.cell 4 24,.tmp 5,.tmp 6]⟩
def cL_:=fF cL_.cx f91
def cL_.l8 k a b c d e f g:=aW_ (cL_.cx) f91 8 k (B 4 (.bx [.sl a b 5]::B 3 (gB c::.bad::.g (.ptr (some (d,e)))::B 14 (.g (.ptr (some (f,g)))::B 12 []))))
theorem wC_:aw_ cL_.cx f91 (k+1) [.agg [.sl x n 5],s] H Q=cd dh_ [.agg [.sl x n 5],s] H fun a b _=>aX b fun b c=>bf b fun b=>cn b 0 Q [.a [.sl none 0 5],false,nN 1300] a (bG cz_ [.agg [.sl x n 5]] a 5 (fun a b d=>b2_ c (cl a5_ [.g (.ptr (some (ln a,0))),nN 0,s] (pu a (.row true 187 [.sl b d 5])) (fun _ b=>cl du_ [.g (.ptr (some (ln a,0)))] b fun _ b=>cL_.l8 k none 0 c (ln a) 0 (ln a) 0 b Q)) (cL_.l8 k none 0 c (ln a) 0 (ln a) 0 (pu a (.row true 187 [.sl b d 5])) Q))):=zz
theorem cL_.l8_eq:cL_.l8 (k+1) x n b m l o N H Q=ae H m (l+0) 5 fun a c=>aC Q [.a [.sl a c 5],b,nN 0] H:=zz
theorem vU_:ao_ prog 91 (cL_):=sO (eZ q8_ func123 (eZ ph_ func124 (eZ nH_ func125 (eZ np_ func126 eN)))) nO func91
def bl_.cx E:=(⟨tys,[1],[],[],[],E,[.tmp 2]⟩:Cx)
def bl_ E:=fF (bl_.cx E) f93
theorem fz_:aw_ (bl_.cx E) f93 (k+1) [.g (.map a)] H Q=cT Q (.fn 129 [(ln H,0)]) (pu H (.row true 143 [.map a])):=zz
theorem fy_(E)(h:eE E):ao_ prog 93 (bl_ E):=sO eN h func93
def eD_.cx:Cx:=⟨tys,[],[],[],[],au_,[]⟩
def eD_:=fF eD_.cx f281
theorem iU_:aw_ eD_.cx f281 (k+1) [x,.g (.iface 3 (.int .i64 i))] H Q=pS x fun a b=>dW H a b fun a b=>dX 3 (.iface 3 (.int .i64 i)) fun c=>aq c fun c=>dO H 3 1 8 a b [c] fun a b c=>pS x fun d e=>bI c d e (.sl a b 1) Q []:=zz
theorem oJ_:ao_ prog 281 (eD_):=sO eN nO func281
def ed_.cx:Cx:=⟨tys,[],[],[],[],au_,[.tmp 2]⟩
def ed_:=fF ed_.cx f277
theorem pA_:ao_ prog 277 (ed_):=sO eN nO func277
def dK_.cx:Cx:=⟨tys,[],[],[],[],au_,[.tmp 6]⟩
def dK_:=fF dK_.cx f278
theorem oO_:aw_ dK_.cx f278 (k+1) [nL x n 1,i,j] H Q=aN (leI 0 i&&ltI i (nI n)) x H (tN i*1) fun a=>aN (leI 0 j&&ltI j (nI n)) x H (tN j*1) fun b=>cU Q (ltI a b) H:=zz
theorem op_:ao_ prog 278 (dK_):=sO eN nO func278
def dG_.cx:Cx:=⟨tys,[],[],[],[],au_,[]⟩
def dG_:=fF dG_.cx f279
theorem oM_:aw_ dG_.cx f279 (k+1) [nL x n 1,i,j] H Q=aN (leI 0 j&&ltI j (nI n)) x H (tN j*1) fun a=>aN (leI 0 i&&ltI i (nI n)) x H (tN i*1) fun b=>aD (leI 0 i&&ltI i (nI n)) x fun c d=>wr H c (d+tN i*1) a fun a=>aD (leI 0 j&&ltI j (nI n)) x fun c d=>bI a c (d+tN j*1) b Q []:=zz
theorem oH_:ao_ prog 279 (dG_):=sO eN nO func279
def f6_.cx:Cx:=⟨tys,[],[(0,[0,1])],[],[(278,dK_),(279,dG_)],au_,[]⟩
def f6_:=fF f6_.cx f164
def f6_.l0 k a b:=aW_ (f6_.cx) f164 0 k (.g (.iface 197 (.ptr a))::gI b::B 21 [])
theorem f6_.l0_eq:f6_.l0 (k+1) x i H Q=bV (ac_ .i64 (Int.tdiv (ac_ .i64 (i-1)) 2)) i (aC Q [] H) (pS x (fun a b=>dW H a b fun a b=>aR dK_ [nL a b 1,i,ac_ .i64 (Int.tdiv (ac_ .i64 (i-1)) 2)] H Q [] fun a=>pS x fun b c=>dW a b c fun b c=>cl dG_ [nL b c 1,ac_ .i64 (Int.tdiv (ac_ .i64 (i-1)) 2),i] a fun _ a=>f6_.l0 k x (ac_ .i64 (Int.tdiv (ac_ .i64 (i-1)) 2)) a Q)):=zz
theorem Bp_:ao_ prog 164 (f6_):=sO (eZ op_ func278 (eZ oH_ func279 eN)) nO func164
def hQ_.cx:Cx:=⟨tys,[],[],[],[(281,eD_),(277,ed_),(164,f6_)],au_,[]⟩
def hQ_:=fF hQ_.cx f134
theorem yg_:aw_ hQ_.cx f134 (k+1) [.g (.iface 197 (.ptr x)),.g (.iface 3 (.int .i64 i))] H Q=cl eD_ [x,.g (.iface 3 (.int .i64 i))] H fun _ a=>pS x fun b c=>dW a b c fun b c=>aI ed_ [nL b c 1] a fun a b=>cl f6_ [.g (.iface 197 (.ptr x)),ac_ .i64 (b-1)] a fun _ a=>aC Q [] a:=zz
theorem yI_:ao_ prog 134 (hQ_):=sO (eZ oJ_ func281 (eZ pA_ func277 (eZ Bp_ func164 eN))) nO func134
def dD_.cx:Cx:=⟨tys,[],[],[],[(156,cq_),(166,slices_Insert__string_string),(168,insert_writer_settle)],au_,[.tmp 8]⟩
def dD_:=fF dD_.cx f165
theorem mD_:aw_ dD_.cx f165 (k+1) [x,i,s,t] H Q=cL x H 5 0 i i fun a b=>dW H a (b+tN i*5+2) fun c d=>cX cq_ [nL c d 1,s] H fun c d e=>b2_ e (db c a (b+tN i*5+3) 1 0 d d (fun a b=>wr c a (b+tN d*1) t fun a=>cT Q (.ptr none) a)) (bj c a (b+tN i*5+2) 1 c a (b+tN i*5+3) 1 (fun e f g h=>aG slices_Insert__string_string [nL e f 1,d,nL (some (ln c,0)) 1 1] (pu c (.row false 1000003 [s])) 1 fun c e f=>cC c a (b+tN i*5+3) 1 (nL g h 1) (aG slices_Insert__string_string [nL g h 1,d,nL (some (ln c,0)) 1 1] (pu c (.row false 1000003 [t])) 1 (fun c d g=>aJ c a (b+tN i*5+2) (.sl e f 1) a (b+tN i*5+3) (.sl d g 1) fun a=>ac insert_writer_settle [x,i] a fun a b=>dP b fun b=>Q b a)))):=zz
theorem mE_:ao_ prog 165 (dD_):=sO (eZ i9_ func156 (dw_.cons (fg_) (dw_.cons (g2_) eN))) nO func165
def a4_.cx S:=(⟨tys,[],[],[],[(165,dD_),(155,gf_),(135,S),(166,slices_Insert__string_string),(167,slices_Insert__int_int),(168,insert_writer_settle)],au_,[.tmp 8]⟩:Cx)
def a4_.st S:=fF (a4_.cx S) f135
theorem nm_:aw_ (a4_.cx F) f135 (k+1) [x,i,s,t] H Q=cL x H 5 0 i i fun a b=>dh H a (b+tN i*5+1) (ac dD_ [x,i,s,t] H (fun a b=>dP b fun b=>Q b a)) (aI gf_ [.g (.ptr (some (a,b+tN i*5))),s] H (fun c d=>d9 c a (b+tN i*5+4) 1 0 d d c (tN d*1) fun e=>ac F [x,e,s,t] c fun c e=>dP e fun e=>b2_ (isNone e) (cT Q (.ptr none) c) (dW c a (b+tN i*5+2) (fun f g=>pS e fun h j=>aj c h (j+0) fun h=>dW c a (b+tN i*5+4) fun j l=>pS e fun e m=>au c e (m+1) fun n=>aG slices_Insert__string_string [nL f g 1,d,nL (some (ln c,0)) 1 1] (pu c (.row false 1000003 [h])) 1 fun c f g=>au c e (m+1) fun e=>eqv n e (cC c a (b+tN i*5+4) 1 (nL j l 1) (aG slices_Insert__int_int [nL j l 1,ac_ .i64 (d+1),nL (some (ln c,0)) 1 1] (pu c (.row false 1000003 [n])) 1 (fun c d e=>aJ c a (b+tN i*5+2) (.sl f g 1) a (b+tN i*5+4) (.sl d e 1) fun a=>ac insert_writer_settle [x,i] a fun a b=>dP b fun b=>Q b a))))))):=zz
theorem a4_.st_ok (S:Sm) (hS:cN_ prog 135 S):ao_ prog 135 (a4_.st S):=lX_.sound (cx:=a4_.cx S) rfl (eZ mE_ func165 (eZ nU_ func155 (dw_.cons hS (dw_.cons (fg_) (dw_.cons (j9_) (dw_.cons (g2_) eN)))))) nO func135 rfl
def a4_.at:Nat→Sm
 | 0=>fun _ _ _=>False
 | n+1=>a4_.st (a4_.at n)
def a4_:Sm:=fun xs H Q=>∃ n,a4_.at n xs H Q
theorem a4_.at_ok:∀ n,ao_ prog 135 (a4_.at n)
 | 0=>fun _ _ _ h=>h.elim
 | n+1=>a4_.st_ok _ ((a4_.at_ok n).c ⟨_,func135,by kernel_rfl,by kernel_rfl⟩)
theorem nV_:ao_ prog 135 (a4_):=ao_.ex (a4_.at_ok)
def bC_.cx:Cx:=⟨tys,[3,48,92,98],[(8,[1,2,6,11,48,52,53,54])],[],[(130,dV_),(131,dg_),(132,cg_),(123,dh_),(133,insert_entries),(124,cz_),(134,hQ_),(135,a4_),(136,insert_writer_take)],au_,[.cell 6 24,.tmp 7]⟩
def bC_:=fF bC_.cx f94
def bC_.l8 k a b c d e f g h i j l m:=aW_ (bC_.cx) f94 8 k (.bad::gS a::gS b::B 3 (.bx [.sl c d 5]::B 4 (.g (.ptr (some (e,f)))::B 36 (.g (.ptr (some (g,h)))::B 3 (nL i j 5::gI l::gI m::B 51 [])))))
theorem r5_:aw_ bC_.cx f94 (k+1) [.agg [.sl x n 5],s,t] H Q=ae (pu H (.row true 24 [.sl x n 5])) (ln H) 0 5 fun a b=>dC dV_ [.agg [.sl a b 5]] (pu H (.row true 24 [.sl x n 5])) Q [.a [.sl none 0 5],nN 1200] dg_ [s] Q fun a=>aR cg_ [t] a Q [.a [.sl none 0 5],nN 1200] fun a=>ae a (ln H) 0 5 fun b c=>cd dh_ [.agg [.sl b c 5],s] a fun a b _=>aX b fun b c=>aU b (aE c (aI insert_entries [.g (.ptr (some (ln H,0)))] a (fun a b=>d6 60 b Q [.a [.sl none 0 5],nN 1201] a (ae a (ln H) 0 5 (fun b c=>bG cz_ [.agg [.sl b c 5]] a 5 fun a b c=>ae (pu a (.row true 195 [.sl b c 5,.sl none 0 1])) (ln a) 0 5 fun d e=>bC_.l8 k s t none 0 (ln a) 0 (ln a) 0 d e (nI e) 0 (pu a (.row true 195 [.sl b c 5,.sl none 0 1])) Q)))) (ae a (ln H) 0 5 (fun b c=>bG cz_ [.agg [.sl b c 5]] a 5 fun a b c=>ae (pu a (.row true 195 [.sl b c 5,.sl none 0 1])) (ln a) 0 5 fun d e=>bC_.l8 k s t none 0 (ln a) 0 (ln a) 0 d e (nI e) 0 (pu a (.row true 195 [.sl b c 5,.sl none 0 1])) Q))):=zz
theorem bC_.l8_eq:bC_.l8 (k+1) s t x n m l o N y M i j H Q=ay j i (bO (leI 0 j&&ltI j (nI M)) y H (tN j*5) H (tN j*5) (fun a b c _=>dW H a (b+tN j*5+1+1) fun _ _=>dW H a (b+tN j*5+1+1+1) fun _ _=>dW H a (b+tN j*5+1+1+1+1) fun _ _=>aE c (cl hQ_ [.g (.iface 197 (.ptr (some (m,l+1)))),.g (.iface 3 (.int .i64 j))] H (fun _ a=>bC_.l8 k s t x n m l o N y M i (ac_ .i64 (j+1)) a Q)) (bC_.l8 k s t x n m l o N y M i (ac_ .i64 (j+1)) H Q))) (ac a4_ [.g (.ptr (some (m,l))),nN 0,s,t] H (fun a b=>dP b fun b=>aE (isNone b) (ae a m (l+0) 5 (fun c d=>dN (leI 0 0&&ltI 0 (nI d)) c a (tN 0*5) a a 1 a 1 a 1 fun c d e f g h i j=>aI insert_writer_take [.g (.ptr (some (m,l))),.agg [c,d,.sl e f 1,.sl g h 1,.sl i j 1]] a fun a c=>ae a m (l+0) 5 fun d e=>pS b fun f g=>aj a f (g+0) fun h=>pS b fun b i=>au a b (i+1) fun j=>GJ_ (au (pu a (.row true 9 [h])) b (i+1) (fun b=>eqv j b (bT (pu a (.row true 9 [h])) m (l+0) 5 (nL d e 5) (aj (pu (pu a (.row true 9 [h])) (.row true 3 [c,j])) f (g+0) (fun b=>eqv h b (bT (pu (pu a (.row true 9 [h])) (.row true 3 [c,j])) m (l+0) 5 (nL d e 5) (bM (leI 0 0&&ltI 0 (nI e)) d (pu (pu a (.row true 9 [h])) (.row true 3 [c,j])) (tN 0*5) true (tN 0*5) false (tN 0*5) (.sl (some (ln a,0)) 1 1) (tN 0*5) (.sl none 0 1) (tN 0*5) (.sl (some (ln (pu a (.row true 9 [.str h])),0)) 2 1) (fun a=>eg a m (l+0) 5 Q (nN 0) a)))))))) (aj (pu a (.row true 3 [c,j])) f (g+0) (fun f=>eqv h f (bT (pu a (.row true 3 [c,j])) m (l+0) 5 (nL d e 5) (au (pu (pu a (.row true 3 [c,j])) (.row true 9 [h])) b (i+1) (fun b=>eqv j b (bT (pu (pu a (.row true 3 [c,j])) (.row true 9 [h])) m (l+0) 5 (nL d e 5) (bM (leI 0 0&&ltI 0 (nI e)) d (pu (pu a (.row true 3 [c,j])) (.row true 9 [h])) (tN 0*5) true (tN 0*5) false (tN 0*5) (.sl (some (ln (pu a (.row true 3 [.int .i64 c,.int .i64 j])),0)) 1 1) (tN 0*5) (.sl none 0 1) (tN 0*5) (.sl (some (ln a,0)) 2 1) (fun a=>eg a m (l+0) 5 Q (nN 0) a)))))))))) (eg a m (l+0) 5 Q (nN 0) a))):=zz
theorem rV_:ao_ prog 94 (bC_):=sO (eZ j6_ func130 (eZ ky_ func131 (eZ ib_ func132 (eZ q8_ func123 (dw_.cons (qK_) (eZ ph_ func124 (eZ yI_ func134 (eZ nV_ func135 (dw_.cons (mC_) eN))))))))) nO func94
def aM_.cx E:=(⟨tys,[],[(5,[2,3,4,7,28,29,30]),(13,[2,3,4,7,59,60,61])],[],[(90,ap_),(64,hC_),(91,cL_),(93,(bl_ E)),(92,slices_Sorted_string),(94,bC_)],E,[.cell 2 24]⟩:Cx)
def aM_ E:=fF (aM_.cx E) f55
def aM_.l5 E k a b c d e f g h i j:=aW_ (aM_.cx E) f55 5 k (.bad::.bad::.bx [.sl a b 5]::.bx [.sl c d 5]::gM e::.bad::.bad::gM f::B 20 (nL g h 2::gI i::gI j::B 60 []))
def aM_.l13 E k a b c d e f g h i j:=aW_ (aM_.cx E) f55 13 k (.bad::.bad::.bx [.sl a b 5]::.bx [.sl c d 5]::gM e::.bad::.bad::gM f::B 51 (nL g h 1::gI i::gI j::B 29 []))
theorem oQ_:aw_ (aM_.cx E) f55 (k+1) [x] H Q=dD x H 5 fun a b c d=>ac ap_ [x] H fun e f=>dM f fun f=>ae e a (b+0) 5 fun a b=>eqv (.agg [.sl c d 5]) (.agg [.sl a b 5]) (bF hC_ [.agg [.sl c d 5]] e 2 (fun a b e g=>aU b (aM_.l5 E k none 0 c d f (some (ln a)) e g (nI g) 0 (pu a (.map [] 0)) Q))):=zz
theorem aM_.l5_eq:aM_.l5 E (k+1) x n y m a A z l i j H Q=ay j i (dg (leI 0 j&&ltI j (nI l)) z H (tN j*2) H (tN j*2) (fun b c=>dZ H A [.str] b c fun c=>dT c a [.str] b (mkS []) fun d e=>dk d fun _=>aE e (bm cL_ [.agg [.sl y m 5],b] c 5 (fun b c d e=>aX c fun c _=>aU c (aM_.l5 E k x n d e a A z l i (ac_ .i64 (j+1)) b Q))) (aM_.l5 E k x n y m a A z l i (ac_ .i64 (j+1)) c Q))) (ac (bl_ E) [.g (.map a)] H (fun b c=>aG slices_Sorted_string [c] b 1 fun b c d=>aM_.l13 E k x n y m a A c d (nI d) 0 b Q)):=zz
theorem aM_.l13_eq:aM_.l13 E (k+1) x n y m a A z l i j H Q=ay j i (aL (leI 0 j&&ltI j (nI l)) z H (tN j*1) (fun b=>dT H A [.str] b (mkS []) fun c d=>dk c fun c=>aE d (dT H a [.str] b (mkS []) (fun c _=>dk c fun c=>dv bC_ [.agg [.sl y m 5],b,c] H 5 fun b c d=>aM_.l13 E k x n c d a A z l i (ac_ .i64 (j+1)) b Q)) (dT H a [.str] b (mkS []) (fun d _=>dk d fun d=>dU c d (dT H a [.str] b (mkS []) (fun c _=>dk c fun c=>dv bC_ [.agg [.sl y m 5],b,c] H 5 fun b c d=>aM_.l13 E k x n c d a A z l i (ac_ .i64 (j+1)) b Q)) (aM_.l13 E k x n y m a A z l i (ac_ .i64 (j+1)) H Q))))) (dV Q [.sl y m 5] H):=zz
theorem oA_(E)(h:eE E):ao_ prog 55 (aM_ E):=sO (eZ l0_ func90 (eZ tl_ func64 (eZ vU_ func91 (eZ (fy_ E h) func93 (dw_.cons (ft_) (eZ rV_ func94 eN)))))) h func55
def hZ_.cx E:=(⟨tys,[],[],[],[(31,(dz_ E)),(54,eA_),(28,ba_),(55,(aM_ E))],E,[.cell 6 24,.tmp 7]⟩:Cx)
def hZ_ E:=fF (hZ_.cx E) f27
theorem xc_:aw_ (hZ_.cx E) f27 (k+1) [.agg [.sl x n 5],.g (.fn m p),.g (.fn l q)] H Q=eQ (dz_ E) [.agg [.sl x n 5]] H Q [.a [.sl none 0 5],nN 2000] fun a b=>pS b fun c d=>ae a c (d+4) 5 fun c d=>aI (E m) (cpl [.g (.sl c d 5)] p) a fun a c=>cn c 0 Q [.a [.sl none 0 5],c] a (cl (E l) (cpl [.g (.ptr b)] q) a (fun _ a=>aI eA_ [b] a fun a c=>ay 60 c (co (dz_ E) [.agg [.sl x n 5]] a (fun a b c=>aX b fun b _=>uE b (cl ba_ [c] a (fun _ a=>cl (E l) (cpl [.g (.ptr c)] q) a fun _ a=>bH (aM_ E) [c] a 5 Q (nN 0))))) (bH (aM_ E) [b] a 5 Q (nN 0)))):=zz
theorem w5_(E)(h:eE E):ao_ prog 27 (hZ_ E):=sO (eZ (tb_ E h) func31 (eZ oN_ func54 (eZ io_ func28 (eZ (oA_ E h) func55 eN)))) h func27
def ez_.cx:Cx:=⟨tys,[],[],[],[],au_,[.tmp 2]⟩
def ez_:=fF ez_.cx f26
theorem rP_:aw_ ez_.cx f26 (k+1) [nL x n 5] H Q=Q (nN 0) H:=zz
theorem sX_:ao_ prog 26 (ez_):=sO eN nO func26
def bY_.cx:Cx:=⟨tys,[],[],[],[(27,(hZ_ (c5_ [(26,ez_),(28,ba_)])))],au_,[.cell 2 24,.tmp 3]⟩
def bY_:=fF bY_.cx f9
theorem u1_:aw_ bY_.cx f9 (k+1) [.agg [.sl x n 5]] H Q=ce (hZ_ (c5_ [(26,ez_),(28,ba_)])) [.agg [.sl x n 5],.g (.fn 26 []),.g (.fn 28 [])] H 5 fun a b c d=>aC Q [.a [.sl b c 5],d] a:=zz
theorem fr_:ao_ prog 9 (bY_):=sO (dw_.cons ((w5_ (c5_ [(26,ez_),(28,ba_)]) (hn_ (eZ sX_ func26 (eZ io_ func28 eN)))).c ⟨_,func27,by kernel_rfl,by kernel_rfl⟩) eN) nO func9
def bT_.cx:Cx:=⟨tys,[],[(2,[0,3])],[],[],au_,[.tmp 2]⟩
def bT_:=fF bT_.cx f205
def bT_.l2 k a b c:=aW_ (bT_.cx) f205 2 k (nL a b 1::.bad::.bad::gI c::B 36 [])
theorem vk_:aw_ bT_.cx f205 (k+1) [nL x n 1] H Q=bT_.l2 k x n 0 H Q:=zz
theorem bT_.l2_eq:bT_.l2 (k+1) x n i H Q=bg i n (aL (leI 0 i&&ltI i (nI n)) x H (tN i*1) (fun a=>dE (sz a) 1 Q H (aL (leI 0 i&&ltI i (nI n)) x H (tN i*1) (fun a=>dE 6 (sz a) Q H (ay 0 i (aL (leI 0 i&&ltI i (nI n)) x H (tN i*1) (fun a=>aL (leI 0 (ac_ .i64 (i-1))&&ltI (ac_ .i64 (i-1)) (nI n)) x H (tN (ac_ .i64 (i-1))*1) fun b=>b2_ (dN_ a b||ey_ a b) (aO Q H) (bT_.l2 k x n (ac_ .i64 (i+1)) H Q))) (bT_.l2 k x n (ac_ .i64 (i+1)) H Q)))))) (Q true H):=zz
theorem vn_:ao_ prog 205 (bT_):=sO eN nO func205
def aJ_.cx:Cx:=⟨tys,[],[(5,[2,5]),(11,[2,6]),(16,[2,6,7])],[],[(205,bT_)],au_,[.tmp 4]⟩
def aJ_:=fF aJ_.cx f177
def aJ_.l5 k a b c d e f g h i:=aW_ (aJ_.cx) f177 5 k (.bad::.bad::.bx [.bool a,.bool b,.sl c d 1,.sl e f 1,.sl g h 1]::.bad::.bad::gI i::B 104 [])
def aJ_.l11 k a b c d e f g h i:=aW_ (aJ_.cx) f177 11 k (.bad::.bad::.bx [.bool a,.bool b,.sl c d 1,.sl e f 1,.sl g h 1]::B 3 (gI i::B 103 []))
def aJ_.l16 k a b c d e f g h i j:=aW_ (aJ_.cx) f177 16 k (.bad::.bad::.bx [.bool a,.bool b,.sl c d 1,.sl e f 1,.sl g h 1]::B 3 (gI i::gI j::B 102 []))
theorem fm_:aw_ aJ_.cx f177 (k+1) [.agg [b,c,.sl x n 1,.sl y m 1,.sl z l 1],i] H Q=bz b Q H (bA bT_ [nL x n 1] H Q (fun a=>bg i n (aO Q a) (b2_ c (aJ_.l5 k b c x n y m z l 0 a Q) (aJ_.l11 k b c x n y m z l 0 a Q)))):=zz
theorem aJ_.l5_eq:aJ_.l5 (k+1) b c x n y m z l i H Q=bg i m (aL (leI 0 i&&ltI i (nI m)) y H (tN i*1) (fun a=>dE 10 (sz a) Q H (aJ_.l5 k b c x n y m z l (ac_ .i64 (i+1)) H Q))) (cy (nI m) (nI n) Q H (di Q (nI l) 0 H)):=zz
theorem aJ_.l11_eq:aJ_.l11 (k+1) b c x n y m z l i H Q=bg i l (aN (leI 0 i&&ltI i (nI l)) z H (tN i*1) (fun a=>dE a 1 Q H (aN (leI 0 i&&ltI i (nI l)) z H (tN i*1) (fun a=>bD 48 a (aO Q H) (aJ_.l16 k b c x n y m z l i 0 H Q))))) (dq 1 (nI n) Q H (cy (nI m) 0 Q H (di Q (nI l) (ac_ .i64 (nI n+1)) H))):=zz
theorem aJ_.l16_eq:aJ_.l16 (k+1) b c x n y m z l i j H Q=ay j i (aN (leI 0 j&&ltI j (nI l)) z H (tN j*1) (fun a=>aN (leI 0 i&&ltI i (nI l)) z H (tN i*1) fun d=>bV a d (aO Q H) (aJ_.l16 k b c x n y m z l i (ac_ .i64 (j+1)) H Q))) (aJ_.l11 k b c x n y m z l (ac_ .i64 (i+1)) H Q):=zz
theorem s2_:ao_ prog 177 (aJ_):=sO (eZ vn_ func205 eN) nO func177
def gG_.cx:Cx:=⟨tys,[],[],[],[(177,aJ_)],au_,[.tmp 2]⟩
def gG_:=fF gG_.cx f154
theorem ua_:ao_ prog 154 (gG_):=sO (eZ s2_ func177 eN) nO func154
end Go.Am
