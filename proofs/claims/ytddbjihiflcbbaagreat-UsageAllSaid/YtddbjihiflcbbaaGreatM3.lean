import Derived.Test.YtddbjihiflcbbaaGreatM2
import Derived.Test.YtddbjihiflcbbaaGreatProg
import Derived.KernelRfl
import Derived.RangeFuncBox
import Derived.RangeFuncLeaves
import Derived.Shelf.Abstract
import Derived.WalkKit
import Derived.OwnWalkIn
import Derived.TacticsInMore
import Derived.LoopNIn
import Derived.LoopIn
import Derived.Maps.AppendAt
import Derived.Shelf.SortM.Plain
import Derived.Shelf.SortM.SortNone
import Derived.Lib.SlKeysI
import Derived.Shelf.SlIter.Nil
import Derived.Sort.Walk0
import Derived.Lib.Bytealg
import Derived.Shelf.Spec.SlicesInsertGrow
set_option linter.unusedVariables false
set_option linter.unusedSimpArgs false
section
namespace Go.Am
open Go.Proofs
theorem ay_.d {P:Program} {f:FuncId} {s:Sm} (h:ay_ P f s) {fn:Func} (h1:P.funcs[f]? =some fn) (h2:(fn.name== "runtime.NumGoroutine")=false:=by kernel_rfl) (h3:fn.body.isNone=false:=by kernel_rfl):bG_ P f s:=h.c ⟨fn,h1,h2,h3⟩
def tys:List TI:=[
⟨false,[],0,[],0,4,[],0⟩,
⟨false,[.fn],0,[],8,0,[],0⟩,
⟨false,[(.int .i64)],0,[],8,0,[],0⟩,
⟨false,[(.int .i64)],0,[],8,0,[],0⟩,
⟨false,[.bool],0,[],1,0,[],0⟩,
⟨false,[(.int .u8)],0,[],1,0,[],0⟩,
⟨false,[(.int .u8)],0,[],1,0,[],0⟩,
⟨true,[(.int .i64),(.int .i64),.bool,(.int .u8)],1,[(0,2),(1,3),(2,4),(3,6)],24,0,[],0⟩,
⟨true,[(.int .i64),(.int .i64),.bool,(.int .u8)],1,[(0,2),(1,3),(2,4),(3,6)],24,0,[],0⟩,
⟨false,[.str],0,[],16,3,[],0⟩,
⟨false,[.str],0,[],16,3,[],0⟩,
⟨false,[.str],0,[],16,3,[],0⟩,
⟨false,[(.int .u64)],0,[],8,0,[],0⟩,
⟨true,[.str,(.int .u64)],0,[(0,9),(1,12)],24,0,[],0⟩,
⟨true,[.str,(.int .u64)],0,[(0,9),(1,12)],24,0,[],0⟩,
⟨false,[.ptr],249,[],8,2,[],0⟩,
⟨false,[.ptr],252,[],8,2,[],0⟩,
⟨false,[.ptr],260,[],8,2,[],0⟩,
⟨true,[.ptr],0,[(0,17)],8,0,[],0⟩,
⟨true,[.ptr],0,[(0,17)],8,0,[],0⟩,
⟨false,[.iface],0,[],16,0,[],0⟩,
⟨false,[(.int .i32)],0,[],4,0,[],0⟩,
⟨false,[(.sl 5)],56,[],24,1,[],0⟩,
⟨true,[(.sl 5)],0,[(0,22)],24,0,[],0⟩,
⟨true,[(.sl 5)],0,[(0,22)],24,0,[],0⟩,
⟨false,[.fn],0,[],8,0,[],0⟩,
⟨false,[(.int .i64)],0,[],8,0,[],0⟩,
⟨false,[],0,[(0,3),(0,3),(0,26)],0,4,[],0⟩,
⟨false,[.fn],0,[],8,0,[],0⟩,
⟨false,[],0,[(0,3),(0,3),(0,3)],0,4,[],0⟩,
⟨false,[.fn],0,[],8,0,[],0⟩,
⟨false,[(.sl 5)],49,[],24,1,[],0⟩,
⟨false,[],0,[(0,31),(0,26)],0,4,[],0⟩,
⟨false,[.fn],0,[],8,0,[],0⟩,
⟨false,[],0,[(0,31),(0,3)],0,4,[],0⟩,
⟨false,[.fn],0,[],8,0,[],0⟩,
⟨false,[.fn],0,[],8,0,[],0⟩,
⟨false,[.fn],0,[],8,0,[],0⟩,
⟨false,[.fn],0,[],8,0,[],0⟩,
⟨false,[.fn],0,[],8,0,[],0⟩,
⟨false,[.fn],0,[],8,0,[],0⟩,
⟨false,[.fn],0,[],8,0,[],0⟩,
⟨false,[],0,[(0,24),(0,3)],0,4,[],0⟩,
⟨false,[.fn],0,[],8,0,[],0⟩,
⟨false,[.fn],0,[],8,0,[],0⟩,
⟨false,[.fn],0,[],8,0,[],0⟩,
⟨false,[.fn],0,[],8,0,[],0⟩,
⟨false,[(.sl 3)],51,[],24,1,[],0⟩,
⟨true,[.str,(.int .i64),.str,.str,(.sl 3)],0,[(0,9),(1,3),(2,9),(3,9),(4,47)],80,0,[],0⟩,
⟨true,[.str,(.int .i64),.str,.str,(.sl 3)],0,[(0,9),(1,3),(2,9),(3,9),(4,47)],80,0,[],0⟩,
⟨true,[.str,.str,.bool],1,[(0,9),(1,9),(2,4)],40,0,[],0⟩,
⟨true,[.str,.str,.bool],1,[(0,9),(1,9),(2,4)],40,0,[],0⟩,
⟨false,[.fn],0,[],8,0,[],0⟩,
⟨false,[(.sl 1)],9,[],24,1,[],0⟩,
⟨false,[(.sl 1)],3,[],24,1,[],0⟩,
⟨true,[.bool,.bool,(.sl 1),(.sl 1),(.sl 1)],0,[(0,4),(1,4),(2,53),(3,53),(4,54)],80,0,[],0⟩,
⟨true,[.bool,.bool,(.sl 1),(.sl 1),(.sl 1)],0,[(0,4),(1,4),(2,53),(3,53),(4,54)],80,0,[],0⟩,
⟨false,[.fn],0,[],8,0,[],0⟩,
⟨false,[],0,[(0,49),(0,26)],0,4,[],0⟩,
⟨false,[.fn],0,[],8,0,[],0⟩,
⟨false,[.fn],0,[],8,0,[],0⟩,
⟨false,[.fn],0,[],8,0,[],0⟩,
⟨false,[.ptr],78,[],8,2,[],0⟩,
⟨false,[],0,[(0,62),(0,4)],0,4,[],0⟩,
⟨false,[.fn],0,[],8,0,[],0⟩,
⟨false,[.fn],0,[],8,0,[],0⟩,
⟨false,[.fn],0,[],8,0,[],0⟩,
⟨false,[.fn],0,[],8,0,[],0⟩,
⟨false,[.fn],0,[],8,0,[],0⟩,
⟨false,[.fn],0,[],8,0,[],0⟩,
⟨false,[.fn],0,[],8,0,[],0⟩,
⟨false,[.fn],0,[],8,0,[],0⟩,
⟨false,[.fn],0,[],8,0,[],0⟩,
⟨false,[.fn],0,[],8,0,[],0⟩,
⟨false,[(.sl 3)],82,[],24,1,[],0⟩,
⟨false,[(.sl 5)],86,[],24,1,[],0⟩,
⟨false,[(.sl 4)],89,[],24,1,[],0⟩,
⟨true,[(.sl 5),(.sl 4),(.sl 3)],0,[(0,75),(1,76),(2,74)],72,0,[],0⟩,
⟨true,[(.sl 5),(.sl 4),(.sl 3)],0,[(0,75),(1,76),(2,74)],72,0,[],0⟩,
⟨true,[(.int .i64),.str],1,[(0,3),(1,9)],24,0,[],0⟩,
⟨true,[(.int .i64),.str],1,[(0,3),(1,9)],24,0,[],0⟩,
⟨true,[(.int .i64),(.int .i64),.str],0,[(0,3),(1,80)],32,0,[],0⟩,
⟨true,[(.int .i64),(.int .i64),.str],0,[(0,3),(1,80)],32,0,[],0⟩,
⟨true,[(.int .i64),(.int .i64),.str,.str],1,[(0,3),(1,3),(2,9),(3,9)],48,0,[],0⟩,
⟨true,[(.int .i64),(.int .i64),.str,.str],1,[(0,3),(1,3),(2,9),(3,9)],48,0,[],0⟩,
⟨true,[.str,(.int .i64),(.int .i64),.str,.str],0,[(0,9),(1,84)],64,0,[],0⟩,
⟨true,[.str,(.int .i64),(.int .i64),.str,.str],0,[(0,9),(1,84)],64,0,[],0⟩,
⟨false,[.fn],0,[],8,0,[],0⟩,
⟨true,[(.int .i64),.str,(.int .i64),.bool],1,[(0,3),(1,9),(2,3),(3,4)],40,0,[],0⟩,
⟨true,[(.int .i64),.str,(.int .i64),.bool],1,[(0,3),(1,9),(2,3),(3,4)],40,0,[],0⟩,
⟨false,[.fn],0,[],8,0,[],0⟩,
⟨false,[.fn],0,[],8,0,[],0⟩,
⟨false,[],0,[(0,3),(0,4)],0,4,[],0⟩,
⟨false,[.fn],0,[],8,0,[],0⟩,
⟨false,[.fn],0,[],8,0,[],0⟩,
⟨false,[.ptr],102,[],8,2,[],0⟩,
⟨false,[],0,[(0,95),(0,4)],0,4,[],0⟩,
⟨false,[.fn],0,[],8,0,[],0⟩,
⟨false,[.map],84,[],8,5,[],9⟩,
⟨false,[.map],147,[],8,5,[],149⟩,
⟨false,[.map],80,[],8,5,[],3⟩,
⟨true,[(.sl 5),.map,.map,.map,(.sl 5)],0,[(0,24),(1,98),(2,99),(3,100),(4,31)],72,0,[],0⟩,
⟨true,[(.sl 5),.map,.map,.map,(.sl 5)],0,[(0,24),(1,98),(2,99),(3,100),(4,31)],72,0,[],0⟩,
⟨false,[(.sl 2)],108,[],24,1,[],0⟩,
⟨false,[],0,[(0,103),(0,3)],0,4,[],0⟩,
⟨false,[.fn],0,[],8,0,[],0⟩,
⟨false,[.fn],0,[],8,0,[],0⟩,
⟨true,[.str,.str],1,[(0,9),(1,9)],32,0,[],0⟩,
⟨true,[.str,.str],1,[(0,9),(1,9)],32,0,[],0⟩,
⟨false,[.fn],0,[],8,0,[],0⟩,
⟨false,[.fn],0,[],8,0,[],0⟩,
⟨false,[.fn],0,[],8,0,[],0⟩,
⟨false,[.fn],0,[],8,0,[],0⟩,
⟨false,[.fn],0,[],8,0,[],0⟩,
⟨false,[],0,[(0,3),(0,3)],0,4,[],0⟩,
⟨false,[.fn],0,[],8,0,[],0⟩,
⟨false,[.fn],0,[],8,0,[],0⟩,
⟨false,[.fn],0,[],8,0,[],0⟩,
⟨false,[.fn],0,[],8,0,[],0⟩,
⟨false,[.fn],0,[],8,0,[],0⟩,
⟨false,[.fn],0,[],8,0,[],0⟩,
⟨false,[],0,[(0,103),(0,26)],0,4,[],0⟩,
⟨false,[.fn],0,[],8,0,[],0⟩,
⟨false,[.fn],0,[],8,0,[],0⟩,
⟨false,[],0,[(0,9),(0,4)],0,4,[],0⟩,
⟨false,[.fn],0,[],8,0,[],0⟩,
⟨false,[],0,[(0,84),(0,3)],0,4,[],0⟩,
⟨false,[.fn],0,[],8,0,[],0⟩,
⟨false,[],0,[(0,3),(0,9),(0,4)],0,4,[],0⟩,
⟨false,[.fn],0,[],8,0,[],0⟩,
⟨false,[.fn],0,[],8,0,[],0⟩,
⟨false,[],0,[(0,80),(0,3)],0,4,[],0⟩,
⟨false,[.fn],0,[],8,0,[],0⟩,
⟨false,[.fn],0,[],8,0,[],0⟩,
⟨false,[.fn],0,[],8,0,[],0⟩,
⟨false,[],0,[(0,9),(0,3)],0,4,[],0⟩,
⟨false,[.fn],0,[],8,0,[],0⟩,
⟨false,[.fn],0,[],8,0,[],0⟩,
⟨false,[.fn],0,[],8,0,[],0⟩,
⟨false,[(.sl 1)],5,[],24,1,[],0⟩,
⟨false,[.fn],0,[],8,0,[],0⟩,
⟨false,[.fn],0,[],8,0,[],0⟩,
⟨false,[(.int .u64)],0,[],8,0,[],0⟩,
⟨false,[.fn],0,[],8,0,[],0⟩,
⟨false,[],0,[(0,84),(0,26)],0,4,[],0⟩,
⟨false,[.fn],0,[],8,0,[],0⟩,
⟨true,[(.int .i64),.bool],1,[(0,3),(1,4)],16,0,[],0⟩,
⟨true,[(.int .i64),.bool],1,[(0,3),(1,4)],16,0,[],0⟩,
⟨true,[(.int .i64),.str],1,[(0,3),(1,9)],24,0,[],0⟩,
⟨true,[(.int .i64),.str],1,[(0,3),(1,9)],24,0,[],0⟩,
⟨false,[],0,[(0,80),(0,26)],0,4,[],0⟩,
⟨false,[.fn],0,[],8,0,[],0⟩,
⟨false,[.map],3,[],8,5,[],3⟩,
⟨false,[.map],4,[],8,5,[],3⟩,
⟨false,[.fn],0,[],8,0,[],0⟩,
⟨false,[.fn],0,[],8,0,[],0⟩,
⟨false,[.fn],0,[],8,0,[],0⟩,
⟨false,[.fn],0,[],8,0,[],0⟩,
⟨false,[.fn],0,[],8,0,[],0⟩,
⟨false,[.fn],0,[],8,0,[],0⟩,
⟨false,[.fn],0,[],8,0,[],0⟩,
⟨false,[.fn],0,[],8,0,[],0⟩,
⟨false,[.ptr],179,[],8,2,[],0⟩,
⟨false,[],0,[(0,162),(0,4)],0,4,[],0⟩,
⟨false,[.fn],0,[],8,0,[],0⟩,
⟨false,[.fn],0,[],8,0,[],0⟩,
⟨false,[.fn],0,[],8,0,[],0⟩,
⟨false,[.fn],0,[],8,0,[],0⟩,
⟨false,[.fn],0,[],8,0,[],0⟩,
⟨false,[.fn],0,[],8,0,[],0⟩,
⟨false,[.fn],0,[],8,0,[],0⟩,
⟨false,[.ptr],24,[],8,2,[],0⟩,
⟨false,[.fn],0,[],8,0,[],0⟩,
⟨false,[.fn],0,[],8,0,[],0⟩,
⟨false,[.fn],0,[],8,0,[],0⟩,
⟨false,[.fn],0,[],8,0,[],0⟩,
⟨false,[.fn],0,[],8,0,[],0⟩,
⟨false,[(.sl 1)],4,[],24,1,[],0⟩,
⟨true,[(.sl 1),(.int .i64),(.int .i64),.bool],0,[(0,177),(1,3),(2,3),(3,4)],48,0,[],0⟩,
⟨true,[(.sl 1),(.int .i64),(.int .i64),.bool],0,[(0,177),(1,3),(2,3),(3,4)],48,0,[],0⟩,
⟨false,[.fn],0,[],8,0,[],0⟩,
⟨false,[.fn],0,[],8,0,[],0⟩,
⟨false,[.fn],0,[],8,0,[],0⟩,
⟨false,[.fn],0,[],8,0,[],0⟩,
⟨true,[(.sl 5),(.sl 1)],0,[(0,22),(1,53)],48,0,[],0⟩,
⟨true,[(.sl 5),(.sl 1)],0,[(0,22),(1,53)],48,0,[],0⟩,
⟨false,[.fn],0,[],8,0,[],0⟩,
⟨false,[.fn],0,[],8,0,[],0⟩,
⟨false,[.fn],0,[],8,0,[],0⟩,
⟨false,[.ptr],56,[],8,2,[],0⟩,
⟨false,[.fn],0,[],8,0,[],0⟩,
⟨false,[.fn],0,[],8,0,[],0⟩,
⟨false,[.fn],0,[],8,0,[],0⟩,
⟨false,[.fn],0,[],8,0,[],0⟩,
⟨false,[.fn],0,[],8,0,[],0⟩,
⟨false,[.fn],0,[],8,0,[],0⟩,
⟨false,[.ptr],198,[],8,2,[],0⟩,
⟨true,[(.sl 5),(.sl 1),(.int .i64),(.int .i64)],0,[(0,22),(1,177),(2,3),(3,3)],64,0,[],0⟩,
⟨true,[(.sl 5),(.sl 1),(.int .i64),(.int .i64)],0,[(0,22),(1,177),(2,3),(3,3)],64,0,[],0⟩,
⟨false,[.fn],0,[],8,0,[],0⟩,
⟨true,[.str,.str,.bool],1,[(0,9),(1,9),(2,4)],40,0,[],0⟩,
⟨true,[.str,.str,.bool],1,[(0,9),(1,9),(2,4)],40,0,[],0⟩,
⟨false,[.fn],0,[],8,0,[],0⟩,
⟨false,[(.int .i64)],0,[],8,0,[],0⟩,
⟨false,[],0,[(0,3),(0,203)],0,4,[],0⟩,
⟨false,[.fn],0,[],8,0,[],0⟩,
⟨false,[.fn],0,[],8,0,[],0⟩,
⟨false,[.fn],0,[],8,0,[],0⟩,
⟨false,[.fn],0,[],8,0,[],0⟩,
⟨false,[.fn],0,[],8,0,[],0⟩,
⟨false,[.fn],0,[],8,0,[],0⟩,
⟨false,[(.int .u32)],0,[],4,0,[],0⟩,
⟨false,[.fn],0,[],8,0,[],0⟩,
⟨false,[(.int .u64)],0,[],8,0,[],0⟩,
⟨false,[.fn],0,[],8,0,[],0⟩,
⟨false,[.fn],0,[],8,0,[],0⟩,
⟨false,[.fn],0,[],8,0,[],0⟩,
⟨false,[.fn],0,[],8,0,[],0⟩,
⟨false,[(.int .u64)],0,[],8,0,[],0⟩,
⟨false,[.fn],0,[],8,0,[],0⟩,
⟨false,[.fn],0,[],8,0,[],0⟩,
⟨false,[.fn],0,[],8,0,[],0⟩,
⟨false,[.ptr],3,[],8,2,[],0⟩,
⟨false,[.fn],0,[],8,0,[],0⟩,
⟨false,[.ptr],218,[],8,2,[],0⟩,
⟨false,[.fn],0,[],8,0,[],0⟩,
⟨false,[.fn],0,[],8,0,[],0⟩,
⟨false,[.fn],0,[],8,0,[],0⟩,
⟨false,[.fn],0,[],8,0,[],0⟩,
⟨false,[.fn],0,[],8,0,[],0⟩,
⟨false,[.fn],0,[],8,0,[],0⟩,
⟨false,[.fn],0,[],8,0,[],0⟩,
⟨false,[.fn],0,[],8,0,[],0⟩,
⟨false,[.fn],0,[],8,0,[],0⟩,
⟨false,[.fn],0,[],8,0,[],0⟩,
⟨false,[.fn],0,[],8,0,[],0⟩,
⟨false,[.fn],0,[],8,0,[],0⟩,
⟨false,[.fn],0,[],8,0,[],0⟩,
⟨false,[.fn],0,[],8,0,[],0⟩,
⟨false,[.fn],0,[],8,0,[],0⟩,
⟨false,[.fn],0,[],8,0,[],0⟩,
⟨false,[.fn],0,[],8,0,[],0⟩,
⟨false,[.fn],0,[],8,0,[],0⟩,
⟨false,[.fn],0,[],8,0,[],0⟩,
⟨false,[.fn],0,[],8,0,[],0⟩,
⟨false,[.fn],0,[],8,0,[],0⟩,
⟨false,[.fn],0,[],8,0,[],0⟩,
⟨false,[.fn],0,[],8,0,[],0⟩,
⟨true,[.ptr,.ptr,.ptr,.str],0,[(0,17),(1,17),(2,17),(3,9)],40,0,[],0⟩,
⟨true,[.ptr,.ptr,.ptr,.str],0,[(0,17),(1,17),(2,17),(3,9)],40,0,[],0⟩,
⟨true,[],16,[],0,6,[],0⟩,
⟨true,[],0,[(0,250)],0,0,[],0⟩,
⟨true,[],0,[(0,250)],0,0,[],0⟩,
⟨false,[(.int .u8)],0,[],1,0,[],0⟩,
⟨false,[(.int .u8)],0,[],1,0,[],0⟩,
⟨false,[.fn],0,[],8,0,[],0⟩,
⟨false,[.ptr],5,[],8,2,[],0⟩,
⟨false,[(.int .i32)],0,[],4,0,[],0⟩,
⟨false,[(.int .i32)],0,[],4,0,[],0⟩,
⟨true,[(.int .u64),(.int .u64),(.int .u32),(.int .u8),(.int .u8),(.int .u8),(.int .u8),.fn,.ptr,(.int .i32),(.int .i32)],0,[(0,12),(1,12),(2,211),(3,253),(4,5),(5,5),(6,254),(7,255),(8,256),(9,257),(10,258)],48,0,[],0⟩,
⟨true,[(.int .u64),(.int .u64),(.int .u32),(.int .u8),(.int .u8),(.int .u8),(.int .u8),.fn,.ptr,(.int .i32),(.int .i32)],0,[(0,12),(1,12),(2,211),(3,253),(4,5),(5,5),(6,254),(7,255),(8,256),(9,257),(10,258)],48,0,[],0⟩,
⟨false,[],0,[],8,0,[],0⟩]
set_option maxRecDepth 100000 in
theorem aq_:xJ_ Tryz.prog tys:=⟨Dy_ (by kernel_rfl),by kernel_rfl⟩
end Go.Am
end
section
namespace Go.Proofs
open Go.RowKit Go.Shelf
attribute [local go_sem] Oper.semAt_some
def Uq.upto (zs:List Int) (k:Nat):List Int:=(List.range k).map fun j=>zs[j]?.getD 0
theorem Uq.upto_succ (zs:List Int) (k:Nat):Uq.upto zs (k+1)=Uq.upto zs k++[zs[k]?.getD 0]:=by simp [Uq.upto,List.range_succ]
theorem Uq.upto_length (zs:List Int) (k:Nat):(Uq.upto zs k).length=k:=by simp [Uq.upto]
theorem Uq.upto_all (zs:List Int):Uq.upto zs zs.length=zs:=by
 apply List.ext_getElem
 ·simp [Uq.upto]
 ·intro i h1 h2;simp [Uq.upto,h2]
set_option maxRecDepth 100000 in
set_option maxHeartbeats 2000000 in
theorem Uq.values1_in (F:Fence) (n:Nat) (h7:F.fn 188) (hro:F.round=none) (hn:1≤n) (l Bs n₀ b off len cap:Nat) (zs:List Int) (hreach:len*8≤140737488355328) (hb:b < n₀) (J Jx:List Int→World→Prop)
 (hY:∀ pre x W,J pre W→pre.length < len→YieldAt F (n - 1) Tryz.prog l #[.int .i64 x] W fun e W'=>
  (e= .returned (.bool true)∧J (pre++[x]) W'∧Below n₀ W W')∨(e= .returned (.bool false)∧Jx (pre++[x]) W'))
 (W:World) (hBs:W.cell? ⟨Bs,0,none⟩=some (.slice (some ⟨b,off,none⟩) len cap)) (hc:∀ j,j < len→W.cell? ⟨b,off+j,none⟩=some (.int .i64 (zs[j]?.getD 0))) (h0:J [] W):
 CallsIn F n Tryz.prog 188 #[.func (.yield l) #[] #[],.pointer (some ⟨Bs,0,none⟩)] W fun e W'=>(∃ v,e= .returned v)∧
  ((∃ ys,ys=Uq.upto zs len∧J ys W')∨(∃ pre,(∃ k,k≤len∧pre=Uq.upto zs k)∧Jx pre W')):=by
 refine callsIn_of_wp Tryz.func188 rfl h7 ?_ hro;simp only[Tryz.ntmps188,List.size_toArray,List.length_cons,List.length_nil,Nat.reduceAdd,Nat.reduceSub,Array.replicate_succ,Array.replicate_zero,List.push_toArray,List.append_toArray,List.nil_append,List.cons_append];gi_wp2;gi_loopw [7] (fun i wr=>∃ k:Nat,k≤len∧i= .int .i64 k∧J (Uq.upto zs k) wr∧Below n₀ W wr)
  (fun i _=>len - (intOf i).toNat)
 case atStart=>exact⟨0,Nat.zero_le _,rfl,h0,Below.refl _ _⟩
 case round=>
  obtain⟨k,hk,rfl,hJs,hnx⟩:=hrel;have hcx:k < len→wr.cell? ⟨b,off+k,none⟩=some (.int .i64 (zs[k]?.getD 0)):=fun h=>(hnx.cell (p:=⟨b,off+k,none⟩) hb).trans (hc k h);by_cases hlt:k < len
  ·obtain⟨fn,tmps,assign,body,hy,hR⟩:=hY _ (zs[k]?.getD 0) wr hJs (by rw[Uq.upto_length]; exact hlt);have hcx':=hcx hlt;gi_wp2;refine hR.mono ?_;rintro e W3 (⟨rfl,hJ3,hk3⟩ | ⟨rfl,hJx3⟩)
   ·gi_wp2;go_roundw
    case rel=>exact⟨k+1,by omega,by simp,by rw[Uq.upto_succ]; exact hJ3,hnx.trans hk3⟩
    case measure=>simp [intOf]; omega
   ·gi_wp2;refine bodyPost_ret (results_none rfl _ _ _) rfl ?_;exact⟨⟨_,rfl⟩,.inr ⟨_,⟨k+1,by omega,(Uq.upto_succ _ _).symm⟩,hJx3⟩⟩
  ·obtain rfl:k=len:=by omega
   gi_wp2;go_end0;exact⟨⟨_,rfl⟩,.inl ⟨_,rfl,hJs⟩⟩
set_option maxRecDepth 100000 in
set_option maxHeartbeats 1000000 in
theorem Uq.values1_nil_in (F:Fence) (n:Nat) (h7:F.fn 188) (hro:F.round=none) (l Bs:Nat) (J:List Int→World→Prop) (W:World) (p:Option Addr) (cap:Nat) (hBs:W.cell? ⟨Bs,0,none⟩=some (.slice p 0 cap)) (h0:J [] W):
 CallsIn F n Tryz.prog 188 #[.func (.yield l) #[] #[],.pointer (some ⟨Bs,0,none⟩)] W fun e W'=>(∃ v,e= .returned v)∧J [] W':=by
 refine callsIn_of_wp Tryz.func188 rfl h7 ?_ hro;simp only[Tryz.ntmps188,List.size_toArray,List.length_cons,List.length_nil,Nat.reduceAdd,Nat.reduceSub,Array.replicate_succ,Array.replicate_zero,List.push_toArray,List.append_toArray,List.nil_append,List.cons_append];gi_wp2;gi_loopw [7] (fun i wr=>i= .int .i64 0∧J [] wr) (fun _ _=>0)
 case atStart=>exact⟨rfl,h0⟩
 case round=>
  obtain⟨rfl,hJs⟩:=hrel;gi_wp2;go_end0;exact⟨⟨_,rfl⟩,hJs⟩
def Uq.Ints (n₀:Nat) (W:World) (sv:Value) (zs:List Int):Prop:=
 (∃ p cap,sv= .slice p 0 cap∧zs=[])∨∃ b off cap,sv= .slice (some ⟨b,off,none⟩) zs.length cap∧b < n₀∧∀ j,j < zs.length→W.cell? ⟨b,off+j,none⟩=some (.int .i64 (zs[j]?.getD 0))
theorem Uq.Ints.below {n₀:Nat} {A B:World} (h:Below n₀ A B) {sv:Value} {zs:List Int}:Uq.Ints n₀ A sv zs→Uq.Ints n₀ B sv zs
 | .inl e=> .inl e
 | .inr ⟨b,off,cap,e,hb,hc⟩=> .inr ⟨b,off,cap,e,hb,fun j hj=>(h.cell (p:=⟨b,off+j,none⟩) hb).trans (hc j hj)⟩
theorem Uq.values_stops (F:Fence) (n:Nat) (h7:F.fn 188) (hro:F.round=none) (hn:1≤n) (Bs n₀:Nat) (sv:Value) (zs:List Int) (hreach:zs.length*8≤140737488355328) (w:World) (hBs:Bs < w.heap.size) (hn₀:n₀≤w.heap.size)
 (hc:w.cell? ⟨Bs,0,none⟩=some sv) (hI:Uq.Ints n₀ w sv zs):
 SeqStopsK F n Tryz.prog 188 #[.pointer (some ⟨Bs,0,none⟩)] (fun x:Int=> #[Value.int .i64 x]) (Below n₀) (fun ys=>ys=zs) (fun _=>True) zs.length w:=fun l J Jx W hW _ _ hY h0=>by
 have hc':=(hW.cell (p:=⟨Bs,0,none⟩) hBs).trans hc;rcases hI.below (hW.mono hn₀) with⟨p,cap,rfl,rfl⟩ | ⟨b,off,cap,rfl,hb,hcs⟩
 ·exact (Uq.values1_nil_in F n h7 hro l Bs J W p cap hc' h0).mono fun e W' ⟨he,hj⟩=>⟨he,.inl ⟨_,rfl,hj⟩⟩
 ·refine (Uq.values1_in F n h7 hro hn l Bs n₀ b off zs.length cap zs hreach hb J Jx hY W hc' hcs h0).mono ?_;rintro e W' ⟨he,⟨ys,rfl,hj⟩ | ⟨pre,⟨k,hk,rfl⟩,hj⟩⟩
  ·exact⟨he,.inl ⟨_,Uq.upto_all zs,hj⟩⟩
  ·exact⟨he,.inr ⟨_,trivial,hj⟩⟩
theorem Uq.info3:(Tryz.prog.info? 3).map (fun i=>(i.zero,i.size,i.bytes))=some (some (.int .i64 0),1,8):=by kernel_rfl
set_option maxRecDepth 100000 in
set_option maxHeartbeats 2000000 in
theorem Uq.appendSeq_in (F:Fence) (n:Nat) (h3:F.fn 189) (h7:F.fn 188) (hro:F.round=none) (hn:3≤n) (Bs:Nat) (sv:Value) (zs:List Int) (hreach:zs.length*8≤140737488355328) (w:World) (hBs:Bs < w.heap.size)
 (hc:w.cell? ⟨Bs,0,none⟩=some sv) (hI:Uq.Ints w.heap.size w sv zs):
 CallsIn F n Tryz.prog 189 #[.slice none 0 0,.func (.func 188) #[] #[.pointer (some ⟨Bs,0,none⟩)]] w fun e W'=>∃ v,e= .returned v∧
  W'.ownsRow w.heap.size 3 1 v zs.length (zs.map (Value.int .i64))∧(v= .slice none 0 0↔zs=[])∧Below w.heap.size w W':=by
 have h1:1≤n:=by omega
 obtain⟨i0,hi,hz0,hz1,hz2⟩:=info_parts Uq.info3;refine callsIn_of_wp_marks Tryz.func189 rfl h3 ?_ hro;simp only[Tryz.ntmps189,List.size_toArray,List.length_cons,List.length_nil,Nat.reduceAdd,Nat.reduceSub,Array.replicate_succ,Array.replicate_zero,List.push_toArray,List.append_toArray,List.nil_append,List.cons_append];gi_wp2;have bS:=Boxed.new w 54 (.slice none 0 0);have hB0:Below w.heap.size w (w.alloc (.cells #[.slice none 0 0] 54)):=(Below.refl _ w).alloc (Nat.le_refl _) _;refine wpIn_rangeFunc_ownG hro h1 (gf:=188) (lb:= #[.pointer (some ⟨Bs,0,none⟩)]) rfl h7 (enters_of Tryz.func188 (by kernel_rfl) rfl)
  (Uq.values_stops F (n - 1) h7 hro (by omega) Bs w.heap.size _ zs hreach _ (by simp; omega) (by simp) ((hB0.cell (p:=⟨Bs,0,none⟩) hBs).trans hc) (hI.below hB0)) belowK_t (belowK_b (by simp)) (Below.refl _ _) (fun _=>rfl)
  (fun pre W=>(∃ v,Boxed W w.heap.size 54 v∧W.ownsRow w.heap.size 3 1 v pre.length (pre.map (Value.int .i64))∧(v= .slice none 0 0↔pre=[]))∧Below w.heap.size w W)
  (fun _ _ _=>False)
  (OwnFrom.and (Own.from (holdsRow_own w.heap.size w.heap.size 54 3 1 (fun pre:List Int=>pre.length) (fun pre=>pre.map (Value.int .i64)) (fun pre v=>(v= .slice none 0 0↔pre=[]))) _) (ownFrom_below (Nat.le_refl _) (by simp)))
  (fun _ _ _ _ _ hs _ _=>hs)
  ⟨⟨_,bS,World.ownsRow_nil _ _ _ _,by simp⟩,hB0⟩
  (fun x=>{ tmps:= #[.slice none 0 0,.func (.func 188) #[] #[.pointer (some ⟨Bs,0,none⟩)],.pointer (some ⟨w.heap.size,0,none⟩),undef,.slice none 0 0,.int .i64 x,.func (.func 188) #[] #[.pointer (some ⟨Bs,0,none⟩)],.int .i64 x,undef,undef,undef,undef,undef],defers:=[] }) ?assign ?body ?done ?stop
 case assign=>
  intro l x W K hK;gi_wp2;exact hK
 case body=>
  rintro l pre x W ⟨⟨v,hv,hrow,hnil⟩,hB⟩ hlt;have hvc:=hv.cell;have hle:w.heap.size≤w.heap.size:=Nat.le_refl _;have hm:(pre.length+1)*8≤140737488355328:=by omega
  have hm':pre.length+1≤maxLen:=by unfold maxLen; omega
  gi_wp2_with (gi_at_builtin; refine wpListIn_append_own _ rfl _ _ 54 rfl w.heap.size 3 i0 (.int .i64 0) 1 8 Tryz.underlying54 hi hz0 hz1 hz2 rfl (by decide) _ _ _ rfl (hrow.alloc _) ⟨W.heap.size,0,none⟩ 1 1 [.int .i64 x] rfl rfl (cell_one_new _ _ _) (by simp [Value.oneCell']) (by omega) (by omega) (by have:=hB.size; simp; omega) ?_; intro v' w1 hown' hgrow _; obtain⟨g',cap',rfl⟩:=ownsRow_succ hown'; obtain⟨hv1,hv2,hr2,hk2,hb2⟩:=hv.appended (by decide) hrow hB.size hle hown' hgrow; have hc1:=hv1.cell; have hf1:=hv1.frozen);exact⟨hk2.from _,hb2,⟨_,hv2,by simpa using hr2,by simp⟩,hB.trans hb2⟩
 case done=>
  rintro D ys W hD rfl ⟨⟨v,hv,hrow,hnil⟩,hB⟩ hK;have hvc:=hv.cell;gi_wp2;refine⟨by simp,.inl ⟨_,_,rfl,run_takeDeferred hK,?_⟩⟩;exact⟨_,results_tmp rfl _ _ _,v,rfl,ownsRow_putObj hrow _ hK rfl,hnil,hB.trans (belowK_b (w:=w) (Nat.le_refl _) W D _ _ (by simp at hD; omega) hK rfl rfl)⟩
 case stop=>
  rintro D c pre W _ _ h _;exact h.elim
end Go.Proofs
end
section
namespace Go.Proofs
open Go.Shelf
def Uq.sortA_ren:Go.Shelf.Ren:=⟨fun | 5=>187 | 8=>134 | 7=>190 | 19=>151 | 20=>152 | 10=>191 | 11=>192 | 12=>193 | 13=>194 | 14=>195 | 15=>196 | 16=>197 | 17=>198 | 18=>199 | 30=>200 | 31=>161 | 32=>162 | 33=>201 | 34=>202 | 35=>203 | 40=>204 | n=>n,fun | 23=>54 | 25=>3 | 3=>3 | 32=>142 | 22=>54 | 0=>0 | 44=>211 | 46=>213 | 4=>4 | 36=>204 | 35=>203 | 41=>92 | 5=>5 | 9=>9 | 53=>218 | 57=>222 | 63=>224 | 64=>114 | n=>n,fun | n=>n⟩
theorem Uq.sortA:Go.Proofs.SlLaysM.n5 Tryz.prog Uq.sortA_ren:={
 mixed:=by kernel_rfl
 f5:=⟨Tryz.f187.name,by decide,Tryz.func187.trans (congrArg some (by kernel_rfl))⟩
 f7:=⟨Tryz.f190.name,by decide,Tryz.func190.trans (congrArg some (by kernel_rfl))⟩
 f8:=Tryz.func134.trans (congrArg some (by kernel_rfl))
 f10:=⟨Tryz.f191.name,by decide,Tryz.func191.trans (congrArg some (by kernel_rfl))⟩
 f11:=⟨Tryz.f192.name,by decide,Tryz.func192.trans (congrArg some (by kernel_rfl))⟩
 f12:=⟨Tryz.f193.name,by decide,Tryz.func193.trans (congrArg some (by kernel_rfl))⟩
 f13:=⟨Tryz.f194.name,by decide,Tryz.func194.trans (congrArg some (by kernel_rfl))⟩
 f14:=⟨Tryz.f195.name,by decide,Tryz.func195.trans (congrArg some (by kernel_rfl))⟩
 f15:=⟨Tryz.f196.name,by decide,Tryz.func196.trans (congrArg some (by kernel_rfl))⟩
 f16:=⟨Tryz.f197.name,by decide,Tryz.func197.trans (congrArg some (by kernel_rfl))⟩
 f17:=⟨Tryz.f198.name,by decide,Tryz.func198.trans (congrArg some (by kernel_rfl))⟩
 f18:=⟨Tryz.f199.name,by decide,Tryz.func199.trans (congrArg some (by kernel_rfl))⟩
 f19:=Tryz.func151.trans (congrArg some (by kernel_rfl))
 f20:=Tryz.func152.trans (congrArg some (by kernel_rfl))
 f30:=⟨Tryz.f200.name,by decide,Tryz.func200.trans (congrArg some (by kernel_rfl))⟩
 f31:=Tryz.func161.trans (congrArg some (by kernel_rfl))
 f32:=Tryz.func162.trans (congrArg some (by kernel_rfl))
 f33:=⟨Tryz.f201.name,by decide,Tryz.func201.trans (congrArg some (by kernel_rfl))⟩
 f34:=⟨Tryz.f202.name,by decide,Tryz.func202.trans (congrArg some (by kernel_rfl))⟩
 f35:=⟨Tryz.f203.name,by decide,Tryz.func203.trans (congrArg some (by kernel_rfl))⟩
 f40:=⟨Tryz.f204.name,by decide,Tryz.func204.trans (congrArg some (by kernel_rfl))⟩
 t0:=Tryz.underlying0
 a0:=Tryz.isAgg0
 z0:=Tryz.sizeOf0
 v0:=Tryz.zeroValue0
 t3:=Tryz.underlying3
 a3:=Tryz.isAgg3
 z3:=Tryz.sizeOf3
 v3:=Tryz.zeroValue3
 t4:=Tryz.underlying4
 a4:=Tryz.isAgg4
 z4:=Tryz.sizeOf4
 v4:=Tryz.zeroValue4
 t5:=Tryz.underlying5
 a5:=Tryz.isAgg5
 z5:=Tryz.sizeOf5
 v5:=Tryz.zeroValue5
 t9:=Tryz.underlying9
 a9:=Tryz.isAgg9
 z9:=Tryz.sizeOf9
 v9:=Tryz.zeroValue9
 t22:=Tryz.underlying54
 a22:=Tryz.isAgg54
 z22:=Tryz.sizeOf54
 v22:=Tryz.zeroValue54
 t23:=Tryz.underlying54
 a23:=Tryz.isAgg54
 z23:=Tryz.sizeOf54
 v23:=Tryz.zeroValue54
 t25:=Tryz.underlying3
 a25:=Tryz.isAgg3
 z25:=Tryz.sizeOf3
 v25:=Tryz.zeroValue3
 t32:=Tryz.underlying142
 a32:=Tryz.isAgg142
 z32:=Tryz.sizeOf142
 v32:=Tryz.zeroValue142
 t35:=Tryz.underlying203
 a35:=Tryz.isAgg203
 z35:=Tryz.sizeOf203
 v35:=Tryz.zeroValue203
 t36:=Tryz.underlying204
 a36:=Tryz.isAgg204
 z36:=Tryz.sizeOf204
 v36:=Tryz.zeroValue204
 t41:=Tryz.underlying92
 a41:=Tryz.isAgg92
 z41:=Tryz.sizeOf92
 v41:=Tryz.zeroValue92
 t44:=Tryz.underlying211
 a44:=Tryz.isAgg211
 z44:=Tryz.sizeOf211
 v44:=Tryz.zeroValue211
 t46:=Tryz.underlying213
 a46:=Tryz.isAgg213
 z46:=Tryz.sizeOf213
 v46:=Tryz.zeroValue213
 t53:=Tryz.underlying218
 a53:=Tryz.isAgg218
 z53:=Tryz.sizeOf218
 v53:=Tryz.zeroValue218
 t57:=Tryz.underlying222
 a57:=Tryz.isAgg222
 z57:=Tryz.sizeOf222
 v57:=Tryz.zeroValue222
 t63:=Tryz.underlying224
 a63:=Tryz.isAgg224
 z63:=Tryz.sizeOf224
 v63:=Tryz.zeroValue224
 t64:=Tryz.underlying114
 a64:=Tryz.isAgg114
 z64:=Tryz.sizeOf114
 v64:=Tryz.zeroValue114 }
end Go.Proofs
namespace Go.Am
open Go.Proofs Go.RowKit Go.Sort
theorem bH_.stay {φ:List LI} {H:Hp} {w w':World} (h:cq_ φ H w) (hb:Below w.heap.size w w'):bH_ φ H w φ H w':=
 ⟨List.prefix_refl _,⟨h.len,fun l o hl hv=>by obtain⟨i,hi,hr⟩:=h.obj l o hl hv; exact⟨i,hi,hr.keep (hb.block _ (h.blockLt ⟨l,o,i,hl,hv,hi,rfl⟩)) hb.size⟩,h.apart⟩,
  ⟨hb.os,hb.tape,hb.output,hb.size,fun b h1 _=>hb.block b h1⟩,fun _ h=> .inl h,fun _ h=> .inl h⟩
theorem bH_.made {φ:List LI} {H:Hp} {w w':World} (h:cq_ φ H w) (hb:Below w.heap.size w w') {t:TypeId} {cs:List GV} {g cap:Nat} {cur:Array Value} (hg:w.heap.size≤g)
 (hc:w'.heap[g]? =some (.cells cur t (0,0))) (hs:cur.size=cap) (hle:cs.length≤cap) (his:Is2 φ cs (cur.toList.take cs.length)):
 bH_ φ H w (φ++[⟨g,0,true,cs.length,cap⟩]) (H++[.row true t cs]) w':=
 bH_.snoc h ⟨hb.os,hb.tape,hb.output,hb.size,fun b h1 _=>hb.block b h1⟩ (fun b q=>hb.block b (h.blockLt q))
  ⟨rfl,rfl,(Array.getElem?_eq_some_iff.1 hc).1,rfl,cur,t,(0,0),hc,fun _=>rfl,hs,(fun j _ h2=>by simp at h2),by omega,Is2.mono (List.prefix_append _ _) his⟩ hg
theorem vB_ (φ:List LI):∀ zs:List Int,Is2 φ (zs.map (GV.int .i64)) (zs.map (Value.int .i64))
 | []=> .nil
 | _::zs=> .cons rfl (vB_ φ zs)
theorem vA_ {φ:List LI}:∀ {zs:List Int} {xs:List Value},Is2 φ (zs.map (GV.int .i64)) xs→xs=zs.map (Value.int .i64)
 | [],_,h=>by rw[b6_.nil_inv h]; rfl
 | z::zs,_,h=>by
  obtain⟨b,bs,rfl,h1,h2⟩:=b6_.cons_inv h;rw[vA_ h2,show b=_ from h1]; rfl
theorem b6_.two {α β:Type} {R:α→β→Prop} {a b:α} {vs:List β} (h:b6_ R [a,b] vs):∃ x y,vs=[x,y]∧R a x∧R b y:=by
 obtain⟨x,vs,rfl,h1,h⟩:=h.cons_inv;obtain⟨y,vs,rfl,h2,h⟩:=h.cons_inv;rw[h.nil_inv];exact⟨x,y,rfl,h1,h2⟩
theorem b6_.one {α β:Type} {R:α→β→Prop} {a:α} {vs:List β} (h:b6_ R [a] vs):∃ x,vs=[x]∧R a x:=by
 obtain⟨x,vs,rfl,h1,h⟩:=h.cons_inv;rw[h.nil_inv];exact⟨x,rfl,h1⟩
def slices_AppendSeq__int_int:Sm:=fun xs H Q=>∃ l t cs a n zs,xs=[.g (.sl none 0 1),.g (.fn 188 [(l,0)])]∧H[l]? =some (.row true t cs)∧cs[0]? =some (.sl a n 1)∧cells? H a n=some (zs.map (GV.int .i64))∧zs.length*8≤Lim∧
 (zs=[]→Q (.g (.sl none 0 1)) H)∧(zs≠[]→Q (.g (.sl (some (ln H,0)) zs.length 1)) (pu H (.row true 3 (zs.map (GV.int .i64)))))
theorem BC_ {φ:List LI} {H:Hp} {w:World} (h:cq_ φ H w) {a:Pl} {n:Nat} {zs:List Int} (hz:cells? H a n=some (zs.map (GV.int .i64))) {x:Value} (hx:GV.is φ (.sl a n 1) x):Uq.Ints w.heap.size w x zs:=by
 cases a with
 | none=>
  obtain⟨rfl,rfl⟩:=hx;simp [cells?] at hz;exact .inl ⟨none,0,rfl,hz⟩
 | some p=>
  obtain⟨l,o⟩:=p;obtain⟨i,ad,c,hi,rfl,hq,hnc,hu,_⟩:=hx;obtain⟨i',hi',hlen,xs,his,hcell⟩:=h.cells hz;rw[hi] at hi'; cases hi';simp at hlen;subst hlen;have hxs:=vA_ his;subst hxs;cases zs with
  | nil=>exact .inl ⟨_,c,rfl,rfl⟩
  | cons z zs=>
   have hq:=hq.resolve_right (by simp at hnc; omega);subst hq;refine .inr ⟨i.b,i.p+o,c,rfl,?_,fun j hj=> ?_⟩
   ·have:=hcell 0 (.int .i64 z) (by simp);rcases Nat.lt_or_ge i.b w.heap.size with h1 | h1
    ·exact h1
    ·simp [World.cell?,Array.getElem?_eq_none h1] at this
   ·exact hcell j _ (by rw[List.getElem?_map,List.getElem?_eq_getElem hj]; simp)
set_option maxRecDepth 100000 in
theorem eY_:bG_ Tryz.prog 189 slices_AppendSeq__int_int:=by
 intro as0 H Q ⟨l,t,cs,a,n,zs,e,hl,h0,hz,hlim,hQ1,hQ2⟩ φ w vs hr ha;subst e;obtain⟨x,y,rfl,hx,hy⟩:=ha.two;obtain⟨_,rfl⟩:=hx;obtain⟨xs,rfl,hc⟩:=hy;obtain⟨p,rfl,i,hi,rfl⟩:=hc.one;obtain⟨i',hi',hrow⟩:=hr.row l true t cs hl;rw[hi] at hi'; cases hi';obtain⟨_,hu,hlt,hp,c,t',fz,hb,_,hs,_,hle,his⟩:=hrow;obtain⟨sv,hsv,hvx⟩:=his.get h0;have hcell:w.cell? ⟨i.b,0,none⟩=some sv:=by
  rw[fa_ hb];rw[List.getElem?_take] at hsv;split at hsv
  ·simpa using hsv
  ·simp at hsv
 have e0:i.p+0=0:=by omega
 show yj_ Tryz.prog 189 #[.slice none 0 0,.func (.func 188) #[] #[.pointer (some ⟨i.b,i.p+0,none⟩)]] w _;rw[e0];refine .inl ⟨enters_of Tryz.func189 (by kernel_rfl) rfl _ _,?_⟩;refine ((callsIn_wide (n:=3)).1 (Uq.appendSeq_in Fence.wide 3 trivial trivial rfl (by omega) i.b sv zs hlim w hlt hcell (BC_ hr hz hvx))).mono ?_;rintro e w' ⟨v,rfl,⟨_,hown⟩,hnil,hbel⟩;by_cases hze:zs=[]
 ·exact⟨_,H,φ,v,hQ1 hze,rfl,⟨rfl,hnil.2 hze⟩,bH_.stay hr hbel⟩
 ·rcases hown with⟨rfl,h1⟩ | ⟨g,cap,cur,rfl,hg,hgb,h1,h2,h3,h4⟩
  ·exact (hze (hnil.1 rfl)).elim
  ·have B:=bH_.made (cs:=zs.map (GV.int .i64)) hr hbel hg hgb (by simpa using h3) (by simpa using h1) (by rw[List.length_map,←Nat.mul_one zs.length,h4]; exact vB_ φ zs);refine⟨_,_,_,_,hQ2 hze,rfl,?_,B⟩;refine⟨⟨g,0,true,(zs.map (GV.int .i64)).length,cap⟩,_,cap,?_,rfl,.inl rfl,h1,by simp; omega,fun _=>⟨rfl,by simp,by unfold maxLen at h2; exact h2⟩⟩;show (φ++[_])[ln H]? =_;rw[show ln H=φ.length from hr.len.symm];simp
def slices_Sort__int_int:Sm:=fun xs H Q=>(xs=[.g (.sl none 0 1)]∧Q (.tup []) H)∨
 ∃ l zs,xs=[.g (.sl (some (l,0)) zs.length 1)]∧zs≠[]∧zs.length*8≤Lim∧H[l]? =some (.row true 3 (zs.map (GV.int .i64)))∧Q (.tup []) (H.set l (.row true 3 ((zs.mergeSort fun x y=>decide (x≤y)).map (GV.int .i64))))
theorem gd_:bG_ Tryz.prog 187 slices_Sort__int_int:=by
 intro as0 H Q hS φ w vs hr ha;rcases hS with⟨rfl,hQ⟩ | ⟨l,zs,rfl,hne,hlim,hl,hQ⟩
 ·obtain⟨x,rfl,hx⟩:=ha.one;obtain⟨_,rfl⟩:=hx;refine .inl ⟨enters_of Tryz.func187 (by kernel_rfl) rfl _ _,?_⟩;refine (AnyM.slices_Sort_int_none Uq.sortA none 0 w).mono ?_;rintro e w' ⟨rfl,rfl⟩;exact⟨_,H,φ,_,hQ,rfl,⟨#[],rfl,.nil⟩,bH_.refl hr⟩
 ·obtain⟨x,rfl,hx⟩:=ha.one;obtain⟨i,ad,c,hi,rfl,hq,hnc,hu,ho⟩:=hx;obtain⟨i',hi',hrow⟩:=hr.row l true 3 _ hl;rw[hi] at hi'; cases hi';obtain⟨ho',hu',hlt,hp,cur,t',fz,hb,ht',hs,hfz,hle,his⟩:=hrow;have hzl:0 < zs.length:=List.length_pos_iff.2 hne;have hq':ad=⟨i.b,0,none⟩:=by
   rcases hq with h | h
   ·rw[h,hp]
   ·omega
  subst hq';have hcur:cur.toList.take zs.length=zs.map (Value.int .i64):=by
   have:=vA_ his;rwa [List.length_map] at this
  have hH:Holds (Value.int .i64) w i.b 0 zs.toArray:=by
   intro j hj;have hj':j < zs.length:=by simpa using hj
   rw[Nat.zero_add];constructor
   ·rw[fa_ hb];have h1:(cur.toList.take zs.length)[j]? =(zs.map (Value.int .i64))[j]? :=by rw[hcur]
    rw[List.getElem?_take_of_lt hj',List.getElem?_map,List.getElem?_eq_getElem hj'] at h1;simp at h1;rw[h1];simp [hj']
   ·simp only[World.frozen?,hb];simp only[List.length_map] at hle;by_cases h1:fz.1≤j
    ·by_cases h2:j < fz.2
     ·have:=hfz j h1 h2; omega
     ·simp; omega
    ·simp; omega
  refine .inl ⟨enters_of Tryz.func187 (by kernel_rfl) rfl _ _,?_⟩;refine (AnyM.slices_Sort_int Uq.sortA i.b 0 c zs w hH hlt (by unfold Lim at hlim; omega)).mono ?_;rintro e w' ⟨rfl,k,os,rfl⟩;have hlen:(zs.mergeSort fun x y=>decide (x≤y)).length=zs.length:=by simp
  refine⟨_,_,φ,_,hQ,rfl,⟨#[],rfl,.nil⟩,?_⟩;have hg:=grownBy_sorted_i (w:=w) (g:=i.b) (n:=k) (os:=os) (zs.mergeSort fun x y=>decide (x≤y)).toArray;refine bH_.turn hr hl hi (by simp at hle; omega) ⟨hg.os,hg.tape,hg.output,hg.size,fun b h1 h2=>hg.block b h1 (fun e=>h2 (by cases e; rfl))⟩ ?_;have hb':=heap_sorted_i (n:=k) (os:=os) (zs.mergeSort fun x y=>decide (x≤y)).toArray hb;refine⟨ho',by simp [hu'],(Array.getElem?_eq_some_iff.1 hb').1,hp,_,t',fz,hb',ht',by simp [putCells,hs],hfz,by simp [putCells]; simpa using hle,?_⟩;have htk:=take_putCells_i cur (zs.mergeSort fun x y=>decide (x≤y)) (by simpa using hle);rw[List.length_map,htk];exact vB_ φ _
end Go.Am
end
namespace Go.Am
abbrev tS:Nat:=9
abbrev tI:Nat:=3
abbrev tB:Nat:=4
abbrev tU8:Nat:=5
abbrev tPg:Nat:=56
abbrev Eb_:Nat:=22
abbrev tTr:Nat:=24
abbrev tSs:Nat:=53
abbrev tIs:Nat:=54
abbrev D9_:Nat:=139
abbrev tKV:Nat:=108
abbrev D4_:Nat:=103
abbrev Aj_:Nat:=198
abbrev xN_:Nat:=179
abbrev D7_:Nat:=185
abbrev Ea_:Nat:=26
abbrev Dt_:Nat:=61
abbrev DF_:Nat:=159
abbrev BL_:Nat:=172
abbrev Bu_:Nat:=173
abbrev Bk_:Nat:=175
abbrev Cy_:Nat:=178
abbrev Co_:Nat:=180
end Go.Am
namespace Go.Proofs
open Go.RowKit Go.Maps Go.Sort Go.Shelf
def Uq.keysS_ren:Go.Shelf.Ren:=⟨fun | 7=>96 | 10=>121 | n=>n,fun | 23=>98 | 26=>9 | 3=>84 | 28=>156 | 0=>0 | 27=>155 | 33=>61 | 4=>4 | n=>n,fun | n=>n⟩
theorem Uq.keysS:Go.Proofs.SlLaysZ.n7 Tryz.prog Uq.keysS_ren:={
 mixed:=by kernel_rfl
 f7:=⟨Tryz.f96.name,by decide,Tryz.func96.trans (congrArg some (by kernel_rfl))⟩
 f10:=⟨Tryz.f121.name,by decide,Tryz.func121.trans (congrArg some (by kernel_rfl))⟩
 t0:=Tryz.underlying0
 a0:=Tryz.isAgg0
 z0:=Tryz.sizeOf0
 v0:=Tryz.zeroValue0
 t4:=Tryz.underlying4
 a4:=Tryz.isAgg4
 z4:=Tryz.sizeOf4
 v4:=Tryz.zeroValue4
 t23:=Tryz.underlying98
 a23:=Tryz.isAgg98
 z23:=Tryz.sizeOf98
 v23:=Tryz.zeroValue98
 t26:=Tryz.underlying9
 a26:=Tryz.isAgg9
 z26:=Tryz.sizeOf9
 v26:=Tryz.zeroValue9
 t27:=Tryz.underlying155
 a27:=Tryz.isAgg155
 z27:=Tryz.sizeOf155
 v27:=Tryz.zeroValue155
 t28:=Tryz.underlying156
 a28:=Tryz.isAgg156
 z28:=Tryz.sizeOf156
 v28:=Tryz.zeroValue156
 t33:=Tryz.underlying61
 a33:=Tryz.isAgg61
 z33:=Tryz.sizeOf61
 v33:=Tryz.zeroValue61 }
def Uq.sortedS_ren:Go.Shelf.Ren:=⟨fun | 6=>95 | 8=>119 | 9=>120 | 11=>132 | 13=>134 | 12=>133 | 23=>151 | 24=>152 | 14=>142 | 15=>143 | 16=>144 | 17=>145 | 18=>146 | 19=>147 | 20=>148 | 21=>149 | 22=>150 | 25=>160 | 26=>161 | 27=>162 | 28=>163 | 29=>164 | 30=>165 | 31=>169 | n=>n,fun | 26=>9 | 28=>156 | 24=>53 | 0=>0 | 3=>3 | 37=>142 | 48=>211 | 50=>213 | 4=>4 | 40=>204 | 39=>203 | 45=>92 | 5=>5 | 9=>9 | 51=>218 | 55=>222 | 57=>224 | 58=>114 | 33=>61 | n=>n,fun | n=>n⟩
theorem Uq.sortedS:Go.Proofs.SlLaysZ.n6 Tryz.prog Uq.sortedS_ren:={
 mixed:=by kernel_rfl
 f6:=⟨Tryz.f95.name,by decide,Tryz.func95.trans (congrArg some (by kernel_rfl))⟩
 f8:=⟨Tryz.f119.name,by decide,Tryz.func119.trans (congrArg some (by kernel_rfl))⟩
 f11:=⟨Tryz.f132.name,by decide,Tryz.func132.trans (congrArg some (by kernel_rfl))⟩
 t0:=Tryz.underlying0
 a0:=Tryz.isAgg0
 z0:=Tryz.sizeOf0
 v0:=Tryz.zeroValue0
 t24:=Tryz.underlying53
 a24:=Tryz.isAgg53
 z24:=Tryz.sizeOf53
 v24:=Tryz.zeroValue53
 t26:=Tryz.underlying9
 a26:=Tryz.isAgg9
 z26:=Tryz.sizeOf9
 v26:=Tryz.zeroValue9
 t28:=Tryz.underlying156
 a28:=Tryz.isAgg156
 z28:=Tryz.sizeOf156
 v28:=Tryz.zeroValue156
 i26:=by kernel_rfl }
def Uq.sortS_ren:Go.Shelf.Ren:=⟨fun | 6=>120 | 8=>134 | 9=>133 | 19=>151 | 20=>152 | 21=>142 | 22=>143 | 23=>144 | 24=>145 | 25=>146 | 26=>147 | 27=>148 | 28=>149 | 29=>150 | 36=>160 | 31=>161 | 32=>162 | 37=>163 | 38=>164 | 39=>165 | 41=>169 | n=>n,fun | 27=>53 | 29=>9 | 3=>3 | 32=>142 | 26=>53 | 0=>0 | 44=>211 | 46=>213 | 4=>4 | 36=>204 | 35=>203 | 41=>92 | 5=>5 | 9=>9 | 53=>218 | 57=>222 | 63=>224 | 64=>114 | n=>n,fun | n=>n⟩
theorem Uq.sortS:Go.Proofs.SlLaysM.n6 Tryz.prog Uq.sortS_ren:={
 mixed:=by kernel_rfl
 f6:=⟨Tryz.f120.name,by decide,Tryz.func120.trans (congrArg some (by kernel_rfl))⟩
 f8:=Tryz.func134.trans (congrArg some (by kernel_rfl))
 f9:=⟨Tryz.f133.name,by decide,Tryz.func133.trans (congrArg some (by kernel_rfl))⟩
 f19:=Tryz.func151.trans (congrArg some (by kernel_rfl))
 f20:=Tryz.func152.trans (congrArg some (by kernel_rfl))
 f21:=⟨Tryz.f142.name,by decide,Tryz.func142.trans (congrArg some (by kernel_rfl))⟩
 f22:=⟨Tryz.f143.name,by decide,Tryz.func143.trans (congrArg some (by kernel_rfl))⟩
 f23:=⟨Tryz.f144.name,by decide,Tryz.func144.trans (congrArg some (by kernel_rfl))⟩
 f24:=⟨Tryz.f145.name,by decide,Tryz.func145.trans (congrArg some (by kernel_rfl))⟩
 f25:=⟨Tryz.f146.name,by decide,Tryz.func146.trans (congrArg some (by kernel_rfl))⟩
 f26:=⟨Tryz.f147.name,by decide,Tryz.func147.trans (congrArg some (by kernel_rfl))⟩
 f27:=⟨Tryz.f148.name,by decide,Tryz.func148.trans (congrArg some (by kernel_rfl))⟩
 f28:=⟨Tryz.f149.name,by decide,Tryz.func149.trans (congrArg some (by kernel_rfl))⟩
 f29:=⟨Tryz.f150.name,by decide,Tryz.func150.trans (congrArg some (by kernel_rfl))⟩
 f31:=Tryz.func161.trans (congrArg some (by kernel_rfl))
 f32:=Tryz.func162.trans (congrArg some (by kernel_rfl))
 f36:=⟨Tryz.f160.name,by decide,Tryz.func160.trans (congrArg some (by kernel_rfl))⟩
 f37:=⟨Tryz.f163.name,by decide,Tryz.func163.trans (congrArg some (by kernel_rfl))⟩
 f38:=⟨Tryz.f164.name,by decide,Tryz.func164.trans (congrArg some (by kernel_rfl))⟩
 f39:=⟨Tryz.f165.name,by decide,Tryz.func165.trans (congrArg some (by kernel_rfl))⟩
 f41:=⟨Tryz.f169.name,by decide,Tryz.func169.trans (congrArg some (by kernel_rfl))⟩
 t0:=Tryz.underlying0
 a0:=Tryz.isAgg0
 z0:=Tryz.sizeOf0
 v0:=Tryz.zeroValue0
 t3:=Tryz.underlying3
 a3:=Tryz.isAgg3
 z3:=Tryz.sizeOf3
 v3:=Tryz.zeroValue3
 t4:=Tryz.underlying4
 a4:=Tryz.isAgg4
 z4:=Tryz.sizeOf4
 v4:=Tryz.zeroValue4
 t5:=Tryz.underlying5
 a5:=Tryz.isAgg5
 z5:=Tryz.sizeOf5
 v5:=Tryz.zeroValue5
 t9:=Tryz.underlying9
 a9:=Tryz.isAgg9
 z9:=Tryz.sizeOf9
 v9:=Tryz.zeroValue9
 t26:=Tryz.underlying53
 a26:=Tryz.isAgg53
 z26:=Tryz.sizeOf53
 v26:=Tryz.zeroValue53
 t27:=Tryz.underlying53
 a27:=Tryz.isAgg53
 z27:=Tryz.sizeOf53
 v27:=Tryz.zeroValue53
 t29:=Tryz.underlying9
 a29:=Tryz.isAgg9
 z29:=Tryz.sizeOf9
 v29:=Tryz.zeroValue9
 t32:=Tryz.underlying142
 a32:=Tryz.isAgg142
 z32:=Tryz.sizeOf142
 v32:=Tryz.zeroValue142
 t35:=Tryz.underlying203
 a35:=Tryz.isAgg203
 z35:=Tryz.sizeOf203
 v35:=Tryz.zeroValue203
 t36:=Tryz.underlying204
 a36:=Tryz.isAgg204
 z36:=Tryz.sizeOf204
 v36:=Tryz.zeroValue204
 t41:=Tryz.underlying92
 a41:=Tryz.isAgg92
 z41:=Tryz.sizeOf92
 v41:=Tryz.zeroValue92
 t44:=Tryz.underlying211
 a44:=Tryz.isAgg211
 z44:=Tryz.sizeOf211
 v44:=Tryz.zeroValue211
 t46:=Tryz.underlying213
 a46:=Tryz.isAgg213
 z46:=Tryz.sizeOf213
 v46:=Tryz.zeroValue213
 t53:=Tryz.underlying218
 a53:=Tryz.isAgg218
 z53:=Tryz.sizeOf218
 v53:=Tryz.zeroValue218
 t57:=Tryz.underlying222
 a57:=Tryz.isAgg222
 z57:=Tryz.sizeOf222
 v57:=Tryz.zeroValue222
 t63:=Tryz.underlying224
 a63:=Tryz.isAgg224
 z63:=Tryz.sizeOf224
 v63:=Tryz.zeroValue224
 t64:=Tryz.underlying114
 a64:=Tryz.isAgg114
 z64:=Tryz.sizeOf114
 v64:=Tryz.zeroValue114 }
theorem Uq.sortsS (m:Nat):AnyZ.SortsIn Tryz.prog Uq.sortedS_ren Fence.wide m:=
 ⟨fun blk off cap ss W hH hblk hsz=>callsIn_wide.2 (AnyM.slices_Sort_string Uq.sortS blk off cap ss W hH hblk hsz),
  fun p cap W=>callsIn_wide.2 (AnyM.slices_Sort_string_none Uq.sortS p cap W)⟩
def Uq.anyR:Value→Option (DataW Unit × List MemPlace):=fun _=>some (.nil,[])
set_option maxHeartbeats 1000000 in
theorem Uq.sortedKeys (r b nn:Nat) (D0:DataW Unit) (w:World) (hr:r < w.heap.size) (hm:w.cell? ⟨r,0,none⟩=some (.map (some b))) (hown:w.ownsMap Tryz.prog 9 Uq.anyR b nn D0) (hmax:Maps.size D0≤maxLen) (hbytes:Maps.size D0*16≤140737488355328):
 CallsIn Fence.wide 5 Tryz.prog 95 #[.func (.func 121) #[] #[.pointer (some ⟨r,0,none⟩)]] w fun e w'=>∃ (v:Value) (ss:List (List UInt8)),e= .returned v∧ss.Perm (strKeys D0)∧
  w'.ownsRow w.heap.size 9 1 v ss.length ((ss.mergeSort (fun x y=>decide (x≤y))).map encStr)∧(v= .slice none 0 0↔ss=[])∧Below w.heap.size w w':=by
 have hseq:SeqGives Fence.wide 2 Tryz.prog 121 #[.pointer (some ⟨r,0,none⟩)] encStr (fun ss=>ss.Perm (strKeys D0)) (Maps.size D0) w:=
  AnyZ.keys_gives (ρ:=Uq.keysS_ren) { Uq.keysS with } Fence.wide _ trivial rfl (by omega) r b nn D0 _ hr hm hown
 exact AnyZ.sorted_in Uq.sortedS Fence.wide 5 trivial trivial trivial trivial rfl (by omega) (Uq.sortsS _) (enters_of Tryz.func120 (by kernel_rfl) rfl) 121 #[.pointer (some ⟨r,0,none⟩)] trivial (enters_of Tryz.func121 (by kernel_rfl) rfl) _ _ hmax hbytes w hseq
set_option maxHeartbeats 1000000 in
theorem Uq.sortedKeysNil (r:Nat) (w:World) (hr:r < w.heap.size) (hm:w.cell? ⟨r,0,none⟩=some (.map none)):
 CallsIn Fence.wide 5 Tryz.prog 95 #[.func (.func 121) #[] #[.pointer (some ⟨r,0,none⟩)]] w fun e w'=>∃ (v:Value) (ss:List (List UInt8)),e= .returned v∧ss=[]∧
  w'.ownsRow w.heap.size 9 1 v ss.length ((ss.mergeSort (fun x y=>decide (x≤y))).map encStr)∧(v= .slice none 0 0↔ss=[])∧Below w.heap.size w w':=by
 have hseq:SeqGives Fence.wide 2 Tryz.prog 121 #[.pointer (some ⟨r,0,none⟩)] encStr (fun ss:List (List UInt8)=>ss=[]) 0 w:=
  AnyZ.keys_gives_nil (ρ:=Uq.keysS_ren) { Uq.keysS with } Fence.wide _ trivial rfl r _ hr hm
 exact AnyZ.sorted_in Uq.sortedS Fence.wide 5 trivial trivial trivial trivial rfl (by omega) (Uq.sortsS _) (enters_of Tryz.func120 (by kernel_rfl) rfl) 121 #[.pointer (some ⟨r,0,none⟩)] trivial (enters_of Tryz.func121 (by kernel_rfl) rfl) _ 0 (by decide) (by decide) w hseq
end Go.Proofs
section
namespace Go.Am
open Go.Proofs Go.RowKit Go.Sort Go.Maps
def iD_:RV→ByteArray | .s (.str s)=>s | _=>⟨#[]⟩
structure C6_ (es:List Ent) (c:Nat):Prop where
 keys:∀ e∈es,∃ s:ByteArray,e.2.1= .s (.str s)∧s.size≤140737488351232
 born:∀ e∈es,e.1 < c
 nodB:(es.map (·.1)).Nodup
 nodK:(es.map fun e=>iD_ e.2.1).Nodup
 few:es.length≤100000
def slices_Sorted_string:Sm:=fun xs H Q=>∃ l t cs m,xs=[.g (.fn 121 [(l,0)])]∧H[l]? =some (.row true t cs)∧cs[0]? =some (.map m)∧
 match m with
 | none=>Q (.g (.sl none 0 1)) H
 | some k=>∃ es c,H[k]? =some (.map es c)∧C6_ es c∧∀ zs:List ByteArray,zs.Perm (es.map fun e=>iD_ e.2.1)→zs.Pairwise (fun a b=>Op.bytesLess b.data.toList a.data.toList=false)→
  (zs=[]→Q (.g (.sl none 0 1)) H)∧(zs≠[]→Q (.g (.sl (some (ln H,0)) zs.length 1)) (pu H (.row true 9 (zs.map GV.str))))
theorem yP_ (φ:List LI):∀ zs:List ByteArray,Is2 φ (zs.map GV.str) (zs.map Value.string)
 | []=> .nil
 | _::zs=> .cons rfl (yP_ φ zs)
theorem up_ {φ:List LI} {H:Hp} {w w':World} (hr:cq_ φ H w) {v:Value} {zs:List ByteArray} {Q:Post} (hown:w'.ownsRow w.heap.size 9 1 v zs.length (zs.map Value.string)) (hnil:v= .slice none 0 0↔zs=[]) (hbel:Below w.heap.size w w')
 (hQ1:zs=[]→Q (.g (.sl none 0 1)) H) (hQ2:zs≠[]→Q (.g (.sl (some (ln H,0)) zs.length 1)) (pu H (.row true 9 (zs.map GV.str)))):
 so_ φ H w Q (.returned v) w':=by
 obtain⟨_,hown⟩:=hown;by_cases hze:zs=[]
 ·exact⟨_,H,φ,v,hQ1 hze,rfl,⟨rfl,hnil.2 hze⟩,bH_.stay hr hbel⟩
 ·rcases hown with⟨rfl,h1⟩ | ⟨g,cap,cur,rfl,hg,hgb,h1,h2,h3,h4⟩
  ·exact (hze (hnil.1 rfl)).elim
  ·have B:=bH_.made (cs:=zs.map GV.str) hr hbel hg hgb (by simpa using h3) (by simpa using h1) (by rw[List.length_map,←Nat.mul_one zs.length,h4]; exact yP_ φ zs);refine⟨_,_,_,_,hQ2 hze,rfl,?_,B⟩;refine⟨⟨g,0,true,(zs.map GV.str).length,cap⟩,_,cap,?_,rfl,.inl rfl,h1,by simp; omega,fun _=>⟨rfl,by simp,by unfold maxLen at h2; exact h2⟩⟩;show (φ++[_])[ln H]? =_;rw[show ln H=φ.length from hr.len.symm];simp
theorem Cb_ (ss:List (List UInt8)):ss.map encStr=(ss.map fun l=>(⟨l.toArray⟩:ByteArray)).map Value.string:=by
 rw[List.map_map]; rfl
theorem yY_ {φ:List LI} {es:List Ent} {xs:List MapEntry} (ha:b6_ (fj_ φ) es xs) (hk:∀ e∈es,∃ s:ByteArray,e.2.1= .s (.str s)∧s.size≤140737488351232):
 ∀ x∈xs,∃ s:ByteArray,x.key= .string s∧s.size≤140737488351232:=by
 intro x hx;obtain⟨n,hn,rfl⟩:=List.getElem_of_mem hx;have hle:=ha.length;have h1:es[n]? =some es[n]:=List.getElem?_eq_getElem (by omega);obtain⟨s,hs,hl⟩:=hk _ (List.getElem_mem (by omega:n < es.length));have:=(u4_ ha h1 (List.getElem?_eq_getElem hn)).2.1;rw[hs] at this;exact⟨s,this,hl⟩
theorem za_ {φ:List LI}:∀ {es:List Ent} {xs:List MapEntry},b6_ (fj_ φ) es xs→(∀ e∈es,∃ s:ByteArray,e.2.1= .s (.str s)∧s.size≤140737488351232)→
 xs.map (·.key)=es.map (fun e=>Value.string (iD_ e.2.1))∧xs.map (·.born)=es.map (·.1)
 | [],xs,ha,_=>by rw[ha.nil_inv]; exact⟨rfl,rfl⟩
 | e::es,xs,ha,hk=>by
  obtain⟨y,xs,rfl,hy,ha⟩:=ha.cons_inv;obtain⟨h1,h2⟩:=za_ ha fun e' he'=>hk e' (by simp [he']);obtain⟨s,hs,_⟩:=hk e (by simp);have:=hy.2.1;rw[hs] at this;refine⟨?_,by rw[List.map_cons,List.map_cons,h2,hy.1]⟩;rw[List.map_cons,List.map_cons,h1,hs];show y.key::_=Value.string s::_;rw[show y.key= .string s from this]
set_option maxRecDepth 100000 in
theorem ge_:bG_ Tryz.prog 95 slices_Sorted_string:=by
 intro as0 H Q ⟨l,t,cs,m,e,hl,h0,hm⟩ φ w vs hr ha;subst e;obtain⟨y,rfl,hy⟩:=ha.one;obtain⟨xs,rfl,hc⟩:=hy;obtain⟨p,rfl,i,hi,rfl⟩:=hc.one;obtain⟨i',hi',hrow⟩:=hr.row l true t cs hl;rw[hi] at hi'; cases hi';obtain⟨_,hu,hlt,hp,c,t',fz,hb,_,hs,_,hle,his⟩:=hrow;obtain⟨sv,hsv,hvx⟩:=his.get h0;have hcell:w.cell? ⟨i.b,0,none⟩=some sv:=by
  rw[fa_ hb];rw[List.getElem?_take] at hsv;split at hsv
  ·simpa using hsv
  ·simp at hsv
 have e0:i.p+0=0:=by omega
 show yj_ Tryz.prog 95 #[.func (.func 121) #[] #[.pointer (some ⟨i.b,i.p+0,none⟩)]] w _;rw[e0];refine .inl ⟨enters_of Tryz.func95 (by kernel_rfl) rfl _ _,?_⟩;cases m with
 | none=>
  cases hvx;refine ((callsIn_wide (n:=5)).1 (Uq.sortedKeysNil i.b w hlt hcell)).mono ?_;rintro e w' ⟨v,ss,rfl,rfl,hown,hnil,hbel⟩;exact up_ (zs:=[]) hr (by simpa using hown) (by simpa using hnil) hbel (fun _=>hm) fun h=>(h rfl).elim
 | some k=>
  obtain⟨es,c,hk,sm,hQ⟩:=hm;obtain⟨j,hj,hbm,xs,hblk,hal⟩:=hr.map hk;cases kH_ hj hvx;obtain⟨k1,k2⟩:=za_ hal sm.keys;have hlen:es.length=xs.size:=by have:=hal.length; simpa using this
  have hrd:∀ x∈xs.toList,∃ y,WideElems.rd Tryz.prog 9 Uq.anyR x=some y:=by
   intro x hx;obtain⟨s,hs,hl⟩:=yY_ hal sm.keys x hx;have hl':s.size≤maxLen:=Nat.le_trans hl (by decide);refine⟨(.string s.data.toList,.nil),?_⟩;have:WideElems.rd Tryz.prog 9 Uq.anyR ⟨x.key,x.val,x.born⟩=_:=WideElems.rd_mk (kl:= .string s.data.toList) (yv:=(.nil,[])) (by rw[hs]; simp [keyOf,Tryz.underlying9,mapKey,hl']) rfl;exact this
  have hfit:WideElems.Fit Tryz.prog 9 Uq.anyR xs c:=by
   refine⟨by rw[←hlen]; exact Nat.le_trans sm.few (by decide),⟨?_,?_,?_⟩,hrd⟩
   ·intro x hx;have:x.born∈es.map (·.1):=by rw[←k2]; exact List.mem_map.2 ⟨x,hx,rfl⟩
    obtain⟨e,he,q⟩:=List.mem_map.1 this;rw[←q]; exact sm.born e he
   ·rw[k2]; exact sm.nodB
   ·rw[k1];have:(es.map fun e=>Value.string (iD_ e.2.1))=(es.map fun e=>iD_ e.2.1).map Value.string:=by rw[List.map_map]; rfl
    rw[this];exact List.Pairwise.map _ (fun a b h q=>h (by cases q; rfl)) sm.nodK
  let D0:DataW Unit:= .map ((xs.toList.map (WideElems.rg Tryz.prog 9 Uq.anyR)).foldr DataW.insert [])
  have hown0:w.ownsMap Tryz.prog 9 Uq.anyR j.b xs.size D0:=⟨xs,c,hblk,hfit,Nat.le_refl _,rfl⟩;have hsz:Maps.size D0=xs.size:=by
   show ((xs.toList.map (WideElems.rg Tryz.prog 9 Uq.anyR)).foldr DataW.insert []).length=_;rw[(WideShapes.sorted_perm _).length_eq]; simp
  have hsz2:Maps.size D0≤100000:=by rw[hsz,←hlen]; exact sm.few
  refine ((callsIn_wide (n:=5)).1 (Uq.sortedKeys i.b j.b xs.size D0 w hlt hcell hown0 (Nat.le_trans hsz2 (by decide)) (by omega))).mono ?_;rintro e w' ⟨v,ss,rfl,hperm,hown,hnil,hbel⟩;have hkeys:((strKeys D0).map fun l=>(⟨l.toArray⟩:ByteArray)).Perm (es.map fun e=>iD_ e.2.1):=by
   have h1:(strKeys D0).Perm ((xs.toList.map (WideElems.rg Tryz.prog 9 Uq.anyR)).map fun p=>strOf p.1):=(WideShapes.sorted_perm _).map _;refine (h1.map _).trans (List.Perm.of_eq ?_);rw[List.map_map,List.map_map];have:∀ x∈xs.toList,(((fun l:List UInt8=>(⟨l.toArray⟩:ByteArray)) ∘ fun p:Lit × DataW Unit=>strOf p.1) ∘ WideElems.rg Tryz.prog 9 Uq.anyR) x=(match x.key with | .string s=>s | _=>⟨#[]⟩):=by
    intro x hx;obtain⟨y,hy⟩:=hrd x hx;obtain⟨s,hs,_⟩:=yY_ hal sm.keys x hx;show (⟨(strOf (WideElems.rg Tryz.prog 9 Uq.anyR x).1).toArray⟩:ByteArray)=_;rw[WideElems.rg_of hy];have hk:=WideElems.rd_key hy;rw[hs] at hk ⊢;simp [keyOf,Tryz.underlying9,mapKey] at hk;rw[←hk.2];simp [strOf]
   rw[List.map_congr_left this];have h2:(xs.toList.map fun x=>(match x.key with | .string s=>s | _=>⟨#[]⟩:ByteArray))=(xs.toList.map (·.key)).map (fun v=>match v with | .string s=>s | _=>⟨#[]⟩):=by rw[List.map_map]; rfl
   rw[h2,k1,List.map_map];rfl
  have hp2:((ss.mergeSort fun x y=>decide (x≤y)).map fun l=>(⟨l.toArray⟩:ByteArray)).Perm (es.map fun e=>iD_ e.2.1):=
   (((List.mergeSort_perm _ _).trans hperm).map _).trans hkeys
  have hpw:((ss.mergeSort fun x y=>decide (x≤y)).map fun l=>(⟨l.toArray⟩:ByteArray)).Pairwise (fun a b=>Op.bytesLess b.data.toList a.data.toList=false):=by
   refine List.Pairwise.map (R:=fun x y=>leB x y=true) _ (fun a b h=> ?_) (List.pairwise_mergeSort (fun a b c h1 h2=>by simp only[leB,decide_eq_true_eq] at*; exact List.le_trans h1 h2) (fun a b=>by simp only[leB,Bool.or_eq_true,decide_eq_true_eq]; exact List.le_total a b) ss);rw[bytesLess_eq];simpa [leB] using h
  obtain⟨q1,q2⟩:=hQ _ hp2 hpw;have hl2:((ss.mergeSort fun x y=>decide (x≤y)).map fun l=>(⟨l.toArray⟩:ByteArray)).length=ss.length:=by simp
  refine up_ hr (by rw[hl2,←Cb_]; exact hown) (hnil.trans ?_) hbel q1 q2;constructor
  ·intro h; rw[h]; simp
  ·intro h;have:=congrArg List.length h;rw[hl2] at this;exact List.eq_nil_of_length_eq_zero this
end Go.Am
end
namespace Go.Am
open Go.Proofs
def bytealg_abigenruntimecmpstring:Sm:=fun xs H Q=>∃ a b:ByteArray,xs=[.g (.str a),.g (.str b)]∧Q (.g (.int .i64 (Lib.compareBytes a.data.toList b.data.toList))) H
theorem d6_:bG_ Tryz.prog 110 bytealg_abigenruntimecmpstring:=by
 intro as0 H Q ⟨a,b,e,hQ⟩ φ w vs hr ha;subst e;obtain⟨x,y,rfl,hx,hy⟩:=ha.two;cases hx;cases hy;refine .inr ⟨.int .i64 (Lib.compareBytes a.data.toList b.data.toList),w,?_,_,H,φ,_,hQ,rfl,rfl,bH_.refl hr⟩;show (callFunc 110 #[.string a,.string b]).run Tryz.prog w=_;rw[run_callFunc_extern Tryz.func110 (by kernel_rfl) (by kernel_rfl) (by kernel_rfl) (e:=Extern.BytealgCompare.compare) (by kernel_rfl),Lib.run_compareString];rfl
end Go.Am
section
namespace Go.Proofs
open Go.Shelf Go.RowKit Go.Lib
theorem Uq.copy_z {P:Program} (w:World) (dT sT ty elem:TypeId) (i:TypeInfo) (b o dLen dCap:Nat) (a:Addr) (sLen sCap:Nat) (cs:List Value)
 (hu:P.underlying dT=some (.slice elem)) (hi:P.info? elem=some i) (hn:cs.length=Nat.min sLen dLen*i.size)
 (hsrc:∀ j v,cs[j]? =some v→w.cell? (a.add j)=some v) (hc:∀ j,j < cs.length→(w.cell? ⟨b,o+j,none⟩).isSome=true) (hf:∀ j,j < cs.length→w.frozen? ⟨b,o+j,none⟩=false) (h1:∀ v∈cs,v.oneCell'=true):
 (Builtin.copy_ #[dT,sT] ty #[.slice (some ⟨b,o,none⟩) dLen dCap,.slice (some a) sLen sCap]).run P w= .ok (goInt (Nat.min sLen dLen)) (w.setCells b o cs):=by
 have hl:=run_loadCells_list (P:=P) w a cs hsrc;have hst:=run_storeCells_cells (P:=P) b o cs 0 w (by simpa using hc) (by simpa using hf) h1;simp [Builtin.copy_,run_underlying hu,Builtin.lenOf,Builtin.firstCells,sizeOf,typeInfo,hi,←hn,hl,hst]
theorem Uq.infoFile:(Tryz.prog.info? 51).map (fun i=>(i.zero,i.size,i.bytes))=some (some (.agg #[.string ⟨#[]⟩,.string ⟨#[]⟩,.bool false]),3,40):=by kernel_rfl
set_option maxHeartbeats 4000000 in
set_option maxRecDepth 100000 in
theorem Uq.insF_shift (b n c i vb vc:Nat) (cs vs:List Value) (w:World) (hi:i < n) (hroom:n+1≤c) (hc63:c≤9223372036854775807) (hvb:vb≠b)
 (hcl:cs.length=n*3) (hvl:vs.length=3)
 (hcs:∀ j v,cs[j]? =some v→w.cell? ⟨b,j,none⟩=some v) (hsp:∀ j,j < (n+1)*3→(w.cell? ⟨b,j,none⟩).isSome=true) (hfz:∀ j,j < (n+1)*3→w.frozen? ⟨b,j,none⟩=false)
 (hvs:∀ j v,vs[j]? =some v→w.cell? ⟨vb,j,none⟩=some v) (h1c:∀ v∈cs,v.oneCell'=true) (h1v:∀ v∈vs,v.oneCell'=true)
 (tA tB:TypeId) (kA kB:Nat) (hsa:w.shape? vb=some (tA,kA)) (hsb:w.shape? b=some (tB,kB)) (hkB:kB≠0) (hfa:w.frozen? ⟨vb,0,none⟩=false) (hfe:w.frozen? ⟨vb,kA,none⟩=false):
 Calls Tryz.prog 123 #[.slice (some ⟨b,0,none⟩) n c,.int .i64 i,.slice (some ⟨vb,0,none⟩) 1 vc] w fun e w'=>
  e= .returned (.slice (some ⟨b,0,none⟩) (n+1) c)∧w'=(w.drew.setCells b ((i+1)*3) (cs.drop (i*3))).setCells b (i*3) vs:=by
 have hz2: ¬ ((i:Int)=(n:Int)):=by omega
 obtain⟨i0,hi0,hz0,hz1,hz2'⟩:=info_parts Uq.infoFile;have hov:∀ o lb cb,(callFunc 137 #[.slice (some ⟨vb,0,none⟩) 1 vc,.slice (some ⟨b,o,none⟩) lb cb]).run Tryz.prog w= .ok (.value (.bool false)) w:=fun o lb cb=>by
  rw[run_callFunc_extern Tryz.func137 (by kernel_rfl) (by kernel_rfl) (by kernel_rfl) (e:=Extern.SlicesOverlaps.overlaps #[47,47] #[4]) (by kernel_rfl),
   Lib.run_overlaps_apart w 47 4 51 Tryz.underlying47 3 (fun w=>by simp [sizeOf,typeInfo,hi0,hz1]) ⟨vb,0,none⟩ ⟨b,o,none⟩ 1 vc lb cb hvb tA tB kA kB hsa hsb hkB hfa hfe]
  rfl
 have mixed:Tryz.prog.follows .mixedOrders=true:=by kernel_rfl
 have hdl:(cs.drop (i*3)).length=(n - i)*3:=by rw[List.length_drop,hcl]; omega
 have hw1:IntKind.i64.wrap ((i:Int)+1)=(i:Int)+1:=by rw[IntKind.wrap_i64]; omega
 have hb1:(0:Int)≤(i:Int)+1:=by omega
 have hin:i≤n:=by omega
 have htn:((i:Int)+1).toNat=i+1:=by omega
 have hb2: ¬ (c=i+1):=by omega
 have hb3:(i:Int)≤(n:Int)+1:=by omega
 have hb4: ¬ (c=i):=by omega
 have hmn:Nat.min (n+1 - i) (n - i)=n - i:=by simp only[Nat.min_def]; split<;>omega
 have hcp1:∀ ty dc sc,(Builtin.copy_ #[47,47] ty #[.slice (some ⟨b,(i+1)*3,none⟩) (n - i) dc,.slice (some ⟨b,i*3,none⟩) (n+1 - i) sc]).run Tryz.prog w.drew= .ok (goInt (n - i:Nat)) (w.drew.setCells b ((i+1)*3) (cs.drop (i*3))):=fun ty dc sc=>by
  have h:=Uq.copy_z (P:=Tryz.prog) w.drew 47 47 ty 51 i0 b ((i+1)*3) (n - i) dc ⟨b,i*3,none⟩ (n+1 - i) sc (cs.drop (i*3)) Tryz.underlying47 hi0 (by rw[hdl,hmn,hz1])
   (fun j v hj=>by rw[Addr.add_lit]; exact hcs (i*3+j) v (by rwa [List.getElem?_drop] at hj))
   (fun j hj=>hsp _ (by omega)) (fun j hj=>hfz _ (by omega)) (fun v hv=>h1c v (List.mem_of_mem_drop hv))
  rw[hmn] at h;exact h
 obtain⟨W1,hW1⟩:∃ W1,W1=w.drew.setCells b ((i+1)*3) (cs.drop (i*3)):=⟨_,rfl⟩;have hsp1:∀ k,k < (n+1)*3→(W1.cell? ⟨b,k,none⟩).isSome=true:=fun k hk=>by
  rw[hW1];exact isSome_setCells b (cs.drop (i*3)) ((i+1)*3) w.drew (fun j hj=>hsp _ (by omega)) _ (hsp k hk)
 have hmn2:Nat.min 1 (n+1 - i)=1:=by simp only[Nat.min_def]; split<;>omega
 have hcp2:∀ (W:World),(∀ x,W.cell? x=W1.cell? x)→(∀ x,W.frozen? x=W1.frozen? x)→∀ ty dc,(Builtin.copy_ #[47,47] ty #[.slice (some ⟨b,i*3,none⟩) (n+1 - i) dc,.slice (some ⟨vb,0,none⟩) 1 vc]).run Tryz.prog W= .ok (goInt 1) (W.setCells b (i*3) vs):=fun W hWc hWf ty dc=>by
  have h:=Uq.copy_z (P:=Tryz.prog) W 47 47 ty 51 i0 b (i*3) (n+1 - i) dc ⟨vb,0,none⟩ 1 vc vs Tryz.underlying47 hi0 (by rw[hvl,hmn2,hz1])
   (fun j v hj=>by
    rw[Addr.add_lit,hWc,hW1,World.cell?_setCells_out b _ _ _ _ (fun h _=>absurd h hvb),Nat.zero_add];exact hvs j v hj)
   (fun j hj=>by rw[hWc]; exact hsp1 _ (by omega)) (fun j hj=>by rw[hWf,hW1,World.frozen?_setCells]; exact hfz _ (by omega)) h1v
  rw[hmn2] at h;exact h
 rw[←hW1] at hcp1;go_enter Tryz.func123,Tryz.ntmps123;go_wp2_with (simp only[hov]);go_region_law_o (refine step_copy_runI rfl _ _ 47 47 rfl _ _ (by simp [Act.eval,Act.put]) (by simp [Act.eval,Act.put]) (hcp1 _ _ _) ?_);go_wp2_with (at_builtin; refine wpList_copy_runI _ rfl _ _ 47 47 rfl _ _ rfl rfl (hcp2 _ (fun _=>rfl) (fun _=>rfl) _ _) ?_);go_ret
 first | exact⟨rfl,rfl⟩ | exact⟨rfl,by rw[hW1]⟩
end Go.Proofs
namespace Go.Proofs
open Go.Shelf Go.RowKit Go.Lib
set_option maxHeartbeats 4000000 in
set_option maxRecDepth 100000 in
theorem Uq.insF_grow (b n c i vb vc:Nat) (cs vs:List Value) (w:World) (hi:i < n) (hnc:n≤c) (hroom:c < n+1) (hbig:(n+1)*40≤140737488355328)
 (hcl:cs.length=n*3) (hvl:vs.length=3)
 (hcs:∀ j v,cs[j]? =some v→w.cell? ⟨b,j,none⟩=some v)
 (hvs:∀ j v,vs[j]? =some v→w.cell? ⟨vb,j,none⟩=some v) (h1c:∀ v∈cs,v.oneCell'=true) (h1v:∀ v∈vs,v.oneCell'=true):
 Calls Tryz.prog 123 #[.slice (some ⟨b,0,none⟩) n c,.int .i64 i,.slice (some ⟨vb,0,none⟩) 1 vc] w fun e w'=>
  e= .returned (.slice (some ⟨w.heap.size,0,none⟩) (n+1) (grownCap w (n+1) c 51))∧
  w'=(((w.alloc (.cells ((cs.take (i*3)).toArray++Builtin.zeroCells #[.string ⟨#[]⟩,.string ⟨#[]⟩,.bool false] (n+1 - i)++Builtin.zeroCells #[.string ⟨#[]⟩,.string ⟨#[]⟩,.bool false] (grownCap w (n+1) c 51 - (n+1))) 51)).drew.setCells w.heap.size (i*3) vs).drew).setCells w.heap.size ((i+1)*3) (cs.drop (i*3)):=by
 obtain⟨i0,hi0,hz0,hzs,hzb⟩:=info_parts Uq.infoFile;have mixed:Tryz.prog.follows .mixedOrders=true:=by kernel_rfl
 have hz2: ¬ ((i:Int)=(n:Int)):=by omega
 have hz3:(c:Int) < (n:Int)+1:=by omega
 have hbw:b < w.heap.size:=block_lt_of_cell (hcs 0 _ (List.getElem?_eq_getElem (by omega)));have hvw:vb < w.heap.size:=block_lt_of_cell (hvs 0 _ (List.getElem?_eq_getElem (by omega)));have hkk:(n:Int)+1 - (i:Int)=((n+1 - i:Nat):Int):=by omega
 have hik:i+(n+1 - i)=n+1:=by omega
 have hold:(Builtin.firstCells i0.size i (.slice (some ⟨b,0,none⟩) i c)).run Tryz.prog w.drew= .ok (cs.take (i*3)).toArray w.drew:=by
  rw[hzs];exact run_firstCells_some w.drew 3 i ⟨b,0,none⟩ i c (cs.take (i*3)) (by rw[List.length_take]; omega) (fun j v hj=>by
   rw[Addr.add_lit,Nat.zero_add];rw[List.getElem?_take] at hj;split at hj
   ·exact hcs j v hj
   ·cases hj)
 have hrz:∀ ty,(Builtin.append_ #[47,3] ty #[.slice (some ⟨b,0,none⟩) i c,.int .i64 ((n:Int)+1 - (i:Int))]).run Tryz.prog w=
  .ok (.slice (some ⟨w.heap.size,0,none⟩) (n+1) (grownCap w (n+1) c 51)) (w.drew.alloc (.cells ((cs.take (i*3)).toArray++Builtin.zeroCells #[.string ⟨#[]⟩,.string ⟨#[]⟩,.bool false] (n+1 - i)++Builtin.zeroCells #[.string ⟨#[]⟩,.string ⟨#[]⟩,.bool false] (grownCap w (n+1) c 51 - (n+1))) 51)):=fun ty=>by
  have h:=Lib.run_append_grow_zeros w 47 3 ty 51 i0 _ .i64 .i64 Tryz.underlying47 Tryz.underlying3 hi0 hz0 (some ⟨b,0,none⟩) i c (cs.take (i*3)) hold (n+1 - i) (by omega) (by omega) (by omega) (by omega) (by rw[hzb]; omega) (by rw[hzb,hik]; exact growslice_fits hroom hbig);rw[hik] at h;rw[hkk];exact h
 obtain⟨G,hG⟩:∃ G,G=grownCap w (n+1) c 51:=⟨_,rfl⟩;obtain⟨ROW,hROW⟩:∃ ROW:Array Value,ROW=(cs.take (i*3)).toArray++Builtin.zeroCells #[.string ⟨#[]⟩,.string ⟨#[]⟩,.bool false] (n+1 - i)++Builtin.zeroCells #[.string ⟨#[]⟩,.string ⟨#[]⟩,.bool false] (G - (n+1)):=⟨_,rfl⟩;rw[←hG] at hrz ⊢;rw[←hROW] at hrz ⊢;have hRl:(n+1)*3≤ROW.size:=by
  rw[hROW];simp [Builtin.zeroCells];omega
 obtain⟨W1,hW1⟩:∃ W1,W1=w.drew.alloc (.cells ROW 51):=⟨_,rfl⟩;rw[←hW1] at hrz;have hN:∀ j,j < (n+1)*3→(W1.cell? ⟨w.heap.size,j,none⟩).isSome=true:=fun j hj=>by
  rw[hW1,World.cell?_alloc_at (w:=w.drew) ROW _ w.heap.size j rfl,Array.getElem?_eq_getElem (by omega)]; rfl
 have hNf:∀ j,W1.frozen? ⟨w.heap.size,j,none⟩=false:=fun j=>by rw[hW1]; exact World.frozen?_alloc_at (w:=w.drew) ROW _ w.heap.size j rfl
 have hOb:∀ j v,w.cell? ⟨b,j,none⟩=some v→W1.cell? ⟨b,j,none⟩=some v:=fun j v h=>by rw[hW1,World.cell?_alloc_past (w:=w.drew) _ b j hbw]; exact h
 have hOv:∀ j v,w.cell? ⟨vb,j,none⟩=some v→W1.cell? ⟨vb,j,none⟩=some v:=fun j v h=>by rw[hW1,World.cell?_alloc_past (w:=w.drew) _ vb j hvw]; exact h
 have hmA:Nat.min 1 (n+1 - i)=1:=by simp only[Nat.min_def]; split<;>omega
 have hcpA:∀ (W:World),(∀ x,W.cell? x=W1.cell? x)→(∀ x,W.frozen? x=W1.frozen? x)→∀ ty dc,(Builtin.copy_ #[47,47] ty #[.slice (some ⟨w.heap.size,i*3,none⟩) (n+1 - i) dc,.slice (some ⟨vb,0,none⟩) 1 vc]).run Tryz.prog W= .ok (goInt 1) (W.setCells w.heap.size (i*3) vs):=fun W hWc hWf ty dc=>by
  have h:=Uq.copy_z (P:=Tryz.prog) W 47 47 ty 51 i0 w.heap.size (i*3) (n+1 - i) dc ⟨vb,0,none⟩ 1 vc vs Tryz.underlying47 hi0 (by rw[hvl,hmA,hzs])
   (fun j v hj=>by rw[Addr.add_lit,hWc,Nat.zero_add]; exact hOv _ v (hvs j v hj))
   (fun j hj=>by rw[hWc]; exact hN _ (by omega)) (fun j hj=>by rw[hWf]; exact hNf _) h1v
  rw[hmA] at h;exact h
 have hGn:n+1≤G:=by rw[hG]; exact grownCap_ge w _ _ _
 have hG63:G≤9223372036854775807:=by
  have:=grownCap_le_maxLen w (n+1) c 51 (by unfold maxLen; omega);rw[←hG] at this;unfold maxLen at this;omega
 have hGi: ¬ (G=i):=by omega
 have hGim: ¬ (G=i+1):=by omega
 have hci: ¬ (c=i):=by omega
 have hbN:b≠w.heap.size:=by omega
 have hdl:(cs.drop (i*3)).length=(n - i)*3:=by rw[List.length_drop,hcl]; omega
 have hmB:Nat.min (n - i) (n - i)=n - i:=by simp only[Nat.min_def]; split<;>omega
 have hcpB:∀ (W:World),(∀ x,W.cell? x=(W1.setCells w.heap.size (i*3) vs).cell? x)→(∀ x,W.frozen? x=(W1.setCells w.heap.size (i*3) vs).frozen? x)→∀ ty dc sc,(Builtin.copy_ #[47,47] ty #[.slice (some ⟨w.heap.size,(i+1)*3,none⟩) (n - i) dc,.slice (some ⟨b,i*3,none⟩) (n - i) sc]).run Tryz.prog W= .ok (goInt (n - i:Nat)) (W.setCells w.heap.size ((i+1)*3) (cs.drop (i*3))):=fun W hWc hWf ty dc sc=>by
  have h:=Uq.copy_z (P:=Tryz.prog) W 47 47 ty 51 i0 w.heap.size ((i+1)*3) (n - i) dc ⟨b,i*3,none⟩ (n - i) sc (cs.drop (i*3)) Tryz.underlying47 hi0 (by rw[hdl,hmB,hzs])
   (fun j v hj=>by
    rw[Addr.add_lit,hWc,World.cell?_setCells_out _ _ _ _ _ (fun h _=>absurd h hbN)];exact hOb _ v (hcs (i*3+j) v (by rwa [List.getElem?_drop] at hj)))
   (fun j hj=>by rw[hWc]; exact isSome_setCells _ vs (i*3) W1 (fun t ht=>hN _ (by omega)) _ (hN _ (by omega)))
   (fun j hj=>by rw[hWf,World.frozen?_setCells]; exact hNf _) (fun v hv=>h1c v (List.mem_of_mem_drop hv))
  rw[hmB] at h;exact h
 subst hW1;have hE1:∀ x,((w.alloc (.cells ROW 51)).drew).cell? x=(w.drew.alloc (.cells ROW 51)).cell? x:=fun x=>rfl;have hE2:∀ x,((w.alloc (.cells ROW 51)).drew).frozen? x=(w.drew.alloc (.cells ROW 51)).frozen? x:=fun x=>rfl;have hF1:∀ x,(((w.alloc (.cells ROW 51)).drew.setCells w.heap.size (i*3) vs).drew).cell? x=((w.drew.alloc (.cells ROW 51)).setCells w.heap.size (i*3) vs).cell? x:=fun x=>rfl;have hF2:∀ x,(((w.alloc (.cells ROW 51)).drew.setCells w.heap.size (i*3) vs).drew).frozen? x=((w.drew.alloc (.cells ROW 51)).setCells w.heap.size (i*3) vs).frozen? x:=fun x=>rfl;have hw1:IntKind.i64.wrap ((i:Int)+1)=(i:Int)+1:=by rw[IntKind.wrap_i64]; omega
 have hb1:(0:Int)≤(i:Int)+1:=by omega
 have hin:i≤n:=by omega
 have htn:((i:Int)+1).toNat=i+1:=by omega
 have hb3:(i:Int)≤(n:Int):=by omega
 clear hkk hik hold hROW hG hRl;go_enter Tryz.func123,Tryz.ntmps123;go_wp2_with (first
  | (at_builtin; refine Lib.wpList_append_run _ rfl _ _ _ _ rfl _ _ rfl rfl _ _ (hrz _) ?_)
  | (at_builtin; refine wpList_copy_runI _ rfl _ _ 47 47 rfl _ _ rfl rfl (hcpA _ hE1 hE2 _ _) ?_)
  | (at_builtin; refine wpList_copy_runI _ rfl _ _ 47 47 rfl _ _ rfl rfl (hcpB _ (fun _=>rfl) (fun _=>rfl) _ _ _) ?_))
 go_region_law_o (refine step_copy_runI rfl _ _ 47 47 rfl (.slice (some ⟨w.heap.size,(i+1)*3,none⟩) (n - i) (G - (i+1))) (.slice (some ⟨b,i*3,none⟩) (n - i) (c - i)) (by simp [Act.eval,Act.put]) (by simp [Act.eval,Act.put]) (hcpB _ hF1 hF2 3 (G - (i+1)) (c - i)) ?_);go_wp2;go_ret;exact⟨rfl,rfl⟩
end Go.Proofs
end
section
namespace Go.Proofs
open Go.Shelf Go.RowKit Go.Lib
theorem Uq.srcF (w:World) (vb vc:Nat) (vs:List Value) (hvl:vs.length=3) (hvs:∀ j v,vs[j]? =some v→w.cell? ⟨vb,j,none⟩=some v):Go.Am.Src Tryz.prog w 3 (.slice (some ⟨vb,0,none⟩) 1 vc) 1 vs:=by
 refine⟨fun w'=>by simp [Builtin.lenOf],fun w' hw=> ?_⟩;have h1:=run_loadCells_list (P:=Tryz.prog) w' ⟨vb,0,none⟩ vs (fun j v hv=>by
  rw[Addr.add_lit,Nat.zero_add];have:=hvs j v hv;unfold World.cell? at this ⊢;rw[hw]; exact this)
 rw[hvl] at h1;simpa [Builtin.firstCells] using h1
set_option maxHeartbeats 4000000 in
set_option maxRecDepth 100000 in
theorem Uq.insF_end_room (b n c vb vc:Nat) (vs:List Value) (w:World) (hroom:n+1≤c) (hc63:c≤9223372036854775807) (hvl:vs.length=3)
 (hsp:∀ j,j < 3→(w.cell? ⟨b,n*3+j,none⟩).isSome=true) (hfz:∀ j,j < 3→w.frozen? ⟨b,n*3+j,none⟩=false)
 (hvs:∀ j v,vs[j]? =some v→w.cell? ⟨vb,j,none⟩=some v) (h1v:∀ v∈vs,v.oneCell'=true):
 Calls Tryz.prog 123 #[.slice (some ⟨b,0,none⟩) n c,.int .i64 n,.slice (some ⟨vb,0,none⟩) 1 vc] w fun e w'=>
  e= .returned (.slice (some ⟨b,0,none⟩) (n+1) c)∧w'=w.setCells b (n*3) vs:=by
 obtain⟨i0,hi0,hz0,hzs,hzb⟩:=info_parts Uq.infoFile;have mixed:Tryz.prog.follows .mixedOrders=true:=by kernel_rfl
 have hst:=run_storeCells_cells (P:=Tryz.prog) b (n*3) vs 0 w (by rw[hvl]; simpa using hsp) (by rw[hvl]; simpa using hfz) h1v;have hrun:∀ ty,(Builtin.append_ #[47,47] ty #[.slice (some ⟨b,0,none⟩) n c,.slice (some ⟨vb,0,none⟩) 1 vc]).run Tryz.prog w= .ok (.slice (some ⟨b,0,none⟩) (n+1) c) (w.setCells b (n*3) vs):=fun ty=>by
  have h:=Go.Am.run_append_in (P:=Tryz.prog) (ty:=ty) (w:=w) Tryz.underlying47 Tryz.underlying47 (.inl ⟨_,rfl⟩) hi0 hz0 (b:=⟨b,0,none⟩) (n:=n) (c:=c) (by rw[hzs]; exact Uq.srcF w vb vc vs hvl hvs) hroom;rw[h,hzs,Addr.add_lit,Nat.zero_add,hst];simp
 go_enter Tryz.func123,Tryz.ntmps123;go_wp2_with (at_builtin; refine Lib.wpList_append_run _ rfl _ _ _ _ rfl _ _ rfl rfl _ _ (hrun _) ?_);go_ret;exact⟨rfl,rfl⟩
set_option maxHeartbeats 4000000 in
set_option maxRecDepth 100000 in
theorem Uq.insF_end_grow (base:Option Addr) (n c vb vc:Nat) (cs vs:List Value) (w:World) (hnc:n≤c) (hroom:c < n+1) (hbig:(n+1)*40≤140737488355328)
 (hcl:cs.length=n*3) (hvl:vs.length=3) (hnil:base=none→n=0)
 (hcs:∀ a,base=some a→∀ j v,cs[j]? =some v→w.cell? (a.add j)=some v)
 (hvs:∀ j v,vs[j]? =some v→w.cell? ⟨vb,j,none⟩=some v):
 Calls Tryz.prog 123 #[.slice base n c,.int .i64 n,.slice (some ⟨vb,0,none⟩) 1 vc] w fun e w'=>
  e= .returned (.slice (some ⟨w.heap.size,0,none⟩) (n+1) (grownCap w (n+1) c 51))∧
  w'=w.drew.alloc (.cells ((cs++vs).toArray++Builtin.zeroCells #[.string ⟨#[]⟩,.string ⟨#[]⟩,.bool false] (grownCap w (n+1) c 51 - (n+1))) 51):=by
 obtain⟨i0,hi0,hz0,hzs,hzb⟩:=info_parts Uq.infoFile;have mixed:Tryz.prog.follows .mixedOrders=true:=by kernel_rfl
 have hold:(Builtin.firstCells i0.size n (.slice base n c)).run Tryz.prog w.drew= .ok cs.toArray w.drew:=by
  rw[hzs];cases base with
  | none=>
   have h0:=hnil rfl;subst h0;have hc0:cs=[]:=List.length_eq_zero_iff.1 (by simpa using hcl);rw[hc0];exact run_firstCells_none w.drew 3 0 0 c
  | some a=>exact run_firstCells_some w.drew 3 n a n c cs (by omega) (fun j v hj=>hcs a rfl j v hj)
 have hrun:∀ ty,(Builtin.append_ #[47,47] ty #[.slice base n c,.slice (some ⟨vb,0,none⟩) 1 vc]).run Tryz.prog w= .ok (.slice (some ⟨w.heap.size,0,none⟩) (n+1) (grownCap w (n+1) c 51))
  (w.drew.alloc (.cells ((cs++vs).toArray++Builtin.zeroCells #[.string ⟨#[]⟩,.string ⟨#[]⟩,.bool false] (grownCap w (n+1) c 51 - (n+1))) 51)):=fun ty=>by
  have h:=Go.Am.run_append_up (P:=Tryz.prog) (ty:=ty) (w:=w) Tryz.underlying47 Tryz.underlying47 (.inl ⟨_,rfl⟩) hi0 hz0 (base:=base) (n:=n) (c:=c) (by rw[hzs]; exact Uq.srcF w vb vc vs hvl hvs) hold hroom (by omega) (by rw[hzb]; exact growslice_fits hroom hbig);rw[h];congr 3;simp;rfl
 go_enter Tryz.func123,Tryz.ntmps123;cases base with
 | none=>
  have h0:=hnil rfl;subst h0;go_wp2_with (at_builtin; refine Lib.wpList_append_run _ rfl _ _ _ _ rfl _ _ rfl rfl _ _ (hrun _) ?_);go_ret;exact⟨rfl,rfl⟩
 | some a=>
  obtain⟨ab,ao,asp⟩:=a;go_wp2_with (at_builtin; refine Lib.wpList_append_run _ rfl _ _ _ _ rfl _ _ rfl rfl _ _ (hrun _) ?_)
  all_goals (go_ret; exact⟨rfl,rfl⟩)
end Go.Proofs
end
section
namespace Go.Am
open Go.Proofs Go.RowKit
theorem b6_.three {α β:Type} {R:α→β→Prop} {a b c:α} {vs:List β} (h:b6_ R [a,b,c] vs):∃ x y z,vs=[x,y,z]∧R a x∧R b y∧R c z:=by
 obtain⟨x,vs,rfl,h1,h⟩:=h.cons_inv;obtain⟨y,vs,rfl,h2,h⟩:=h.cons_inv;obtain⟨z,vs,rfl,h3,h⟩:=h.cons_inv;rw[h.nil_inv];exact⟨x,y,z,rfl,h1,h2,h3⟩
def slices_Insert__api_File_api_File:Sm:=fun xs H Q=>∃ a n i lv vs,xs=[.g (.sl a n 3),.g (.int .i64 ((i:Nat):Int)),.g (.sl (some (lv,0)) 1 3)]∧i≤n∧(n+1)*40≤Lim∧H[lv]? =some (.row false mo_ vs)∧vs.length=3∧
 ((a=none∧n=0∧Q (.g (.sl (some (ln H,0)) 1 3)) (pu H (.row true 51 vs)))∨
  ∃ l zs,a=some (l,0)∧H[l]? =some (.row true 51 zs)∧zs.length=n*3∧Q (.g (.sl (some (ln H,0)) (n+1) 3)) (pu (H.set l .dead) (.row true 51 (zs.take (i*3)++(vs++zs.drop (i*3))))))
theorem fL_ (b:Nat) (t:TypeId) (fz:Nat × Nat):∀ (vs:List Value) (o:Nat) (c:Array Value) (w:World),w.heap[b]? =some (.cells c t fz)→o+vs.length≤c.size→
 ∃ c',c9_ (fun b'=>b'=b) w (w.setCells b o vs)∧(w.setCells b o vs).heap[b]? =some (.cells c' t fz)∧c'.toList=c.toList.take o++vs++c.toList.drop (o+vs.length)
 | [],o,c,w,hb,_=>⟨c,c9_.refl _ _,hb,by simp⟩
 | v::vs,o,c,w,hb,hl=>by
  obtain⟨c',hk,hb',hc'⟩:=fL_ b t fz vs (o+1) (c.setIfInBounds o v) (w.setCell ⟨b,o,none⟩ v) (hD_ hb) (by simp at hl ⊢; omega);refine⟨c',(iM_ w b o v).trans hk (fun b h=> .inl h),hb',?_⟩;rw[hc',Array.toList_setIfInBounds];have:=hw_ c.toList o v vs (by simp at hl ⊢; omega);rw[←this];simp
theorem vq_ (k:Nat):(Builtin.zeroCells #[.string ⟨#[]⟩,.string ⟨#[]⟩,.bool false] k).size=k*3:=by simp [Builtin.zeroCells]
set_option maxHeartbeats 2000000 in
set_option maxRecDepth 100000 in
theorem dL_:bG_ Tryz.prog 123 slices_Insert__api_File_api_File:=by
 intro as0 H Q ⟨a,n,i,lv,vs,e,hi,hlim,hlv,hvl,hcase⟩ φ w us hr ha;subst e;obtain⟨x,y,z,rfl,hx,hy,hz'⟩:=ha.three;subst hy;obtain⟨iv,ad,cv,hiv,rfl,hqv,hncv,huv,_⟩:=hz';obtain⟨iv',hiv',r1,r2,r3,r4,r5⟩:=hr.row lv false mo_ vs hlv;rw[hiv] at hiv'; cases hiv';obtain⟨hp,cv0,ev,hbv⟩:=r5 rfl;obtain⟨iv',hiv',_,xv,hxis,hxc⟩:=hr.cells (l:=lv) (o:=0) (n:=3) (cs:=vs) (by simp only[cells?,hlv]; rw[if_pos (by omega),List.drop_zero,List.take_of_length_le (by omega)]);rw[hiv] at hiv'; cases hiv';have hqv:=hqv.resolve_right (by omega);rw[hp] at hqv hxc;subst hqv;have hxl:xv.length=3:=by rw[←hxis.length,hvl]
 have hvs:∀ j u,xv[j]? =some u→w.cell? ⟨iv.b,j,none⟩=some u:=fun j u hj=>by have:=hxc j u hj; simpa using this
 have h1v:=hxis.one;have hlim':(n+1)*40≤140737488355328:=hlim;have hgc:∀ c,n+1≤grownCap w (n+1) c 51:=fun c=>grownCap_ge w (n+1) c 51;have hgm:∀ c,grownCap w (n+1) c 51≤9223372036854775807:=fun c=>grownCap_le_maxLen w (n+1) c 51 (by unfold maxLen; omega);refine .inl ⟨enters_of Tryz.func123 (by kernel_rfl) rfl _ _,?_⟩;rcases hcase with⟨rfl,rfl,hQ⟩ | ⟨l,zs,rfl,hl,hzl,hQ⟩
 ·obtain⟨_,rfl⟩:=hx;have hi0:i=0:=by omega
  subst hi0;refine (Uq.insF_end_grow none 0 0 iv.b cv [] xv w (by omega) (by omega) hlim' rfl hxl (fun _=>rfl) (by intro a h; cases h) hvs).mono ?_;rintro e w' ⟨rfl,rfl⟩;have B:=(bH_.drew hr).trans (bH_.new (bH_.drew hr).rep 51 vs (([]++xv).toArray++Builtin.zeroCells #[.string ⟨#[]⟩,.string ⟨#[]⟩,.bool false] (grownCap w (0+1) 0 51 - (0+1))) (0,0) (by simp; omega) (by
   have e:(([]++xv).toArray++Builtin.zeroCells #[.string ⟨#[]⟩,.string ⟨#[]⟩,.bool false] (grownCap w (0+1) 0 51 - (0+1))).toList.take vs.length=xv:=by
    rw[Array.toList_append];exact List.take_left' (by simp [hxl,hvl])
   rw[e]; exact hxis) (fun j _ h=>by simp at h))
  refine⟨_,_,_,_,hQ,rfl,?_,B⟩;refine⟨_,_,_,by simp only[ln,←hr.len]; exact List.getElem?_concat_length,rfl,.inl rfl,hgc 0,?_,fun _=>⟨rfl,?_,hgm 0⟩⟩
  ·have:=hgc 0; show vs.length≤_; omega
  ·have:=hgc 0; simp only[Array.size_append,vq_]; simp [hxl]; omega
 ·obtain⟨il,al,c,hil,rfl,hq,hnc,hu,ho⟩:=hx;obtain⟨il',hil',ho',hu',hlt,hpl,cur,t',fz,hb,ht',hs,hfz,hle,his⟩:=hr.row l true 51 zs hl;rw[hil] at hil'; cases hil';obtain⟨_,hcs,hc63⟩:=ho ho';have hcl:=his.length;have hcurl:cur.toList.length=il.s:=by simpa using hs
  have hxl':(cur.toList.take zs.length).length=n*3:=by rw[←hcl,hzl]
  have hcells:∀ j u,(cur.toList.take zs.length)[j]? =some u→w.cell? ⟨il.b,j,none⟩=some u:=by
   intro j u hj;rw[fa_ hb];rw[List.getElem?_take] at hj;split at hj
   ·simpa using hj
   ·cases hj
  have h1c:=his.one;have hnl:(zs.take (i*3)++(vs++zs.drop (i*3))).length=(n+1)*3:=by simp [hzl,hvl]; omega
  by_cases hroom:n+1≤c
  ·have hpos:0 < il.s:=by omega
   have hq':al=⟨il.b,0,none⟩:=by
    rcases hq with h | h
    ·rw[h,hpl]
    ·omega
   subst hq';have hvb:iv.b≠il.b:=fun e=>hr.rows l lv 51 zs false mo_ vs il iv hl hlv (fun q=>by subst q; rw[hl] at hlv; cases hlv) hil hiv hpos e.symm;have hsp:∀ j,j < il.s→(w.cell? ⟨il.b,j,none⟩).isSome=true:=by
    intro j hj;rw[fa_ hb,Array.getElem?_eq_getElem (by omega)]; rfl
   have hfr:∀ j,j < il.s→w.frozen? ⟨il.b,j,none⟩=false:=by
    intro j hj;obtain⟨f1,f2⟩:=fz;simp only[World.frozen?,hb];by_cases q:f1≤j∧j < f2
    ·have:=(hfz _ q.1 q.2).1; omega
    ·simp; omega
   have main:∀ w',c9_ (fun b=>b=il.b) w w'→(∃ c',w'.heap[il.b]? =some (.cells c' t' fz)∧c'.toList=cur.toList.take (i*3)++(xv++(cur.toList.take (n*3)).drop (i*3))++cur.toList.drop ((n+1)*3))→
    ∃ r H' φ' x,Q r H'∧Ending.returned (.slice (some ⟨il.b,0,none⟩) (n+1) c)= .returned x∧r.is φ' x∧bH_ φ H w φ' H' w':=by
    rintro w' hk ⟨c',hb',hc'⟩;have e1:(cur.toList.take (i*3)++(xv++(cur.toList.take (n*3)).drop (i*3))).length=(n+1)*3:=by simp [hcurl,hxl]; omega
    have hc'l:c'.toList.length=il.s:=by rw[hc',List.length_append,e1,List.length_drop,hcurl]; omega
    have hsz':c'.size=il.s:=by simpa using hc'l
    have B:=bH_.pass (i':=⟨il.b,0,true,(n+1)*3,il.s⟩) (t':=51) (cs':=zs.take (i*3)++(vs++zs.drop (i*3))) hr hl hil hpos rfl hk
     ⟨rfl,hnl.symm,Nat.lt_of_lt_of_le hlt hk.size,rfl,c',t',fz,hb',ht',hsz',hfz,(by rw[hnl,hsz']; omega),by
      rw[hnl,hc',List.take_left' e1];have h3:Is2 φ zs (cur.toList.take (n*3)):=by rw[←hzl]; exact his
      have h4:=h3.take (i*3);have h5:=h3.drop (i*3);rw[List.take_take,Nat.min_eq_left (by omega)] at h4;exact (b6_.append (Is2.mono (List.prefix_append _ _) h4) (b6_.append (Is2.mono (List.prefix_append _ _) hxis) (Is2.mono (List.prefix_append _ _) h5)))⟩
    refine⟨_,_,_,_,hQ,rfl,?_,by simpa [pu] using B⟩;refine⟨_,_,c,by simp only[ln,←hr.len]; exact List.getElem?_concat_length,rfl,.inl rfl,hroom,?_,fun _=>⟨rfl,?_,hc63⟩⟩
    ·show (n+1)*3≤0+c*3; omega
    ·show 0+c*3≤il.s; omega
   by_cases hin:i=n
   ·subst hin;refine (Uq.insF_end_room il.b i c iv.b cv xv w hroom hc63 hxl (fun j hj=>hsp _ (by omega)) (fun j hj=>hfr _ (by omega)) hvs h1v).mono ?_;rintro e w' ⟨rfl,rfl⟩;obtain⟨c',h1,h2,h3⟩:=fL_ il.b t' fz xv (i*3) cur w hb (by rw[hxl]; omega);refine main _ h1 ⟨c',h2,?_⟩;rw[h3,hxl,List.drop_of_length_le (l:=cur.toList.take (i*3)) (by rw[List.length_take]; omega),List.append_nil];congr 2;omega
   ·obtain⟨tA,tB,hsa,hsb⟩:∃ tA tB,w.shape? iv.b=some (tA,cv0.size)∧w.shape? il.b=some (tB,cur.size):=⟨ev,t',by simp [World.shape?,hbv],by simp [World.shape?,hb]⟩;refine (Uq.insF_shift il.b n c i iv.b cv _ xv w (by omega) hroom hc63 hvb hxl' hxl hcells (fun j hj=>hsp j (by omega)) (fun j hj=>hfr j (by omega)) hvs h1c h1v tA tB cv0.size cur.size hsa hsb (by omega) (by simp [World.frozen?,hbv]) (by simp [World.frozen?,hbv])).mono ?_;rintro e w' ⟨rfl,rfl⟩;have hD:((cur.toList.take zs.length).drop (i*3)).length=(n - i)*3:=by rw[List.length_drop,hxl']; omega
    obtain⟨c1,k1,b1,e1⟩:=fL_ il.b t' fz ((cur.toList.take zs.length).drop (i*3)) ((i+1)*3) cur w.drew hb (by rw[hD]; omega);have g0:(cur.toList.take ((i+1)*3)).length=(i+1)*3:=by rw[List.length_take,hcurl]; omega
    have hc1l:c1.toList.length=il.s:=by rw[e1,List.length_append,List.length_append,g0,hD,List.length_drop,hcurl]; omega
    have hc1s:c1.size=il.s:=by simpa using hc1l
    obtain⟨c2,k2,b2,e2⟩:=fL_ il.b t' fz xv (i*3) c1 _ b1 (by rw[hxl]; omega);refine main _ (((jG_ _ w).trans k1 (fun b h=> .inl h)).trans k2 (fun b h=> .inl h)) ⟨c2,b2,?_⟩;have g1:c1.toList.take (i*3)=cur.toList.take (i*3):=by
     rw[e1,List.append_assoc,List.take_append_of_le_length (by omega),List.take_take];congr 1; omega
    have g2:c1.toList.drop (i*3+xv.length)=(cur.toList.take zs.length).drop (i*3)++cur.toList.drop ((n+1)*3):=by
     rw[e1,List.append_assoc,List.drop_left' (by rw[g0,hxl]; omega),hD];congr 2; omega
    rw[e2,g1,g2,hzl];simp
  ·have hroom':c < n+1:=by omega
   have hsplit:Is2 φ (zs.take (i*3)++(vs++zs.drop (i*3))) ((cur.toList.take zs.length).take (i*3)++(xv++(cur.toList.take zs.length).drop (i*3))):=b6_.append (his.take _) (b6_.append hxis (his.drop _));have hlt':l < H.length:=(List.getElem?_eq_some_iff.1 hl).1;have main:∀ w' (cc:Array Value),bH_ φ H w φ H w'→cc.size=grownCap w (n+1) c 51*3→cc.toList.take ((n+1)*3)=(cur.toList.take zs.length).take (i*3)++(xv++(cur.toList.take zs.length).drop (i*3))→
    ∃ r H' φ' x,Q r H'∧Ending.returned (.slice (some ⟨w'.heap.size,0,none⟩) (n+1) (grownCap w (n+1) c 51))= .returned x∧r.is φ' x∧bH_ φ H w φ' H' (w'.alloc (.cells cc 51)):=by
    intro w' cc B0 hcs hct;have B1:=B0.trans (bH_.drop B0.rep l);have hg:=hgc c;have B2:=B1.trans (bH_.new B1.rep 51 (zs.take (i*3)++(vs++zs.drop (i*3))) cc (0,0) (by rw[hnl,hcs]; omega) (by rw[hnl,hct]; exact hsplit) (fun j _ h=>by simp at h));have hlen:(H.set l .dead).length=φ.length:=by rw[List.length_set,hr.len]
    refine⟨_,_,_,_,hQ,rfl,?_,B2⟩;refine⟨_,_,_,by simp only[ln,←hr.len]; exact List.getElem?_concat_length,rfl,.inl rfl,hgc c,?_,fun _=>⟨rfl,?_,hgm c⟩⟩
    ·show (zs.take (i*3)++(vs++zs.drop (i*3))).length≤0+grownCap w (n+1) c 51*3;rw[hnl]; omega
    ·show 0+grownCap w (n+1) c 51*3≤cc.size;rw[hcs]; omega
   by_cases hin:i=n
   ·subst hin;refine (Uq.insF_end_grow (some al) i c iv.b cv (cur.toList.take zs.length) xv w hnc hroom' hlim' hxl' hxl (fun h=>by cases h) (by
     intro a ha j u hj;cases ha;have hj':=(List.getElem?_eq_some_iff.1 hj).1;have hq':al=⟨il.b,0,none⟩:=by
      rcases hq with h | h
      ·rw[h,hpl]
      ·omega
     rw[hq',fS_,Nat.zero_add];exact hcells j u hj) hvs).mono ?_
    rintro e w' ⟨rfl,rfl⟩;refine main w.drew _ (bH_.drew hr) ?_ ?_
    ·have:=hgc c;simp only[Array.size_append,vq_,List.size_toArray,List.length_append,hxl',hxl];omega
    ·simp only[Array.toList_append];rw[List.take_left' (by simp [hxl',hxl]; omega),List.take_of_length_le (l:=cur.toList.take zs.length) (by omega),List.drop_of_length_le (by omega),List.append_nil]
   ·have hq':al=⟨il.b,0,none⟩:=by
     rcases hq with h | h
     ·rw[h,hpl]
     ·omega
    subst hq';refine (Uq.insF_grow il.b n c i iv.b cv (cur.toList.take zs.length) xv w (by omega) hnc hroom' hlim' hxl' hxl hcells hvs h1c h1v).mono ?_;rintro e w' ⟨rfl,rfl⟩;have hg:=hgc c;obtain⟨row,hrow⟩:∃ row:Array Value,row=((cur.toList.take zs.length).take (i*3)).toArray++Builtin.zeroCells #[.string ⟨#[]⟩,.string ⟨#[]⟩,.bool false] (n+1 - i)++Builtin.zeroCells #[.string ⟨#[]⟩,.string ⟨#[]⟩,.bool false] (grownCap w (n+1) c 51 - (n+1)):=⟨_,rfl⟩;rw[←hrow];have hA:(w.alloc (.cells row 51)).drew.heap[w.heap.size]? =some (.cells row 51 (0,0)):=heap_alloc_new w _;have hAs:row.size=grownCap w (n+1) c 51*3:=by
     rw[hrow];simp only[Array.size_append,vq_,List.size_toArray,List.length_take,hxl'];omega
    have hrt:row.toList.take (i*3)=(cur.toList.take zs.length).take (i*3):=by
     rw[hrow,Array.toList_append,Array.toList_append,List.append_assoc];exact List.take_left' (by rw[List.length_take]; omega)
    obtain⟨c1,k1,b1,e1⟩:=fL_ w.heap.size 51 (0,0) xv (i*3) row _ hA (by rw[hAs,hxl]; omega);have hD:((cur.toList.take zs.length).drop (i*3)).length=(n - i)*3:=by rw[List.length_drop,hxl']; omega
    have hrl:row.toList.length=grownCap w (n+1) c 51*3:=by simpa using hAs
    have hT:(row.toList.take (i*3)++xv).length=(i+1)*3:=by rw[List.length_append,List.length_take,hrl,hxl]; omega
    have hc1l:c1.toList.length=grownCap w (n+1) c 51*3:=by
     rw[e1,List.length_append,hT,List.length_drop,hrl,hxl]; omega
    have hc1s:c1.size=grownCap w (n+1) c 51*3:=by simpa using hc1l
    obtain⟨c2,k2,b2,e2⟩:=fL_ w.heap.size 51 (0,0) ((cur.toList.take zs.length).drop (i*3)) ((i+1)*3) c1 _ (show (World.drew (World.setCells (World.drew (w.alloc _)) w.heap.size (i*3) xv)).heap[w.heap.size]? =_ from b1) (by rw[hc1s,hD]; omega);have g1:c1.toList.take ((i+1)*3)=(cur.toList.take zs.length).take (i*3)++xv:=by
     rw[e1,List.take_left' hT,hrt]
    have hct:c2.toList.take ((n+1)*3)=(cur.toList.take zs.length).take (i*3)++(xv++(cur.toList.take zs.length).drop (i*3)):=by
     rw[e2,g1,List.take_left' (by rw[List.length_append,List.length_append,List.length_take,hxl',hxl,hD]; omega),List.append_assoc]
    have hc2l:c2.toList.length=grownCap w (n+1) c 51*3:=by
     rw[e2,List.length_append,List.length_append,hD,List.length_take,List.length_drop,hc1l]; omega
    have hc2s:c2.size=grownCap w (n+1) c 51*3:=by simpa using hc2l
    have kk:=((((fo_ (fun b=>b=w.heap.size) w (.cells row 51)).trans (jG_ (fun b=>b=w.heap.size) _) (fun b h=> .inl h)).trans k1 (fun b h=> .inl h)).trans (jG_ (fun b=>b=w.heap.size) _) (fun b h=> .inl h)).trans k2 (fun b h=> .inl h);have B0:=bH_.drop hr l;have B2:=B0.trans (bH_.snoc (own:=true) (t:=51) (cs:=zs.take (i*3)++(vs++zs.drop (i*3))) (i:=⟨w.heap.size,0,true,(zs.take (i*3)++(vs++zs.drop (i*3))).length,c2.size⟩) B0.rep ⟨kk.os,kk.tape,kk.output,kk.size,fun b h1 _=>kk.block b h1 (by omega)⟩ (fun b q=>kk.block b (B0.rep.blockLt q) (by have:=B0.rep.blockLt q; omega))
     ⟨rfl,rfl,(Array.getElem?_eq_some_iff.1 b2).1,rfl,c2,51,(0,0),b2,fun _=>rfl,rfl,fun j _ h=>by simp at h,by rw[hnl,hc2s]; omega,Is2.mono (List.prefix_append _ _) (by rw[hnl,hct]; exact hsplit)⟩ (Nat.le_refl _))
    have hlen:(H.set l .dead).length=φ.length:=by rw[List.length_set,hr.len]
    refine⟨_,_,_,_,hQ,rfl,?_,B2⟩;refine⟨_,_,_,by simp only[ln,←hr.len]; exact List.getElem?_concat_length,rfl,.inl rfl,hg,?_,fun _=>⟨rfl,?_,hgm c⟩⟩
    ·show (zs.take (i*3)++(vs++zs.drop (i*3))).length≤0+grownCap w (n+1) c 51*3;rw[hnl]; omega
    ·show 0+grownCap w (n+1) c 51*3≤c2.size;rw[hc2s]; omega
end Go.Am
end
namespace Go.Am
open Go.Proofs
def dO_.cx:Cx:=⟨tys,[],[],[],[],aI_,[.cell 2 56]⟩
def dO_:Sm:=fun xs H Q=>∃ k,ai_ (dO_.cx) Tryz.f20 k xs H Q
theorem pd_ (k:Nat) (z0:Bool) (z1:Bool) (z2:Pl) (z2n:Nat) (z3:Pl) (z3n:Nat) (z4:Pl) (z4n:Nat) (H:Hp) (Q:Post):ai_ (dO_.cx) Tryz.f20 (k+1) [.agg [.bool z0,.bool z1,.sl z2 z2n 1,.sl z3 z3n 1,.sl z4 z4n 1]] H Q=( chk true (rdN H z2 (z2n*1) fun c0=> ap0 H 9 1 16 c0 z2n fun H1=> chk true (rdN H1 z3 (z3n*1) fun c2=> ap0 H1 9 1 16 c2 z3n fun H3=> chk true (rdN H3 z4 (z4n*1) fun c4=> ap0 H3 3 1 8 c4 z4n fun H5=> Q (.agg [(.bool z0),(.bool z1),(.sl (some ((ln H),0)) z2n 1),(.sl (some ((ln H1),0)) z3n 1),(.sl (some ((ln H3),0)) z4n 1)]) H5)))):=by kernel_rfl
theorem pt_:ay_ Tryz.prog 20 (dO_):=aq_.sound (cx:=dO_.cx) rfl (ac_.nil _) (ap_ _) Tryz.func20 rfl
def bJ_.cx:Cx:=⟨tys,[],[(3,[1,2,3,4])],[],[(20,dO_)],aI_,[.cell 2 24]⟩
def bJ_:Sm:=fun xs H Q=>∃ k,ai_ (bJ_.cx) Tryz.f7 k xs H Q
def bJ_.l3 (k:Nat) (xx0:Pl) (nx1:Nat) (ax2:Pl) (nx3:Nat) (ax4:Pl) (nx5:Nat) (ix6:Int) (H:Hp) (Q:Post):Prop:=a7_ (bJ_.cx) Tryz.f7 3 k (.bad::(.bx [(.sl xx0 nx1 5)])::(.bx [(.sl ax2 nx3 5)])::(.bx [(.sl ax4 nx5 5)])::(.g (.int .i64 ix6))::B 19 ([])) H Q
theorem pq_ (k:Nat) (z0:Pl) (z0n:Nat) (H:Hp) (Q:Post):ai_ (bJ_.cx) Tryz.f7 (k+1) [.agg [.sl z0 z0n 5]] H Q=( bJ_.l3 k z0 z0n none 0 none 0 0 H Q):=by kernel_rfl
theorem bJ_.l3_eq (k:Nat) (xx0:Pl) (nx1:Nat) (ax2:Pl) (nx3:Nat) (ax4:Pl) (nx5:Nat) (ix6:Int) (H:Hp) (Q:Post):bJ_.l3 (k+1) xx0 nx1 ax2 nx3 ax4 nx5 ix6 H Q=( af_ (ltI ix6 (nI nx1)) (chk true (chk ((leI 0 ix6)&&(ltI ix6 (nI nx1))) (pS xx0 fun n0 n1=> rd H n0 (n1+((tN ix6)*5)) fun v2=> dB v2 fun b3=> rd H n0 ((n1+((tN ix6)*5))+1) fun v4=> dB v4 fun b5=> rd H n0 (((n1+((tN ix6)*5))+1)+1) fun v6=> dL 1 v6 fun x7 n8=> rd H n0 ((((n1+((tN ix6)*5))+1)+1)+1) fun v9=> dL 1 v9 fun x10 n11=> rd H n0 (((((n1+((tN ix6)*5))+1)+1)+1)+1) fun v12=> dL 1 v12 fun x13 n14=> cl dO_ [(.agg [(.bool b3),(.bool b5),(.sl x7 n8 1),(.sl x10 n11 1),(.sl x13 n14 1)])] H fun r15 H16=> rA r15 fun c17=> uC c17 fun v18 c19=> dB v18 fun b20=> uC c19 fun v21 c22=> dB v21 fun b23=> uC c22 fun v24 c25=> dL 1 v24 fun x26 n27=> uC c25 fun v28 c29=> dL 1 v28 fun x30 n31=> uC c29 fun v32 c33=> dL 1 v32 fun x34 n35=> uN c33 (chk true (ap H16 56 5 80 ax4 nx5 [(.bool b20),(.bool b23),(.sl x26 n27 1),(.sl x30 n31 1),(.sl x34 n35 1)] 1 fun x36 n37 H38=> bJ_.l3 k xx0 nx1 ax2 nx3 x36 n37 (ad_ .i64 (ix6+1)) H38 Q))))) (Q (.agg [(.sl ax4 nx5 5)]) H)):=by kernel_rfl
theorem px_:ay_ Tryz.prog 7 (bJ_):=aq_.sound (cx:=bJ_.cx) rfl (ac_.cons ((pt_).d Tryz.func20) (ac_.nil _)) (ap_ _) Tryz.func7 rfl
def bV_.cx:Cx:=⟨tys,[],[(2,[0,3])],[],[],aI_,[.tmp 2]⟩
def bV_:Sm:=fun xs H Q=>∃ k,ai_ (bV_.cx) Tryz.f170 k xs H Q
def bV_.l2 (k:Nat) (xx0:Pl) (nx1:Nat) (ix2:Int) (H:Hp) (Q:Post):Prop:=a7_ (bV_.cx) Tryz.f170 2 k ((.g (.sl xx0 nx1 1)):: .bad:: .bad::(.g (.int .i64 ix2))::B 16 ([])) H Q
theorem rU_ (k:Nat) (z0:Pl) (z0n:Nat) (H:Hp) (Q:Post):ai_ (bV_.cx) Tryz.f170 (k+1) [.g (.sl z0 z0n 1)] H Q=( bV_.l2 k z0 z0n 1 H Q):=by kernel_rfl
theorem bV_.l2_eq (k:Nat) (xx0:Pl) (nx1:Nat) (ix2:Int) (H:Hp) (Q:Post):bV_.l2 (k+1) xx0 nx1 ix2 H Q=( af_ (ltI ix2 (nI nx1)) (chk true (chk ((leI 0 (ad_ .i64 (ix2 - 1)))&&(ltI (ad_ .i64 (ix2 - 1)) (nI nx1))) (pS xx0 fun n0 n1=> rd H n0 (n1+((tN (ad_ .i64 (ix2 - 1)))*1)) fun v2=> dS v2 fun s3=> chk true (chk ((leI 0 ix2)&&(ltI ix2 (nI nx1))) (pS xx0 fun n4 n5=> rd H n4 (n5+((tN ix2)*1)) fun v6=> dS v6 fun s7=> af_ (!(cS_ s3 s7)) (Q (.g (.bool false)) H) (bV_.l2 k xx0 nx1 (ad_ .i64 (ix2+1)) H Q)))))) (Q (.g (.bool true)) H)):=by kernel_rfl
theorem tg_:ay_ Tryz.prog 170 (bV_):=aq_.sound (cx:=bV_.cx) rfl (ac_.nil _) (ap_ _) Tryz.func170 rfl
def az_.cx (E:Nat→Sm):Cx:=⟨tys,[],[(2,[0,1,7,8])],[],[],E,[.tmp 4]⟩
def az_ (E:Nat→Sm):Sm:=fun xs H Q=>∃ k,ai_ (az_.cx E) Tryz.f184 k xs H Q
def az_.l2 (E:Nat→Sm) (k:Nat) (xx0:Pl) (nx1:Nat) (nx2:Nat) (cx3:List (Nat × Nat)) (ix4:Int) (ix5:Int) (H:Hp) (Q:Post):Prop:=a7_ (az_.cx E) Tryz.f184 2 k ((.g (.sl xx0 nx1 1))::(.g (.fn nx2 cx3))::B 5 ((.g (.int .i64 ix4))::(.g (.int .i64 ix5))::B 10 ([]))) H Q
theorem f3_ (E:Nat→Sm) (k:Nat) (z0:Pl) (z0n:Nat) (z1:Nat) (z1c:List (Nat × Nat)) (H:Hp) (Q:Post):ai_ (az_.cx E) Tryz.f184 (k+1) [.g (.sl z0 z0n 1),.g (.fn z1 z1c)] H Q=( az_.l2 E k z0 z0n z1 z1c (nI z0n) 0 H Q):=by kernel_rfl
theorem az_.l2_eq (E:Nat→Sm) (k:Nat) (xx0:Pl) (nx1:Nat) (nx2:Nat) (cx3:List (Nat × Nat)) (ix4:Int) (ix5:Int) (H:Hp) (Q:Post):az_.l2 E (k+1) xx0 nx1 nx2 cx3 ix4 ix5 H Q=( af_ (ltI ix5 ix4) (chk true (chk ((leI 0 ix5)&&(ltI ix5 (nI nx1))) (pS xx0 fun n0 n1=> rd H n0 (n1+((tN ix5)*1)) fun v2=> dS v2 fun s3=> cl (E nx2) (cpl [(.g (.str s3))] cx3) H fun r4 H5=> rG r4 fun v6=> dB v6 fun b7=> af_ b7 (Q (.g (.int .i64 ix5)) H5) (az_.l2 E k xx0 nx1 nx2 cx3 ix4 (ad_ .i64 (ix5+1)) H5 Q)))) (Q (.g (.int .i64 (-1))) H)):=by kernel_rfl
theorem f1_ (E:Nat→Sm) (hE:∀ f,bG_ Tryz.prog f (E f)):ay_ Tryz.prog 184 (az_ E):=aq_.sound (cx:=az_.cx E) rfl (ac_.nil _) hE Tryz.func184 rfl
def bj_.cx (E:Nat→Sm):Cx:=⟨tys,[],[],[],[(184,(az_ E))],E,[.tmp 4]⟩
def bj_ (E:Nat→Sm):Sm:=fun xs H Q=>∃ k,ai_ (bj_.cx E) Tryz.f177 k xs H Q
theorem fE_ (E:Nat→Sm) (k:Nat) (z0:Pl) (z0n:Nat) (z1:Nat) (z1c:List (Nat × Nat)) (H:Hp) (Q:Post):ai_ (bj_.cx E) Tryz.f177 (k+1) [.g (.sl z0 z0n 1),.g (.fn z1 z1c)] H Q=( cl (az_ E) [(.g (.sl z0 z0n 1)),(.g (.fn z1 z1c))] H fun r0 H1=> rG r0 fun v2=> dI .i64 v2 fun i3=> Q (.g (.bool (leI 0 i3))) H1):=by kernel_rfl
theorem fF_ (E:Nat→Sm) (hE:∀ f,bG_ Tryz.prog f (E f)):ay_ Tryz.prog 177 (bj_ E):=aq_.sound (cx:=bj_.cx E) rfl (ac_.cons ((f1_ E hE).d Tryz.func184) (ac_.nil _)) hE Tryz.func177 rfl
def b4_.cx (E:Nat→Sm):Cx:=⟨tys,[],[],[],[],E,[.tmp 3]⟩
def b4_ (E:Nat→Sm):Sm:=fun xs H Q=>∃ k,ai_ (b4_.cx E) Tryz.f178 k xs H Q
theorem kX_ (E:Nat→Sm) (k:Nat) (z0:ByteArray) (z1:Nat) (z1o:Nat) (H:Hp) (Q:Post):ai_ (b4_.cx E) Tryz.f178 (k+1) [.g (.str z0),.g (.ptr (some (z1,z1o)))] H Q=( rd H z1 z1o fun v0=> dF v0 fun n1 c2=> cl (E n1) (cpl [(.g (.str z0))] c2) H fun r3 H4=> rG r3 fun v5=> dB v5 fun b6=> Q (.g (.bool (!b6))) H4):=by kernel_rfl
theorem lC_ (E:Nat→Sm) (hE:∀ f,bG_ Tryz.prog f (E f)):ay_ Tryz.prog 178 (b4_ E):=aq_.sound (cx:=b4_.cx E) rfl (ac_.nil _) hE Tryz.func178 rfl
def cG_.cx (E:Nat→Sm):Cx:=⟨tys,[3],[],[],[(177,(bj_ (cN_ [(178,(b4_ E))])))],E,[.tmp 4]⟩
def cG_ (E:Nat→Sm):Sm:=fun xs H Q=>∃ k,ai_ (cG_.cx E) Tryz.f171 k xs H Q
theorem mY_ (E:Nat→Sm) (k:Nat) (z0:Pl) (z0n:Nat) (z1:Nat) (z1c:List (Nat × Nat)) (H:Hp) (Q:Post):ai_ (cG_.cx E) Tryz.f171 (k+1) [.g (.sl z0 z0n 1),.g (.fn z1 z1c)] H Q=( cl (bj_ (cN_ [(178,(b4_ E))])) [(.g (.sl z0 z0n 1)),(.g (.fn 178 [((ln H),0)]))] (pu H (.row true 61 [(.fn z1 z1c)])) fun r0 H1=> rG r0 fun v2=> dB v2 fun b3=> Q (.g (.bool (!b3))) H1):=by kernel_rfl
theorem mH_ (E:Nat→Sm) (hE:∀ f,bG_ Tryz.prog f (E f)):ay_ Tryz.prog 171 (cG_ E):=aq_.sound (cx:=cG_.cx E) rfl (ac_.cons ((fF_ (cN_ [(178,(b4_ E))]) (hm_ (ac_.cons ((lC_ E hE).d Tryz.func178) (ac_.nil _)))).d Tryz.func177) (ac_.nil _)) hE Tryz.func171 rfl
def aJ_.cx (E:Nat→Sm):Cx:=⟨tys,[],[(2,[0,1,7,8])],[],[],E,[.tmp 4]⟩
def aJ_ (E:Nat→Sm):Sm:=fun xs H Q=>∃ k,ai_ (aJ_.cx E) Tryz.f185 k xs H Q
def aJ_.l2 (E:Nat→Sm) (k:Nat) (xx0:Pl) (nx1:Nat) (nx2:Nat) (cx3:List (Nat × Nat)) (ix4:Int) (ix5:Int) (H:Hp) (Q:Post):Prop:=a7_ (aJ_.cx E) Tryz.f185 2 k ((.g (.sl xx0 nx1 1))::(.g (.fn nx2 cx3))::B 5 ((.g (.int .i64 ix4))::(.g (.int .i64 ix5))::B 10 ([]))) H Q
theorem hC_ (E:Nat→Sm) (k:Nat) (z0:Pl) (z0n:Nat) (z1:Nat) (z1c:List (Nat × Nat)) (H:Hp) (Q:Post):ai_ (aJ_.cx E) Tryz.f185 (k+1) [.g (.sl z0 z0n 1),.g (.fn z1 z1c)] H Q=( aJ_.l2 E k z0 z0n z1 z1c (nI z0n) 0 H Q):=by kernel_rfl
theorem aJ_.l2_eq (E:Nat→Sm) (k:Nat) (xx0:Pl) (nx1:Nat) (nx2:Nat) (cx3:List (Nat × Nat)) (ix4:Int) (ix5:Int) (H:Hp) (Q:Post):aJ_.l2 E (k+1) xx0 nx1 nx2 cx3 ix4 ix5 H Q=( af_ (ltI ix5 ix4) (chk true (chk ((leI 0 ix5)&&(ltI ix5 (nI nx1))) (pS xx0 fun n0 n1=> rd H n0 (n1+((tN ix5)*1)) fun v2=> dI .i64 v2 fun i3=> cl (E nx2) (cpl [(.g (.int .i64 i3))] cx3) H fun r4 H5=> rG r4 fun v6=> dB v6 fun b7=> af_ b7 (Q (.g (.int .i64 ix5)) H5) (aJ_.l2 E k xx0 nx1 nx2 cx3 ix4 (ad_ .i64 (ix5+1)) H5 Q)))) (Q (.g (.int .i64 (-1))) H)):=by kernel_rfl
theorem hx_ (E:Nat→Sm) (hE:∀ f,bG_ Tryz.prog f (E f)):ay_ Tryz.prog 185 (aJ_ E):=aq_.sound (cx:=aJ_.cx E) rfl (ac_.nil _) hE Tryz.func185 rfl
def bE_.cx (E:Nat→Sm):Cx:=⟨tys,[],[],[],[(185,(aJ_ E))],E,[.tmp 4]⟩
def bE_ (E:Nat→Sm):Sm:=fun xs H Q=>∃ k,ai_ (bE_.cx E) Tryz.f179 k xs H Q
theorem gF_ (E:Nat→Sm) (k:Nat) (z0:Pl) (z0n:Nat) (z1:Nat) (z1c:List (Nat × Nat)) (H:Hp) (Q:Post):ai_ (bE_.cx E) Tryz.f179 (k+1) [.g (.sl z0 z0n 1),.g (.fn z1 z1c)] H Q=( cl (aJ_ E) [(.g (.sl z0 z0n 1)),(.g (.fn z1 z1c))] H fun r0 H1=> rG r0 fun v2=> dI .i64 v2 fun i3=> Q (.g (.bool (leI 0 i3))) H1):=by kernel_rfl
theorem gD_ (E:Nat→Sm) (hE:∀ f,bG_ Tryz.prog f (E f)):ay_ Tryz.prog 179 (bE_ E):=aq_.sound (cx:=bE_.cx E) rfl (ac_.cons ((hx_ E hE).d Tryz.func185) (ac_.nil _)) hE Tryz.func179 rfl
def cE_.cx (E:Nat→Sm):Cx:=⟨tys,[],[],[],[],E,[.tmp 3]⟩
def cE_ (E:Nat→Sm):Sm:=fun xs H Q=>∃ k,ai_ (cE_.cx E) Tryz.f180 k xs H Q
theorem oz_ (E:Nat→Sm) (k:Nat) (z0:Int) (z1:Nat) (z1o:Nat) (H:Hp) (Q:Post):ai_ (cE_.cx E) Tryz.f180 (k+1) [.g (.int .i64 z0),.g (.ptr (some (z1,z1o)))] H Q=( rd H z1 z1o fun v0=> dF v0 fun n1 c2=> cl (E n1) (cpl [(.g (.int .i64 z0))] c2) H fun r3 H4=> rG r3 fun v5=> dB v5 fun b6=> Q (.g (.bool (!b6))) H4):=by kernel_rfl
theorem oI_ (E:Nat→Sm) (hE:∀ f,bG_ Tryz.prog f (E f)):ay_ Tryz.prog 180 (cE_ E):=aq_.sound (cx:=cE_.cx E) rfl (ac_.nil _) hE Tryz.func180 rfl
def el_.cx (E:Nat→Sm):Cx:=⟨tys,[3],[],[],[(179,(bE_ (cN_ [(180,(cE_ E))])))],E,[.tmp 4]⟩
def el_ (E:Nat→Sm):Sm:=fun xs H Q=>∃ k,ai_ (el_.cx E) Tryz.f174 k xs H Q
theorem rc_ (E:Nat→Sm) (k:Nat) (z0:Pl) (z0n:Nat) (z1:Nat) (z1c:List (Nat × Nat)) (H:Hp) (Q:Post):ai_ (el_.cx E) Tryz.f174 (k+1) [.g (.sl z0 z0n 1),.g (.fn z1 z1c)] H Q=( cl (bE_ (cN_ [(180,(cE_ E))])) [(.g (.sl z0 z0n 1)),(.g (.fn 180 [((ln H),0)]))] (pu H (.row true 159 [(.fn z1 z1c)])) fun r0 H1=> rG r0 fun v2=> dB v2 fun b3=> Q (.g (.bool (!b3))) H1):=by kernel_rfl
theorem rq_ (E:Nat→Sm) (hE:∀ f,bG_ Tryz.prog f (E f)):ay_ Tryz.prog 174 (el_ E):=aq_.sound (cx:=el_.cx E) rfl (ac_.cons ((gD_ (cN_ [(180,(cE_ E))]) (hm_ (ac_.cons ((oI_ E hE).d Tryz.func180) (ac_.nil _)))).d Tryz.func179) (ac_.nil _)) hE Tryz.func174 rfl
def ca_.cx (E:Nat→Sm):Cx:=⟨tys,[1],[],[],[],E,[.tmp 2]⟩
def ca_ (E:Nat→Sm):Sm:=fun xs H Q=>∃ k,ai_ (ca_.cx E) Tryz.f182 k xs H Q
theorem io_ (E:Nat→Sm) (k:Nat) (z0:Pl) (z0n:Nat) (H:Hp) (Q:Post):ai_ (ca_.cx E) Tryz.f182 (k+1) [.g (.sl z0 z0n 1)] H Q=( Q (.g (.fn 188 [((ln H),0)])) (pu H (.row true 54 [(.sl z0 z0n 1)]))):=by kernel_rfl
theorem im_ (E:Nat→Sm) (hE:∀ f,bG_ Tryz.prog f (E f)):ay_ Tryz.prog 182 (ca_ E):=aq_.sound (cx:=ca_.cx E) rfl (ac_.nil _) hE Tryz.func182 rfl
def cH_.cx:Cx:=⟨tys,[],[],[],[(189,slices_AppendSeq__int_int)],aI_,[.tmp 2]⟩
def cH_:Sm:=fun xs H Q=>∃ k,ai_ (cH_.cx) Tryz.f186 k xs H Q
theorem ke_ (k:Nat) (z0:Nat) (z0c:List (Nat × Nat)) (H:Hp) (Q:Post):ai_ (cH_.cx) Tryz.f186 (k+1) [.g (.fn z0 z0c)] H Q=( cl slices_AppendSeq__int_int [(.g (.sl none 0 1)),(.g (.fn z0 z0c))] H fun r0 H1=> rG r0 fun v2=> dL 1 v2 fun x3 n4=> Q (.g (.sl x3 n4 1)) H1):=by kernel_rfl
theorem kj_:ay_ Tryz.prog 186 (cH_):=aq_.sound (cx:=cH_.cx) rfl (ac_.cons (eY_) (ac_.nil _)) (ap_ _) Tryz.func186 rfl
def cX_.cx:Cx:=⟨tys,[],[],[],[(186,cH_),(187,slices_Sort__int_int)],aI_,[.tmp 2]⟩
def cX_:Sm:=fun xs H Q=>∃ k,ai_ (cX_.cx) Tryz.f181 k xs H Q
theorem lv_ (k:Nat) (z0:Nat) (z0c:List (Nat × Nat)) (H:Hp) (Q:Post):ai_ (cX_.cx) Tryz.f181 (k+1) [.g (.fn z0 z0c)] H Q=( cl cH_ [(.g (.fn z0 z0c))] H fun r0 H1=> rG r0 fun v2=> dL 1 v2 fun x3 n4=> cl slices_Sort__int_int [(.g (.sl x3 n4 1))] H1 fun r5 H6=> Q (.g (.sl x3 n4 1)) H6):=by kernel_rfl
theorem k4_:ay_ Tryz.prog 181 (cX_):=aq_.sound (cx:=cX_.cx) rfl (ac_.cons ((kj_).d Tryz.func186) (ac_.cons (gd_) (ac_.nil _))) (ap_ _) Tryz.func181 rfl
def av_.cx:Cx:=⟨tys,[],[(4,[0,3]),(9,[0,3,4,5])],[],[],aI_,[.tmp 2]⟩
def av_:Sm:=fun xs H Q=>∃ k,ai_ (av_.cx) Tryz.f183 k xs H Q
def av_.l4 (k:Nat) (xx0:Pl) (nx1:Nat) (ix2:Int) (H:Hp) (Q:Post):Prop:=a7_ (av_.cx) Tryz.f183 4 k ((.g (.sl xx0 nx1 1)):: .bad:: .bad::(.g (.int .i64 ix2))::B 57 ([])) H Q
def av_.l9 (k:Nat) (xx0:Pl) (nx1:Nat) (ix2:Int) (xx3:Pl) (nx4:Nat) (ix5:Int) (H:Hp) (Q:Post):Prop:=a7_ (av_.cx) Tryz.f183 9 k ((.g (.sl xx0 nx1 1)):: .bad:: .bad::(.g (.int .i64 ix2))::(.g (.sl xx3 nx4 1))::(.g (.int .i64 ix5))::B 55 ([])) H Q
theorem dW_ (k:Nat) (z0:Pl) (z0n:Nat) (H:Hp) (Q:Post):ai_ (av_.cx) Tryz.f183 (k+1) [.g (.sl z0 z0n 1)] H Q=( af_ (ltI (nI z0n) 2) (Q (.g (.sl z0 z0n 1)) H) (av_.l4 k z0 z0n 1 H Q)):=by kernel_rfl
theorem av_.l4_eq (k:Nat) (xx0:Pl) (nx1:Nat) (ix2:Int) (H:Hp) (Q:Post):av_.l4 (k+1) xx0 nx1 ix2 H Q=( af_ (ltI ix2 (nI nx1)) (chk true (chk ((leI 0 ix2)&&(ltI ix2 (nI nx1))) (pS xx0 fun n0 n1=> rd H n0 (n1+((tN ix2)*1)) fun v2=> dI .i64 v2 fun i3=> chk true (chk ((leI 0 (ad_ .i64 (ix2 - 1)))&&(ltI (ad_ .i64 (ix2 - 1)) (nI nx1))) (pS xx0 fun n4 n5=> rd H n4 (n5+((tN (ad_ .i64 (ix2 - 1)))*1)) fun v6=> dI .i64 v6 fun i7=> af_ (eqI i3 i7) (chk true (chk (leI 0 ix2) (chk (leN (tN ix2) nx1) (av_.l9 k xx0 nx1 ix2 (shf xx0 ((tN ix2)*1)) (nx1 - (tN ix2)) 1 H Q)))) (av_.l4 k xx0 nx1 (ad_ .i64 (ix2+1)) H Q)))))) (Q (.g (.sl xx0 nx1 1)) H)):=by kernel_rfl
theorem av_.l9_eq (k:Nat) (xx0:Pl) (nx1:Nat) (ix2:Int) (xx3:Pl) (nx4:Nat) (ix5:Int) (H:Hp) (Q:Post):av_.l9 (k+1) xx0 nx1 ix2 xx3 nx4 ix5 H Q=( af_ (ltI ix5 (nI nx4)) (chk true (chk ((leI 0 ix5)&&(ltI ix5 (nI nx4))) (pS xx3 fun n0 n1=> rd H n0 (n1+((tN ix5)*1)) fun v2=> dI .i64 v2 fun i3=> chk true (chk ((leI 0 (ad_ .i64 (ix5 - 1)))&&(ltI (ad_ .i64 (ix5 - 1)) (nI nx4))) (pS xx3 fun n4 n5=> rd H n4 (n5+((tN (ad_ .i64 (ix5 - 1)))*1)) fun v6=> dI .i64 v6 fun i7=> af_ (!(eqI i3 i7)) (chk true (chk ((leI 0 ix5)&&(ltI ix5 (nI nx4))) (pS xx3 fun n8 n9=> rd H n8 (n9+((tN ix5)*1)) fun v10=> dI .i64 v10 fun i11=> chk true (chk ((leI 0 ix2)&&(ltI ix2 (nI nx1))) (pS xx0 fun n12 n13=> wr H n12 (n13+((tN ix2)*1)) (.int .i64 i11) fun H14=> av_.l9 k xx0 nx1 (ad_ .i64 (ix2+1)) xx3 nx4 (ad_ .i64 (ix5+1)) H14 Q))))) (av_.l9 k xx0 nx1 ix2 xx3 nx4 (ad_ .i64 (ix5+1)) H Q)))))) (chk true (chk (leI 0 ix2) (chk (leN (tN ix2) nx1) (chk true (clr H (shf xx0 ((tN ix2)*1)) (nx1 - (tN ix2)) [(.int .i64 0)] fun H15=> chk true (chk (leI 0 ix2) (chk ((leN 0 (tN ix2))&&((leN (tN ix2) nx1)||(uW_ H15 xx0 ((tN ix2)*1)))) (Q (.g (.sl (shf xx0 0) ((tN ix2) - 0) 1)) H15))))))))):=by kernel_rfl
theorem h5_:ay_ Tryz.prog 183 (av_):=aq_.sound (cx:=av_.cx) rfl (ac_.nil _) (ap_ _) Tryz.func183 rfl
def eH_.cx (E:Nat→Sm):Cx:=⟨tys,[],[],[],[(182,(ca_ E)),(181,cX_),(183,av_)],E,[.tmp 2]⟩
def eH_ (E:Nat→Sm):Sm:=fun xs H Q=>∃ k,ai_ (eH_.cx E) Tryz.f176 k xs H Q
theorem sg_ (E:Nat→Sm) (k:Nat) (z0:Pl) (z0n:Nat) (H:Hp) (Q:Post):ai_ (eH_.cx E) Tryz.f176 (k+1) [.g (.sl z0 z0n 1)] H Q=( cl (ca_ E) [(.g (.sl z0 z0n 1))] H fun r0 H1=> rG r0 fun v2=> cl cX_ [(.g v2)] H1 fun r3 H4=> rG r3 fun v5=> dL 1 v5 fun x6 n7=> cl av_ [(.g (.sl x6 n7 1))] H4 fun r8 H9=> rG r8 fun v10=> dL 1 v10 fun x11 n12=> Q (.g (.bool (eqI (nI n12) (nI z0n)))) H9):=by kernel_rfl
theorem rJ_ (E:Nat→Sm) (hE:∀ f,bG_ Tryz.prog f (E f)):ay_ Tryz.prog 176 (eH_ E):=aq_.sound (cx:=eH_.cx E) rfl (ac_.cons ((im_ E hE).d Tryz.func182) (ac_.cons ((k4_).d Tryz.func181) (ac_.cons ((h5_).d Tryz.func183) (ac_.nil _)))) hE Tryz.func176 rfl
def c1_.cx:Cx:=⟨tys,[],[],[],[],aI_,[.tmp 2]⟩
def c1_:Sm:=fun xs H Q=>∃ k,ai_ (c1_.cx) Tryz.f172 k xs H Q
theorem v1_ (k:Nat) (z0:ByteArray) (H:Hp) (Q:Post):ai_ (c1_.cx) Tryz.f172 (k+1) [.g (.str z0)] H Q=( af_ (leI 1 (sz z0)) (Q (.g (.bool (leI (sz z0) 6))) H) (Q (.g (.bool false)) H)):=by kernel_rfl
theorem lz_:ay_ Tryz.prog 172 (c1_):=aq_.sound (cx:=c1_.cx) rfl (ac_.nil _) (ap_ _) Tryz.func172 rfl
def cc_.cx:Cx:=⟨tys,[],[],[],[],aI_,[.tmp 2]⟩
def cc_:Sm:=fun xs H Q=>∃ k,ai_ (cc_.cx) Tryz.f173 k xs H Q
theorem tV_ (k:Nat) (z0:ByteArray) (H:Hp) (Q:Post):ai_ (cc_.cx) Tryz.f173 (k+1) [.g (.str z0)] H Q=( Q (.g (.bool (leI (sz z0) 10))) H):=by kernel_rfl
theorem iQ_:ay_ Tryz.prog 173 (cc_):=aq_.sound (cx:=cc_.cx) rfl (ac_.nil _) (ap_ _) Tryz.func173 rfl
def cV_.cx:Cx:=⟨tys,[],[],[],[],aI_,[.tmp 2]⟩
def cV_:Sm:=fun xs H Q=>∃ k,ai_ (cV_.cx) Tryz.f175 k xs H Q
theorem wW_ (k:Nat) (z0:Int) (H:Hp) (Q:Post):ai_ (cV_.cx) Tryz.f175 (k+1) [.g (.int .i64 z0)] H Q=( af_ (leI 1 z0) (Q (.g (.bool (ltI z0 48))) H) (Q (.g (.bool false)) H)):=by kernel_rfl
theorem lt_:ay_ Tryz.prog 175 (cV_):=aq_.sound (cx:=cV_.cx) rfl (ac_.nil _) (ap_ _) Tryz.func175 rfl
def gf_.cx:Cx:=⟨tys,[],[],[],[(170,bV_),(171,(cG_ (cN_ [(172,c1_),(173,cc_),(175,cV_)]))),(174,(el_ (cN_ [(172,c1_),(173,cc_),(175,cV_)]))),(176,(eH_ (cN_ [(172,c1_),(173,cc_),(175,cV_)])))],aI_,[.tmp 2]⟩
def gf_:Sm:=fun xs H Q=>∃ k,ai_ (gf_.cx) Tryz.f168 k xs H Q
theorem vM_ (k:Nat) (z0:Bool) (z1:Bool) (z2:Pl) (z2n:Nat) (z3:Pl) (z3n:Nat) (z4:Pl) (z4n:Nat) (H:Hp) (Q:Post):ai_ (gf_.cx) Tryz.f168 (k+1) [.agg [.bool z0,.bool z1,.sl z2 z2n 1,.sl z3 z3n 1,.sl z4 z4n 1]] H Q=( af_ (!z0) (Q (.g (.bool false)) H) (cl bV_ [(.g (.sl z2 z2n 1))] H fun r0 H1=> rG r0 fun v2=> dB v2 fun b3=> af_ (!b3) (Q (.g (.bool false)) H1) (cl (cG_ (cN_ [(172,c1_),(173,cc_),(175,cV_)])) [(.g (.sl z2 z2n 1)),(.g (.fn 172 []))] H1 fun r4 H5=> rG r4 fun v6=> dB v6 fun b7=> af_ (!b7) (Q (.g (.bool false)) H5) (af_ z1 (af_ (eqI (nI z3n) (nI z2n)) (af_ (eqI (nI z4n) 0) (cl (cG_ (cN_ [(172,c1_),(173,cc_),(175,cV_)])) [(.g (.sl z3 z3n 1)),(.g (.fn 173 []))] H5 fun r8 H9=> rG r8 fun v10=> dB v10 fun b11=> Q (.g (.bool b11)) H9) (Q (.g (.bool false)) H5)) (Q (.g (.bool false)) H5)) (af_ (leI 1 (nI z2n)) (af_ (eqI (nI z3n) 0) (af_ (eqI (nI z4n) (ad_ .i64 ((nI z2n)+1))) (cl (el_ (cN_ [(172,c1_),(173,cc_),(175,cV_)])) [(.g (.sl z4 z4n 1)),(.g (.fn 175 []))] H5 fun r12 H13=> rG r12 fun v14=> dB v14 fun b15=> af_ b15 (cl (eH_ (cN_ [(172,c1_),(173,cc_),(175,cV_)])) [(.g (.sl z4 z4n 1))] H13 fun r16 H17=> rG r16 fun v18=> dB v18 fun b19=> Q (.g (.bool b19)) H17) (Q (.g (.bool false)) H13)) (Q (.g (.bool false)) H5)) (Q (.g (.bool false)) H5)) (Q (.g (.bool false)) H5)))))):=by kernel_rfl
theorem vv_:ay_ Tryz.prog 168 (gf_):=aq_.sound (cx:=gf_.cx) rfl (ac_.cons ((tg_).d Tryz.func170) (ac_.cons ((mH_ (cN_ [(172,c1_),(173,cc_),(175,cV_)]) (hm_ (ac_.cons ((lz_).d Tryz.func172) (ac_.cons ((iQ_).d Tryz.func173) (ac_.cons ((lt_).d Tryz.func175) (ac_.nil _)))))).d Tryz.func171) (ac_.cons ((rq_ (cN_ [(172,c1_),(173,cc_),(175,cV_)]) (hm_ (ac_.cons ((lz_).d Tryz.func172) (ac_.cons ((iQ_).d Tryz.func173) (ac_.cons ((lt_).d Tryz.func175) (ac_.nil _)))))).d Tryz.func174) (ac_.cons ((rJ_ (cN_ [(172,c1_),(173,cc_),(175,cV_)]) (hm_ (ac_.cons ((lz_).d Tryz.func172) (ac_.cons ((iQ_).d Tryz.func173) (ac_.cons ((lt_).d Tryz.func175) (ac_.nil _)))))).d Tryz.func176) (ac_.nil _))))) (ap_ _) Tryz.func168 rfl
def hr_.cx:Cx:=⟨tys,[],[],[],[(168,gf_)],aI_,[.tmp 2]⟩
def hr_:Sm:=fun xs H Q=>∃ k,ai_ (hr_.cx) Tryz.f155 k xs H Q
theorem wp_ (k:Nat) (z0:Bool) (z1:Bool) (z2:Pl) (z2n:Nat) (z3:Pl) (z3n:Nat) (z4:Pl) (z4n:Nat) (H:Hp) (Q:Post):ai_ (hr_.cx) Tryz.f155 (k+1) [.agg [.bool z0,.bool z1,.sl z2 z2n 1,.sl z3 z3n 1,.sl z4 z4n 1]] H Q=( af_ (leI (nI z2n) 4) (cl gf_ [(.agg [(.bool z0),(.bool z1),(.sl z2 z2n 1),(.sl z3 z3n 1),(.sl z4 z4n 1)])] H fun r0 H1=> rG r0 fun v2=> dB v2 fun b3=> Q (.g (.bool b3)) H1) (Q (.g (.bool false)) H)):=by kernel_rfl
theorem xb_:ay_ Tryz.prog 155 (hr_):=aq_.sound (cx:=hr_.cx) rfl (ac_.cons ((vv_).d Tryz.func168) (ac_.nil _)) (ap_ _) Tryz.func155 rfl
def a6_.cx:Cx:=⟨tys,[],[(2,[2,7,8,9])],[],[],aI_,[.tmp 4]⟩
def a6_:Sm:=fun xs H Q=>∃ k,ai_ (a6_.cx) Tryz.f156 k xs H Q
def a6_.l2 (k:Nat) (sx0:ByteArray) (sx1:ByteArray) (bx2:Bool) (xx3:Pl) (nx4:Nat) (ix5:Int) (ix6:Int) (H:Hp) (Q:Post):Prop:=a7_ (a6_.cx) Tryz.f156 2 k (.bad:: .bad::(.bx [(.str sx0),(.str sx1),(.bool bx2)])::B 4 ((.g (.sl xx3 nx4 1))::(.g (.int .i64 ix5))::(.g (.int .i64 ix6))::B 19 ([]))) H Q
theorem lj_ (k:Nat) (z0:ByteArray) (z1:ByteArray) (z2:Bool) (z3:Pl) (z3n:Nat) (H:Hp) (Q:Post):ai_ (a6_.cx) Tryz.f156 (k+1) [.agg [.str z0,.str z1,.bool z2],.g (.sl z3 z3n 1)] H Q=( a6_.l2 k z0 z1 z2 z3 z3n (nI z3n) 0 H Q):=by kernel_rfl
theorem a6_.l2_eq (k:Nat) (sx0:ByteArray) (sx1:ByteArray) (bx2:Bool) (xx3:Pl) (nx4:Nat) (ix5:Int) (ix6:Int) (H:Hp) (Q:Post):a6_.l2 (k+1) sx0 sx1 bx2 xx3 nx4 ix5 ix6 H Q=( af_ (ltI ix6 ix5) (chk true (chk ((leI 0 ix6)&&(ltI ix6 (nI nx4))) (pS xx3 fun n0 n1=> rd H n0 (n1+((tN ix6)*1)) fun v2=> dS v2 fun s3=> af_ (cS_ s3 sx0) (Q (.g (.bool false)) H) (af_ (!bx2) (af_ (!(cS_ s3 sx1)) (Q (.g (.bool false)) H) (a6_.l2 k sx0 sx1 bx2 xx3 nx4 ix5 (ad_ .i64 (ix6+1)) H Q)) (a6_.l2 k sx0 sx1 bx2 xx3 nx4 ix5 (ad_ .i64 (ix6+1)) H Q))))) (Q (.g (.bool true)) H)):=by kernel_rfl
theorem kK_:ay_ Tryz.prog 156 (a6_):=aq_.sound (cx:=a6_.cx) rfl (ac_.nil _) (ap_ _) Tryz.func156 rfl
def bq_.cx:Cx:=⟨tys,[],[],[(3,[0,1,2])],[],aI_,[.tmp 6]⟩
def bq_:Sm:=fun xs H Q=>∃ k,ai_ (bq_.cx) Tryz.f157 k xs H Q
def bq_.l3 (k:Nat) (xx0:Pl) (xx1:Pl) (ix2:Int) (H:Hp) (Q:Post):Prop:=a7_ (bq_.cx) Tryz.f157 3 k ((.g (.ptr xx0))::(.g (.ptr xx1))::(.g (.int .i64 ix2))::B 31 ([])) H Q
theorem na_ (k:Nat) (z0:Pl) (z1:Pl) (z2:Int) (H:Hp) (Q:Post):ai_ (bq_.cx) Tryz.f157 (k+1) [.g (.ptr z0),.g (.ptr z1),.g (.int .i64 z2)] H Q=( pS z0 fun n0 n1=> rd H n0 (n1+2) fun v2=> dI .i64 v2 fun i3=> af_ (ltI i3 0) (pS z0 fun n4 n5=> wr H n4 (n5+2) (.int .i64 z2) fun H6=> bq_.l3 k z0 z1 z2 H6 Q) (bq_.l3 k z0 z1 z2 H Q)):=by kernel_rfl
theorem bq_.l3_eq (k:Nat) (xx0:Pl) (xx1:Pl) (ix2:Int) (H:Hp) (Q:Post):bq_.l3 (k+1) xx0 xx1 ix2 H Q=( pS xx0 fun n0 n1=> rd H n0 (n1+3) fun v2=> dI .i64 v2 fun i3=> pS xx1 fun n4 n5=> rd H n4 (n5+2) fun v6=> dL 1 v6 fun x7 n8=> pS xx0 fun n9 n10=> wr H n9 (n10+3) (.int .i64 (ad_ .i64 (i3+(nI n8)))) fun H11=> pS xx0 fun n12 n13=> rd H11 n12 (n13+2) fun v14=> dI .i64 v14 fun i15=> Q (.g (.bool (eqI i15 ix2))) H11):=by kernel_rfl
theorem m5_:ay_ Tryz.prog 157 (bq_):=aq_.sound (cx:=bq_.cx) rfl (ac_.nil _) (ap_ _) Tryz.func157 rfl
def be_.cx:Cx:=⟨tys,[],[],[(3,[1,2,3,6])],[],aI_,[.cell 6 201]⟩
def be_:Sm:=fun xs H Q=>∃ k,ai_ (be_.cx) Tryz.f158 k xs H Q
def be_.l3 (k:Nat) (xx0:Pl) (nx1:Nat) (ix2:Int) (sx3:ByteArray) (sx4:ByteArray) (bx5:Bool) (sx6:ByteArray) (sx7:ByteArray) (bx8:Bool) (H:Hp) (Q:Post):Prop:=a7_ (be_.cx) Tryz.f158 3 k (.bad::(.g (.sl xx0 nx1 1))::(.g (.int .i64 ix2))::(.bx [(.str sx3),(.str sx4),(.bool bx5)]):: .bad:: .bad::(.bx [(.str sx6),(.str sx7),(.bool bx8)])::B 19 ([])) H Q
theorem kk_ (k:Nat) (z0:ByteArray) (z1:ByteArray) (z2:Bool) (z3:Pl) (z3n:Nat) (z4:Int) (H:Hp) (Q:Post):ai_ (be_.cx) Tryz.f158 (k+1) [.agg [.str z0,.str z1,.bool z2],.g (.sl z3 z3n 1),.g (.int .i64 z4)] H Q=( af_ (ltI 0 z4) (chk true (chk ((leI 0 (ad_ .i64 (z4 - 1)))&&(ltI (ad_ .i64 (z4 - 1)) (nI z3n))) (pS z3 fun n0 n1=> rd H n0 (n1+((tN (ad_ .i64 (z4 - 1)))*1)) fun v2=> dS v2 fun s3=> be_.l3 k z3 z3n z4 s3 z1 z2 (mkS []) (mkS []) false H Q))) (be_.l3 k z3 z3n z4 z0 z1 z2 (mkS []) (mkS []) false H Q)):=by kernel_rfl
theorem be_.l3_eq (k:Nat) (xx0:Pl) (nx1:Nat) (ix2:Int) (sx3:ByteArray) (sx4:ByteArray) (bx5:Bool) (sx6:ByteArray) (sx7:ByteArray) (bx8:Bool) (H:Hp) (Q:Post):be_.l3 (k+1) xx0 nx1 ix2 sx3 sx4 bx5 sx6 sx7 bx8 H Q=( af_ (ltI ix2 (nI nx1)) (chk true (chk ((leI 0 ix2)&&(ltI ix2 (nI nx1))) (pS xx0 fun n0 n1=> rd H n0 (n1+((tN ix2)*1)) fun v2=> dS v2 fun s3=> Q (.agg [(.str sx3),(.str s3),(.bool false)]) H))) (Q (.agg [(.str sx3),(.str sx4),(.bool bx5)]) H)):=by kernel_rfl
theorem ku_:ay_ Tryz.prog 158 (be_):=aq_.sound (cx:=be_.cx) rfl (ac_.nil _) (ap_ _) Tryz.func158 rfl
def aC_.cx (S:Sm):Cx:=⟨tys,[],[(8,[0,2,7,9,70,71,72])],[],[(155,hr_),(156,a6_),(157,bq_),(158,be_),(140,S)],aI_,[.tmp 8]⟩
def aC_.st (S:Sm):Sm:=fun xs H Q=>∃ k,ai_ (aC_.cx S) Tryz.f140 k xs H Q
def aC_.l8 (S:Sm) (k:Nat) (xx0:Pl) (ix1:Int) (sx2:ByteArray) (sx3:ByteArray) (bx4:Bool) (nx5:Nat) (nx6:Nat) (xx7:Pl) (nx8:Nat) (ix9:Int) (ix10:Int) (H:Hp) (Q:Post):Prop:=a7_ (aC_.cx S) Tryz.f140 8 k ((.g (.ptr xx0)):: .bad::(.g (.int .i64 ix1))::B 4 ((.bx [(.str sx2),(.str sx3),(.bool bx4)]):: .bad::(.g (.ptr (some (nx5,nx6))))::B 60 ((.g (.sl xx7 nx8 1))::(.g (.int .i64 ix9))::(.g (.int .i64 ix10))::B 18 ([])))) H Q
theorem l9_ (S:Sm) (k:Nat) (z0:Pl) (z1:Int) (z2:Int) (z3:ByteArray) (z4:ByteArray) (z5:Bool) (H:Hp) (Q:Post):ai_ (aC_.cx S) Tryz.f140 (k+1) [.g (.ptr z0),.g (.int .i64 z1),.g (.int .i64 z2),.agg [.str z3,.str z4,.bool z5]] H Q=( pS z0 fun n0 n1=> rd H n0 (n1+0) fun v2=> dL 5 v2 fun x3 n4=> chk true (chk ((leI 0 z1)&&(ltI z1 (nI n4))) (pS x3 fun n5 n6=> pS z0 fun n7 n8=> rd H n7 (n8+1) fun v9=> dL 1 v9 fun x10 n11=> chk true (chk ((leI 0 z1)&&(ltI z1 (nI n11))) (pS x10 fun n12 n13=> rd H n12 (n13+((tN z1)*1)) fun v14=> dB v14 fun b15=> af_ b15 (Q (.g (.bool false)) H) (rd H n5 (n6+((tN z1)*5)) fun v16=> dB v16 fun b17=> rd H n5 ((n6+((tN z1)*5))+1) fun v18=> dB v18 fun b19=> rd H n5 (((n6+((tN z1)*5))+1)+1) fun v20=> dL 1 v20 fun x21 n22=> rd H n5 ((((n6+((tN z1)*5))+1)+1)+1) fun v23=> dL 1 v23 fun x24 n25=> rd H n5 (((((n6+((tN z1)*5))+1)+1)+1)+1) fun v26=> dL 1 v26 fun x27 n28=> cl hr_ [(.agg [(.bool b17),(.bool b19),(.sl x21 n22 1),(.sl x24 n25 1),(.sl x27 n28 1)])] H fun r29 H30=> rG r29 fun v31=> dB v31 fun b32=> af_ (!b32) (Q (.g (.bool false)) H30) (af_ (ltI 0 z1) (rd H30 n5 ((n6+((tN z1)*5))+2) fun v33=> dL 1 v33 fun x34 n35=> af_ (ltI (nI n35) 2) (Q (.g (.bool false)) H30) (rd H30 n5 ((n6+((tN z1)*5))+2) fun v36=> dL 1 v36 fun x37 n38=> cl a6_ [(.agg [(.str z3),(.str z4),(.bool z5)]),(.g (.sl x37 n38 1))] H30 fun r39 H40=> rG r39 fun v41=> dB v41 fun b42=> af_ (!b42) (Q (.g (.bool false)) H40) (pS z0 fun n43 n44=> rd H40 n43 (n44+1) fun v45=> dL 1 v45 fun x46 n47=> chk true (chk ((leI 0 z1)&&(ltI z1 (nI n47))) (pS x46 fun n48 n49=> wr H40 n48 (n49+((tN z1)*1)) (.bool true) fun H50=> rd H50 n5 ((n6+((tN z1)*5))+1) fun v51=> dB v51 fun b52=> af_ b52 (cl bq_ [(.g (.ptr z0)),(.g (.ptr (some (n5,(n6+((tN z1)*5)))))),(.g (.int .i64 z2))] H50 fun r53 H54=> rG r53 fun v55=> dB v55 fun b56=> Q (.g (.bool b56)) H54) (rd H50 n5 ((n6+((tN z1)*5))+4) fun v57=> dL 1 v57 fun x58 n59=> aC_.l8 S k z0 z2 z3 z4 z5 n5 (n6+((tN z1)*5)) x58 n59 (nI n59) 0 H50 Q)))))) (rd H30 n5 ((n6+((tN z1)*5))+2) fun v60=> dL 1 v60 fun x61 n62=> cl a6_ [(.agg [(.str z3),(.str z4),(.bool z5)]),(.g (.sl x61 n62 1))] H30 fun r63 H64=> rG r63 fun v65=> dB v65 fun b66=> af_ (!b66) (Q (.g (.bool false)) H64) (pS z0 fun n67 n68=> rd H64 n67 (n68+1) fun v69=> dL 1 v69 fun x70 n71=> chk true (chk ((leI 0 z1)&&(ltI z1 (nI n71))) (pS x70 fun n72 n73=> wr H64 n72 (n73+((tN z1)*1)) (.bool true) fun H74=> rd H74 n5 ((n6+((tN z1)*5))+1) fun v75=> dB v75 fun b76=> af_ b76 (cl bq_ [(.g (.ptr z0)),(.g (.ptr (some (n5,(n6+((tN z1)*5)))))),(.g (.int .i64 z2))] H74 fun r77 H78=> rG r77 fun v79=> dB v79 fun b80=> Q (.g (.bool b80)) H78) (rd H74 n5 ((n6+((tN z1)*5))+4) fun v81=> dL 1 v81 fun x82 n83=> aC_.l8 S k z0 z2 z3 z4 z5 n5 (n6+((tN z1)*5)) x82 n83 (nI n83) 0 H74 Q)))))))))))):=by kernel_rfl
theorem aC_.l8_eq (S:Sm) (k:Nat) (xx0:Pl) (ix1:Int) (sx2:ByteArray) (sx3:ByteArray) (bx4:Bool) (nx5:Nat) (nx6:Nat) (xx7:Pl) (nx8:Nat) (ix9:Int) (ix10:Int) (H:Hp) (Q:Post):aC_.l8 S (k+1) xx0 ix1 sx2 sx3 bx4 nx5 nx6 xx7 nx8 ix9 ix10 H Q=( af_ (ltI ix10 ix9) (chk true (chk ((leI 0 ix10)&&(ltI ix10 (nI nx8))) (pS xx7 fun n0 n1=> rd H n0 (n1+((tN ix10)*1)) fun v2=> dI .i64 v2 fun i3=> rd H nx5 (nx6+2) fun v4=> dL 1 v4 fun x5 n6=> cl be_ [(.agg [(.str sx2),(.str sx3),(.bool bx4)]),(.g (.sl x5 n6 1)),(.g (.int .i64 ix10))] H fun r7 H8=> rA r7 fun c9=> uC c9 fun v10 c11=> dS v10 fun s12=> uC c11 fun v13 c14=> dS v13 fun s15=> uC c14 fun v16 c17=> dB v16 fun b18=> uN c17 (cl S [(.g (.ptr xx0)),(.g (.int .i64 i3)),(.g (.int .i64 (ad_ .i64 (ix1+1)))),(.agg [(.str s12),(.str s15),(.bool b18)])] H8 fun r19 H20=> rG r19 fun v21=> dB v21 fun b22=> af_ (!b22) (Q (.g (.bool false)) H20) (aC_.l8 S k xx0 ix1 sx2 sx3 bx4 nx5 nx6 xx7 nx8 ix9 (ad_ .i64 (ix10+1)) H20 Q))))) (Q (.g (.bool true)) H)):=by kernel_rfl
theorem aC_.st_ok (S:Sm) (hS:bG_ Tryz.prog 140 S):ay_ Tryz.prog 140 (aC_.st S):=aq_.sound (cx:=aC_.cx S) rfl (ac_.cons ((xb_).d Tryz.func155) (ac_.cons ((kK_).d Tryz.func156) (ac_.cons ((m5_).d Tryz.func157) (ac_.cons ((ku_).d Tryz.func158) (ac_.cons hS (ac_.nil _)))))) (ap_ _) Tryz.func140 rfl
def aC_.at:Nat→Sm | 0=>fun _ _ _=>False | n+1=>aC_.st (aC_.at n)
def aC_:Sm:=fun xs H Q=>∃ n,aC_.at n xs H Q
theorem aC_.at_ok:∀ n,ay_ Tryz.prog 140 (aC_.at n) | 0=>fun _ _ _ h=>h.elim | n+1=>aC_.st_ok _ ((aC_.at_ok n).d Tryz.func140)
theorem mj_:ay_ Tryz.prog 140 (aC_):=ay_.ex (aC_.at_ok)
def ei_.cx:Cx:=⟨tys,[],[],[],[],aI_,[.tmp 2]⟩
def ei_:Sm:=fun xs H Q=>∃ k,ai_ (ei_.cx) Tryz.f159 k xs H Q
theorem rh_ (k:Nat) (z0:Bool) (z1:Bool) (z2:Pl) (z2n:Nat) (z3:Pl) (z3n:Nat) (z4:Pl) (z4n:Nat) (H:Hp) (Q:Post):ai_ (ei_.cx) Tryz.f159 (k+1) [.agg [.bool z0,.bool z1,.sl z2 z2n 1,.sl z3 z3n 1,.sl z4 z4n 1]] H Q=( af_ (!z0) (af_ (!z1) (Q (.g (.bool (eqI (ad_ .i64 ((ad_ .i64 ((nI z2n)+(nI z3n)))+(nI z4n))) 0))) H) (Q (.g (.bool false)) H)) (Q (.g (.bool false)) H)):=by kernel_rfl
theorem rb_:ay_ Tryz.prog 159 (ei_):=aq_.sound (cx:=ei_.cx) rfl (ac_.nil _) (ap_ _) Tryz.func159 rfl
def bp_.cx:Cx:=⟨tys,[],[(2,[0,8,9,10])],[],[(159,ei_)],aI_,[.tmp 2]⟩
def bp_:Sm:=fun xs H Q=>∃ k,ai_ (bp_.cx) Tryz.f141 k xs H Q
def bp_.l2 (k:Nat) (xx0:Pl) (xx1:Pl) (nx2:Nat) (ix3:Int) (ix4:Int) (H:Hp) (Q:Post):Prop:=a7_ (bp_.cx) Tryz.f141 2 k ((.g (.ptr xx0))::B 7 ((.g (.sl xx1 nx2 5))::(.g (.int .i64 ix3))::(.g (.int .i64 ix4))::B 18 ([]))) H Q
theorem mV_ (k:Nat) (z0:Pl) (H:Hp) (Q:Post):ai_ (bp_.cx) Tryz.f141 (k+1) [.g (.ptr z0)] H Q=( pS z0 fun n0 n1=> rd H n0 (n1+0) fun v2=> dL 5 v2 fun x3 n4=> bp_.l2 k z0 x3 n4 (nI n4) 0 H Q):=by kernel_rfl
theorem bp_.l2_eq (k:Nat) (xx0:Pl) (xx1:Pl) (nx2:Nat) (ix3:Int) (ix4:Int) (H:Hp) (Q:Post):bp_.l2 (k+1) xx0 xx1 nx2 ix3 ix4 H Q=( af_ (ltI ix4 ix3) (chk true (chk ((leI 0 ix4)&&(ltI ix4 (nI nx2))) (pS xx1 fun n0 n1=> rd H n0 (n1+((tN ix4)*5)) fun v2=> dB v2 fun b3=> rd H n0 ((n1+((tN ix4)*5))+1) fun v4=> dB v4 fun b5=> rd H n0 (((n1+((tN ix4)*5))+1)+1) fun v6=> dL 1 v6 fun x7 n8=> rd H n0 ((((n1+((tN ix4)*5))+1)+1)+1) fun v9=> dL 1 v9 fun x10 n11=> rd H n0 (((((n1+((tN ix4)*5))+1)+1)+1)+1) fun v12=> dL 1 v12 fun x13 n14=> pS xx0 fun n15 n16=> rd H n15 (n16+1) fun v17=> dL 1 v17 fun x18 n19=> chk true (chk ((leI 0 ix4)&&(ltI ix4 (nI n19))) (pS x18 fun n20 n21=> rd H n20 (n21+((tN ix4)*1)) fun v22=> dB v22 fun b23=> af_ (!b23) (cl ei_ [(.agg [(.bool b3),(.bool b5),(.sl x7 n8 1),(.sl x10 n11 1),(.sl x13 n14 1)])] H fun r24 H25=> rG r24 fun v26=> dB v26 fun b27=> af_ (!b27) (Q (.g (.bool false)) H25) (bp_.l2 k xx0 xx1 nx2 ix3 (ad_ .i64 (ix4+1)) H25 Q)) (bp_.l2 k xx0 xx1 nx2 ix3 (ad_ .i64 (ix4+1)) H Q)))))) (Q (.g (.bool true)) H)):=by kernel_rfl
theorem mB_:ay_ Tryz.prog 141 (bp_):=aq_.sound (cx:=bp_.cx) rfl (ac_.cons ((rb_).d Tryz.func159) (ac_.nil _)) (ap_ _) Tryz.func141 rfl
def fn_.cx:Cx:=⟨tys,[14,16],[],[],[(140,aC_),(141,bp_)],aI_,[.tmp 2]⟩
def fn_:Sm:=fun xs H Q=>∃ k,ai_ (fn_.cx) Tryz.f131 k xs H Q
theorem uh_ (k:Nat) (z0:Pl) (H:Hp) (Q:Post):ai_ (fn_.cx) Tryz.f131 (k+1) [.g (.ptr z0)] H Q=( pS z0 fun n0 n1=> rd H n0 (n1+0) fun v2=> dL 5 v2 fun x3 n4=> af_ (!(eqI (nI n4) 48)) (Q (.g (.int .i64 0)) H) (pS z0 fun n5 n6=> rd H n5 (n6+0) fun v7=> dL 5 v7 fun x8 n9=> rd (pu H (.row true 4 (iS_ (tN 48) [(.bool false)]))) n5 (n6+0) fun v10=> dL 5 v10 fun x11 n12=> eqv (.g (.sl x8 n9 5)) (.g (.sl x11 n12 5)) (cl aC_ [(.g (.ptr (some ((ln (pu H (.row true 4 (iS_ (tN 48) [(.bool false)])))),0)))),(.g (.int .i64 0)),(.g (.int .i64 1)),(.agg [(.str (mkS [])),(.str (mkS [])),(.bool true)])] (pu (pu H (.row true 4 (iS_ (tN 48) [(.bool false)]))) (.row true 198 [(.sl x8 n9 5),(.sl (some ((ln H),0)) (tN 48) 1),(.int .i64 (-1)),(.int .i64 0)])) fun r13 H14=> rG r13 fun v15=> dB v15 fun b16=> af_ (!b16) (Q (.g (.int .i64 0)) H14) (cl bp_ [(.g (.ptr (some ((ln (pu H (.row true 4 (iS_ (tN 48) [(.bool false)])))),0))))] H14 fun r17 H18=> rG r17 fun v19=> dB v19 fun b20=> af_ (!b20) (Q (.g (.int .i64 0)) H18) (rd H18 (ln (pu H (.row true 4 (iS_ (tN 48) [(.bool false)])))) 3 fun v21=> dI .i64 v21 fun i22=> af_ (ltI 60 i22) (Q (.g (.int .i64 0)) H18) (rd H18 (ln (pu H (.row true 4 (iS_ (tN 48) [(.bool false)])))) 2 fun v23=> dI .i64 v23 fun i24=> Q (.g (.int .i64 i24)) H18)))))):=by kernel_rfl
theorem t2_:ay_ Tryz.prog 131 (fn_):=aq_.sound (cx:=fn_.cx) rfl (ac_.cons ((mj_).d Tryz.func140) (ac_.cons ((mB_).d Tryz.func141) (ac_.nil _))) (ap_ _) Tryz.func131 rfl
def eG_.cx:Cx:=⟨tys,[1],[],[],[(131,fn_)],aI_,[.tmp 2]⟩
def eG_:Sm:=fun xs H Q=>∃ k,ai_ (eG_.cx) Tryz.f111 k xs H Q
theorem rT_ (k:Nat) (z0:Pl) (z0n:Nat) (H:Hp) (Q:Post):ai_ (eG_.cx) Tryz.f111 (k+1) [.agg [.sl z0 z0n 5]] H Q=( cl fn_ [(.g (.ptr (some ((ln H),0))))] (pu H (.row true 24 [(.sl z0 z0n 5)])) fun r0 H1=> rG r0 fun v2=> dI .i64 v2 fun i3=> Q (.g (.bool (ltI 0 i3))) H1):=by kernel_rfl
theorem tt_:ay_ Tryz.prog 111 (eG_):=aq_.sound (cx:=eG_.cx) rfl (ac_.cons ((t2_).d Tryz.func131) (ac_.nil _)) (ap_ _) Tryz.func111 rfl
def bc_.cx (E:Nat→Sm) (S:Sm):Cx:=⟨tys,[],[(2,[0,2,6,20,21,22]),(7,[2,6,34,35,36])],[],[(112,S)],E,[]⟩
def bc_.st (E:Nat→Sm) (S:Sm):Sm:=fun xs H Q=>∃ k,ai_ (bc_.cx E S) Tryz.f112 k xs H Q
def bc_.l2 (E:Nat→Sm) (S:Sm) (k:Nat) (xx0:Pl) (nx1:Nat) (cx2:List (Nat × Nat)) (nx3:Nat) (nx4:Nat) (xx5:Pl) (nx6:Nat) (ix7:Int) (ix8:Int) (H:Hp) (Q:Post):Prop:=a7_ (bc_.cx E S) Tryz.f112 2 k ((.g (.ptr xx0)):: .bad::(.g (.fn nx1 cx2))::B 3 ((.g (.ptr (some (nx3,nx4))))::B 13 ((.g (.sl xx5 nx6 1))::(.g (.int .i64 ix7))::(.g (.int .i64 ix8))::B 30 ([])))) H Q
def bc_.l7 (E:Nat→Sm) (S:Sm) (k:Nat) (nx0:Nat) (cx1:List (Nat × Nat)) (nx2:Nat) (nx3:Nat) (xx4:Pl) (nx5:Nat) (ix6:Int) (ix7:Int) (H:Hp) (Q:Post):Prop:=a7_ (bc_.cx E S) Tryz.f112 7 k (.bad:: .bad::(.g (.fn nx0 cx1))::B 3 ((.g (.ptr (some (nx2,nx3))))::B 27 ((.g (.sl xx4 nx5 1))::(.g (.int .i64 ix6))::(.g (.int .i64 ix7))::B 16 ([])))) H Q
theorem vc_ (E:Nat→Sm) (S:Sm) (k:Nat) (z0:Pl) (z1:Int) (z2:Nat) (z2c:List (Nat × Nat)) (H:Hp) (Q:Post):ai_ (bc_.cx E S) Tryz.f112 (k+1) [.g (.ptr z0),.g (.int .i64 z1),.g (.fn z2 z2c)] H Q=( pS z0 fun n0 n1=> rd H n0 (n1+0) fun v2=> dL 5 v2 fun x3 n4=> chk true (chk ((leI 0 z1)&&(ltI z1 (nI n4))) (pS x3 fun n5 n6=> rd H n5 ((n6+((tN z1)*5))+4) fun v7=> dL 1 v7 fun x8 n9=> bc_.l2 E S k z0 z2 z2c n5 (n6+((tN z1)*5)) x8 n9 (nI n9) 0 H Q))):=by kernel_rfl
theorem bc_.l2_eq (E:Nat→Sm) (S:Sm) (k:Nat) (xx0:Pl) (nx1:Nat) (cx2:List (Nat × Nat)) (nx3:Nat) (nx4:Nat) (xx5:Pl) (nx6:Nat) (ix7:Int) (ix8:Int) (H:Hp) (Q:Post):bc_.l2 E S (k+1) xx0 nx1 cx2 nx3 nx4 xx5 nx6 ix7 ix8 H Q=( af_ (ltI ix8 ix7) (chk true (chk ((leI 0 ix8)&&(ltI ix8 (nI nx6))) (pS xx5 fun n0 n1=> rd H n0 (n1+((tN ix8)*1)) fun v2=> dI .i64 v2 fun i3=> cl S [(.g (.ptr xx0)),(.g (.int .i64 i3)),(.g (.fn nx1 cx2))] H fun r4 H5=> bc_.l2 E S k xx0 nx1 cx2 nx3 nx4 xx5 nx6 ix7 (ad_ .i64 (ix8+1)) H5 Q))) (rd H nx3 (nx4+3) fun v6=> dL 1 v6 fun x7 n8=> bc_.l7 E S k nx1 cx2 nx3 nx4 x7 n8 (nI n8) 0 H Q)):=by kernel_rfl
theorem bc_.l7_eq (E:Nat→Sm) (S:Sm) (k:Nat) (nx0:Nat) (cx1:List (Nat × Nat)) (nx2:Nat) (nx3:Nat) (xx4:Pl) (nx5:Nat) (ix6:Int) (ix7:Int) (H:Hp) (Q:Post):bc_.l7 E S (k+1) nx0 cx1 nx2 nx3 xx4 nx5 ix6 ix7 H Q=( af_ (ltI ix7 ix6) (chk true (chk ((leI 0 ix7)&&(ltI ix7 (nI nx5))) (pS xx4 fun n0 n1=> rd H n0 (n1+((tN ix7)*1)) fun v2=> dS v2 fun s3=> rd H nx2 (nx3+2) fun v4=> dL 1 v4 fun x5 n6=> chk true (chk ((leI 0 ix7)&&(ltI ix7 (nI n6))) (pS x5 fun n7 n8=> rd H n7 (n8+((tN ix7)*1)) fun v9=> dS v9 fun s10=> cl (E nx0) (cpl [(.agg [(.str s10),(.str s3)])] cx1) H fun r11 H12=> bc_.l7 E S k nx0 cx1 nx2 nx3 xx4 nx5 ix6 (ad_ .i64 (ix7+1)) H12 Q))))) (Q (.tup []) H)):=by kernel_rfl
theorem bc_.st_ok (E:Nat→Sm) (hE:∀ f,bG_ Tryz.prog f (E f)) (S:Sm) (hS:bG_ Tryz.prog 112 S):ay_ Tryz.prog 112 (bc_.st E S):=aq_.sound (cx:=bc_.cx E S) rfl (ac_.cons hS (ac_.nil _)) hE Tryz.func112 rfl
def bc_.at (E:Nat→Sm):Nat→Sm | 0=>fun _ _ _=>False | n+1=>bc_.st E (bc_.at E n)
def bc_ (E:Nat→Sm):Sm:=fun xs H Q=>∃ n,bc_.at E n xs H Q
theorem bc_.at_ok (E:Nat→Sm) (hE:∀ f,bG_ Tryz.prog f (E f)):∀ n,ay_ Tryz.prog 112 (bc_.at E n) | 0=>fun _ _ _ h=>h.elim | n+1=>bc_.st_ok E hE _ ((bc_.at_ok E hE n).d Tryz.func112)
theorem u7_ (E:Nat→Sm) (hE:∀ f,bG_ Tryz.prog f (E f)):ay_ Tryz.prog 112 (bc_ E):=ay_.ex (bc_.at_ok E hE)
def dc_.cx:Cx:=⟨tys,[],[],[],[],aI_,[]⟩
def dc_:Sm:=fun xs H Q=>∃ k,ai_ (dc_.cx) Tryz.f113 k xs H Q
theorem rf_ (k:Nat) (z0:ByteArray) (z1:ByteArray) (z2:Nat) (z2o:Nat) (z3:Nat) (z3o:Nat) (z4:Nat) (z4o:Nat) (H:Hp) (Q:Post):ai_ (dc_.cx) Tryz.f113 (k+1) [.agg [.str z0,.str z1],.g (.ptr (some (z2,z2o))),.g (.ptr (some (z3,z3o))),.g (.ptr (some (z4,z4o)))] H Q=( rd H z2 z2o fun v0=> dS v0 fun s1=> af_ (!(cS_ z0 s1)) (rd H z3 z3o fun v2=> dS v2 fun s3=> af_ (co_ s3 (mkS [])) (rd H z4 z4o fun v4=> dL 2 v4 fun x5 n6=> chk true (ap H 108 2 32 x5 n6 [(.str z0),(.str z1)] 1 fun x7 n8 H9=> wr H9 z4 z4o (.sl x7 n8 2) fun H10=> Q (.tup []) H10)) (rd H z3 z3o fun v11=> dS v11 fun s12=> af_ (cS_ z0 s12) (rd H z4 z4o fun v13=> dL 2 v13 fun x14 n15=> chk true (ap H 108 2 32 x14 n15 [(.str z0),(.str z1)] 1 fun x16 n17 H18=> wr H18 z4 z4o (.sl x16 n17 2) fun H19=> Q (.tup []) H19)) (Q (.tup []) H))) (Q (.tup []) H)):=by kernel_rfl
theorem rk_:ay_ Tryz.prog 113 (dc_):=aq_.sound (cx:=dc_.cx) rfl (ac_.nil _) (ap_ _) Tryz.func113 rfl
def fe_.cx:Cx:=⟨tys,[3,4,5,8],[],[],[(111,eG_),(112,(bc_ (cN_ [(113,dc_)])))],aI_,[.tmp 6,.tmp 7]⟩
def fe_:Sm:=fun xs H Q=>∃ k,ai_ (fe_.cx) Tryz.f89 k xs H Q
theorem t0_ (k:Nat) (z0:Pl) (z0n:Nat) (z1:ByteArray) (z2:ByteArray) (H:Hp) (Q:Post):ai_ (fe_.cx) Tryz.f89 (k+1) [.agg [.sl z0 z0n 5],.g (.str z1),.g (.str z2)] H Q=( rd (pu (pu (pu H (.row true 24 [(.sl z0 z0n 5)])) (.row true 9 [(.str z1)])) (.row true 9 [(.str z2)])) (ln H) 0 fun v0=> dL 5 v0 fun x1 n2=> cl eG_ [(.agg [(.sl x1 n2 5)])] (pu (pu (pu H (.row true 24 [(.sl z0 z0n 5)])) (.row true 9 [(.str z1)])) (.row true 9 [(.str z2)])) fun r3 H4=> rG r3 fun v5=> dB v5 fun b6=> af_ (!b6) (Q (.tup [(.s (.sl none 0 2)),(.s (.int .i64 1400))]) H4) (cl (bc_ (cN_ [(113,dc_)])) [(.g (.ptr (some ((ln H),0)))),(.g (.int .i64 0)),(.g (.fn 113 [((ln (pu H (.row true 24 [(.sl z0 z0n 5)]))),0),((ln (pu (pu H (.row true 24 [(.sl z0 z0n 5)])) (.row true 9 [(.str z1)]))),0),((ln H4),0)]))] (pu H4 (.row true 103 [(.sl none 0 2)])) fun r7 H8=> rd H8 (ln H4) 0 fun v9=> dL 2 v9 fun x10 n11=> Q (.tup [(.s (.sl x10 n11 2)),(.s (.int .i64 0))]) H8)):=by kernel_rfl
theorem tH_:ay_ Tryz.prog 89 (fe_):=aq_.sound (cx:=fe_.cx) rfl (ac_.cons ((tt_).d Tryz.func111) (ac_.cons ((u7_ (cN_ [(113,dc_)]) (hm_ (ac_.cons ((rk_).d Tryz.func113) (ac_.nil _)))).d Tryz.func112) (ac_.nil _))) (ap_ _) Tryz.func89 rfl
def hs_.cx:Cx:=⟨tys,[],[],[],[(89,fe_)],aI_,[.tmp 2,.tmp 3]⟩
def hs_:Sm:=fun xs H Q=>∃ k,ai_ (hs_.cx) Tryz.f67 k xs H Q
theorem w7_ (k:Nat) (z0:Pl) (z0n:Nat) (H:Hp) (Q:Post):ai_ (hs_.cx) Tryz.f67 (k+1) [.agg [.sl z0 z0n 5]] H Q=( cl fe_ [(.agg [(.sl z0 z0n 5)]),(.g (.str (mkS []))),(.g (.str (mkS [])))] H fun r0 H1=> rT r0 fun c2=> uR c2 fun q3 c4=> rS q3 fun v5=> dL 2 v5 fun x6 n7=> uR c4 fun q8 c9=> rS q8 fun v10=> dI .i64 v10 fun i11=> uE c9 (Q (.tup [(.s (.sl x6 n7 2)),(.s (.int .i64 i11))]) H1)):=by kernel_rfl
theorem wC_:ay_ Tryz.prog 67 (hs_):=aq_.sound (cx:=hs_.cx) rfl (ac_.cons ((tH_).d Tryz.func89) (ac_.nil _)) (ap_ _) Tryz.func67 rfl
def hv_.cx:Cx:=⟨tys,[],[],[],[],aI_,[.tmp 6]⟩
def hv_:Sm:=fun xs H Q=>∃ k,ai_ (hv_.cx) Tryz.f114 k xs H Q
theorem zN_ (k:Nat) (z0:ByteArray) (z1:Int) (z2:Int) (H:Hp) (Q:Post):ai_ (hv_.cx) Tryz.f114 (k+1) [.g (.str z0),.g (.int .u8 z1),.g (.int .i64 z2)] H Q=( af_ (leI z2 (sz z0)) (chk ((leI 0 0)&&(ltI 0 (sz z0))) (Q (.g (.bool (eqI (byt z0 (tN 0)) z1))) H)) (Q (.g (.bool false)) H)):=by kernel_rfl
theorem pA_:ay_ Tryz.prog 114 (hv_):=aq_.sound (cx:=hv_.cx) rfl (ac_.nil _) (ap_ _) Tryz.func114 rfl
def cB_.cx:Cx:=⟨tys,[],[(2,[0,1,8,9])],[],[],aI_,[.tmp 4]⟩
def cB_:Sm:=fun xs H Q=>∃ k,ai_ (cB_.cx) Tryz.f63 k xs H Q
def cB_.l2 (k:Nat) (sx0:ByteArray) (ix1:Int) (ix2:Int) (ix3:Int) (H:Hp) (Q:Post):Prop:=a7_ (cB_.cx) Tryz.f63 2 k ((.g (.str sx0))::(.g (.int .i64 ix1))::B 6 ((.g (.int .i64 ix2))::(.g (.int .i64 ix3))::B 28 ([]))) H Q
theorem w0_ (k:Nat) (z0:ByteArray) (z1:Int) (H:Hp) (Q:Post):ai_ (cB_.cx) Tryz.f63 (k+1) [.g (.str z0),.g (.int .i64 z1)] H Q=( cB_.l2 k z0 z1 (sz z0) 0 H Q):=by kernel_rfl
theorem cB_.l2_eq (k:Nat) (sx0:ByteArray) (ix1:Int) (ix2:Int) (ix3:Int) (H:Hp) (Q:Post):cB_.l2 (k+1) sx0 ix1 ix2 ix3 H Q=( af_ (ltI ix3 ix2) (chk ((leI 0 ix3)&&(ltI ix3 (sz sx0))) (af_ (ltI (byt sx0 (tN ix3)) 97) (af_ (ltI (byt sx0 (tN ix3)) 48) (Q (.g (.bool false)) H) (af_ (ltI 57 (byt sx0 (tN ix3))) (Q (.g (.bool false)) H) (cB_.l2 k sx0 ix1 ix2 (ad_ .i64 (ix3+1)) H Q))) (af_ (ltI 122 (byt sx0 (tN ix3))) (af_ (ltI (byt sx0 (tN ix3)) 48) (Q (.g (.bool false)) H) (af_ (ltI 57 (byt sx0 (tN ix3))) (Q (.g (.bool false)) H) (cB_.l2 k sx0 ix1 ix2 (ad_ .i64 (ix3+1)) H Q))) (cB_.l2 k sx0 ix1 ix2 (ad_ .i64 (ix3+1)) H Q)))) (af_ (!(co_ sx0 (mkS []))) (Q (.g (.bool (leI (sz sx0) ix1))) H) (Q (.g (.bool false)) H))):=by kernel_rfl
theorem qD_:ay_ Tryz.prog 63 (cB_):=aq_.sound (cx:=cB_.cx) rfl (ac_.nil _) (ap_ _) Tryz.func63 rfl
def c0_.cx:Cx:=⟨tys,[],[],[],[(63,cB_)],aI_,[.tmp 2]⟩
def c0_:Sm:=fun xs H Q=>∃ k,ai_ (c0_.cx) Tryz.f41 k xs H Q
theorem tT_ (k:Nat) (z0:ByteArray) (H:Hp) (Q:Post):ai_ (c0_.cx) Tryz.f41 (k+1) [.g (.str z0)] H Q=( cl cB_ [(.g (.str z0)),(.g (.int .i64 4))] H fun r0 H1=> rG r0 fun v2=> dB v2 fun b3=> Q (.g (.bool b3)) H1):=by kernel_rfl
theorem gZ_:ay_ Tryz.prog 41 (c0_):=aq_.sound (cx:=c0_.cx) rfl (ac_.cons ((qD_).d Tryz.func63) (ac_.nil _)) (ap_ _) Tryz.func41 rfl
def hd_.cx:Cx:=⟨tys,[],[],[],[(114,hv_),(41,c0_)],aI_,[.tmp 2,.tmp 3]⟩
def hd_:Sm:=fun xs H Q=>∃ k,ai_ (hd_.cx) Tryz.f90 k xs H Q
theorem wL_ (k:Nat) (z0:ByteArray) (H:Hp) (Q:Post):ai_ (hd_.cx) Tryz.f90 (k+1) [.g (.str z0)] H Q=( cl hv_ [(.g (.str z0)),(.g (.int .u8 115)),(.g (.int .i64 1))] H fun r0 H1=> rG r0 fun v2=> dB v2 fun b3=> af_ (!b3) (Q (.tup [(.s (.str (mkS []))),(.s (.bool false))]) H1) (chk ((leN (tN 1) (szN z0))&&(leN (szN z0) (szN z0))) (cl c0_ [(.g (.str (sub z0 (tN 1) (szN z0))))] H1 fun r4 H5=> rG r4 fun v6=> dB v6 fun b7=> af_ (!b7) (Q (.tup [(.s (.str (mkS []))),(.s (.bool false))]) H5) (chk ((leN (tN 1) (szN z0))&&(leN (szN z0) (szN z0))) (Q (.tup [(.s (.str (sub z0 (tN 1) (szN z0)))),(.s (.bool true))]) H5))))):=by kernel_rfl
theorem v5_:ay_ Tryz.prog 90 (hd_):=aq_.sound (cx:=hd_.cx) rfl (ac_.cons ((pA_).d Tryz.func114) (ac_.cons ((gZ_).d Tryz.func41) (ac_.nil _))) (ap_ _) Tryz.func90 rfl
def gu_.cx:Cx:=⟨tys,[],[],[],[],aI_,[.tmp 2]⟩
def gu_:Sm:=fun xs H Q=>∃ k,ai_ (gu_.cx) Tryz.f116 k xs H Q
theorem zH_ (k:Nat) (z0:Int) (H:Hp) (Q:Post):ai_ (gu_.cx) Tryz.f116 (k+1) [.g (.int .i64 z0)] H Q=( af_ (leI 1 z0) (Q (.g (.bool (leI z0 255))) H) (Q (.g (.bool false)) H)):=by kernel_rfl
theorem lQ_:ay_ Tryz.prog 116 (gu_):=aq_.sound (cx:=gu_.cx) rfl (ac_.nil _) (ap_ _) Tryz.func116 rfl
def e2_.cx:Cx:=⟨tys,[],[],[],[],aI_,[.tmp 2]⟩
def e2_:Sm:=fun xs H Q=>∃ k,ai_ (e2_.cx) Tryz.f98 k xs H Q
theorem vr_ (k:Nat) (z0:Int) (H:Hp) (Q:Post):ai_ (e2_.cx) Tryz.f98 (k+1) [.g (.int .i64 z0)] H Q=( af_ (leI 0 z0) (Q (.g (.bool (leI z0 2))) H) (Q (.g (.bool false)) H)):=by kernel_rfl
theorem oA_:ay_ Tryz.prog 98 (e2_):=aq_.sound (cx:=e2_.cx) rfl (ac_.nil _) (ap_ _) Tryz.func98 rfl
def dZ_.cx:Cx:=⟨tys,[],[],[],[],aI_,[.tmp 2]⟩
def dZ_:Sm:=fun xs H Q=>∃ k,ai_ (dZ_.cx) Tryz.f99 k xs H Q
theorem tW_ (k:Nat) (z0:ByteArray) (H:Hp) (Q:Post):ai_ (dZ_.cx) Tryz.f99 (k+1) [.g (.str z0)] H Q=( Q (.g (.bool (leI (sz z0) 3))) H):=by kernel_rfl
theorem mz_:ay_ Tryz.prog 99 (dZ_):=aq_.sound (cx:=dZ_.cx) rfl (ac_.nil _) (ap_ _) Tryz.func99 rfl
def hq_.cx:Cx:=⟨tys,[],[],[],[(116,gu_),(98,e2_),(41,c0_),(99,dZ_)],aI_,[.tmp 2]⟩
def hq_:Sm:=fun xs H Q=>∃ k,ai_ (hq_.cx) Tryz.f115 k xs H Q
theorem wf_ (k:Nat) (z0:Int) (z1:Int) (z2:ByteArray) (z3:ByteArray) (H:Hp) (Q:Post):ai_ (hq_.cx) Tryz.f115 (k+1) [.agg [.int .i64 z0,.int .i64 z1,.str z2,.str z3]] H Q=( cl gu_ [(.g (.int .i64 z0))] H fun r0 H1=> rG r0 fun v2=> dB v2 fun b3=> af_ b3 (cl e2_ [(.g (.int .i64 z1))] H1 fun r4 H5=> rG r4 fun v6=> dB v6 fun b7=> af_ b7 (af_ (co_ z2 (mkS [])) (cl dZ_ [(.g (.str z3))] H5 fun r8 H9=> rG r8 fun v10=> dB v10 fun b11=> Q (.g (.bool b11)) H9) (cl c0_ [(.g (.str z2))] H5 fun r12 H13=> rG r12 fun v14=> dB v14 fun b15=> af_ b15 (cl dZ_ [(.g (.str z3))] H13 fun r16 H17=> rG r16 fun v18=> dB v18 fun b19=> Q (.g (.bool b19)) H17) (Q (.g (.bool false)) H13))) (Q (.g (.bool false)) H5)) (Q (.g (.bool false)) H1)):=by kernel_rfl
theorem xh_:ay_ Tryz.prog 115 (hq_):=aq_.sound (cx:=hq_.cx) rfl (ac_.cons ((lQ_).d Tryz.func116) (ac_.cons ((oA_).d Tryz.func98) (ac_.cons ((gZ_).d Tryz.func41) (ac_.cons ((mz_).d Tryz.func99) (ac_.nil _))))) (ap_ _) Tryz.func115 rfl
def hn_.cx:Cx:=⟨tys,[],[],[],[(115,hq_)],aI_,[.cell 2 84,.tmp 3]⟩
def hn_:Sm:=fun xs H Q=>∃ k,ai_ (hn_.cx) Tryz.f91 k xs H Q
theorem wR_ (k:Nat) (z0:ByteArray) (H:Hp) (Q:Post):ai_ (hn_.cx) Tryz.f91 (k+1) [.g (.str z0)] H Q=( af_ (ltI (sz z0) 3) (Q (.tup [(.a [(.int .i64 0),(.int .i64 0),(.str (mkS [])),(.str (mkS []))]),(.s (.int .i64 1700))]) H) (chk ((leI 0 2)&&(ltI 2 (sz z0))) (af_ (ltI (ad_ .i64 ((sz z0) - 3)) (ad_ .i64 (byt z0 (tN 2)))) (Q (.tup [(.a [(.int .i64 0),(.int .i64 0),(.str (mkS [])),(.str (mkS []))]),(.s (.int .i64 1700))]) H) (chk ((leI 0 2)&&(ltI 2 (sz z0))) (chk ((leI 0 0)&&(ltI 0 (sz z0))) (chk ((leI 0 1)&&(ltI 1 (sz z0))) (chk (leI 0 (ad_ .i64 (3+(ad_ .i64 (byt z0 (tN 2)))))) (chk ((leN (tN 3) (tN (ad_ .i64 (3+(ad_ .i64 (byt z0 (tN 2)))))))&&(leN (tN (ad_ .i64 (3+(ad_ .i64 (byt z0 (tN 2)))))) (szN z0))) (chk (leI 0 (ad_ .i64 (3+(ad_ .i64 (byt z0 (tN 2)))))) (chk ((leN (tN (ad_ .i64 (3+(ad_ .i64 (byt z0 (tN 2)))))) (szN z0))&&(leN (szN z0) (szN z0))) (cl hq_ [(.agg [(.int .i64 (ad_ .i64 (byt z0 (tN 0)))),(.int .i64 (ad_ .i64 (byt z0 (tN 1)))),(.str (sub z0 (tN 3) (tN (ad_ .i64 (3+(ad_ .i64 (byt z0 (tN 2)))))))),(.str (sub z0 (tN (ad_ .i64 (3+(ad_ .i64 (byt z0 (tN 2)))))) (szN z0)))])] H fun r0 H1=> rG r0 fun v2=> dB v2 fun b3=> af_ (!b3) (Q (.tup [(.a [(.int .i64 0),(.int .i64 0),(.str (mkS [])),(.str (mkS []))]),(.s (.int .i64 1700))]) H1) (Q (.tup [(.a [(.int .i64 (ad_ .i64 (byt z0 (tN 0)))),(.int .i64 (ad_ .i64 (byt z0 (tN 1)))),(.str (sub z0 (tN 3) (tN (ad_ .i64 (3+(ad_ .i64 (byt z0 (tN 2)))))))),(.str (sub z0 (tN (ad_ .i64 (3+(ad_ .i64 (byt z0 (tN 2)))))) (szN z0)))]),(.s (.int .i64 0))]) H1)))))))))))):=by kernel_rfl
theorem wr_:ay_ Tryz.prog 91 (hn_):=aq_.sound (cx:=hn_.cx) rfl (ac_.cons ((xh_).d Tryz.func115) (ac_.nil _)) (ap_ _) Tryz.func91 rfl
def eu_.cx:Cx:=⟨tys,[],[],[],[(63,cB_)],aI_,[.tmp 2]⟩
def eu_:Sm:=fun xs H Q=>∃ k,ai_ (eu_.cx) Tryz.f117 k xs H Q
theorem ue_ (k:Nat) (z0:ByteArray) (H:Hp) (Q:Post):ai_ (eu_.cx) Tryz.f117 (k+1) [.g (.str z0)] H Q=( cl cB_ [(.g (.str z0)),(.g (.int .i64 3))] H fun r0 H1=> rG r0 fun v2=> dB v2 fun b3=> Q (.g (.bool b3)) H1):=by kernel_rfl
theorem mm_:ay_ Tryz.prog 117 (eu_):=aq_.sound (cx:=eu_.cx) rfl (ac_.cons ((qD_).d Tryz.func63) (ac_.nil _)) (ap_ _) Tryz.func117 rfl
def hf_.cx:Cx:=⟨tys,[],[],[],[(114,hv_),(116,gu_),(117,eu_)],aI_,[.tmp 2,.tmp 3,.tmp 4]⟩
def hf_:Sm:=fun xs H Q=>∃ k,ai_ (hf_.cx) Tryz.f92 k xs H Q
theorem wl_ (k:Nat) (z0:ByteArray) (H:Hp) (Q:Post):ai_ (hf_.cx) Tryz.f92 (k+1) [.g (.str z0)] H Q=( cl hv_ [(.g (.str z0)),(.g (.int .u8 102)),(.g (.int .i64 2))] H fun r0 H1=> rG r0 fun v2=> dB v2 fun b3=> af_ (!b3) (Q (.tup [(.s (.int .i64 0)),(.s (.str (mkS []))),(.s (.bool false))]) H1) (chk ((leI 0 1)&&(ltI 1 (sz z0))) (cl gu_ [(.g (.int .i64 (ad_ .i64 (byt z0 (tN 1)))))] H1 fun r4 H5=> rG r4 fun v6=> dB v6 fun b7=> af_ (!b7) (Q (.tup [(.s (.int .i64 0)),(.s (.str (mkS []))),(.s (.bool false))]) H5) (chk ((leN (tN 2) (szN z0))&&(leN (szN z0) (szN z0))) (cl eu_ [(.g (.str (sub z0 (tN 2) (szN z0))))] H5 fun r8 H9=> rG r8 fun v10=> dB v10 fun b11=> af_ (!b11) (Q (.tup [(.s (.int .i64 0)),(.s (.str (mkS []))),(.s (.bool false))]) H9) (chk ((leI 0 1)&&(ltI 1 (sz z0))) (chk ((leN (tN 2) (szN z0))&&(leN (szN z0) (szN z0))) (Q (.tup [(.s (.int .i64 (ad_ .i64 (byt z0 (tN 1))))),(.s (.str (sub z0 (tN 2) (szN z0)))),(.s (.bool true))]) H9)))))))):=by kernel_rfl
theorem wo_:ay_ Tryz.prog 92 (hf_):=aq_.sound (cx:=hf_.cx) rfl (ac_.cons ((pA_).d Tryz.func114) (ac_.cons ((lQ_).d Tryz.func116) (ac_.cons ((mm_).d Tryz.func117) (ac_.nil _)))) (ap_ _) Tryz.func92 rfl
def fs_.cx:Cx:=⟨tys,[],[],[],[(114,hv_),(116,gu_)],aI_,[.tmp 2,.tmp 3]⟩
def fs_:Sm:=fun xs H Q=>∃ k,ai_ (fs_.cx) Tryz.f93 k xs H Q
theorem t8_ (k:Nat) (z0:ByteArray) (H:Hp) (Q:Post):ai_ (fs_.cx) Tryz.f93 (k+1) [.g (.str z0)] H Q=( cl hv_ [(.g (.str z0)),(.g (.int .u8 105)),(.g (.int .i64 2))] H fun r0 H1=> rG r0 fun v2=> dB v2 fun b3=> af_ (!b3) (Q (.tup [(.s (.int .i64 0)),(.s (.bool false))]) H1) (af_ (!(eqI (sz z0) 2)) (Q (.tup [(.s (.int .i64 0)),(.s (.bool false))]) H1) (chk ((leI 0 1)&&(ltI 1 (sz z0))) (cl gu_ [(.g (.int .i64 (ad_ .i64 (byt z0 (tN 1)))))] H1 fun r4 H5=> rG r4 fun v6=> dB v6 fun b7=> af_ (!b7) (Q (.tup [(.s (.int .i64 0)),(.s (.bool false))]) H5) (chk ((leI 0 1)&&(ltI 1 (sz z0))) (Q (.tup [(.s (.int .i64 (ad_ .i64 (byt z0 (tN 1))))),(.s (.bool true))]) H5)))))):=by kernel_rfl
theorem t7_:ay_ Tryz.prog 93 (fs_):=aq_.sound (cx:=fs_.cx) rfl (ac_.cons ((pA_).d Tryz.func114) (ac_.cons ((lQ_).d Tryz.func116) (ac_.nil _))) (ap_ _) Tryz.func93 rfl
def cU_.cx:Cx:=⟨tys,[],[],[],[],aI_,[.tmp 2]⟩
def cU_:Sm:=fun xs H Q=>∃ k,ai_ (cU_.cx) Tryz.f124 k xs H Q
theorem pS_ (k:Nat) (z0:ByteArray) (H:Hp) (Q:Post):ai_ (cU_.cx) Tryz.f124 (k+1) [.g (.str z0)] H Q=( Q (.g (.bool (leI (sz z0) 6))) H):=by kernel_rfl
theorem jn_:ay_ Tryz.prog 124 (cU_):=aq_.sound (cx:=cU_.cx) rfl (ac_.nil _) (ap_ _) Tryz.func124 rfl
def f5_.cx:Cx:=⟨tys,[],[],[],[(116,gu_),(124,cU_)],aI_,[.tmp 2]⟩
def f5_:Sm:=fun xs H Q=>∃ k,ai_ (f5_.cx) Tryz.f118 k xs H Q
theorem vg_ (k:Nat) (z0:Int) (z1:ByteArray) (H:Hp) (Q:Post):ai_ (f5_.cx) Tryz.f118 (k+1) [.agg [.int .i64 z0,.str z1]] H Q=( cl gu_ [(.g (.int .i64 z0))] H fun r0 H1=> rG r0 fun v2=> dB v2 fun b3=> af_ b3 (cl cU_ [(.g (.str z1))] H1 fun r4 H5=> rG r4 fun v6=> dB v6 fun b7=> Q (.g (.bool b7)) H5) (Q (.g (.bool false)) H1)):=by kernel_rfl
theorem vN_:ay_ Tryz.prog 118 (f5_):=aq_.sound (cx:=f5_.cx) rfl (ac_.cons ((lQ_).d Tryz.func116) (ac_.cons ((jn_).d Tryz.func124) (ac_.nil _))) (ap_ _) Tryz.func118 rfl
def gb_.cx:Cx:=⟨tys,[],[],[],[(118,f5_)],aI_,[.cell 2 80,.tmp 3]⟩
def gb_:Sm:=fun xs H Q=>∃ k,ai_ (gb_.cx) Tryz.f94 k xs H Q
theorem vG_ (k:Nat) (z0:ByteArray) (H:Hp) (Q:Post):ai_ (gb_.cx) Tryz.f94 (k+1) [.g (.str z0)] H Q=( af_ (co_ z0 (mkS [])) (Q (.tup [(.a [(.int .i64 0),(.str (mkS []))]),(.s (.int .i64 1800))]) H) (chk ((leI 0 0)&&(ltI 0 (sz z0))) (chk ((leN (tN 1) (szN z0))&&(leN (szN z0) (szN z0))) (cl f5_ [(.agg [(.int .i64 (ad_ .i64 (byt z0 (tN 0)))),(.str (sub z0 (tN 1) (szN z0)))])] H fun r0 H1=> rG r0 fun v2=> dB v2 fun b3=> af_ (!b3) (Q (.tup [(.a [(.int .i64 0),(.str (mkS []))]),(.s (.int .i64 1800))]) H1) (Q (.tup [(.a [(.int .i64 (ad_ .i64 (byt z0 (tN 0)))),(.str (sub z0 (tN 1) (szN z0)))]),(.s (.int .i64 0))]) H1))))):=by kernel_rfl
theorem u2_:ay_ Tryz.prog 94 (gb_):=aq_.sound (cx:=gb_.cx) rfl (ac_.cons ((vN_).d Tryz.func118) (ac_.nil _)) (ap_ _) Tryz.func94 rfl
def cx_.cx:Cx:=⟨tys,[],[],[],[(90,hd_),(91,hn_),(92,hf_),(93,fs_),(94,gb_)],aI_,[.tmp 4]⟩
def cx_:Sm:=fun xs H Q=>∃ k,ai_ (cx_.cx) Tryz.f68 k xs H Q
theorem k2_ (k:Nat) (z0:Pl) (z1:ByteArray) (z2:ByteArray) (H:Hp) (Q:Post):ai_ (cx_.cx) Tryz.f68 (k+1) [.g (.ptr z0),.agg [.str z1,.str z2]] H Q=( cl hd_ [(.g (.str z1))] H fun r0 H1=> rT r0 fun c2=> uR c2 fun q3 c4=> rS q3 fun v5=> dS v5 fun s6=> uR c4 fun q7 c8=> rS q7 fun v9=> dB v9 fun b10=> uE c8 (af_ b10 (cl hn_ [(.g (.str z2))] H1 fun r11 H12=> rT r11 fun c13=> uR c13 fun q14 c15=> rC q14 fun c16=> uC c16 fun v17 c18=> dI .i64 v17 fun i19=> uC c18 fun v20 c21=> dI .i64 v20 fun i22=> uC c21 fun v23 c24=> dS v23 fun s25=> uC c24 fun v26 c27=> dS v26 fun s28=> uN c27 (uR c15 fun q29 c30=> rS q29 fun v31=> dI .i64 v31 fun i32=> uE c30 (pS z0 fun n33 n34=> rd H12 n33 (n34+1) fun v35=> dM v35 fun a36=> sf_ H12 a36 false [.str] (.s (.str s6)) (.a [(.int .i64 i19),(.int .i64 i22),(.str s25),(.str s28)]) fun H37=> Q (.g (.bool (eqI i32 0))) H37))) (cl hf_ [(.g (.str z1))] H1 fun r38 H39=> rT r38 fun c40=> uR c40 fun q41 c42=> rS q41 fun v43=> dI .i64 v43 fun i44=> uR c42 fun q45 c46=> rS q45 fun v47=> dS v47 fun s48=> uR c46 fun q49 c50=> rS q49 fun v51=> dB v51 fun b52=> uE c50 (af_ b52 (af_ (!(eqI (sz z2) 2)) (Q (.g (.bool false)) H39) (chk ((leI 0 1)&&(ltI 1 (sz z2))) (af_ (ltI 1 (byt z2 (tN 1))) (Q (.g (.bool false)) H39) (pS z0 fun n53 n54=> rd H39 n53 (n54+2) fun v55=> dM v55 fun a56=> chk ((leI 0 0)&&(ltI 0 (sz z2))) (chk ((leI 0 1)&&(ltI 1 (sz z2))) (sf_ H39 a56 true [(.int .i64),.str] (.a [(.int .i64 i44),(.str s48)]) (.a [(.int .i64 (ad_ .i64 (byt z2 (tN 0)))),(.bool (eqI (byt z2 (tN 1)) 1))]) fun H57=> Q (.g (.bool true)) H57)))))) (cl fs_ [(.g (.str z1))] H39 fun r58 H59=> rT r58 fun c60=> uR c60 fun q61 c62=> rS q61 fun v63=> dI .i64 v63 fun i64=> uR c62 fun q65 c66=> rS q65 fun v67=> dB v67 fun b68=> uE c66 (cl gb_ [(.g (.str z2))] H59 fun r69 H70=> rT r69 fun c71=> uR c71 fun q72 c73=> rC q72 fun c74=> uC c74 fun v75 c76=> dI .i64 v75 fun i77=> uC c76 fun v78 c79=> dS v78 fun s80=> uN c79 (uR c73 fun q81 c82=> rS q81 fun v83=> dI .i64 v83 fun i84=> uE c82 (pS z0 fun n85 n86=> rd H70 n85 (n86+3) fun v87=> dM v87 fun a88=> sf_ H70 a88 false [(.int .i64)] (.s (.int .i64 i64)) (.a [(.int .i64 i77),(.str s80)]) fun H89=> af_ b68 (Q (.g (.bool (eqI i84 0))) H89) (Q (.g (.bool false)) H89))))))))):=by kernel_rfl
theorem kP_:ay_ Tryz.prog 68 (cx_):=aq_.sound (cx:=cx_.cx) rfl (ac_.cons ((v5_).d Tryz.func90) (ac_.cons ((wr_).d Tryz.func91) (ac_.cons ((wo_).d Tryz.func92) (ac_.cons ((t7_).d Tryz.func93) (ac_.cons ((u2_).d Tryz.func94) (ac_.nil _)))))) (ap_ _) Tryz.func68 rfl
def aD_.cx:Cx:=⟨tys,[],[(3,[0,3,13]),(7,[0,3,27]),(1000016,[99]),(1000030,[100])],[],[],aI_,[.tmp 2]⟩
def aD_:Sm:=fun xs H Q=>∃ k,ai_ (aD_.cx) Tryz.f69 k xs H Q
def aD_.l3 (k:Nat) (xx0:Pl) (ax1:Option Nat) (nx2:Nat) (nx3:Nat) (H:Hp) (Q:Post):Prop:=a7_ (aD_.cx) Tryz.f69 3 k ((.g (.ptr xx0)):: .bad:: .bad::(.g (.map ax1))::B 9 ((.g (.ptr (some (nx2,nx3))))::B 33 ([]))) H Q
def aD_.l7 (k:Nat) (xx0:Pl) (ax1:Option Nat) (nx2:Nat) (nx3:Nat) (H:Hp) (Q:Post):Prop:=a7_ (aD_.cx) Tryz.f69 7 k ((.g (.ptr xx0)):: .bad:: .bad::(.g (.map ax1))::B 23 ((.g (.ptr (some (nx2,nx3))))::B 19 ([]))) H Q
theorem jQ_ (k:Nat) (z0:Pl) (H:Hp) (Q:Post):ai_ (aD_.cx) Tryz.f69 (k+1) [.g (.ptr z0)] H Q=( pS z0 fun n0 n1=> rd (pu H (.map [] 0)) n0 (n1+2) fun v2=> dM v2 fun a3=> rng (pu H (.map [] 0)) a3 fun H4=> aD_.l3 k z0 (some (ln H)) (ln (pu H (.map [] 0))) 0 H4 Q):=by kernel_rfl
theorem aD_.l3_eq (k:Nat) (xx0:Pl) (ax1:Option Nat) (nx2:Nat) (nx3:Nat) (H:Hp) (Q:Post):aD_.l3 (k+1) xx0 ax1 nx2 nx3 H Q=( nxt H nx2 nx3 (fun q0 q1 H2=> vi_ H2 nx2 nx3 fun q3 q4=> rC q3 fun c5=> uC c5 fun v6 c7=> dI .i64 v6 fun i8=> uC c7 fun v9 c10=> dS v9 fun s11=> uN c10 (rC q4 fun c12=> uC c12 fun v13 c14=> dI .i64 v13 fun i15=> uC c14 fun v16 c17=> dB v16 fun b18=> uN c17 (nB_ H2 ax1 false [(.int .i64)] (.s (.int .i64 i15)) (.s (.int .i64 0)) fun q19 b20=> rS q19 fun v21=> dI .i64 v21 fun i22=> sf_ H2 ax1 false [(.int .i64)] (.s (.int .i64 i15)) (.s (.int .i64 (ad_ .i64 (i22+1)))) fun H23=> aD_.l3 k xx0 ax1 nx2 nx3 H23 Q))) (fun H24=> pS xx0 fun n25 n26=> rd H24 n25 (n26+3) fun v27=> dM v27 fun a28=> rng H24 a28 fun H29=> aD_.l7 k xx0 ax1 (ln H24) 0 H29 Q)):=by kernel_rfl
theorem aD_.l7_eq (k:Nat) (xx0:Pl) (ax1:Option Nat) (nx2:Nat) (nx3:Nat) (H:Hp) (Q:Post):aD_.l7 (k+1) xx0 ax1 nx2 nx3 H Q=( nxt H nx2 nx3 (fun q0 q1 H2=> vi_ H2 nx2 nx3 fun q3 q4=> rS q3 fun v5=> dI .i64 v5 fun i6=> rC q4 fun c7=> uC c7 fun v8 c9=> dI .i64 v8 fun i10=> uC c9 fun v11 c12=> dS v11 fun s13=> uN c12 (nB_ H2 ax1 false [(.int .i64)] (.s (.int .i64 i6)) (.s (.int .i64 0)) fun q14 b15=> rS q14 fun v16=> dI .i64 v16 fun i17=> af_ (!(eqI i17 i10)) (Q (.g (.bool false)) H2) (aD_.l7 k xx0 ax1 nx2 nx3 H2 Q))) (fun H18=> pW_ H18 ax1 fun n19=> pS xx0 fun n20 n21=> rd H18 n20 (n21+3) fun v22=> dM v22 fun a23=> pW_ H18 a23 fun n24=> Q (.g (.bool (eqI (nI n19) (nI n24)))) H18)):=by kernel_rfl
theorem jN_:ay_ Tryz.prog 69 (aD_):=aq_.sound (cx:=aD_.cx) rfl (ac_.nil _) (ap_ _) Tryz.func69 rfl
def bd_.cx:Cx:=⟨tys,[],[(3,[0,3,11]),(1000014,[98])],[],[],aI_,[.tmp 2]⟩
def bd_:Sm:=fun xs H Q=>∃ k,ai_ (bd_.cx) Tryz.f70 k xs H Q
def bd_.l3 (k:Nat) (xx0:Pl) (ax1:Option Nat) (nx2:Nat) (nx3:Nat) (H:Hp) (Q:Post):Prop:=a7_ (bd_.cx) Tryz.f70 3 k ((.g (.ptr xx0)):: .bad:: .bad::(.g (.map ax1))::B 7 ((.g (.ptr (some (nx2,nx3))))::B 15 ([]))) H Q
theorem kt_ (k:Nat) (z0:Pl) (H:Hp) (Q:Post):ai_ (bd_.cx) Tryz.f70 (k+1) [.g (.ptr z0)] H Q=( pS z0 fun n0 n1=> rd (pu H (.map [] 0)) n0 (n1+1) fun v2=> dM v2 fun a3=> rng (pu H (.map [] 0)) a3 fun H4=> bd_.l3 k z0 (some (ln H)) (ln (pu H (.map [] 0))) 0 H4 Q):=by kernel_rfl
theorem bd_.l3_eq (k:Nat) (xx0:Pl) (ax1:Option Nat) (nx2:Nat) (nx3:Nat) (H:Hp) (Q:Post):bd_.l3 (k+1) xx0 ax1 nx2 nx3 H Q=( nxt H nx2 nx3 (fun q0 q1 H2=> vi_ H2 nx2 nx3 fun q3 q4=> rS q3 fun v5=> dS v5 fun s6=> rC q4 fun c7=> uC c7 fun v8 c9=> dI .i64 v8 fun i10=> uC c9 fun v11 c12=> dI .i64 v11 fun i13=> uC c12 fun v14 c15=> dS v14 fun s16=> uC c15 fun v17 c18=> dS v17 fun s19=> uN c18 (sf_ H2 ax1 false [(.int .i64)] (.s (.int .i64 i10)) (.s (.bool true)) fun H20=> bd_.l3 k xx0 ax1 nx2 nx3 H20 Q)) (fun H21=> pW_ H21 ax1 fun n22=> pS xx0 fun n23 n24=> rd H21 n23 (n24+1) fun v25=> dM v25 fun a26=> pW_ H21 a26 fun n27=> Q (.g (.bool (eqI (nI n22) (nI n27)))) H21)):=by kernel_rfl
theorem kn_:ay_ Tryz.prog 70 (bd_):=aq_.sound (cx:=bd_.cx) rfl (ac_.nil _) (ap_ _) Tryz.func70 rfl
def aO_.cx (E:Nat→Sm):Cx:=⟨tys,[1],[],[],[],E,[.tmp 2]⟩
def aO_ (E:Nat→Sm):Sm:=fun xs H Q=>∃ k,ai_ (aO_.cx E) Tryz.f96 k xs H Q
theorem eo_ (E:Nat→Sm) (k:Nat) (z0:Option Nat) (H:Hp) (Q:Post):ai_ (aO_.cx E) Tryz.f96 (k+1) [.g (.map z0)] H Q=( Q (.g (.fn 121 [((ln H),0)])) (pu H (.row true 98 [(.map z0)]))):=by kernel_rfl
theorem ec_ (E:Nat→Sm) (hE:∀ f,bG_ Tryz.prog f (E f)):ay_ Tryz.prog 96 (aO_ E):=aq_.sound (cx:=aO_.cx E) rfl (ac_.nil _) hE Tryz.func96 rfl
def ao_.cx (E:Nat→Sm):Cx:=⟨tys,[],[(3,[0,1,2,8,9,10])],[],[],E,[.tmp 6,.tmp 7]⟩
def ao_ (E:Nat→Sm):Sm:=fun xs H Q=>∃ k,ai_ (ao_.cx E) Tryz.f135 k xs H Q
def ao_.l3 (E:Nat→Sm) (k:Nat) (xx0:Pl) (nx1:Nat) (sx2:ByteArray) (nx3:Nat) (cx4:List (Nat × Nat)) (ix5:Int) (ix6:Int) (ix7:Int) (H:Hp) (Q:Post):Prop:=a7_ (ao_.cx E) Tryz.f135 3 k ((.g (.sl xx0 nx1 3))::(.g (.str sx2))::(.g (.fn nx3 cx4))::B 5 ((.g (.int .i64 ix5))::(.g (.int .i64 ix6))::(.g (.int .i64 ix7))::B 38 ([]))) H Q
theorem dH_ (E:Nat→Sm) (k:Nat) (z0:Pl) (z0n:Nat) (z1:ByteArray) (z2:Nat) (z2c:List (Nat × Nat)) (H:Hp) (Q:Post):ai_ (ao_.cx E) Tryz.f135 (k+1) [.g (.sl z0 z0n 3),.g (.str z1),.g (.fn z2 z2c)] H Q=( ao_.l3 E k z0 z0n z1 z2 z2c (nI z0n) 0 (nI z0n) H Q):=by kernel_rfl
theorem ao_.l3_eq (E:Nat→Sm) (k:Nat) (xx0:Pl) (nx1:Nat) (sx2:ByteArray) (nx3:Nat) (cx4:List (Nat × Nat)) (ix5:Int) (ix6:Int) (ix7:Int) (H:Hp) (Q:Post):ao_.l3 E (k+1) xx0 nx1 sx2 nx3 cx4 ix5 ix6 ix7 H Q=( af_ (ltI ix6 ix7) (chk true (chk ((leI 0 (ad_ .i64 (i4_ .u64 (ad_ .u64 (ad_ .i64 (ix6+ix7))) 1)))&&(ltI (ad_ .i64 (i4_ .u64 (ad_ .u64 (ad_ .i64 (ix6+ix7))) 1)) (nI nx1))) (pS xx0 fun n0 n1=> rd H n0 (n1+((tN (ad_ .i64 (i4_ .u64 (ad_ .u64 (ad_ .i64 (ix6+ix7))) 1)))*3)) fun v2=> dS v2 fun s3=> rd H n0 ((n1+((tN (ad_ .i64 (i4_ .u64 (ad_ .u64 (ad_ .i64 (ix6+ix7))) 1)))*3))+1) fun v4=> dS v4 fun s5=> rd H n0 (((n1+((tN (ad_ .i64 (i4_ .u64 (ad_ .u64 (ad_ .i64 (ix6+ix7))) 1)))*3))+1)+1) fun v6=> dB v6 fun b7=> cl (E nx3) (cpl [(.agg [(.str s3),(.str s5),(.bool b7)]),(.g (.str sx2))] cx4) H fun r8 H9=> rG r8 fun v10=> dI .i64 v10 fun i11=> af_ (ltI i11 0) (ao_.l3 E k xx0 nx1 sx2 nx3 cx4 ix5 (ad_ .i64 ((ad_ .i64 (i4_ .u64 (ad_ .u64 (ad_ .i64 (ix6+ix7))) 1))+1)) ix7 H9 Q) (ao_.l3 E k xx0 nx1 sx2 nx3 cx4 ix5 ix6 (ad_ .i64 (i4_ .u64 (ad_ .u64 (ad_ .i64 (ix6+ix7))) 1)) H9 Q)))) (af_ (ltI ix6 ix5) (chk true (chk ((leI 0 ix6)&&(ltI ix6 (nI nx1))) (pS xx0 fun n12 n13=> rd H n12 (n13+((tN ix6)*3)) fun v14=> dS v14 fun s15=> rd H n12 ((n13+((tN ix6)*3))+1) fun v16=> dS v16 fun s17=> rd H n12 (((n13+((tN ix6)*3))+1)+1) fun v18=> dB v18 fun b19=> cl (E nx3) (cpl [(.agg [(.str s15),(.str s17),(.bool b19)]),(.g (.str sx2))] cx4) H fun r20 H21=> rG r20 fun v22=> dI .i64 v22 fun i23=> Q (.tup [(.s (.int .i64 ix6)),(.s (.bool (eqI i23 0)))]) H21))) (Q (.tup [(.s (.int .i64 ix6)),(.s (.bool false))]) H))):=by kernel_rfl
theorem dz_ (E:Nat→Sm) (hE:∀ f,bG_ Tryz.prog f (E f)):ay_ Tryz.prog 135 (ao_ E):=aq_.sound (cx:=ao_.cx E) rfl (ac_.nil _) hE Tryz.func135 rfl
def ck_.cx:Cx:=⟨tys,[],[],[],[(110,bytealg_abigenruntimecmpstring)],aI_,[.tmp 4]⟩
def ck_:Sm:=fun xs H Q=>∃ k,ai_ (ck_.cx) Tryz.f88 k xs H Q
theorem iN_ (k:Nat) (z0:ByteArray) (z1:ByteArray) (H:Hp) (Q:Post):ai_ (ck_.cx) Tryz.f88 (k+1) [.g (.str z0),.g (.str z1)] H Q=( cl bytealg_abigenruntimecmpstring [(.g (.str z0)),(.g (.str z1))] H fun r0 H1=> rG r0 fun v2=> dI .i64 v2 fun i3=> Q (.g (.int .i64 i3)) H1):=by kernel_rfl
theorem iO_:ay_ Tryz.prog 88 (ck_):=aq_.sound (cx:=ck_.cx) rfl (ac_.cons (d6_) (ac_.nil _)) (ap_ _) Tryz.func88 rfl
def cs_.cx:Cx:=⟨tys,[],[],[],[(88,ck_)],aI_,[.tmp 4]⟩
def cs_:Sm:=fun xs H Q=>∃ k,ai_ (cs_.cx) Tryz.f66 k xs H Q
theorem m0_ (k:Nat) (z0:ByteArray) (z1:ByteArray) (H:Hp) (Q:Post):ai_ (cs_.cx) Tryz.f66 (k+1) [.g (.str z0),.g (.str z1)] H Q=( cl ck_ [(.g (.str z0)),(.g (.str z1))] H fun r0 H1=> rG r0 fun v2=> dI .i64 v2 fun i3=> Q (.g (.int .i64 i3)) H1):=by kernel_rfl
theorem h1_:ay_ Tryz.prog 66 (cs_):=aq_.sound (cx:=cs_.cx) rfl (ac_.cons ((iO_).d Tryz.func88) (ac_.nil _)) (ap_ _) Tryz.func66 rfl
def cf_.cx:Cx:=⟨tys,[],[],[],[(66,cs_)],aI_,[.tmp 4]⟩
def cf_:Sm:=fun xs H Q=>∃ k,ai_ (cf_.cx) Tryz.f136 k xs H Q
theorem mT_ (k:Nat) (z0:ByteArray) (z1:ByteArray) (z2:Bool) (z3:ByteArray) (H:Hp) (Q:Post):ai_ (cf_.cx) Tryz.f136 (k+1) [.agg [.str z0,.str z1,.bool z2],.g (.str z3)] H Q=( cl cs_ [(.g (.str z0)),(.g (.str z3))] H fun r0 H1=> rG r0 fun v2=> dI .i64 v2 fun i3=> Q (.g (.int .i64 i3)) H1):=by kernel_rfl
theorem mQ_:ay_ Tryz.prog 136 (cf_):=aq_.sound (cx:=cf_.cx) rfl (ac_.cons ((h1_).d Tryz.func66) (ac_.nil _)) (ap_ _) Tryz.func136 rfl
def dN_.cx:Cx:=⟨tys,[],[],[],[(135,(ao_ (cN_ [(136,cf_)])))],aI_,[.tmp 4,.tmp 5]⟩
def dN_:Sm:=fun xs H Q=>∃ k,ai_ (dN_.cx) Tryz.f122 k xs H Q
theorem p0_ (k:Nat) (z0:Pl) (z0n:Nat) (z1:ByteArray) (H:Hp) (Q:Post):ai_ (dN_.cx) Tryz.f122 (k+1) [.g (.sl z0 z0n 3),.g (.str z1)] H Q=( cl (ao_ (cN_ [(136,cf_)])) [(.g (.sl z0 z0n 3)),(.g (.str z1)),(.g (.fn 136 []))] H fun r0 H1=> rT r0 fun c2=> uR c2 fun q3 c4=> rS q3 fun v5=> dI .i64 v5 fun i6=> uR c4 fun q7 c8=> rS q7 fun v9=> dB v9 fun b10=> uE c8 (Q (.tup [(.s (.int .i64 i6)),(.s (.bool b10))]) H1)):=by kernel_rfl
theorem pM_:ay_ Tryz.prog 122 (dN_):=aq_.sound (cx:=dN_.cx) rfl (ac_.cons ((dz_ (cN_ [(136,cf_)]) (hm_ (ac_.cons ((mQ_).d Tryz.func136) (ac_.nil _)))).d Tryz.func135) (ac_.nil _)) (ap_ _) Tryz.func122 rfl
def ba_.cx:Cx:=⟨tys,[],[(3,[0,1,5,14]),(1000017,[99]),(2000000,[5])],[],[(122,dN_),(123,slices_Insert__api_File_api_File)],aI_,[.tmp 4]⟩
def ba_:Sm:=fun xs H Q=>∃ k,ai_ (ba_.cx) Tryz.f97 k xs H Q
def ba_.l3 (k:Nat) (xx0:Pl) (ix1:Int) (ax2:Pl) (nx3:Nat) (nx4:Nat) (nx5:Nat) (H:Hp) (Q:Post):Prop:=a7_ (ba_.cx) Tryz.f97 3 k ((.g (.ptr xx0))::(.g (.int .i64 ix1))::B 3 ((.g (.sl ax2 nx3 3))::B 8 ((.g (.ptr (some (nx4,nx5))))::B 34 ([])))) H Q
theorem lA_ (k:Nat) (z0:Pl) (z1:Int) (H:Hp) (Q:Post):ai_ (ba_.cx) Tryz.f97 (k+1) [.g (.ptr z0),.g (.int .i64 z1)] H Q=( pS z0 fun n0 n1=> rd H n0 (n1+2) fun v2=> dM v2 fun a3=> rng H a3 fun H4=> ba_.l3 k z0 z1 none 0 (ln H) 0 H4 Q):=by kernel_rfl
theorem ba_.l3_eq (k:Nat) (xx0:Pl) (ix1:Int) (ax2:Pl) (nx3:Nat) (nx4:Nat) (nx5:Nat) (H:Hp) (Q:Post):ba_.l3 (k+1) xx0 ix1 ax2 nx3 nx4 nx5 H Q=( nxt H nx4 nx5 (fun q0 q1 H2=> vi_ H2 nx4 nx5 fun q3 q4=> rC q3 fun c5=> uC c5 fun v6 c7=> dI .i64 v6 fun i8=> uC c7 fun v9 c10=> dS v9 fun s11=> uN c10 (rC q4 fun c12=> uC c12 fun v13 c14=> dI .i64 v13 fun i15=> uC c14 fun v16 c17=> dB v16 fun b18=> uN c17 (af_ (eqI i8 ix1) (cl dN_ [(.g (.sl ax2 nx3 3)),(.g (.str s11))] H2 fun r19 H20=> rT r19 fun c21=> uR c21 fun q22 c23=> rS q22 fun v24=> dI .i64 v24 fun i25=> uR c23 fun q26 c27=> rS q26 fun v28=> dB v28 fun b29=> uE c27 (pS xx0 fun n30 n31=> rd H20 n30 (n31+3) fun v32=> dM v32 fun a33=> nB_ H20 a33 false [(.int .i64)] (.s (.int .i64 i15)) (.a [(.int .i64 0),(.str (mkS []))]) fun q34 b35=> rC q34 fun c36=> uC c36 fun v37 c38=> dI .i64 v37 fun i39=> uC c38 fun v40 c41=> dS v40 fun s42=> uN c41 (cl slices_Insert__api_File_api_File [(.g (.sl ax2 nx3 3)),(.g (.int .i64 i25)),(.g (.sl (some ((ln H20),0)) 1 3))] (pu H20 (.row false 1000003 [(.str s11),(.str s42),(.bool b18)])) fun r43 H44=> rG r43 fun v45=> dL 3 v45 fun x46 n47=> ba_.l3 k xx0 ix1 x46 n47 nx4 nx5 H44 Q))) (ba_.l3 k xx0 ix1 ax2 nx3 nx4 nx5 H2 Q)))) (fun H48=> Q (.g (.sl ax2 nx3 3)) H48)):=by kernel_rfl
theorem kF_:ay_ Tryz.prog 97 (ba_):=aq_.sound (cx:=ba_.cx) rfl (ac_.cons ((pM_).d Tryz.func122) (ac_.cons (dL_) (ac_.nil _))) (ap_ _) Tryz.func97 rfl
def bl_.cx (E:Nat→Sm):Cx:=⟨tys,[],[(3,[0,3,12,13,14]),(2000000,[3])],[],[(96,(aO_ E)),(95,slices_Sorted_string),(97,ba_)],E,[.tmp 2]⟩
def bl_ (E:Nat→Sm):Sm:=fun xs H Q=>∃ k,ai_ (bl_.cx E) Tryz.f71 k xs H Q
def bl_.l3 (E:Nat→Sm) (k:Nat) (xx0:Pl) (ax1:Pl) (nx2:Nat) (xx3:Pl) (nx4:Nat) (ix5:Int) (ix6:Int) (H:Hp) (Q:Post):Prop:=a7_ (bl_.cx E) Tryz.f71 3 k ((.g (.ptr xx0)):: .bad:: .bad::(.g (.sl ax1 nx2 5))::B 8 ((.g (.sl xx3 nx4 1))::(.g (.int .i64 ix5))::(.g (.int .i64 ix6))::B 26 ([]))) H Q
theorem k5_ (E:Nat→Sm) (k:Nat) (z0:Pl) (H:Hp) (Q:Post):ai_ (bl_.cx E) Tryz.f71 (k+1) [.g (.ptr z0)] H Q=( pS z0 fun n0 n1=> rd H n0 (n1+1) fun v2=> dM v2 fun a3=> cl (aO_ E) [(.g (.map a3))] H fun r4 H5=> rG r4 fun v6=> cl slices_Sorted_string [(.g v6)] H5 fun r7 H8=> rG r7 fun v9=> dL 1 v9 fun x10 n11=> bl_.l3 E k z0 none 0 x10 n11 (nI n11) 0 H8 Q):=by kernel_rfl
theorem bl_.l3_eq (E:Nat→Sm) (k:Nat) (xx0:Pl) (ax1:Pl) (nx2:Nat) (xx3:Pl) (nx4:Nat) (ix5:Int) (ix6:Int) (H:Hp) (Q:Post):bl_.l3 E (k+1) xx0 ax1 nx2 xx3 nx4 ix5 ix6 H Q=( af_ (ltI ix6 ix5) (chk true (chk ((leI 0 ix6)&&(ltI ix6 (nI nx4))) (pS xx3 fun n0 n1=> rd H n0 (n1+((tN ix6)*1)) fun v2=> dS v2 fun s3=> pS xx0 fun n4 n5=> rd H n4 (n5+1) fun v6=> dM v6 fun a7=> nB_ H a7 false [.str] (.s (.str s3)) (.a [(.int .i64 0),(.int .i64 0),(.str (mkS [])),(.str (mkS []))]) fun q8 b9=> rC q8 fun c10=> uC c10 fun v11 c12=> dI .i64 v11 fun i13=> uC c12 fun v14 c15=> dI .i64 v14 fun i16=> uC c15 fun v17 c18=> dS v17 fun s19=> uC c18 fun v20 c21=> dS v20 fun s22=> uN c21 (cl ba_ [(.g (.ptr xx0)),(.g (.int .i64 i13))] H fun r23 H24=> rG r23 fun v25=> dL 3 v25 fun x26 n27=> chk true (ap H24 49 5 80 ax1 nx2 [(.str s3),(.int .i64 i16),(.str s19),(.str s22),(.sl x26 n27 3)] 1 fun x28 n29 H30=> bl_.l3 E k xx0 x28 n29 xx3 nx4 ix5 (ad_ .i64 (ix6+1)) H30 Q))))) (Q (.g (.sl ax1 nx2 5)) H)):=by kernel_rfl
theorem ln_ (E:Nat→Sm) (hE:∀ f,bG_ Tryz.prog f (E f)):ay_ Tryz.prog 71 (bl_ E):=aq_.sound (cx:=bl_.cx E) rfl (ac_.cons ((ec_ E hE).d Tryz.func96) (ac_.cons (ge_) (ac_.cons ((kF_).d Tryz.func97) (ac_.nil _)))) hE Tryz.func71 rfl
def bv_.cx:Cx:=⟨tys,[],[(2,[0,1,7,8,9])],[],[(117,eu_),(124,cU_)],aI_,[.tmp 4]⟩
def bv_:Sm:=fun xs H Q=>∃ k,ai_ (bv_.cx) Tryz.f100 k xs H Q
def bv_.l2 (k:Nat) (xx0:Pl) (nx1:Nat) (bx2:Bool) (xx3:Pl) (nx4:Nat) (ix5:Int) (ix6:Int) (H:Hp) (Q:Post):Prop:=a7_ (bv_.cx) Tryz.f100 2 k ((.g (.sl xx0 nx1 3))::(.g (.bool bx2))::B 5 ((.g (.sl xx3 nx4 3))::(.g (.int .i64 ix5))::(.g (.int .i64 ix6))::B 40 ([]))) H Q
theorem q9_ (k:Nat) (z0:Pl) (z0n:Nat) (z1:Bool) (H:Hp) (Q:Post):ai_ (bv_.cx) Tryz.f100 (k+1) [.g (.sl z0 z0n 3),.g (.bool z1)] H Q=( bv_.l2 k z0 z0n z1 z0 z0n (nI z0n) 0 H Q):=by kernel_rfl
theorem bv_.l2_eq (k:Nat) (xx0:Pl) (nx1:Nat) (bx2:Bool) (xx3:Pl) (nx4:Nat) (ix5:Int) (ix6:Int) (H:Hp) (Q:Post):bv_.l2 (k+1) xx0 nx1 bx2 xx3 nx4 ix5 ix6 H Q=( af_ (ltI ix6 ix5) (chk true (chk ((leI 0 ix6)&&(ltI ix6 (nI nx4))) (pS xx3 fun n0 n1=> rd H n0 (n1+((tN ix6)*3)) fun v2=> dS v2 fun s3=> rd H n0 ((n1+((tN ix6)*3))+1) fun v4=> dS v4 fun s5=> rd H n0 (((n1+((tN ix6)*3))+1)+1) fun v6=> dB v6 fun b7=> cl eu_ [(.g (.str s3))] H fun r8 H9=> rG r8 fun v10=> dB v10 fun b11=> af_ (!b11) (Q (.g (.bool false)) H9) (cl cU_ [(.g (.str s5))] H9 fun r12 H13=> rG r12 fun v14=> dB v14 fun b15=> af_ (!b15) (Q (.g (.bool false)) H13) (af_ bx2 (af_ b7 (Q (.g (.bool false)) H13) (af_ (ltI 0 ix6) (chk true (chk ((leI 0 (ad_ .i64 (ix6 - 1)))&&(ltI (ad_ .i64 (ix6 - 1)) (nI nx1))) (pS xx0 fun n16 n17=> rd H13 n16 ((n17+((tN (ad_ .i64 (ix6 - 1)))*3))+0) fun v18=> dS v18 fun s19=> af_ (!(cS_ s19 s3)) (Q (.g (.bool false)) H13) (bv_.l2 k xx0 nx1 bx2 xx3 nx4 ix5 (ad_ .i64 (ix6+1)) H13 Q)))) (bv_.l2 k xx0 nx1 bx2 xx3 nx4 ix5 (ad_ .i64 (ix6+1)) H13 Q))) (af_ (ltI 0 ix6) (chk true (chk ((leI 0 (ad_ .i64 (ix6 - 1)))&&(ltI (ad_ .i64 (ix6 - 1)) (nI nx1))) (pS xx0 fun n20 n21=> rd H13 n20 ((n21+((tN (ad_ .i64 (ix6 - 1)))*3))+0) fun v22=> dS v22 fun s23=> af_ (!(cS_ s23 s3)) (Q (.g (.bool false)) H13) (bv_.l2 k xx0 nx1 bx2 xx3 nx4 ix5 (ad_ .i64 (ix6+1)) H13 Q)))) (bv_.l2 k xx0 nx1 bx2 xx3 nx4 ix5 (ad_ .i64 (ix6+1)) H13 Q))))))) (Q (.g (.bool (leI (nI nx1) 4))) H)):=by kernel_rfl
theorem qR_:ay_ Tryz.prog 100 (bv_):=aq_.sound (cx:=bv_.cx) rfl (ac_.cons ((mm_).d Tryz.func117) (ac_.cons ((jn_).d Tryz.func124) (ac_.nil _))) (ap_ _) Tryz.func100 rfl
def an_.cx (E:Nat→Sm):Cx:=⟨tys,[],[(3,[0,1,2,8,9,10])],[],[],E,[.tmp 6,.tmp 7]⟩
def an_ (E:Nat→Sm):Sm:=fun xs H Q=>∃ k,ai_ (an_.cx E) Tryz.f64 k xs H Q
def an_.l3 (E:Nat→Sm) (k:Nat) (xx0:Pl) (nx1:Nat) (sx2:ByteArray) (nx3:Nat) (cx4:List (Nat × Nat)) (ix5:Int) (ix6:Int) (ix7:Int) (H:Hp) (Q:Post):Prop:=a7_ (an_.cx E) Tryz.f64 3 k ((.g (.sl xx0 nx1 5))::(.g (.str sx2))::(.g (.fn nx3 cx4))::B 5 ((.g (.int .i64 ix5))::(.g (.int .i64 ix6))::(.g (.int .i64 ix7))::B 38 ([]))) H Q
theorem dC_ (E:Nat→Sm) (k:Nat) (z0:Pl) (z0n:Nat) (z1:ByteArray) (z2:Nat) (z2c:List (Nat × Nat)) (H:Hp) (Q:Post):ai_ (an_.cx E) Tryz.f64 (k+1) [.g (.sl z0 z0n 5),.g (.str z1),.g (.fn z2 z2c)] H Q=( an_.l3 E k z0 z0n z1 z2 z2c (nI z0n) 0 (nI z0n) H Q):=by kernel_rfl
theorem an_.l3_eq (E:Nat→Sm) (k:Nat) (xx0:Pl) (nx1:Nat) (sx2:ByteArray) (nx3:Nat) (cx4:List (Nat × Nat)) (ix5:Int) (ix6:Int) (ix7:Int) (H:Hp) (Q:Post):an_.l3 E (k+1) xx0 nx1 sx2 nx3 cx4 ix5 ix6 ix7 H Q=( af_ (ltI ix6 ix7) (chk true (chk ((leI 0 (ad_ .i64 (i4_ .u64 (ad_ .u64 (ad_ .i64 (ix6+ix7))) 1)))&&(ltI (ad_ .i64 (i4_ .u64 (ad_ .u64 (ad_ .i64 (ix6+ix7))) 1)) (nI nx1))) (pS xx0 fun n0 n1=> rd H n0 (n1+((tN (ad_ .i64 (i4_ .u64 (ad_ .u64 (ad_ .i64 (ix6+ix7))) 1)))*5)) fun v2=> dS v2 fun s3=> rd H n0 ((n1+((tN (ad_ .i64 (i4_ .u64 (ad_ .u64 (ad_ .i64 (ix6+ix7))) 1)))*5))+1) fun v4=> dI .i64 v4 fun i5=> rd H n0 (((n1+((tN (ad_ .i64 (i4_ .u64 (ad_ .u64 (ad_ .i64 (ix6+ix7))) 1)))*5))+1)+1) fun v6=> dS v6 fun s7=> rd H n0 ((((n1+((tN (ad_ .i64 (i4_ .u64 (ad_ .u64 (ad_ .i64 (ix6+ix7))) 1)))*5))+1)+1)+1) fun v8=> dS v8 fun s9=> rd H n0 (((((n1+((tN (ad_ .i64 (i4_ .u64 (ad_ .u64 (ad_ .i64 (ix6+ix7))) 1)))*5))+1)+1)+1)+1) fun v10=> dL 3 v10 fun x11 n12=> cl (E nx3) (cpl [(.agg [(.str s3),(.int .i64 i5),(.str s7),(.str s9),(.sl x11 n12 3)]),(.g (.str sx2))] cx4) H fun r13 H14=> rG r13 fun v15=> dI .i64 v15 fun i16=> af_ (ltI i16 0) (an_.l3 E k xx0 nx1 sx2 nx3 cx4 ix5 (ad_ .i64 ((ad_ .i64 (i4_ .u64 (ad_ .u64 (ad_ .i64 (ix6+ix7))) 1))+1)) ix7 H14 Q) (an_.l3 E k xx0 nx1 sx2 nx3 cx4 ix5 ix6 (ad_ .i64 (i4_ .u64 (ad_ .u64 (ad_ .i64 (ix6+ix7))) 1)) H14 Q)))) (af_ (ltI ix6 ix5) (chk true (chk ((leI 0 ix6)&&(ltI ix6 (nI nx1))) (pS xx0 fun n17 n18=> rd H n17 (n18+((tN ix6)*5)) fun v19=> dS v19 fun s20=> rd H n17 ((n18+((tN ix6)*5))+1) fun v21=> dI .i64 v21 fun i22=> rd H n17 (((n18+((tN ix6)*5))+1)+1) fun v23=> dS v23 fun s24=> rd H n17 ((((n18+((tN ix6)*5))+1)+1)+1) fun v25=> dS v25 fun s26=> rd H n17 (((((n18+((tN ix6)*5))+1)+1)+1)+1) fun v27=> dL 3 v27 fun x28 n29=> cl (E nx3) (cpl [(.agg [(.str s20),(.int .i64 i22),(.str s24),(.str s26),(.sl x28 n29 3)]),(.g (.str sx2))] cx4) H fun r30 H31=> rG r30 fun v32=> dI .i64 v32 fun i33=> Q (.tup [(.s (.int .i64 ix6)),(.s (.bool (eqI i33 0)))]) H31))) (Q (.tup [(.s (.int .i64 ix6)),(.s (.bool false))]) H))):=by kernel_rfl
theorem dI_ (E:Nat→Sm) (hE:∀ f,bG_ Tryz.prog f (E f)):ay_ Tryz.prog 64 (an_ E):=aq_.sound (cx:=an_.cx E) rfl (ac_.nil _) hE Tryz.func64 rfl
def de_.cx:Cx:=⟨tys,[],[],[],[(66,cs_)],aI_,[.tmp 4]⟩
def de_:Sm:=fun xs H Q=>∃ k,ai_ (de_.cx) Tryz.f65 k xs H Q
theorem sA_ (k:Nat) (z0:ByteArray) (z1:Int) (z2:ByteArray) (z3:ByteArray) (z4:Pl) (z4n:Nat) (z5:ByteArray) (H:Hp) (Q:Post):ai_ (de_.cx) Tryz.f65 (k+1) [.agg [.str z0,.int .i64 z1,.str z2,.str z3,.sl z4 z4n 3],.g (.str z5)] H Q=( cl cs_ [(.g (.str z0)),(.g (.str z5))] H fun r0 H1=> rG r0 fun v2=> dI .i64 v2 fun i3=> Q (.g (.int .i64 i3)) H1):=by kernel_rfl
theorem s7_:ay_ Tryz.prog 65 (de_):=aq_.sound (cx:=de_.cx) rfl (ac_.cons ((h1_).d Tryz.func66) (ac_.nil _)) (ap_ _) Tryz.func65 rfl
def e1_.cx:Cx:=⟨tys,[],[],[],[(64,(an_ (cN_ [(65,de_)])))],aI_,[.tmp 4,.tmp 5]⟩
def e1_:Sm:=fun xs H Q=>∃ k,ai_ (e1_.cx) Tryz.f42 k xs H Q
theorem vL_ (k:Nat) (z0:Pl) (z0n:Nat) (z1:ByteArray) (H:Hp) (Q:Post):ai_ (e1_.cx) Tryz.f42 (k+1) [.g (.sl z0 z0n 5),.g (.str z1)] H Q=( cl (an_ (cN_ [(65,de_)])) [(.g (.sl z0 z0n 5)),(.g (.str z1)),(.g (.fn 65 []))] H fun r0 H1=> rT r0 fun c2=> uR c2 fun q3 c4=> rS q3 fun v5=> dI .i64 v5 fun i6=> uR c4 fun q7 c8=> rS q7 fun v9=> dB v9 fun b10=> uE c8 (Q (.tup [(.s (.int .i64 i6)),(.s (.bool b10))]) H1)):=by kernel_rfl
theorem oL_:ay_ Tryz.prog 42 (e1_):=aq_.sound (cx:=e1_.cx) rfl (ac_.cons ((dI_ (cN_ [(65,de_)]) (hm_ (ac_.cons ((s7_).d Tryz.func65) (ac_.nil _)))).d Tryz.func64) (ac_.nil _)) (ap_ _) Tryz.func42 rfl
def bK_.cx:Cx:=⟨tys,[],[(2,[0,1,9,10])],[],[(42,e1_)],aI_,[.tmp 4]⟩
def bK_:Sm:=fun xs H Q=>∃ k,ai_ (bK_.cx) Tryz.f101 k xs H Q
def bK_.l2 (k:Nat) (xx0:Pl) (nx1:Nat) (ix2:Int) (ix3:Int) (ix4:Int) (H:Hp) (Q:Post):Prop:=a7_ (bK_.cx) Tryz.f101 2 k ((.g (.sl xx0 nx1 5))::(.g (.int .i64 ix2))::B 7 ((.g (.int .i64 ix3))::(.g (.int .i64 ix4))::B 26 ([]))) H Q
theorem ps_ (k:Nat) (z0:Pl) (z0n:Nat) (z1:Int) (H:Hp) (Q:Post):ai_ (bK_.cx) Tryz.f101 (k+1) [.g (.sl z0 z0n 5),.g (.int .i64 z1)] H Q=( bK_.l2 k z0 z0n z1 (nI z0n) 0 H Q):=by kernel_rfl
theorem bK_.l2_eq (k:Nat) (xx0:Pl) (nx1:Nat) (ix2:Int) (ix3:Int) (ix4:Int) (H:Hp) (Q:Post):bK_.l2 (k+1) xx0 nx1 ix2 ix3 ix4 H Q=( af_ (ltI ix4 ix3) (chk true (chk ((leI 0 ix2)&&(ltI ix2 (nI nx1))) (pS xx0 fun n0 n1=> rd H n0 ((n1+((tN ix2)*5))+2) fun v2=> dS v2 fun s3=> af_ (co_ s3 (mkS [])) (Q (.g (.bool true)) H) (cl e1_ [(.g (.sl xx0 nx1 5)),(.g (.str s3))] H fun r4 H5=> rT r4 fun c6=> uR c6 fun q7 c8=> rS q7 fun v9=> dI .i64 v9 fun i10=> uR c8 fun q11 c12=> rS q11 fun v13=> dB v13 fun b14=> uE c12 (af_ (!b14) (Q (.g (.bool false)) H5) (chk true (chk ((leI 0 i10)&&(ltI i10 (nI nx1))) (pS xx0 fun n15 n16=> rd H5 n15 ((n16+((tN i10)*5))+1) fun v17=> dI .i64 v17 fun i18=> af_ (!(eqI i18 2)) (Q (.g (.bool false)) H5) (bK_.l2 k xx0 nx1 i10 ix3 (ad_ .i64 (ix4+1)) H5 Q))))))))) (Q (.g (.bool false)) H)):=by kernel_rfl
theorem pG_:ay_ Tryz.prog 101 (bK_):=aq_.sound (cx:=bK_.cx) rfl (ac_.cons ((oL_).d Tryz.func42) (ac_.nil _)) (ap_ _) Tryz.func101 rfl
def br_.cx:Cx:=⟨tys,[],[(2,[0,6,7,8]),(8,[0,55,56])],[],[(41,c0_),(98,e2_),(99,dZ_),(100,bv_),(101,bK_)],aI_,[.tmp 2]⟩
def br_:Sm:=fun xs H Q=>∃ k,ai_ (br_.cx) Tryz.f72 k xs H Q
def br_.l2 (k:Nat) (xx0:Pl) (nx1:Nat) (xx2:Pl) (nx3:Nat) (ix4:Int) (ix5:Int) (H:Hp) (Q:Post):Prop:=a7_ (br_.cx) Tryz.f72 2 k ((.g (.sl xx0 nx1 5))::B 5 ((.g (.sl xx2 nx3 5))::(.g (.int .i64 ix4))::(.g (.int .i64 ix5))::B 58 ([]))) H Q
def br_.l8 (k:Nat) (xx0:Pl) (nx1:Nat) (ix2:Int) (ix3:Int) (H:Hp) (Q:Post):Prop:=a7_ (br_.cx) Tryz.f72 8 k ((.g (.sl xx0 nx1 5))::B 54 ((.g (.int .i64 ix2))::(.g (.int .i64 ix3))::B 10 ([]))) H Q
theorem ub_ (k:Nat) (z0:Pl) (z0n:Nat) (H:Hp) (Q:Post):ai_ (br_.cx) Tryz.f72 (k+1) [.g (.sl z0 z0n 5)] H Q=( br_.l2 k z0 z0n z0 z0n (nI z0n) 0 H Q):=by kernel_rfl
theorem br_.l2_eq (k:Nat) (xx0:Pl) (nx1:Nat) (xx2:Pl) (nx3:Nat) (ix4:Int) (ix5:Int) (H:Hp) (Q:Post):br_.l2 (k+1) xx0 nx1 xx2 nx3 ix4 ix5 H Q=( af_ (ltI ix5 ix4) (chk true (chk ((leI 0 ix5)&&(ltI ix5 (nI nx3))) (pS xx2 fun n0 n1=> rd H n0 (n1+((tN ix5)*5)) fun v2=> dS v2 fun s3=> rd H n0 ((n1+((tN ix5)*5))+1) fun v4=> dI .i64 v4 fun i5=> rd H n0 (((n1+((tN ix5)*5))+1)+1) fun v6=> dS v6 fun s7=> rd H n0 ((((n1+((tN ix5)*5))+1)+1)+1) fun v8=> dS v8 fun s9=> rd H n0 (((((n1+((tN ix5)*5))+1)+1)+1)+1) fun v10=> dL 3 v10 fun x11 n12=> cl c0_ [(.g (.str s3))] H fun r13 H14=> rG r13 fun v15=> dB v15 fun b16=> af_ (!b16) (Q (.g (.bool false)) H14) (cl e2_ [(.g (.int .i64 i5))] H14 fun r17 H18=> rG r17 fun v19=> dB v19 fun b20=> af_ (!b20) (Q (.g (.bool false)) H18) (cl dZ_ [(.g (.str s9))] H18 fun r21 H22=> rG r21 fun v23=> dB v23 fun b24=> af_ (!b24) (Q (.g (.bool false)) H22) (cl bv_ [(.g (.sl x11 n12 3)),(.g (.bool (eqI i5 1)))] H22 fun r25 H26=> rG r25 fun v27=> dB v27 fun b28=> af_ (!b28) (Q (.g (.bool false)) H26) (af_ (ltI 0 ix5) (chk true (chk ((leI 0 (ad_ .i64 (ix5 - 1)))&&(ltI (ad_ .i64 (ix5 - 1)) (nI nx1))) (pS xx0 fun n29 n30=> rd H26 n29 ((n30+((tN (ad_ .i64 (ix5 - 1)))*5))+0) fun v31=> dS v31 fun s32=> af_ (!(cS_ s32 s3)) (Q (.g (.bool false)) H26) (br_.l2 k xx0 nx1 xx2 nx3 ix4 (ad_ .i64 (ix5+1)) H26 Q)))) (br_.l2 k xx0 nx1 xx2 nx3 ix4 (ad_ .i64 (ix5+1)) H26 Q)))))))) (br_.l8 k xx0 nx1 (nI nx1) 0 H Q)):=by kernel_rfl
theorem br_.l8_eq (k:Nat) (xx0:Pl) (nx1:Nat) (ix2:Int) (ix3:Int) (H:Hp) (Q:Post):br_.l8 (k+1) xx0 nx1 ix2 ix3 H Q=( af_ (ltI ix3 ix2) (cl bK_ [(.g (.sl xx0 nx1 5)),(.g (.int .i64 ix3))] H fun r0 H1=> rG r0 fun v2=> dB v2 fun b3=> af_ (!b3) (Q (.g (.bool false)) H1) (br_.l8 k xx0 nx1 ix2 (ad_ .i64 (ix3+1)) H1 Q)) (Q (.g (.bool (leI (nI nx1) 6))) H)):=by kernel_rfl
theorem t9_:ay_ Tryz.prog 72 (br_):=aq_.sound (cx:=br_.cx) rfl (ac_.cons ((gZ_).d Tryz.func41) (ac_.cons ((oA_).d Tryz.func98) (ac_.cons ((mz_).d Tryz.func99) (ac_.cons ((qR_).d Tryz.func100) (ac_.cons ((pG_).d Tryz.func101) (ac_.nil _)))))) (ap_ _) Tryz.func72 rfl
def dy_.cx (E:Nat→Sm):Cx:=⟨tys,[19],[(4,[5,6,19,20,21,22])],[],[(67,hs_),(68,cx_),(69,aD_),(70,bd_),(71,(bl_ E)),(72,br_)],E,[.tmp 2,.tmp 3]⟩
def dy_ (E:Nat→Sm):Sm:=fun xs H Q=>∃ k,ai_ (dy_.cx E) Tryz.f44 k xs H Q
def dy_.l4 (E:Nat→Sm) (k:Nat) (ix0:Int) (nx1:Nat) (nx2:Nat) (nx3:Nat) (nx4:Nat) (xx5:Pl) (nx6:Nat) (ix7:Int) (ix8:Int) (H:Hp) (Q:Post):Prop:=a7_ (dy_.cx E) Tryz.f44 4 k (B 5 ((.g (.int .i64 ix0))::(.g (.ptr (some (nx1,nx2))))::B 12 ((.g (.ptr (some (nx3,nx4))))::(.g (.sl xx5 nx6 2))::(.g (.int .i64 ix7))::(.g (.int .i64 ix8))::B 31 ([])))) H Q
theorem xa_ (E:Nat→Sm) (k:Nat) (z0:Pl) (z0n:Nat) (H:Hp) (Q:Post):ai_ (dy_.cx E) Tryz.f44 (k+1) [.agg [.sl z0 z0n 5]] H Q=( cl hs_ [(.agg [(.sl z0 z0n 5)])] H fun r0 H1=> rT r0 fun c2=> uR c2 fun q3 c4=> rS q3 fun v5=> dL 2 v5 fun x6 n7=> uR c4 fun q8 c9=> rS q8 fun v10=> dI .i64 v10 fun i11=> uE c9 (dy_.l4 E k i11 (ln (pu (pu (pu H1 (.map [] 0)) (.map [] 0)) (.map [] 0))) 0 (ln (pu (pu (pu H1 (.map [] 0)) (.map [] 0)) (.map [] 0))) 0 x6 n7 (nI n7) 0 (pu (pu (pu (pu H1 (.map [] 0)) (.map [] 0)) (.map [] 0)) (.row true 102 [(.sl z0 z0n 5),(.map (some (ln H1))),(.map (some (ln (pu H1 (.map [] 0))))),(.map (some (ln (pu (pu H1 (.map [] 0)) (.map [] 0))))),(.sl none 0 5)])) Q)):=by kernel_rfl
theorem dy_.l4_eq (E:Nat→Sm) (k:Nat) (ix0:Int) (nx1:Nat) (nx2:Nat) (nx3:Nat) (nx4:Nat) (xx5:Pl) (nx6:Nat) (ix7:Int) (ix8:Int) (H:Hp) (Q:Post):dy_.l4 E (k+1) ix0 nx1 nx2 nx3 nx4 xx5 nx6 ix7 ix8 H Q=( af_ (ltI ix8 ix7) (chk true (chk ((leI 0 ix8)&&(ltI ix8 (nI nx6))) (pS xx5 fun n0 n1=> rd H n0 (n1+((tN ix8)*2)) fun v2=> dS v2 fun s3=> rd H n0 ((n1+((tN ix8)*2))+1) fun v4=> dS v4 fun s5=> cl cx_ [(.g (.ptr (some (nx1,nx2)))),(.agg [(.str s3),(.str s5)])] H fun r6 H7=> rG r6 fun v8=> dB v8 fun b9=> af_ (!b9) (Q (.tup [(.s (.ptr none)),(.s (.bool false))]) H7) (dy_.l4 E k ix0 nx1 nx2 nx3 nx4 xx5 nx6 ix7 (ad_ .i64 (ix8+1)) H7 Q)))) (af_ (!(eqI ix0 0)) (Q (.tup [(.s (.ptr none)),(.s (.bool false))]) H) (cl aD_ [(.g (.ptr (some (nx1,nx2))))] H fun r10 H11=> rG r10 fun v12=> dB v12 fun b13=> af_ (!b13) (Q (.tup [(.s (.ptr none)),(.s (.bool false))]) H11) (cl bd_ [(.g (.ptr (some (nx1,nx2))))] H11 fun r14 H15=> rG r14 fun v16=> dB v16 fun b17=> af_ (!b17) (Q (.tup [(.s (.ptr none)),(.s (.bool false))]) H15) (cl (bl_ E) [(.g (.ptr (some (nx1,nx2))))] H15 fun r18 H19=> rG r18 fun v20=> dL 5 v20 fun x21 n22=> wr H19 nx1 (nx2+4) (.sl x21 n22 5) fun H23=> rd H23 nx1 (nx2+4) fun v24=> dL 5 v24 fun x25 n26=> cl br_ [(.g (.sl x25 n26 5))] H23 fun r27 H28=> rG r27 fun v29=> dB v29 fun b30=> Q (.tup [(.s (.ptr (some (nx1,nx2)))),(.s (.bool b30))]) H28))))):=by kernel_rfl
theorem v7_ (E:Nat→Sm) (hE:∀ f,bG_ Tryz.prog f (E f)):ay_ Tryz.prog 44 (dy_ E):=aq_.sound (cx:=dy_.cx E) rfl (ac_.cons ((wC_).d Tryz.func67) (ac_.cons ((kP_).d Tryz.func68) (ac_.cons ((jN_).d Tryz.func69) (ac_.cons ((kn_).d Tryz.func70) (ac_.cons ((ln_ E hE).d Tryz.func71) (ac_.cons ((t9_).d Tryz.func72) (ac_.nil _))))))) hE Tryz.func44 rfl
end Go.Am
